import Derived.Test.YtofikbfljjjgeaaGreatDoorDT8
import Derived.Test.YtofikbfljjjgeaaGreatDoorE48
import Derived.Test.YtofikbfljjjgeaaGreatDoorDF2
import Derived.Test.YtofikbfljjjgeaaGreatDoorDX1
set_option linter.unusedVariables false
set_option linter.unusedSimpArgs false
section
/- The reference's index is written: one is laid between (the abstract machine). -/
namespace Go.Ab.Seat
open Go.Extern Go.Proofs
set_option maxRecDepth 4000
theorem putM_ins {r : Rc} : ∀ {M : List Rc} {k : Nat}, (∀ x ∈ M.take k, x.id < r.id) → (∀ x, M[k]? = some x → r.id < x.id) → k ≤ M.length → putM r M = M.take k ++ r :: M.drop k
 | [], 0, _, _, _ => rfl
 | [], k + 1, _, _, h => by cases h
 | y :: M, 0, _, h2, _ => by
  rw [putM, if_pos (h2 y rfl)]
  rfl
 | y :: M, k + 1, h1, h2, h3 => by
  have := h1 y (List.mem_cons_self ..)
  rw [putM, if_neg (by omega), if_neg (by omega), putM_ins (k := k) (fun x hx => h1 x (List.mem_cons_of_mem _ hx)) (fun x hx => h2 x (by simpa using hx)) (by simpa using h3)]
  rfl
theorem flatO_atom {l : List On} (h : ∀ x ∈ l, ∃ a n k, x.vec = .slice a n k) : ∀ v ∈ flatO l, atom v = true := by
 intro v hv
 unfold flatO at hv
 obtain ⟨x, hx, hv⟩ := List.mem_flatMap.1 hv
 obtain ⟨a, n, k, e⟩ := h x hx
 unfold On.cells at hv
 rw [e] at hv
 simp only [List.mem_cons, List.not_mem_nil, or_false] at hv
 rcases hv with rfl | rfl | rfl | rfl | rfl | rfl | rfl | rfl <;> rfl
theorem flatO_sub {l : List On} {k : Nat} (hk : k ≤ l.length) : subN 0 (k * 8) (flatO l) = some (flatO (l.take k)) ∧ subN (0 + k * 8) ((l.length - k) * 8) (flatO l) = some (flatO (l.drop k)) := by
 have h9 := subN_all (flatO l) (l.length * 8) (flatO_len l).symm
 conv at h9 => rhs; rw [show flatO l = flatO (l.take k) ++ flatO (l.drop k) by rw [← flatO_app, List.take_append_drop]]
 rw [show l.length * 8 = k * 8 + (l.length - k) * 8 by omega] at h9
 exact subN_app h9 (by rw [flatO_len, List.length_take]; omega)
def onv (id : Int) (w : Value) : Value := .agg ⟨[.int .i64 id, w, .int .i64 0, .slice none 0 0, .slice none 0 0, .slice none 0 0, .slice none 0 0, .slice none 0 0]⟩
def ELy (p c : Nat) (ag : Value) (z : Int) (j24 : Value) : L :=
 .cons 0 (.pointer (some ⟨p, 0, none⟩)) (.cons 1 ag (.cons 3 (.pointer (some ⟨c, 0, none⟩)) (.cons 4 (.int .i64 z) (.cons 24 j24 .nil))))
set_option maxHeartbeats 8000000 in
theorem rinsert_spec {h : T AObj} {c : Nat} {rl wl : List Nat} (hf : Fresh h c) {p dim : Nat} {K : RK} {mt dm : Int} {M : List Rc} {U U0 : Nat → Prop} (q : RefX h p K mt dm dim M U0) (hU : ∀ b, U0 b → U b) (hml : M.length ≤ 900) {id : Int} {aw : Option Addr} {kw : Nat} {zs : List Int} (hz : zs.length = dim) (hbz : Bnd zs) (hown : Own h 0 (.slice aw dim kw) dim (zs.map (Value.int .i32))) (hsep : ∀ b, blkOf (.slice aw dim kw) = some b → U b ∧ ¬U0 b) (hnid : ∀ r ∈ M, r.id ≠ id) :
  ∃ r s', FnTo (Cs smQ) eg 103 [.pointer (some ⟨p, 0, none⟩), onv id (.slice aw dim kw)] ⟨h, c, rl, wl⟩ r s' ∧ RefX s'.h p K mt dm dim (putM ⟨id, zs.map (Value.int .i32), .empty, 0, false⟩ M) (fun b => U b ∨ c ≤ b ∧ b < s'.c) ∧ Ext ⟨h, c, rl, wl⟩ s' U0 (fun b => b = p) := by
 obtain ⟨⟨lv, l, h1, h2, h3, h4, h5⟩, h6, h7, h8⟩ := _root_.id q
 have hpc := h1.lt hf
 have hll : l.length = M.length := by rw [← h5, List.length_map]
 have hvs : ∀ x ∈ l, ∃ a n k, x.vec = .slice a n k := fun x hx => by obtain ⟨a, k, e⟩ := (h4 x hx).1.val; exact ⟨_, _, _, e⟩
 obtain ⟨la, rfl⟩ := h2.val
 have hlb : ∀ b, blkOf (.slice la l.length l.length) = some b → b < c := fun b q => by
  rcases h2 with ⟨e, _⟩ | ⟨bl, e, _, hbl⟩
  ·rw [e] at q; cases q
  ·rw [e] at q; cases q; exact hbl.lt hf
 have hcells : (On.mk id (.slice aw dim kw) (zs.map (Value.int .i32))).cells = [.int .i64 id, .slice aw dim kw, .int .i64 0, .slice none 0 0, .slice none 0 0, .slice none 0 0, .slice none 0 0, .slice none 0 0] := rfl
 refine Fn.go (stdQ 103 rfl) ex103 fn103 km103 rfl rfl ?_
 refine Zev ?_
 unfold onv
 have h1' := h1
 unfold refC at h1'
 refine Zgo ?_
 refine Wx.cutO (fun e s => ∃ (k : Nat) (z : Int) (rl' : List Nat) (j24 : Value), e = ELy p c (.agg ⟨[.int .i64 id, .slice aw dim kw, .int .i64 0, .slice none 0 0, .slice none 0 0, .slice none 0 0, .slice none 0 0, .slice none 0 0]⟩) z j24 ∧ z = k ∧ s = ⟨h.set c (some (.cells [.int .i64 id, .slice aw dim kw, .int .i64 0, .slice none 0 0, .slice none 0 0, .slice none 0 0, .slice none 0 0, .slice none 0 0])), c + 1, rl', []⟩ ∧ Lg c U0 rl' ∧ k ≤ l.length ∧ (∀ x ∈ M.take k, x.id < id) ∧ ∀ x, M[k]? = some x → id < x.id) Zrs ?_ ?_
 ·refine Wx.loopE (fun k1 e s => ∃ (i : Nat) (z : Int) (rl' : List Nat) (j24 : Value), e = ELy p c (.agg ⟨[.int .i64 id, .slice aw dim kw, .int .i64 0, .slice none 0 0, .slice none 0 0, .slice none 0 0, .slice none 0 0, .slice none 0 0]⟩) z j24 ∧ z = i ∧ s = ⟨h.set c (some (.cells [.int .i64 id, .slice aw dim kw, .int .i64 0, .slice none 0 0, .slice none 0 0, .slice none 0 0, .slice none 0 0, .slice none 0 0])), c + 1, rl', []⟩ ∧ Lg c U0 rl' ∧ i ≤ l.length ∧ (∀ x ∈ M.take i, x.id < id) ∧ k1 = l.length - i) l.length (ELy p c (.agg ⟨[.int .i64 id, .slice aw dim kw, .int .i64 0, .slice none 0 0, .slice none 0 0, .slice none 0 0, .slice none 0 0, .slice none 0 0]⟩) 0 top) Zrs ?_ ?_ ?_
  ·unfold ELy
   exact Zek
  ·exact ⟨0, 0, _, _, rfl, rfl, rfl, Zlg, by omega, (fun x hx => by cases hx), rfl⟩
  ·rintro k1 e s ⟨i, z, rl', j24, rfl, hz0, rfl, hlr, hin, hlt, rfl⟩
   unfold ELy
   have hp1 : Has (h.set c (some (.cells [.int .i64 id, .slice aw dim kw, .int .i64 0, .slice none 0 0, .slice none 0 0, .slice none 0 0, .slice none 0 0, .slice none 0 0]))) p (.cells [.int .i64 K.kd, .int .i64 mt, .int .i64 dm, .slice la l.length l.length, K.mv, K.bl, K.bs]) := h1'.other (by omega)
   by_cases hi : i < l.length
   rotate_left
   ·refine Zgo ?_
    exact CutQ.go (ELy p c (.agg ⟨[.int .i64 id, .slice aw dim kw, .int .i64 0, .slice none 0 0, .slice none 0 0, .slice none 0 0, .slice none 0 0, .slice none 0 0]⟩) z _) (by unfold ELy; exact Zek) ⟨i, z, _, _, rfl, hz0, rfl, Zlg, hin, hlt, fun x hx => by rw [List.getElem?_eq_none (by omega)] at hx; cases hx⟩
   rcases h2 with ⟨_, rfl⟩ | ⟨bl, e, _, hbl⟩
   ·cases hi
   obtain rfl : la = some ⟨bl, 0, some 8⟩ := by simp only [Value.slice.injEq] at e; exact e.1
   have lbl := hbl.lt hf
   have rb := (h3 bl rfl).1
   have hxi : l[i]? = some l[i] := List.getElem?_eq_getElem hi
   have hMi : M[i]? = some l[i].rc := by rw [← h5, List.getElem?_map, hxi]; rfl
   obtain ⟨g0, g1⟩ := on_nth (sub_on hxi)
   generalize l[i] = y at *
   by_cases hc : y.id < id
   ·refine Zgo ?_
    refine Zq (to_indexAddr (k := i) el105 rfl rfl hz0 (by omega)) ?_
    refine Zgo ?_
    refine Zd (to_load (pl_ rfl) rfl (hbl.cel.other (by omega)) (by omega) g0) ?_
    refine Zgo ?_
    refine RoundE.go (l.length - (i + 1)) (ELy p c _ (z + 1) _) (by omega) (by unfold ELy; exact Zek) ⟨i + 1, z + 1, _, _, rfl, by omega, rfl, Zlg, by omega, fun x hx => ?_, rfl⟩
    rw [take_snoc hMi] at hx
    rcases List.mem_append.1 hx with hx | hx
    ·exact hlt x hx
    ·obtain rfl := List.mem_singleton.1 hx
     exact hc
   ·refine Zgo ?_
    refine Zq (to_indexAddr (k := i) el105 rfl rfl hz0 (by omega)) ?_
    refine Zgo ?_
    refine Zd (to_load (pl_ rfl) rfl (hbl.cel.other (by omega)) (by omega) g0) ?_
    refine Zgo ?_
    refine CutQ.go (ELy p c (.agg ⟨[.int .i64 id, .slice aw dim kw, .int .i64 0, .slice none 0 0, .slice none 0 0, .slice none 0 0, .slice none 0 0, .slice none 0 0]⟩) z _) (by unfold ELy; exact Zek) ⟨i, z, _, _, rfl, hz0, rfl, Zlg, hin, hlt, fun x hx => ?_⟩
    rw [hMi] at hx
    cases hx
    have := hnid y.rc (List.mem_of_getElem? hMi)
    have e1 : y.rc.id = y.id := rfl
    omega
 ·rintro kk ss ⟨k, z, rl', j24, rfl, hz0, rfl, hlr, hkl, hlt, hgt⟩
  unfold ELy
  have hp1 : Has (h.set c (some (.cells [.int .i64 id, .slice aw dim kw, .int .i64 0, .slice none 0 0, .slice none 0 0, .slice none 0 0, .slice none 0 0, .slice none 0 0]))) p (.cells [.int .i64 K.kd, .int .i64 mt, .int .i64 dm, .slice la l.length l.length, K.mv, K.bl, K.bs]) := h1'.other (by omega)
  have hput : putM ⟨id, zs.map (Value.int .i32), .empty, 0, false⟩ M = (l.take k ++ (On.mk id (.slice aw dim kw) (zs.map (Value.int .i32))) :: l.drop k).map On.rc := by
   rw [putM_ins (k := k) hlt hgt (by omega), List.map_append, List.map_cons, List.map_take, List.map_drop, h5]; rfl
  have done_ : ∀ (h9 : T AObj) (c9 b9 cp : Nat), c ≤ b9 → b9 < c9 → Kp h h9 c (fun b => b = p) → cp = l.length + 1 → Has h9 b9 (.cells (flatO (l.take k ++ (On.mk id (.slice aw dim kw) (zs.map (Value.int .i32))) :: l.drop k))) → Has h9 p (.cells (refC K mt dm (.slice (some ⟨b9, 0, some 8⟩) cp cp))) → RefX h9 p K mt dm dim (putM ⟨id, zs.map (Value.int .i32), .empty, 0, false⟩ M) (fun b => U b ∨ c ≤ b ∧ b < c9) := by
   intro h9 c9 b9 cp hb1 hb2 K hcp hB hP
   subst hcp
   have hlen : (l.take k ++ (On.mk id (.slice aw dim kw) (zs.map (Value.int .i32))) :: l.drop k).length = l.length + 1 := by rw [List.length_append, List.length_cons, List.length_take, List.length_drop]; omega
   refine ⟨⟨_, l.take k ++ (On.mk id (.slice aw dim kw) (zs.map (Value.int .i32))) :: l.drop k, hP, .inr ⟨b9, by rw [hlen], by simp, hB⟩, fun b hb => ?_, fun x hx => ?_, hput.symm⟩, .inl (hU _ h6), h7.put _, fun r hr => ?_⟩
   ·simp only [blkOf, Option.some.injEq] at hb
    exact ⟨.inr ⟨by omega, by omega⟩, by omega⟩
   ·have hx' : x = (On.mk id (.slice aw dim kw) (zs.map (Value.int .i32))) ∨ x ∈ l := by
     rcases List.mem_append.1 hx with hx | hx
     ·exact .inr (List.mem_of_mem_take hx)
     ·rcases List.mem_cons.1 hx with hx | hx
      ·exact .inl hx
      ·exact .inr (List.mem_of_mem_drop hx)
    rcases hx' with rfl | hx'
    ·have e8 : (zs.map (Value.int .i32)).length = dim := by rw [List.length_map]; exact hz
     dsimp only
     rw [e8]
     refine ⟨hown.keep fun b hb => ?_, fun b hb => ?_⟩
     ·have hbc := (hown.blk hb).2.lt hf
      exact K b (by omega) fun e => (hsep b hb).2 (by rw [e]; exact h6)
     ·have hbc := (hown.blk hb).2.lt hf
      exact ⟨.inl (hsep b hb).1, fun e => (hsep b hb).2 (by rw [e]; exact h6), fun e => by simp only [blkOf, Option.some.injEq] at e; omega⟩
    ·obtain ⟨o1, o2⟩ := h4 x hx'
     refine ⟨o1.keep fun b hb => ?_, fun b hb => ?_⟩
     ·have hbc := (o1.blk hb).2.lt hf
      exact K b (by omega) (o2 b hb).2.1
     ·have hbc := (o1.blk hb).2.lt hf
      exact ⟨.inl (hU _ (o2 b hb).1), (o2 b hb).2.1, fun e => by simp only [blkOf, Option.some.injEq] at e; omega⟩
   ·rcases mem_putM hr with rfl | hr
    ·exact ⟨zs, rfl, hz, hbz⟩
    ·exact h8 r hr
  have hbg : big = 1048576 := rfl
  rcases h2 with ⟨e, rfl⟩ | ⟨bl, e, hlne, hbl⟩
  ·obtain rfl : la = none := by simp only [Value.slice.injEq] at e; exact e.1
   obtain rfl : k = 0 := by simpa using hkl
   refine Zgo ?_
   refine Zq (to_sliceHi (k := 0) el105 rfl rfl hz0 (by omega) (fun a ha => by cases ha)) ?_
   refine Zq (to_appZero ro105 sl105 rfl rfl (by omega)) ?_
   refine Zgo ?_
   refine Zd (to_appNil ro105 sl105 rfl rfl (k := 0) Has.same.cel (by omega) (subN_all _ _ rfl) (by decide) Zfr) ?_
   refine Zgo ?_
   refine Zq (to_sliceLoNil el105 rfl rfl hz0) ?_
   refine Zq (to_appZero ro105 sl105 rfl rfl (by omega)) ?_
   refine Zgo ?_
   refine ⟨.inl rfl, Wres.nil ⟨done_ _ _ (c + 2) _ (by omega) (by dsimp only; omega) (by dsimp only; exact Zkp) rfl (Has.other (by omega) (by rw [List.take_nil, List.drop_nil, List.nil_append]; unfold flatO; simp only [List.flatMap_cons, List.flatMap_nil, List.append_nil, hcells]; exact Has.same)) Has.same, ?_⟩⟩
   exact Zex
  ·obtain rfl : la = some ⟨bl, 0, some 8⟩ := by simp only [Value.slice.injEq] at e; exact e.1
   have lbl := hbl.lt hf
   have rb := (h3 bl rfl).1
   have hbp := (h3 bl rfl).2
   obtain ⟨hsub0, hsub1⟩ := flatO_sub hkl
   have hat1 : ∀ v ∈ flatO (l.drop k), atom v = true := flatO_atom fun x hx => hvs x (List.mem_of_mem_drop hx)
   have hfl : flatO (l.take k ++ (On.mk id (.slice aw dim kw) (zs.map (Value.int .i32))) :: l.drop k) = flatO (l.take k) ++ ([.int .i64 id, .slice aw dim kw, .int .i64 0, .slice none 0 0, .slice none 0 0, .slice none 0 0, .slice none 0 0, .slice none 0 0] ++ flatO (l.drop k)) := by
    rw [flatO_app, ← hcells]; rfl
   have hl0 : (flatO (l.take k)).length = k * 8 := by rw [flatO_len, List.length_take]; omega
   have hat8 : ∀ v ∈ ([.int .i64 id, .slice aw dim kw, .int .i64 0, .slice none 0 0, .slice none 0 0, .slice none 0 0, .slice none 0 0, .slice none 0 0] : List Value), atom v = true := all_cons rfl (all_cons rfl (all_cons rfl (all_cons rfl (all_cons rfl (all_cons rfl (all_cons rfl (all_cons rfl all_nil)))))))
   rcases k with _ | k
   ·obtain ⟨m, hm⟩ : ∃ m, l.length = m + 1 := ⟨l.length - 1, by
     cases l with
     | nil => exact absurd rfl hlne
     | cons y ys => rfl⟩
    rw [hm] at hsub1
    simp only [Nat.sub_zero] at hsub1
    refine Zgo ?_
    refine Zq (to_sliceHi (k := 0) el105 rfl rfl hz0 (by omega) (fun a ha => by cases ha; exact .inr rfl)) ?_
    refine Zq (to_appZero ro105 sl105 rfl rfl (by omega)) ?_
    refine Zgo ?_
    refine Zd (to_appNil ro105 sl105 rfl rfl (k := 0) Has.same.cel (by omega) (subN_all _ _ rfl) (by decide) Zfr) ?_
    refine Zgo ?_
    refine Zq (to_sliceOwn (k := 0) el105 rfl rfl hz0 (by omega) (by omega)) ?_
    rw [Nat.sub_zero, hm]
    refine Zd (to_appG ro105 sl105 rfl rfl (Cel.other (by omega) (Cel.other (by omega) (Cel.other (by omega) hbl.cel))) (by omega) hsub1 (by omega) (by unfold big; omega) Zhs (by omega) (by rfl) hat1 Zfr) ?_
    refine Zgo ?_
    refine ⟨.inl rfl, Wres.nil ⟨done_ _ _ (c + 3) _ (by omega) (by dsimp only; omega) (by dsimp only; exact Zkp) (by omega) (Has.other (by omega) (by rw [hfl]; exact Has.same)) Has.same, ?_⟩⟩
    exact Zex
   ·obtain ⟨m, hm⟩ : ∃ m, l.length = k + 1 + m := ⟨l.length - (k + 1), by omega⟩
    rcases m with _ | m
    ·refine Zgo ?_
     refine Zq (to_sliceHi (k := k + 1) el105 rfl rfl hz0 (by omega) (fun a ha => by cases ha; exact .inr rfl)) ?_
     refine Zd (to_appNil ro105 sl105 rfl rfl (hbl.cel.other (by omega)) (by omega) hsub0 (by unfold big; omega) Zfr) ?_
     refine Zgo ?_
     refine Zd (to_appG ro105 sl105 rfl rfl (k := 0) Has.same.cel (by omega) (subN_all _ _ rfl) (by omega) (by unfold big; omega) Zhs (by omega) (subN_all _ _ hl0.symm) hat8 Zfr) ?_
     refine Zgo ?_
     refine Zq (to_sliceOwn (k := k + 1) el105 rfl rfl hz0 (by omega) (by omega)) ?_
     rw [show l.length - (k + 1) = 0 by omega]
     refine Zq (to_appZero ro105 sl105 rfl rfl (by omega)) ?_
     refine Zgo ?_
     refine ⟨.inl rfl, Wres.nil ⟨done_ _ _ (c + 3) _ (by omega) (by dsimp only; omega) (by dsimp only; exact Zkp) (by omega) (Has.other (by omega) (by rw [hfl, List.drop_of_length_le (by omega)]; exact Has.same)) Has.same, ?_⟩⟩
     exact Zex
    ·rw [show l.length - (k + 1) = m + 1 by omega] at hsub1
     refine Zgo ?_
     refine Zq (to_sliceHi (k := k + 1) el105 rfl rfl hz0 (by omega) (fun a ha => by cases ha; exact .inr rfl)) ?_
     refine Zd (to_appNil ro105 sl105 rfl rfl (hbl.cel.other (by omega)) (by omega) hsub0 (by unfold big; omega) Zfr) ?_
     refine Zgo ?_
     refine Zd (to_appG ro105 sl105 rfl rfl (k := 0) Has.same.cel (by omega) (subN_all _ _ rfl) (by omega) (by unfold big; omega) Zhs (by omega) (subN_all _ _ hl0.symm) hat8 Zfr) ?_
     refine Zgo ?_
     refine Zq (to_sliceOwn (k := k + 1) el105 rfl rfl hz0 (by omega) (by omega)) ?_
     rw [show l.length - (k + 1) = m + 1 by omega]
     refine Zd (to_appG ro105 sl105 rfl rfl (Cel.other (by omega) (Cel.other (by omega) (Cel.other (by omega) (Cel.other (by omega) (Cel.other (by omega) hbl.cel))))) (by omega) hsub1 (by omega) (by unfold big; omega) Zhs (by omega) (subN_all _ _ (by rw [List.length_append, hl0]; simp; omega)) hat1 Zfr) ?_
     refine Zgo ?_
     refine ⟨.inl rfl, Wres.nil ⟨done_ _ _ (c + 4) _ (by omega) (by dsimp only; omega) (by dsimp only; exact Zkp) (by omega) (Has.other (by omega) (by rw [hfl, ← List.append_assoc (flatO (l.take (k + 1)))]; exact Has.same)) Has.same, ?_⟩⟩
     exact Zex
end Go.Ab.Seat
end
section
/- Numbers held against each other, where they are one (the abstract machine). -/
namespace Go.Ab.Seat
open Go.Extern Go.Proofs
set_option maxRecDepth 4000
variable {sm : Nat → Option (List Value → M Value)}
def EHs (a : Option Addr) (n k : Nat) (b : Option Addr) (k' : Nat) (z : Int) (j5 j14 j24 : Value) : L :=
 .cons 0 (.slice a n k) (.cons 1 (.slice b n k') (.cons 4 (.bool false) (.cons 10 (.bool false) (.cons 12 (.int .i64 (n : Int)) (.cons 13 (.int .i64 z) (.cons 5 j5 (.cons 14 j14 (.cons 24 j24 .nil))))))))
set_option maxHeartbeats 4000000 in
theorem ints_spec (H : Std sm) {h : T AObj} {c : Nat} {rl wl : List Nat} (hf : Fresh h c) {a b : Option Addr} {n k k' : Nat} {l : List Int} (hl : l.length = n) (hx : Row h (.slice a n k) n 1 (l.map (Value.int .i64))) (hy : Row h (.slice b n k') n 1 (l.map (Value.int .i64))) (hn : n ≤ 1000) :
  ∃ r s', FnTo (Cs sm) eg 54 [.slice a n k, .slice b n k'] ⟨h, c, rl, wl⟩ r s' ∧ r = .bool true ∧ s'.h = h ∧ s'.c = c ∧ Ext ⟨h, c, rl, wl⟩ s' (fun _ => True) (fun _ => False) := by
 refine Fn.go (H 54 rfl) ex54 fn54 km54 rfl rfl ?_
 refine Zev ?_
 have lgR : ∀ l : List Nat, Lg c (fun _ => True) l := fun l b hb => .inr trivial
 refine Zgo ?_
 refine Wx.loopE (fun k1 e s => ∃ (i : Nat) (z : Int) (j5 j14 j24 : Value) (rl' : List Nat), e = EHs a n k b k' z j5 j14 j24 ∧ z = i ∧ s = ⟨h, c, rl', []⟩ ∧ i ≤ n ∧ k1 = n - i) n (EHs a n k b k' 0 top top top) Zrs ?_ ?_ ?_
 ·unfold EHs
  exact Zek
 ·exact ⟨0, 0, _, _, _, _, rfl, rfl, rfl, by omega, rfl⟩
 ·rintro k1 e s ⟨i, z, j5, j14, j24, rl', rfl, hz, rfl, hid, rfl⟩
  unfold EHs
  by_cases hi : i < n
  ·have hg : (l.map (Value.int .i64))[i]? = some (.int .i64 l[i]) := by rw [List.getElem?_map, List.getElem?_eq_getElem (by omega)]; rfl
   obtain ⟨b1, o1, sp1, cs1, rfl, hc1, hn1⟩ := rowCell hx (j := i * 1) (by omega) (by rw [Nat.mul_one]; exact hg)
   obtain ⟨b2, o2, sp2, cs2, rfl, hc2, hn2⟩ := rowCell hy (j := i * 1) (by omega) (by rw [Nat.mul_one]; exact hg)
   have l1 := hc1.lt hf
   have l2 := hc2.lt hf
   refine Zgo ?_
   refine Zq (to_indexAddr (k := i) el45 rfl rfl hz (by omega)) ?_
   refine Zd (to_load (pl_ rfl) rfl hc1 (by omega) hn1) ?_
   refine Zgo ?_
   refine Zq (to_indexAddr (k := i) el45 rfl rfl hz (by omega)) ?_
   refine Zd (to_load (pl_ rfl) rfl hc2 (by omega) hn2) ?_
   refine Zgo ?_
   exact RoundE.go (n - (i + 1)) (EHs _ n k _ k' (z + 1) _ _ _) (by omega) Zek ⟨i + 1, z + 1, _, _, _, _, rfl, by omega, rfl, by omega, rfl⟩
  ·refine Zgo ?_
   refine ⟨.inr rfl, Wres.one rfl ⟨rfl, rfl, rfl, ?_⟩⟩
   exact Ext.of (Nat.le_refl _) hf Kp.refl (lgR _) Zlg
end Go.Ab.Seat
end
section
/- Hits, ids held against each other, where they are the same (the abstract machine). -/
namespace Go.Ab.Seat
open Go.Extern Go.Proofs
set_option maxRecDepth 4000
variable {sm : Nat → Option (List Value → M Value)}
theorem eqH (a b : Int) : eqA (Cs sm) eg 100 52 (hitv a b) (hitv a b) = some true := by
 have h : eqA (Cs sm) eg 100 52 (hitv a b) (hitv a b) = (match decide (a = a) with | true => (match decide (b = b) with | true => some true | false => some false) | false => some false) := by kernel_rfl
 rw [h, decide_eq_true rfl, decide_eq_true rfl]
theorem eg52 : eg 52 = false := by kernel_rfl
theorem to_neH {e : Env} {s : St} {d : Option Nat} {ty t2 : TypeId} {ps : String} {af : Array Edge} {g : Option (Nat × Bool)} {x y : Operand} {a b : Int} (hx : evalA e x = hitv a b) (hy : evalA e y = hitv a b) :
  OpTo (Cs sm) eg e ⟨d, .binOp .neq 52 x y t2, ty, ps, af, g⟩ s (.bool false) s :=
 to_bin hx hy (by
  show (match guardA eg 52 x y (hitv a b) (hitv a b) with | true => (match eqA (Cs sm) eg 100 52 (hitv a b) (hitv a b) with | some r => some (Value.bool (!r)) | none => none) | false => none) = _
  rw [eqH, show guardA eg 52 x y (hitv a b) (hitv a b) = !eg 52 from rfl, eg52]
  rfl)
set_option maxHeartbeats 4000000 in
theorem hits_spec (H : Std sm) {h : T AObj} {c : Nat} {rl wl : List Nat} (hf : Fresh h c) {a b : Option Addr} {k k' : Nat} {l : List Ht} (hx : Row h (.slice a l.length k) l.length 2 (flatH l)) (hy : Row h (.slice b l.length k') l.length 2 (flatH l)) (hn : l.length ≤ 1000) :
  ∃ r s', FnTo (Cs sm) eg 22 [.slice a l.length k, .slice b l.length k'] ⟨h, c, rl, wl⟩ r s' ∧ r = .bool true ∧ s'.h = h ∧ s'.c = c ∧ Ext ⟨h, c, rl, wl⟩ s' (fun _ => True) (fun _ => False) := by
 refine Fn.go (H 22 rfl) ex22 fn22 km22 rfl rfl ?_
 refine Zev ?_
 have lgR : ∀ l : List Nat, Lg c (fun _ => True) l := fun l b hb => .inr trivial
 refine Zgo ?_
 refine Wx.loopE (fun k1 e s => ∃ (i : Nat) (z : Int) (j5 j14 j24 : Value) (rl' : List Nat), e = EHs a l.length k b k' z j5 j14 j24 ∧ z = i ∧ s = ⟨h, c, rl', []⟩ ∧ i ≤ l.length ∧ k1 = l.length - i) l.length (EHs a l.length k b k' 0 top top top) Zrs ?_ ?_ ?_
 ·unfold EHs
  exact Zek
 ·exact ⟨0, 0, _, _, _, _, rfl, rfl, rfl, by omega, rfl⟩
 ·rintro k1 e s ⟨i, z, j5, j14, j24, rl', rfl, hz, rfl, hid, rfl⟩
  unfold EHs
  by_cases hi : i < l.length
  ·obtain ⟨b1, o1, sp1, cs1, rfl, hc1, hs1⟩ := rowB hx (by omega)
   obtain ⟨b2, o2, sp2, cs2, rfl, hc2, hs2⟩ := rowB hy (by omega)
   have l1 := hc1.lt hf
   have l2 := hc2.lt hf
   have hg1 := sub_hit hs1 (List.getElem?_eq_getElem hi)
   have hg2 := sub_hit hs2 (List.getElem?_eq_getElem hi)
   refine Zgo ?_
   refine Zq (to_indexAddr (k := i) el37 rfl rfl hz (by omega)) ?_
   refine Zd (to_loadS ag52 rfl hc1 (by omega) hg1) ?_
   refine Zgo ?_
   refine Zq (to_indexAddr (k := i) el37 rfl rfl hz (by omega)) ?_
   refine Zd (to_loadS ag52 rfl hc2 (by omega) hg2) ?_
   refine Zq (to_neH rfl rfl) ?_
   refine Zgo ?_
   exact RoundE.go (l.length - (i + 1)) (EHs _ l.length k _ k' (z + 1) _ _ _) (by omega) Zek ⟨i + 1, z + 1, _, _, _, _, rfl, by omega, rfl, by omega, rfl⟩
  ·refine Zgo ?_
   refine ⟨.inr rfl, Wres.one rfl ⟨rfl, rfl, rfl, ?_⟩⟩
   exact Ext.of (Nat.le_refl _) hf Kp.refl (lgR _) Zlg
end Go.Ab.Seat
end
section
/- FlatOrder: the run answers true (the abstract machine). -/
namespace Go.Ab.Seat
open Go.Extern Go.Proofs
set_option maxRecDepth 4000
def and1 (z : Int) : Int := (((BitVec.ofInt 64 z).toNat % 2 : Nat) : Int)
theorem and1_or (z : Int) : and1 z = 0 ∨ and1 z = 1 := by unfold and1; omega
theorem to_and1 {C : Ctx} {e : Env} {s : St} {d : Option Nat} {ty t t2 : TypeId} {ps : String} {af : Array Edge} {g : Option (Nat × Bool)} {x y : Operand} {z : Int} (hx : evalA e x = .int .i64 z) (hy : evalA e y = .int .i64 1) :
  OpTo C eg e ⟨d, .binOp .and t x y t2, ty, ps, af, g⟩ s (.int .i64 (and1 z)) s :=
 to_bin hx hy (by
  have h : ((BitVec.ofInt 64 z &&& BitVec.ofInt 64 1).toNat : Int) = and1 z := by
   unfold and1
   rw [BitVec.toNat_and, show (BitVec.ofInt 64 1).toNat = 1 by decide, Nat.and_one_is_mod]
  show some (Value.int .i64 (wrapA .i64 ((BitVec.ofInt 64 z &&& BitVec.ofInt 64 1).toNat : Int))) = _
  rw [h, wrapA_i64 (by have := and1_or z; omega) (by have := and1_or z; omega)])
theorem rises_getM : ∀ {a b : List Rc}, Rises a → Rises b → (∀ x, getM x a = getM x b) → a = b
 | [], [], _, _, _ => rfl
 | [], y :: b, _, _, h => by
  have := h y.id
  rw [getM, getM, if_pos rfl] at this
  cases this
 | x :: a, [], _, _, h => by
  have := h x.id
  rw [getM, getM, if_pos rfl] at this
  cases this
 | x :: a, y :: b, ha, hb, h => by
  obtain ⟨a1, a2⟩ := List.pairwise_cons.1 ha
  obtain ⟨b1, b2⟩ := List.pairwise_cons.1 hb
  have hxy : x = y := by
   rcases Int.lt_trichotomy x.id y.id with q | q | q
   ·have e := h x.id
    rw [getM, if_pos rfl, getM, if_neg (by omega), getM_none.2 fun r hr => by have := b1 r hr; omega] at e
    cases e
   ·have e := h x.id
    rw [getM, if_pos rfl, getM, if_pos q.symm] at e
    exact Option.some.inj e
   ·have e := h y.id
    rw [getM, if_neg (by omega), getM, if_pos rfl, getM_none.2 fun r hr => by have := a1 r hr; omega] at e
    cases e
  subst hxy
  congr 1
  refine rises_getM a2 b2 fun z => ?_
  have e := h z
  by_cases hz : x.id = z
  ·rw [getM_none.2 fun r hr => by have := a1 r hr; omega, getM_none.2 fun r hr => by have := b1 r hr; omega]
  ·rw [getM, if_neg hz, getM, if_neg hz] at e
   exact e
structure Two (h : T AObj) (c : Nat) (pa ma pb mb : Nat) (mt : Int) (dim : Nat) (A B : List Rc) : Prop where
 ex : ∃ Ua Ub : Nat → Prop, FlatM h pa ma mt dim A Ua ∧ FlatM h pb mb mt dim B Ub ∧ ¬Ua mb ∧ ¬Ub ma ∧ ma < c ∧ mb < c
theorem FlatM.hm {h : T AObj} {p m dim : Nat} {mt : Int} {M : List Rc} {U : Nat → Prop} (q : FlatM h p m mt dim M U) : ∃ es n, Has h m (.map es n) := by
 obtain ⟨es, n, h1, _⟩ := q.ex
 exact ⟨es, n, h1⟩
theorem Two.keep {h h' : T AObj} {c c' : Nat} {pa ma pb mb dim : Nat} {mt : Int} {A B : List Rc} (t : Two h c pa ma pb mb mt dim A B) (hf : Fresh h c) (hc : c ≤ c') (k : ∀ b, b < c → h'.get b = h.get b) : Two h' c' pa ma pb mb mt dim A B := by
 obtain ⟨Ua, Ub, qa, qb, u1, u2, l1, l2⟩ := t.ex
 exact ⟨Ua, Ub, qa.keep hf fun b _ hb => k b hb, qb.keep hf fun b _ hb => k b hb, u1, u2, by omega, by omega⟩
end Go.Ab.Seat
end
