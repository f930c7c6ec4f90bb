import Derived.Test.YtofikbfljjjgeaaGreatDoorDO3
import Derived.Test.YtofikbfljjjgeaaGreatDoorE48
import Derived.Test.YtofikbfljjjgeaaGreatDoorDX1
set_option linter.unusedVariables false
set_option linter.unusedSimpArgs false
section
/- The nearest middle; vectors copied; an index of lists: made (the abstract machine). -/
namespace Go.Ab.Seat
open Go.Extern Go.Proofs
set_option maxRecDepth 4000
theorem HI.val {h : T AObj} {c : Nat} {v : Value} {l : List Int} (x : HI h c v l) : ∃ oa, v = .slice oa l.length l.length ∧ Row h v l.length 1 (l.map (Value.int .i64)) ∧ ∀ b, blkOf v = some b → c ≤ b := by
 rcases x with ⟨rfl, rfl⟩ | ⟨b, rfl, _, h1, h2⟩
 ·exact ⟨_, rfl, .inl ⟨rfl, rfl, _, _, rfl⟩, fun b hb => by cases hb⟩
 ·exact ⟨_, rfl, .inr ⟨b, 0, _, _, _, rfl, h2.cel, subN_all _ _ (by simp)⟩, fun b hb => by cases hb; exact h1⟩
theorem ordZ_len (mid : List (List Int)) (qs : List Int) : (ordZ mid qs).length = mid.length := by
 unfold ordZ
 have h1 := hitO_len qs mid
 have := bestOf_len_eq (k := mid.length) (hitO_nodup qs mid) (m := mid.length) (by omega) (Nat.le_refl _)
 rw [List.take_of_length_le (by omega)] at this
 rw [List.length_map, this]
def nearZ (mid : List (List Int)) (qs : List Int) : Int := if mid.length = 0 then -1 else (ordZ mid qs).getD 0 0
set_option maxHeartbeats 4000000 in
theorem nearest_spec {h : T AObj} {c : Nat} {rl wl : List Nat} (hf : Fresh h c) {v : Value} {dim : Nat} {mid : List (List Int)} {U : Nat → Prop} (hm : MRow h v dim mid U) (hn : mid.length ≤ 12) (hd : dim ≤ 1000) {qa : Option Addr} {qc : Nat} {qs : List Int} (hq : Row h (.slice qa dim qc) dim 1 (qs.map (Value.int .i32))) (hqn : qs.length = dim) (hqb : Bnd qs) (R : Nat → Prop) (hUR : ∀ b, U b → R b) (hqR : ∀ b, blkOf (.slice qa dim qc) = some b → R b) :
  ∃ r s', FnTo (Cs smQ) eg 132 [v, .slice qa dim qc] ⟨h, c, rl, wl⟩ r s' ∧ r = .int .i64 (nearZ mid qs) ∧ Ext ⟨h, c, rl, wl⟩ s' R (fun _ => False) := by
 obtain ⟨oa, cap, rfl⟩ := hm.val
 refine Fn.go (stdQ 132 rfl) ex132 fn132 km132 rfl rfl ?_
 refine Zev ?_
 by_cases h0 : mid.length = 0
 ·refine Zgo ?_
  refine ⟨.inr rfl, Wres.one rfl ⟨?_, ?_⟩⟩
  ·unfold nearZ; rw [if_pos h0]; rfl
  ·exact Zex
 ·refine Zgo ?_
  refine Wseq.call rfl rfl (order_spec Zfr hm hn hd hq hqn hqb R hUR hqR) ?_
  rintro v1 h1 c1 r1 w1 ⟨hHI, hext⟩
  have kp := Kp.ext (W := fun _ => False) (h := h) (c := c) Zkp hext (by omega) (fun _ _ q => q)
  have lr := Lg.extR (R := R) (c := c) Zlg hext (fun _ _ q => q)
  have lw := Lg.extW (W := fun _ => False) (c := c) Zlg hext (fun _ _ q => q)
  have fr1 := hext.fresh
  have le1 := hext.c
  simp only at le1 fr1 hHI
  have hlen := ordZ_len mid qs
  unfold nearZ
  rw [if_neg h0]
  generalize ordZ mid qs = l at hHI hlen
  rcases hHI with ⟨rfl, rfl⟩ | ⟨b, rfl, hne, hb1, hb2⟩
  ·simp at hlen; omega
  ·have l1 := hb2.lt fr1
   obtain ⟨z0, l', rfl⟩ := List.exists_cons_of_ne_nil hne
   refine Zgo ?_
   refine Zu (to_indexAddr (k := 0) el45 rfl rfl rfl (by simp)) ?_
   refine Zu (to_load (pl_ rfl) rfl hb2.cel (by omega) rfl) ?_
   refine Zgo ?_
   refine ⟨.inr rfl, Wres.one rfl ⟨rfl, ?_⟩⟩
   exact Zex
theorem GVals.ne {h : T AObj} {dim b : Nat} {mid : List (List Int)} {U : Nat → Prop} {vals : List Value} (x : GVals h dim mid U vals) (hd : 1 ≤ dim) (hb : Has h b (.cells vals)) {a : Option Addr} {k : Nat} {zs : List Int} (hr : Row h (.slice a dim k) dim 1 (zs.map (Value.int .i32))) (hz : zs.length = dim) : blkOf (.slice a dim k) ≠ some b := by
 intro e
 rcases hr with ⟨_, q, _⟩ | ⟨b', o, sp', cap', cs, e1, g6, g7⟩
 ·omega
 ·rw [e1] at e
  obtain rfl : b' = b := by simpa [blkOf] using e
  have hcs : cs = vals := by
   rcases g6 with q | q | q
   ·have := q.symm.trans hb
    simpa using this
   ·have := q.symm.trans hb
    simp at this
   ·have := q.symm.trans hb
    simp at this
  subst hcs
  have h1 := (subN_some _ _ _ _ g7).2.2 0 (by omega)
  rw [Nat.add_zero, List.getElem?_map, List.getElem?_eq_getElem (by omega : 0 < zs.length)] at h1
  have h2 := (List.getElem?_eq_some_iff.1 h1.symm).1
  rw [x.1] at h2
  obtain ⟨_, _, a', k', h3, _⟩ := x.2 o mid[o] (List.getElem?_eq_getElem h2)
  rw [h3] at h1
  cases h1
theorem GVals.keep2 {h h' : T AObj} {c dim b : Nat} {mid : List (List Int)} {U U' : Nat → Prop} {vals : List Value} (x : GVals h dim mid U vals) (hd : 1 ≤ dim) (hb : Has h b (.cells vals)) (hf : Fresh h c) (hU : ∀ b, U b → U' b) (k : ∀ b', U b' → b' < c → b' ≠ b → h'.get b' = h.get b') : GVals h' dim mid U' vals := by
 refine ⟨x.1, fun i zs hi => ?_⟩
 obtain ⟨g1, g2, a, kk, g3, g4, g5⟩ := x.2 i zs hi
 refine ⟨g1, g2, a, kk, g3, ?_, fun b' hb' => hU b' (g5 b' hb')⟩
 have hne := x.ne hd hb g4 g1
 rcases g4 with g4 | ⟨b', o, sp', cap', cs, e, g6, g7⟩
 ·exact .inl g4
 ·refine .inr ⟨b', o, sp', cap', cs, e, ?_, g7⟩
  have q := k b' (g5 b' (by rw [e]; rfl)) (g6.lt hf) (fun q => hne (by rw [e, q]; rfl))
  unfold Cel Has at g6 ⊢
  rw [q]; exact g6
def EC (v : Value) (n : Nat) (lv : Value) (z : Int) (j5 j9 : Value) : L :=
 .cons 0 v (.cons 2 (.slice none 0 0) (.cons 3 lv (.cons 6 v (.cons 7 (.int .i64 (n : Int)) (.cons 8 (.int .i64 z) (.cons 5 j5 (.cons 9 j9 .nil)))))))
set_option maxHeartbeats 4000000 in
theorem copies_spec {h : T AObj} {c : Nat} {rl wl : List Nat} (hf : Fresh h c) {v : Value} {dim : Nat} {mid : List (List Int)} {U : Nat → Prop} (hm : MRow h v dim mid U) (hn : mid.length ≤ 1000) (hd : dim ≤ 1000) (hd1 : 1 ≤ dim) (R : Nat → Prop) (hUR : ∀ b, U b → R b) :
  ∃ r s', FnTo (Cs smQ) eg 128 [v] ⟨h, c, rl, wl⟩ r s' ∧ GRow s'.h r dim mid (fun b => c ≤ b ∧ b < s'.c) ∧ Ext ⟨h, c, rl, wl⟩ s' R (fun _ => False) := by
 obtain ⟨oa, cap, rfl⟩ := hm.val
 refine Fn.go (stdQ 128 rfl) ex128 fn128 km128 rfl rfl ?_
 refine Zev ?_
 refine Zgo ?_
 refine Wx.loopE (fun k1 e s => ∃ (i : Nat) (z : Int) (lv j5 j9 : Value) (h' : T AObj) (c' : Nat) (rl' wl' : List Nat), e = EC (.slice oa mid.length cap) mid.length lv z j5 j9 ∧ z = i ∧ s = ⟨h', c', rl', wl'⟩ ∧ c ≤ c' ∧ Fresh h' c' ∧ Kp h h' c (fun _ => False) ∧ GRow h' lv dim (mid.take i) (fun b => c ≤ b ∧ b < c') ∧ Lg c R rl' ∧ Lg c (fun _ => False) wl' ∧ i ≤ mid.length ∧ k1 = mid.length - i) mid.length (EC (.slice oa mid.length cap) mid.length (.slice none 0 0) 0 top top) Zrs ?_ ?_ ?_
 ·unfold EC
  exact Zek
 ·exact ⟨0, 0, _, _, _, _, _, _, _, rfl, rfl, rfl, Nat.le_refl _, Zfr, Zkp, .inl ⟨rfl, rfl⟩, Zlg, Zlg, by omega, rfl⟩
 ·rintro k1 e s ⟨i, z, lv, j5, j9, h', c', rl', wl', rfl, hz, rfl, hcc, hf', hkp, hV, hlr, hlw, hid, rfl⟩
  unfold EC
  by_cases hi : i < mid.length
  ·have hm' := hm.keep hf (fun _ q => q) (fun b _ hb _ => hkp b hb (fun q => q))
   obtain ⟨g1, g2, b, sp, vals, a, k, rfl, g4, g5, g6, g7, g8⟩ := hm'.at (List.getElem?_eq_getElem hi)
   have lb := g5.lt hf'
   have rb := hUR b g4
   refine Zgo ?_
   refine Zu (to_indexAddr (k := i) el22 rfl rfl hz hi) ?_
   refine Zu (to_load (pl_ rfl) rfl g5.cel (by omega) g6) ?_
   refine Zgo ?_
   refine Wseq.call rfl rfl (copy_spec stdQ Zfr g7 (by unfold bigV; omega) (fun e => by omega) R (fun b o sp n' cap e => hUR b (g8 b (by rw [e]; rfl)))) ?_
   rintro w h1 c1 r1 w1 ⟨hown, hext⟩
   have kp := Kp.ext (W := fun _ => False) (h := h) (c := c) hkp hext (by omega) (fun _ _ q => q)
   have lr := Lg.extR (R := R) (c := c) Zlg hext (fun _ _ q => q)
   have lw := Lg.extW (W := fun _ => False) (c := c) Zlg hext (fun _ _ q => q)
   have fr1 := hext.fresh
   have le1 := hext.c
   simp only at le1 fr1 hown
   have hV1 := hV.keep (U' := fun b => c ≤ b ∧ b < c1 + 2) hf' (fun _ q => ⟨q.1, by omega⟩) (fun b _ hb _ => hext.get hb (fun q => q))
   obtain ⟨wa, wk, rfl⟩ := hown.val
   have hrow := hown.row (by rw [List.length_map]; exact g1)
   have hwb : ∀ b', blkOf (.slice wa dim wk) = some b' → c ≤ b' ∧ b' < c1 + 2 := fun b' hb' => by have := (hown.blk hb').1; have := (hown.blk hb').2.lt fr1; omega
   have hst : mid.take (i + 1) = mid.take i ++ [mid[i]] := List.take_succ_eq_append_getElem hi
   have hl0 : (mid.take i).length = i := by rw [List.length_take]; omega
   have hbg : big = 1048576 := rfl
   rcases hV1 with ⟨rfl, hnil⟩ | ⟨bl, vals2, rfl, hne, hbl, hbc, hvl⟩
   ·refine Zgo ?_
    refine Zu (to_appNil ro22 sl22 rfl rfl (k := 0) Has.same.cel (by omega) (subN_all _ _ rfl) (by omega) Zfr) ?_
    refine Zgo ?_
    refine RoundE.go (mid.length - (i + 1)) (EC _ mid.length _ (z + 1) _ _) (by omega) Zek ⟨i + 1, z + 1, _, _, _, _, _, _, _, rfl, by omega, rfl, by omega, Zfr, Zkp, ?_, Zlg, Zlg, by omega, rfl⟩
    have hi0 : i = 0 := by rw [hnil] at hl0; simpa using hl0.symm
    rw [hst, hnil]
    have hr2 : ∀ (h2 : T AObj), (∀ b, b < c1 → h2.get b = h1.get b) → Row h2 (.slice wa dim wk) dim 1 (mid[i].map (Value.int .i32)) := fun h2 k2 => Row.keepF hrow fr1 k2
    exact .inr ⟨c1 + 1, [.slice wa dim wk], rfl, (fun e => by cases e), by omega, Has.same, GVals.push .nil g1 g2 (hr2 _ fun b hb => by rw [get_other (by omega), get_other (by omega)]) hwb⟩
   ·have l3 := hbc.lt fr1
    refine Zgo ?_
    refine Zu (to_appOwn ro22 sl22 rfl rfl (k := 0) Has.same.cel (by omega) (subN_all _ _ rfl) (by omega) (by omega) Zhs (by omega) (subN_all _ _ (by rw [hvl.1]; omega)) (all_cons rfl all_nil) Zfr) ?_
    refine Zgo ?_
    refine RoundE.go (mid.length - (i + 1)) (EC _ mid.length _ (z + 1) _ _) (by omega) Zek ⟨i + 1, z + 1, _, _, _, _, _, _, _, rfl, by omega, rfl, by omega, Zfr, Zkp, ?_, Zlg, Zlg, by omega, rfl⟩
    have hlt : (mid.take i ++ [mid[i]]).length = (mid.take i).length + 1 := by rw [List.length_append]; rfl
    have hne2 : blkOf (.slice wa dim wk) ≠ some bl := hvl.ne hd1 hbc hrow g1
    have hk2 : ∀ (h2 : T AObj), (∀ b, b < c1 → b ≠ bl → h2.get b = h1.get b) → GVals h2 dim (mid.take i ++ [mid[i]]) (fun b => c ≤ b ∧ b < c1 + 2) (vals2 ++ [.slice wa dim wk]) := fun h2 k2 => (hvl.keep2 hd1 hbc fr1 (fun _ q => q) (fun b _ h1 h2 => k2 b h1 h2)).push g1 g2 (by
     rcases hrow with g | ⟨b', o, sp', cap', cs, e, g6, g7⟩
     ·exact .inl g
     ·refine .inr ⟨b', o, sp', cap', cs, e, ?_, g7⟩
      have q := k2 b' (g6.lt fr1) (fun q => hne2 (by rw [e, q]; rfl))
      unfold Cel Has at g6 ⊢
      rw [q]; exact g6) hwb
    rw [hst]
    refine .inr ⟨c1 + 1, vals2 ++ [.slice wa dim wk], by rw [hlt], (fun e => by have := congrArg List.length e; rw [hlt] at this; cases this), by omega, Has.same, hk2 _ fun b q1 q2 => ?_⟩
    rw [get_other (by omega), get_other (by omega), get_other (by omega)]
  ·refine Zgo ?_
   obtain rfl : i = mid.length := by omega
   rw [List.take_length] at hV
   refine ⟨.inr rfl, Wres.one rfl ⟨hV, ?_⟩⟩
   exact Zex
end Go.Ab.Seat
end
section
/- Maps by ints: their keys are apart; what put and del make of them (plain lists). -/
namespace Go.Ab.Seat
open Go.Extern Go.Proofs
theorem mapA_eq {α β : Type} (f : α → β) (l : List α) : mapA f l = l.map f := by
 induction l with
 | nil => rfl
 | cons x xs ih => show f x :: mapA f xs = _; rw [ih]; rfl
theorem nodup_apartI {l : List Int} (h : l.Nodup) : apartI l = true := by
 induction l with
 | nil => rfl
 | cons x xs ih =>
  obtain ⟨h1, h2⟩ := List.nodup_cons.1 h
  rw [apartI_cons]
  cases hm : memI x xs with
  | true => exact absurd ((memI_eq x xs).1 hm) h1
  | false => exact ih h2
theorem nodup_apartN {l : List Nat} (h : l.Nodup) : apartN l = true := by
 induction l with
 | nil => rfl
 | cons x xs ih =>
  obtain ⟨h1, h2⟩ := List.nodup_cons.1 h
  rw [apartN_cons]
  cases hm : mem x xs with
  | true => exact absurd ((mem_eq x xs).1 hm) h1
  | false => exact ih h2
structure Keyed (es : List (Value × Value × Nat)) (n : Nat) (ids : List Int) : Prop where
 keys : es.map (fun e => e.1) = ids.map (Value.int .i64)
 nodup : ids.Nodup
 born : (es.map fun e => e.2.2).Nodup
 lt : ∀ e ∈ es, e.2.2 < n
 wf : ∀ x ∈ ids, wfI x = true
theorem Keyed.nil (n : Nat) : Keyed [] n [] := ⟨rfl, .nil, .nil, (fun e he => by cases he), (fun x hx => by cases hx)⟩
theorem intsOf_ints {ids : List Int} (h : ∀ x ∈ ids, wfI x = true) : intsOf (ids.map (Value.int .i64)) = some ids := by
 induction ids with
 | nil => rfl
 | cons x xs ih =>
  rw [List.map_cons, intsOf_cons, ih fun y hy => h y (List.mem_cons_of_mem _ hy)]
  have : intOf1 (.int .i64 x) = some x := by
   unfold intOf1
   simp only [h x (List.mem_cons_self ..)]
  rw [this]
theorem Keyed.keyInts {es : List (Value × Value × Nat)} {n : Nat} {ids : List Int} (k : Keyed es n ids) : Go.Ab.keyInts es n = some ids := by
 unfold Go.Ab.keyInts
 rw [mapA_eq, k.keys, intsOf_ints k.wf]
 have h3 : allB (fun e : Value × Value × Nat => Nat.blt e.2.2 n) es = true := by
  rw [allB_eq, List.all_eq_true]
  intro e he
  have := k.lt e he
  exact blt_iff.2 this
 rw [mapA_eq]
 simp only [nodup_apartI k.nodup, nodup_apartN k.born, h3]
 rfl
theorem findI_none_iff {x : Int} : ∀ {es : List (Value × Value × Nat)} {ids : List Int}, es.map (fun e => e.1) = ids.map (Value.int .i64) → (findI x es = none ↔ x ∉ ids)
 | [], [], _ => ⟨(fun _ h => by cases h), (fun _ => rfl)⟩
 | [], _ :: _, h => by cases h
 | _ :: _, [], h => by cases h
 | (a, v, b) :: es, y :: ids, h => by
  simp only [List.map_cons, List.cons.injEq] at h
  obtain ⟨rfl, h⟩ := h
  have ih := findI_none_iff (x := x) h
  unfold findI
  by_cases hxy : x = y
  ·rw [if_pos hxy]
   exact ⟨(fun h => by cases h), (fun h => absurd (by rw [hxy]; exact List.mem_cons_self ..) h)⟩
  ·rw [if_neg hxy, Option.map_eq_none_iff, ih, List.mem_cons]
   exact ⟨fun h1 h2 => h2.elim hxy h1, fun h1 h2 => h1 (.inr h2)⟩
theorem findI_some_get {x : Int} : ∀ {es : List (Value × Value × Nat)} {ids : List Int} {i : Nat} {v : Value}, es.map (fun e => e.1) = ids.map (Value.int .i64) → findI x es = some (i, v) → ids[i]? = some x ∧ ∃ b, es[i]? = some (.int .i64 x, v, b)
 | [], _, _, _, _, h => by cases h
 | _ :: _, [], _, _, h, _ => by cases h
 | (a, w, b) :: es, y :: ids, i, v, h, hf => by
  simp only [List.map_cons, List.cons.injEq] at h
  obtain ⟨rfl, h⟩ := h
  unfold findI at hf
  by_cases hxy : x = y
  ·rw [if_pos hxy] at hf
   cases hf
   subst hxy
   exact ⟨rfl, b, rfl⟩
  ·rw [if_neg hxy, Option.map_eq_some_iff] at hf
   obtain ⟨p, hp, he⟩ := hf
   cases he
   obtain ⟨h1, b', h2⟩ := findI_some_get h hp
   exact ⟨by simpa using h1, b', by simpa using h2⟩
theorem modA_keys {x : Int} {v : Value} : ∀ {es : List (Value × Value × Nat)} {ids : List Int} {i : Nat}, es.map (fun e => e.1) = ids.map (Value.int .i64) → ids[i]? = some x → (modA (.int .i64 x) v es i).map (fun e => e.1) = ids.map (Value.int .i64) ∧ (modA (.int .i64 x) v es i).map (fun e => e.2.2) = es.map (fun e => e.2.2)
 | [], [], _, _, h => by cases h
 | [], _ :: _, _, h, _ => by cases h
 | _ :: _, [], _, h, _ => by cases h
 | (a, w, b) :: es, y :: ids, 0, h, hi => by
  simp only [List.map_cons, List.cons.injEq] at h
  obtain ⟨rfl, h⟩ := h
  cases hi
  exact ⟨by simp only [modA, List.map_cons, h], rfl⟩
 | (a, w, b) :: es, y :: ids, i + 1, h, hi => by
  simp only [List.map_cons, List.cons.injEq] at h
  obtain ⟨rfl, h⟩ := h
  obtain ⟨h1, h2⟩ := modA_keys (v := v) h (by simpa using hi)
  exact ⟨by simp only [modA, List.map_cons, h1], by simp only [modA, List.map_cons, h2]⟩
def putIds (x : Int) (ids : List Int) : List Int := if x ∈ ids then ids else ids ++ [x]
theorem Keyed.put {es : List (Value × Value × Nat)} {n : Nat} {ids : List Int} (k : Keyed es n ids) {x : Int} (hw : wfI x = true) (v : Value) : Keyed (putI .i64 x v n es).1 (putI .i64 x v n es).2 (putIds x ids) := by
 unfold putI putIds
 cases hf : findI x es with
 | none =>
  have hx := (findI_none_iff k.keys).1 hf
  rw [if_neg hx]
  refine ⟨by simp [k.keys], ?_, ?_, ?_, ?_⟩
  ·exact List.nodup_append.2 ⟨k.nodup, List.nodup_cons.2 ⟨List.not_mem_nil, .nil⟩, fun a ha b hb => by
    obtain rfl := List.mem_singleton.1 hb
    rintro rfl
    exact hx ha⟩
  ·rw [List.map_append]
   refine List.nodup_append.2 ⟨k.born, List.nodup_cons.2 ⟨List.not_mem_nil, .nil⟩, fun a ha b hb => ?_⟩
   obtain rfl := List.mem_singleton.1 hb
   obtain ⟨e, he, rfl⟩ := List.mem_map.1 ha
   have := k.lt e he
   omega
  ·intro e he
   rcases List.mem_append.1 he with he | he
   ·have := k.lt e he
    show e.2.2 < n + 1
    omega
   ·obtain rfl := List.mem_singleton.1 he
    exact Nat.lt_succ_self n
  ·intro y hy
   rcases List.mem_append.1 hy with hy | hy
   ·exact k.wf y hy
   ·obtain rfl := List.mem_singleton.1 hy
    exact hw
 | some p =>
  obtain ⟨i, w⟩ := p
  obtain ⟨h1, b, h2⟩ := findI_some_get k.keys hf
  rw [if_pos (List.mem_of_getElem? h1)]
  obtain ⟨h3, h4⟩ := modA_keys (v := v) k.keys h1
  refine ⟨h3, k.nodup, by rw [h4]; exact k.born, fun e he => ?_, k.wf⟩
  have : e.2.2 ∈ (modA (.int .i64 x) v es i).map fun e => e.2.2 := List.mem_map_of_mem he
  rw [h4] at this
  obtain ⟨e', he', h5⟩ := List.mem_map.1 this
  rw [← h5]
  exact k.lt e' he'
theorem Keyed.del {es : List (Value × Value × Nat)} {n : Nat} {ids : List Int} (k : Keyed es n ids) (x : Int) : ∃ ids', Keyed (delI x es) n ids' ∧ (∀ y, y ∈ ids' ↔ y ∈ ids ∧ y ≠ x) ∧ ids'.length = (if x ∈ ids then ids.length - 1 else ids.length) := by
 unfold delI
 cases hf : findI x es with
 | none =>
  have hx := (findI_none_iff k.keys).1 hf
  exact ⟨ids, k, fun y => ⟨fun h => ⟨h, fun e => hx (e ▸ h)⟩, fun h => h.1⟩, by rw [if_neg hx]⟩
 | some p =>
  obtain ⟨i, w⟩ := p
  obtain ⟨h1, b, h2⟩ := findI_some_get k.keys hf
  have hi := (List.getElem?_eq_some_iff.1 h1).1
  simp only
  rw [eraseA_eq]
  have hsub : (ids.eraseIdx i).Sublist ids := List.eraseIdx_sublist ids i
  have hsube : (es.eraseIdx i).Sublist es := List.eraseIdx_sublist es i
  refine ⟨ids.eraseIdx i, ⟨?_, k.nodup.sublist hsub, k.born.sublist (hsube.map _), fun e he => k.lt e (hsube.subset he), fun y hy => k.wf y (hsub.subset hy)⟩, fun y => ?_, ?_⟩
  ·have hm : ∀ {α β : Type} (f : α → β) (l : List α) (i : Nat), (l.eraseIdx i).map f = (l.map f).eraseIdx i := by
    intro α β f l
    induction l with
    | nil => intro i; rfl
    | cons a l ih =>
     intro i
     cases i with
     | zero => rfl
     | succ i => simp only [List.eraseIdx_cons_succ, List.map_cons, ih]
   rw [hm, k.keys, ← hm]
  ·rw [List.mem_eraseIdx_iff_getElem?]
   constructor
   ·rintro ⟨j, hj, hy⟩
    refine ⟨List.mem_of_getElem? hy, ?_⟩
    rintro rfl
    obtain ⟨hj1, hj2⟩ := List.getElem?_eq_some_iff.1 hy
    obtain ⟨hi1, hi2⟩ := List.getElem?_eq_some_iff.1 h1
    exact hj ((List.getElem_inj k.nodup).1 (hj2.trans hi2.symm))
   ·rintro ⟨hy, hne⟩
    obtain ⟨j, hj⟩ := List.mem_iff_getElem?.1 hy
    refine ⟨j, ?_, hj⟩
    rintro rfl
    rw [h1] at hj
    cases hj
    exact hne rfl
  ·rw [if_pos (List.mem_of_getElem? h1), List.length_eraseIdx_of_lt hi]
noncomputable def valI (x : Int) (es : List (Value × Value × Nat)) : Option Value := (findI x es).map fun p => p.2
theorem valI_none {x : Int} {es : List (Value × Value × Nat)} : valI x es = none ↔ findI x es = none := by unfold valI; exact Option.map_eq_none_iff
theorem valI_some {x : Int} {es : List (Value × Value × Nat)} {v : Value} (h : valI x es = some v) : ∃ i, findI x es = some (i, v) := by
 unfold valI at h
 obtain ⟨⟨i, w⟩, h1, h2⟩ := Option.map_eq_some_iff.1 h
 cases h2
 exact ⟨i, h1⟩
theorem valI_cons (x : Int) (k v : Value) (b : Nat) (es : List (Value × Value × Nat)) (y : Int) (hk : k = .int .i64 y) : valI x ((k, v, b) :: es) = if x = y then some v else valI x es := by
 subst hk
 unfold valI
 rw [findI]
 by_cases h : x = y
 ·rw [if_pos h, if_pos h]; rfl
 ·rw [if_neg h, if_neg h]
  cases findI x es <;> rfl
theorem valI_app (x y : Int) (v : Value) (b : Nat) : ∀ {es : List (Value × Value × Nat)} {ids : List Int}, es.map (fun e => e.1) = ids.map (Value.int .i64) → y ∉ ids → valI x (es ++ [(.int .i64 y, v, b)]) = if x = y then some v else valI x es
 | [], _, _, _ => by rw [List.nil_append, valI_cons x _ v b [] y rfl]
 | (k, w, b') :: es, [], h, _ => by cases h
 | (k, w, b') :: es, z :: ids, h, hy => by
  simp only [List.map_cons, List.cons.injEq] at h
  obtain ⟨h1, h2⟩ := h
  rw [List.cons_append, valI_cons x k w b' _ z h1, valI_cons x k w b' _ z h1, valI_app x y v b h2 fun q => hy (List.mem_cons_of_mem _ q)]
  by_cases hz : x = z
  ·rw [if_pos hz, if_pos hz, if_neg fun e => hy (by rw [← e, hz]; exact List.mem_cons_self ..)]
  ·rw [if_neg hz, if_neg hz]
theorem valI_mod (x y : Int) (v : Value) : ∀ {es : List (Value × Value × Nat)} {ids : List Int} {i : Nat}, es.map (fun e => e.1) = ids.map (Value.int .i64) → ids.Nodup → ids[i]? = some y → valI x (modA (.int .i64 y) v es i) = if x = y then some v else valI x es
 | [], [], _, _, _, h => by cases h
 | [], _ :: _, _, h, _, _ => by cases h
 | _ :: _, [], _, h, _, _ => by cases h
 | (k, w, b) :: es, z :: ids, 0, h, hn, hi => by
  simp only [List.map_cons, List.cons.injEq] at h
  cases hi
  show valI x ((.int .i64 y, v, b) :: es) = _
  rw [valI_cons x _ v b es y rfl, valI_cons x k w b es y h.1]
  by_cases hz : x = y
  ·rw [if_pos hz, if_pos hz]
  ·rw [if_neg hz, if_neg hz, if_neg hz]
 | (k, w, b) :: es, z :: ids, i + 1, h, hn, hi => by
  simp only [List.map_cons, List.cons.injEq] at h
  obtain ⟨h1, h2⟩ := h
  obtain ⟨n1, n2⟩ := List.nodup_cons.1 hn
  have hi' : ids[i]? = some y := by simpa using hi
  show valI x ((k, w, b) :: modA (.int .i64 y) v es i) = _
  rw [valI_cons x k w b _ z h1, valI_cons x k w b es z h1, valI_mod x y v h2 n2 hi']
  by_cases hz : x = z
  ·rw [if_pos hz, if_pos hz, if_neg fun e => n1 (by rw [← hz, e]; exact List.mem_of_getElem? hi')]
  ·rw [if_neg hz, if_neg hz]
theorem valI_put {es : List (Value × Value × Nat)} {n : Nat} {ids : List Int} (k : Keyed es n ids) (x y : Int) (v : Value) : valI x (putI .i64 y v n es).1 = if x = y then some v else valI x es := by
 unfold putI
 cases hf : findI y es with
 | none => exact valI_app x y v n k.keys ((findI_none_iff k.keys).1 hf)
 | some p =>
  obtain ⟨i, w⟩ := p
  exact valI_mod x y v k.keys k.nodup (findI_some_get k.keys hf).1
theorem valI_erase (x y : Int) : ∀ {es : List (Value × Value × Nat)} {ids : List Int} {i : Nat}, es.map (fun e => e.1) = ids.map (Value.int .i64) → ids.Nodup → ids[i]? = some y → valI x (es.eraseIdx i) = if x = y then none else valI x es
 | [], [], _, _, _, h => by cases h
 | [], _ :: _, _, h, _, _ => by cases h
 | _ :: _, [], _, h, _, _ => by cases h
 | (k, w, b) :: es, z :: ids, 0, h, hn, hi => by
  simp only [List.map_cons, List.cons.injEq] at h
  cases hi
  obtain ⟨n1, n2⟩ := List.nodup_cons.1 hn
  rw [List.eraseIdx_cons_zero, valI_cons x k w b es y h.1]
  by_cases hz : x = y
  ·rw [if_pos hz, hz]
   exact valI_none.2 ((findI_none_iff h.2).2 n1)
  ·rw [if_neg hz, if_neg hz]
 | (k, w, b) :: es, z :: ids, i + 1, h, hn, hi => by
  simp only [List.map_cons, List.cons.injEq] at h
  obtain ⟨h1, h2⟩ := h
  obtain ⟨n1, n2⟩ := List.nodup_cons.1 hn
  have hi' : ids[i]? = some y := by simpa using hi
  rw [List.eraseIdx_cons_succ, valI_cons x k w b _ z h1, valI_cons x k w b es z h1, valI_erase x y h2 n2 hi']
  by_cases hz : x = z
  ·rw [if_pos hz, if_pos hz, if_neg fun e => n1 (by rw [← hz, e]; exact List.mem_of_getElem? hi')]
  ·rw [if_neg hz, if_neg hz]
theorem valI_del {es : List (Value × Value × Nat)} {n : Nat} {ids : List Int} (k : Keyed es n ids) (x y : Int) : valI x (delI y es) = if x = y then none else valI x es := by
 unfold delI
 cases hf : findI y es with
 | none =>
  by_cases hz : x = y
  ·rw [if_pos hz, hz]
   exact valI_none.2 hf
  ·rw [if_neg hz]
 | some p =>
  obtain ⟨i, w⟩ := p
  simp only
  rw [eraseA_eq]
  exact valI_erase x y k.keys k.nodup (findI_some_get k.keys hf).1
theorem Keyed.ks {es : List (Value × Value × Nat)} {n : Nat} {ids : List Int} (k : Keyed es n ids) : KeysI .i64 es := fun p hp => by
 have : p.1 ∈ es.map fun e => e.1 := List.mem_map_of_mem hp
 rw [k.keys] at this
 obtain ⟨y, _, hy⟩ := List.mem_map.1 this
 exact ⟨y, hy.symm⟩
end Go.Ab.Seat
end
