import Derived.Test.YtofikbfljjjgeaaGreatDoorDI1
import Derived.Test.YtofikbfljjjgeaaGreatDoorE50
import Derived.Test.YtofikbfljjjgeaaGreatDoorDO2
import Derived.Test.YtofikbfljjjgeaaGreatDoorE48
set_option linter.unusedVariables false
set_option linter.unusedSimpArgs false
section
/- Vectors that come in, cut to size; hits, ids compared (the abstract machine). -/
namespace Go.Ab.Seat
open Go.Extern Go.Proofs
set_option maxRecDepth 4000
variable {sm : Nat → Option (List Value → M Value)}
def VecsIn (h : T AObj) (v : Value) (zss : List (List Int)) : Prop :=
 ∃ oa cap, v = .slice oa zss.length cap ∧ ∀ (i : Nat) (zs : List Int), zss[i]? = some zs → ∃ b o sp cs a k, oa = some ⟨b, o, sp⟩ ∧ Cel h b cs ∧ nth cs (o + i * 1) = some (.slice a zs.length k) ∧ Row h (.slice a zs.length k) zs.length 1 (zs.map (Value.int .i32))
def VRow (h : T AObj) (c0 : Nat) (v : Value) (dim : Nat) (vss : List (List Int)) : Prop :=
 (v = .slice none 0 0 ∧ vss = []) ∨ ∃ b vals, v = .slice (some ⟨b, 0, some 1⟩) vss.length vss.length ∧ vss ≠ [] ∧ c0 ≤ b ∧ Has h b (.cells vals) ∧ vals.length = vss.length ∧ ∀ (i : Nat) (zs : List Int), vss[i]? = some zs → zs.length = dim ∧ ∃ bi, vals[i]? = some (.slice (some ⟨bi, 0, none⟩) dim dim) ∧ c0 ≤ bi ∧ Has h bi (.cells (zs.map (Value.int .i32)))
theorem VRow.keep {h h' : T AObj} {c c0 : Nat} {v : Value} {dim : Nat} {vss : List (List Int)} (x : VRow h c0 v dim vss) (hf : Fresh h c) (k : ∀ b, b < c → (∃ cs, Has h b (.cells cs)) → c0 ≤ b → h'.get b = h.get b) : VRow h' c0 v dim vss := by
 rcases x with x | ⟨b, vals, h1, h2, h3, h4, h5, h6⟩
 ·exact .inl x
 ·refine .inr ⟨b, vals, h1, h2, h3, (k b (h4.lt hf) ⟨_, h4⟩ h3).trans h4, h5, fun i zs hi => ?_⟩
  obtain ⟨g1, bi, g2, g3, g4⟩ := h6 i zs hi
  exact ⟨g1, bi, g2, g3, (k bi (g4.lt hf) ⟨_, g4⟩ g3).trans g4⟩
theorem VRow.val {h : T AObj} {c0 : Nat} {v : Value} {dim : Nat} {vss : List (List Int)} (x : VRow h c0 v dim vss) : ∃ oa, v = .slice oa vss.length vss.length := by
 rcases x with ⟨rfl, rfl⟩ | ⟨b, vals, h1, _⟩
 ·exact ⟨_, rfl⟩
 ·exact ⟨_, h1⟩
theorem VRow.at {h : T AObj} {c0 : Nat} {oa : Option Addr} {n cap dim : Nat} {vss : List (List Int)} (x : VRow h c0 (.slice oa n cap) dim vss) {i : Nat} {zs : List Int} (hi : vss[i]? = some zs) :
  zs.length = dim ∧ ∃ b vals bi, oa = some ⟨b, 0, some 1⟩ ∧ c0 ≤ b ∧ Has h b (.cells vals) ∧ nth vals (0 + i * 1) = some (.slice (some ⟨bi, 0, none⟩) dim dim) ∧ c0 ≤ bi ∧ Has h bi (.cells (zs.map (Value.int .i32))) := by
 rcases x with ⟨_, rfl⟩ | ⟨b, vals, h1, h2, h3, h4, h5, h6⟩
 ·cases hi
 ·obtain ⟨g1, bi, g2, g3, g4⟩ := h6 i zs hi
  simp only [Value.slice.injEq] at h1
  exact ⟨g1, b, vals, bi, h1.1, h3, h4, by rw [nth_eq, Nat.zero_add, Nat.mul_one]; exact g2, g3, g4⟩
def vecsZ (zss : List (List Int)) (dim n : Nat) : List (List Int) := (zss.take n).map fun zs => vecZ zs dim
def EVs (v : Value) (dim n : Nat) (lv : Value) (z : Int) (j17 : Value) : L :=
 .cons 0 v (.cons 1 (.int .i64 (dim : Int)) (.cons 2 (.int .i64 (n : Int)) (.cons 6 (.slice none 0 0) (.cons 7 lv (.cons 8 (.int .i64 z) (.cons 17 j17 .nil))))))
set_option maxHeartbeats 4000000 in
theorem vecs_spec (H : Std sm) {h : T AObj} {c : Nat} {rl wl : List Nat} (hf : Fresh h c) {v : Value} {zss : List (List Int)} (hv : VecsIn h v zss) (dim n : Nat) (hd : dim ≤ 1000) (hn : n ≤ 1000) (hb : zss.length ≤ 9223372036854775807) :
  ∃ r s', FnTo (Cs sm) eg 16 [v, .int .i64 (dim : Int), .int .i64 (n : Int)] ⟨h, c, rl, wl⟩ r s' ∧ VRow s'.h c r dim (vecsZ zss dim n) ∧ Ext ⟨h, c, rl, wl⟩ s' (fun _ => True) (fun _ => False) := by
 obtain ⟨oa, cap, rfl, hat⟩ := hv
 refine Fn.go (H 16 rfl) ex16 fn16 km16 rfl rfl ?_
 refine Zev ?_
 refine Zgo ?_
 refine Wx.loopE (fun k1 e s => ∃ (i : Nat) (z : Int) (lv j17 : Value) (h' : T AObj) (c' : Nat) (rl' wl' : List Nat), e = EVs (.slice oa zss.length cap) dim n lv z j17 ∧ z = i ∧ s = ⟨h', c', rl', wl'⟩ ∧ c ≤ c' ∧ Fresh h' c' ∧ Kp h h' c (fun _ => False) ∧ VRow h' c lv dim (vecsZ zss dim i) ∧ Lg c (fun _ => False) wl' ∧ i ≤ n ∧ i ≤ zss.length ∧ k1 = n - i) n (EVs (.slice oa zss.length cap) dim n (.slice none 0 0) 0 top) Zrs ?_ ?_ ?_
 ·unfold EVs
  exact Zek
 ·exact ⟨0, 0, _, _, _, _, _, _, rfl, rfl, rfl, Nat.le_refl _, Zfr, Zkp, .inl ⟨rfl, rfl⟩, Zlg, by omega, by omega, rfl⟩
 ·rintro k1 e s ⟨i, z, lv, j17, h', c', rl', wl', rfl, hz, rfl, hcc, hf', hkp, hV, hlw, hin, hil, rfl⟩
  unfold EVs
  have fin : ¬(i < zss.length ∧ i < n) → vecsZ zss dim i = vecsZ zss dim n := fun hi => by
   unfold vecsZ
   congr 1
   rcases Nat.lt_or_ge i zss.length with h | h
   ·rw [show i = n by omega]
   ·rw [List.take_of_length_le h, List.take_of_length_le (by omega)]
  have lgR : ∀ l : List Nat, Lg c (fun _ => True) l := fun l b hb => .inr trivial
  by_cases hi1 : i < zss.length
  ·by_cases hi2 : i < n
   ·obtain ⟨b, o, sp, cs, a, k, rfl, hc0, hn0, hr0⟩ := hat i zss[i] (List.getElem?_eq_getElem hi1)
    have lb := hc0.lt hf
    have hc1 : Cel h' b cs := by unfold Cel Has at hc0 ⊢; rw [hkp b lb (fun q => q)]; exact hc0
    have hr1 := Row.keepF hr0 hf (fun b hb => hkp b hb (fun q => q))
    refine Zgo ?_
    refine Zu (to_indexAddr (k := i) el22 rfl rfl hz hi1) ?_
    refine Zu (to_load (pl_ rfl) rfl hc1 (by omega) hn0) ?_
    refine Zgo ?_
    refine Wseq.call rfl rfl (vec_spec H Zfr rfl hr1 dim hd (fun _ => True) (fun _ _ => trivial)) ?_
    rintro w h1 c1 r1 w1 ⟨⟨rfl, hnew⟩, hext⟩
    have kp := Kp.ext (W := fun _ => False) (h := h) (c := c) hkp hext (by omega) (fun _ _ q => q)
    have lw := Lg.extW (W := fun _ => False) (c := c) Zlg hext (fun _ _ q => q)
    have fr1 := hext.fresh
    have le1 := hext.c
    have lnew := hnew.lt fr1
    simp only at le1 fr1 lnew
    have hbv' : ∀ b, blkOf lv = some b → b < c' := by
     intro b hb
     rcases hV with ⟨rfl, _⟩ | ⟨bl, vals, rfl, _, _, q, _⟩
     ·cases hb
     ·cases hb; exact q.lt hf'
    have hV1 := hV.keep hf' (fun b hb _ _ => hext.get hb (fun q => q))
    have hst : vecsZ zss dim (i + 1) = vecsZ zss dim i ++ [vecZ zss[i] dim] := by
     unfold vecsZ
     rw [List.take_succ_eq_append_getElem hi1, List.map_append]; rfl
    have hlen : (vecsZ zss dim i).length = i := by unfold vecsZ; rw [List.length_map, List.length_take]; omega
    have hbg : big = 1048576 := rfl
    rcases hV1 with ⟨rfl, hnil⟩ | ⟨bl, vals, rfl, hne, hbl, hbc, hvl, hel⟩
    ·refine Zgo ?_
     refine Zu (to_appNil ro22 sl22 rfl rfl (k := 0) Has.same.cel (by omega) (subN_all _ _ rfl) (by omega) Zfr) ?_
     refine Zgo ?_
     refine RoundE.go (n - (i + 1)) (EVs _ dim n _ (z + 1) _) (by omega) Zek ⟨i + 1, z + 1, _, _, _, _, _, _, rfl, by omega, rfl, by omega, Zfr, Zkp, ?_, Zlg, by omega, by omega, rfl⟩
     have hi0 : i = 0 := by rw [hnil] at hlen; simpa using hlen.symm
     rw [hst, hnil]
     refine .inr ⟨c1 + 1, [.slice (some ⟨c', 0, none⟩) dim dim], rfl, (fun e => by cases e), by omega, Has.same, rfl, fun j zs hj => ?_⟩
     cases j with
     | succ j => simp at hj
     | zero =>
      simp only [List.nil_append, List.getElem?_cons_zero, Option.some.injEq] at hj
      subst hj
      exact ⟨vecZ_len _ _, c', rfl, hcc, (hnew.other (by omega)).other (by omega)⟩
    ·have l3 := hbc.lt fr1
     refine Zgo ?_
     refine Zu (to_appOwn ro22 sl22 rfl rfl (k := 0) Has.same.cel (by omega) (subN_all _ _ rfl) (by omega) (by omega) (hbc.other (by omega)) (by omega) (subN_all _ _ (by omega)) (all_cons rfl all_nil) Zfr) ?_
     refine Zgo ?_
     refine RoundE.go (n - (i + 1)) (EVs _ dim n _ (z + 1) _) (by omega) Zek ⟨i + 1, z + 1, _, _, _, _, _, _, rfl, by omega, rfl, by omega, Zfr, Zkp, ?_, Zlg, by omega, by omega, rfl⟩
     rw [hst]
     refine .inr ⟨c1 + 1, _, ?_, (fun e => by simp at e), by omega, Has.same, ?_, fun j zs hj => ?_⟩
     ·rw [List.length_append]; rfl
     ·rw [List.length_append, List.length_append, hvl]; rfl
     ·rcases Nat.lt_or_ge j (vecsZ zss dim i).length with hj1 | hj1
      ·rw [List.getElem?_append_left hj1] at hj
       obtain ⟨g1, bi, g2, g3, g4⟩ := hel j zs hj
       refine ⟨g1, bi, by rw [List.getElem?_append_left (by omega)]; exact g2, g3, ?_⟩
       have := g4.lt fr1
       have nb : bi ≠ bl := by
        rintro rfl
        unfold Has at g4 hbc
        rw [g4] at hbc
        cases hbc
        rw [List.getElem?_map, Option.map_eq_some_iff] at g2
        obtain ⟨y, _, hy⟩ := g2
        cases hy
       exact ((g4.other (by omega)).other nb).other (by omega)
      ·rw [List.getElem?_append_right hj1] at hj
       have hj0 : j - (vecsZ zss dim i).length = 0 := by
        rcases Nat.eq_zero_or_pos (j - (vecsZ zss dim i).length) with q | q
        ·exact q
        ·rw [List.getElem?_eq_none (by simp; omega)] at hj; cases hj
       rw [hj0] at hj
       simp only [List.getElem?_cons_zero, Option.some.injEq] at hj
       subst hj
       refine ⟨vecZ_len _ _, c', by rw [List.getElem?_append_right (by omega), hvl, hj0]; rfl, hcc, ?_⟩
       have nb : c' ≠ bl := by have := hbv' bl rfl; omega
       exact ((hnew.other (by omega)).other nb).other (by omega)
   ·refine Zgo ?_
    refine ⟨.inr rfl, Wres.one rfl ⟨?_, ?_⟩⟩
    ·rw [← fin (by omega)]; exact hV
    ·exact Ext.of hcc hf' hkp (lgR _) Zlg
  ·refine Zgo ?_
   refine ⟨.inr rfl, Wres.one rfl ⟨?_, ?_⟩⟩
   ·rw [← fin (by omega)]; exact hV
   ·exact Ext.of hcc hf' hkp (lgR _) Zlg
end Go.Ab.Seat
end
section
/- The places of middles, the nearest first (the abstract machine). -/
namespace Go.Ab.Seat
open Go.Extern Go.Proofs
set_option maxRecDepth 4000
def GVals (h : T AObj) (dim : Nat) (mid : List (List Int)) (U : Nat → Prop) (vals : List Value) : Prop :=
 vals.length = mid.length ∧ ∀ (i : Nat) (zs : List Int), mid[i]? = some zs → zs.length = dim ∧ Bnd zs ∧ ∃ a k, vals[i]? = some (.slice a dim k) ∧ Row h (.slice a dim k) dim 1 (zs.map (Value.int .i32)) ∧ ∀ b', blkOf (.slice a dim k) = some b' → U b'
theorem GVals.nil {h : T AObj} {dim : Nat} {U : Nat → Prop} : GVals h dim [] U [] := ⟨rfl, fun i zs hi => by cases hi⟩
theorem GVals.keep {h h' : T AObj} {c dim : Nat} {mid : List (List Int)} {U U' : Nat → Prop} {vals : List Value} (x : GVals h dim mid U vals) (hf : Fresh h c) (hU : ∀ b, U b → U' b) (k : ∀ b, U b → b < c → (∃ cs, Cel h b cs) → h'.get b = h.get b) : GVals h' dim mid U' vals := by
 refine ⟨x.1, fun i zs hi => ?_⟩
 obtain ⟨g1, g2, a, kk, g3, g4, g5⟩ := x.2 i zs hi
 refine ⟨g1, g2, a, kk, g3, ?_, fun b' hb' => hU b' (g5 b' hb')⟩
 rcases g4 with g4 | ⟨b', o, sp', cap', cs, e, g6, g7⟩
 ·exact .inl g4
 ·refine .inr ⟨b', o, sp', cap', cs, e, ?_, g7⟩
  have q := k b' (g5 b' (by rw [e]; rfl)) (g6.lt hf) ⟨_, g6⟩
  unfold Cel Has at g6 ⊢
  rw [q]; exact g6
def MRow (h : T AObj) (v : Value) (dim : Nat) (mid : List (List Int)) (U : Nat → Prop) : Prop :=
 (v = .slice none 0 0 ∧ mid = []) ∨ ∃ b sp cap vals, v = .slice (some ⟨b, 0, sp⟩) mid.length cap ∧ mid ≠ [] ∧ mid.length ≤ cap ∧ U b ∧ Has h b (.cells vals) ∧ GVals h dim mid U vals
def GRow (h : T AObj) (v : Value) (dim : Nat) (mid : List (List Int)) (U : Nat → Prop) : Prop :=
 (v = .slice none 0 0 ∧ mid = []) ∨ ∃ b vals, v = .slice (some ⟨b, 0, some 1⟩) mid.length mid.length ∧ mid ≠ [] ∧ U b ∧ Has h b (.cells vals) ∧ GVals h dim mid U vals
theorem GRow.keep {h h' : T AObj} {c : Nat} {v : Value} {dim : Nat} {mid : List (List Int)} {U U' : Nat → Prop} (x : GRow h v dim mid U) (hf : Fresh h c) (hU : ∀ b, U b → U' b) (k : ∀ b, U b → b < c → (∃ cs, Cel h b cs) → h'.get b = h.get b) : GRow h' v dim mid U' := by
 rcases x with x | ⟨b, vals, h1, h2, h3, h4, h5⟩
 ·exact .inl x
 ·exact .inr ⟨b, vals, h1, h2, hU b h3, (k b h3 (h4.lt hf) ⟨_, h4.cel⟩).trans h4, h5.keep hf hU k⟩
theorem MRow.val {h : T AObj} {v : Value} {dim : Nat} {mid : List (List Int)} {U : Nat → Prop} (x : MRow h v dim mid U) : ∃ oa cap, v = .slice oa mid.length cap := by
 rcases x with ⟨rfl, rfl⟩ | ⟨b, sp, cap, vals, h1, _⟩
 ·exact ⟨_, _, rfl⟩
 ·exact ⟨_, _, h1⟩
theorem MRow.at {h : T AObj} {oa : Option Addr} {n cap dim : Nat} {mid : List (List Int)} {U : Nat → Prop} (x : MRow h (.slice oa n cap) dim mid U) {i : Nat} {zs : List Int} (hi : mid[i]? = some zs) :
  zs.length = dim ∧ Bnd zs ∧ ∃ b sp vals a k, oa = some ⟨b, 0, sp⟩ ∧ U b ∧ Has h b (.cells vals) ∧ nth vals (0 + i * 1) = some (.slice a dim k) ∧ Row h (.slice a dim k) dim 1 (zs.map (Value.int .i32)) ∧ ∀ b', blkOf (.slice a dim k) = some b' → U b' := by
 rcases x with ⟨_, rfl⟩ | ⟨b, sp, cap', vals, h1, h2, h3, h4, h5, h6, h7⟩
 ·cases hi
 ·obtain ⟨g1, g2, a, k, g3, g4, g5⟩ := h7 i zs hi
  simp only [Value.slice.injEq] at h1
  exact ⟨g1, g2, b, sp, vals, a, k, h1.1, h4, h5, by rw [nth_eq, Nat.zero_add, Nat.mul_one]; exact g3, g4, g5⟩
theorem MRow.keep {h h' : T AObj} {c : Nat} {v : Value} {dim : Nat} {mid : List (List Int)} {U U' : Nat → Prop} (x : MRow h v dim mid U) (hf : Fresh h c) (hU : ∀ b, U b → U' b) (k : ∀ b, U b → b < c → (∃ cs, Cel h b cs) → h'.get b = h.get b) : MRow h' v dim mid U' := by
 rcases x with x | ⟨b, sp, cap, vals, h1, h2, h3, h4, h5, h6⟩
 ·exact .inl x
 ·exact .inr ⟨b, sp, cap, vals, h1, h2, h3, hU b h4, (k b h4 (h5.lt hf) ⟨_, h5.cel⟩).trans h5, h6.keep hf hU k⟩
def hitO (qs : List Int) (mid : List (List Int)) : List Ht := (List.range mid.length).map fun (i : Nat) => ⟨(i : Int), scoreZ 1 (mid.getD i []) qs⟩
theorem hitO_len (qs : List Int) (mid : List (List Int)) : (hitO qs mid).length = mid.length := by unfold hitO; simp
theorem hitO_nodup (qs : List Int) (mid : List (List Int)) : ((hitO qs mid).map Ht.id).Nodup := by
 unfold hitO
 rw [List.map_map]
 exact (List.pairwise_map.2 ((List.nodup_range (n := mid.length)).imp fun {a b} h => by
  show ((a : Nat) : Int) ≠ ((b : Nat) : Int)
  omega))
def ordZ (mid : List (List Int)) (qs : List Int) : List Int := (bestOf mid.length (hitO qs mid)).map Ht.id
def HI (h : T AObj) (c0 : Nat) (v : Value) (l : List Int) : Prop := (v = .slice none 0 0 ∧ l = []) ∨ ∃ b, v = .slice (some ⟨b, 0, some 1⟩) l.length l.length ∧ l ≠ [] ∧ c0 ≤ b ∧ Has h b (.cells (l.map (Value.int .i64)))
end Go.Ab.Seat
end
section
/- The nearest middle; vectors copied; an index of lists: made (the abstract machine). -/
namespace Go.Ab.Seat
open Go.Extern Go.Proofs
set_option maxRecDepth 4000
theorem HI.val {h : T AObj} {c : Nat} {v : Value} {l : List Int} (x : HI h c v l) : ∃ oa, v = .slice oa l.length l.length ∧ Row h v l.length 1 (l.map (Value.int .i64)) ∧ ∀ b, blkOf v = some b → c ≤ b := by
 rcases x with ⟨rfl, rfl⟩ | ⟨b, rfl, _, h1, h2⟩
 ·exact ⟨_, rfl, .inl ⟨rfl, rfl, _, _, rfl⟩, fun b hb => by cases hb⟩
 ·exact ⟨_, rfl, .inr ⟨b, 0, _, _, _, rfl, h2.cel, subN_all _ _ (by simp)⟩, fun b hb => by cases hb; exact h1⟩
def nearZ (mid : List (List Int)) (qs : List Int) : Int := if mid.length = 0 then -1 else (ordZ mid qs).getD 0 0
theorem GVals.ne {h : T AObj} {dim b : Nat} {mid : List (List Int)} {U : Nat → Prop} {vals : List Value} (x : GVals h dim mid U vals) (hd : 1 ≤ dim) (hb : Has h b (.cells vals)) {a : Option Addr} {k : Nat} {zs : List Int} (hr : Row h (.slice a dim k) dim 1 (zs.map (Value.int .i32))) (hz : zs.length = dim) : blkOf (.slice a dim k) ≠ some b := by
 intro e
 rcases hr with ⟨_, q, _⟩ | ⟨b', o, sp', cap', cs, e1, g6, g7⟩
 ·omega
 ·rw [e1] at e
  obtain rfl : b' = b := by simpa [blkOf] using e
  have hcs : cs = vals := by
   rcases g6 with q | q | q
   ·have := q.symm.trans hb
    simpa using this
   ·have := q.symm.trans hb
    simp at this
   ·have := q.symm.trans hb
    simp at this
  subst hcs
  have h1 := (subN_some _ _ _ _ g7).2.2 0 (by omega)
  rw [Nat.add_zero, List.getElem?_map, List.getElem?_eq_getElem (by omega : 0 < zs.length)] at h1
  have h2 := (List.getElem?_eq_some_iff.1 h1.symm).1
  rw [x.1] at h2
  obtain ⟨_, _, a', k', h3, _⟩ := x.2 o mid[o] (List.getElem?_eq_getElem h2)
  rw [h3] at h1
  cases h1
end Go.Ab.Seat
end
section
/- The places of middles, plainly. -/
namespace Go.Ab.Seat
open Go.Extern Go.Proofs
theorem putM_len (r : Rc) : ∀ l : List Rc, (putM r l).length ≤ l.length + 1
 | [] => by simp [putM]
 | x :: l => by
  have := putM_len r l
  unfold putM
  split
  ·simp
  ·split
   ·simp
   ·simp; omega
theorem VecsIn.keep {h h' : T AObj} {c : Nat} {v : Value} {zss : List (List Int)} (x : VecsIn h v zss) (hf : Fresh h c) (k : ∀ b, b < c → h'.get b = h.get b) : VecsIn h' v zss := by
 obtain ⟨oa, cap, e, hat⟩ := x
 refine ⟨oa, cap, e, fun i zs hi => ?_⟩
 obtain ⟨b, o, sp, cs, a, kk, e1, e2, e3, e4⟩ := hat i zs hi
 refine ⟨b, o, sp, cs, a, kk, e1, ?_, e3, Row.keepF e4 hf k⟩
 have q := k b (e2.lt hf)
 unfold Cel Has at e2 ⊢
 rw [q]; exact e2
end Go.Ab.Seat
end
section
/- Middles, plainly: the whole part of a mean, towards below; the first ones that are unlike; rounds. -/
namespace Go.Ab.Seat
open Go.Extern Go.Proofs
end Go.Ab.Seat
end
section
/- Maps by ints: their keys are apart; what put and del make of them (plain lists). -/
namespace Go.Ab.Seat
open Go.Extern Go.Proofs
theorem mapA_eq {α β : Type} (f : α → β) (l : List α) : mapA f l = l.map f := by
 induction l with
 | nil => rfl
 | cons x xs ih => show f x :: mapA f xs = _; rw [ih]; rfl
theorem nodup_apartI {l : List Int} (h : l.Nodup) : apartI l = true := by
 induction l with
 | nil => rfl
 | cons x xs ih =>
  obtain ⟨h1, h2⟩ := List.nodup_cons.1 h
  rw [apartI_cons]
  cases hm : memI x xs with
  | true => exact absurd ((memI_eq x xs).1 hm) h1
  | false => exact ih h2
theorem nodup_apartN {l : List Nat} (h : l.Nodup) : apartN l = true := by
 induction l with
 | nil => rfl
 | cons x xs ih =>
  obtain ⟨h1, h2⟩ := List.nodup_cons.1 h
  rw [apartN_cons]
  cases hm : mem x xs with
  | true => exact absurd ((mem_eq x xs).1 hm) h1
  | false => exact ih h2
structure Keyed (es : List (Value × Value × Nat)) (n : Nat) (ids : List Int) : Prop where
 keys : es.map (fun e => e.1) = ids.map (Value.int .i64)
 nodup : ids.Nodup
 born : (es.map fun e => e.2.2).Nodup
 lt : ∀ e ∈ es, e.2.2 < n
 wf : ∀ x ∈ ids, wfI x = true
theorem Keyed.nil (n : Nat) : Keyed [] n [] := ⟨rfl, .nil, .nil, (fun e he => by cases he), (fun x hx => by cases hx)⟩
theorem intsOf_ints {ids : List Int} (h : ∀ x ∈ ids, wfI x = true) : intsOf (ids.map (Value.int .i64)) = some ids := by
 induction ids with
 | nil => rfl
 | cons x xs ih =>
  rw [List.map_cons, intsOf_cons, ih fun y hy => h y (List.mem_cons_of_mem _ hy)]
  have : intOf1 (.int .i64 x) = some x := by
   unfold intOf1
   simp only [h x (List.mem_cons_self ..)]
  rw [this]
theorem Keyed.keyInts {es : List (Value × Value × Nat)} {n : Nat} {ids : List Int} (k : Keyed es n ids) : Go.Ab.keyInts es n = some ids := by
 unfold Go.Ab.keyInts
 rw [mapA_eq, k.keys, intsOf_ints k.wf]
 have h3 : allB (fun e : Value × Value × Nat => Nat.blt e.2.2 n) es = true := by
  rw [allB_eq, List.all_eq_true]
  intro e he
  have := k.lt e he
  exact blt_iff.2 this
 rw [mapA_eq]
 simp only [nodup_apartI k.nodup, nodup_apartN k.born, h3]
 rfl
theorem findI_none_iff {x : Int} : ∀ {es : List (Value × Value × Nat)} {ids : List Int}, es.map (fun e => e.1) = ids.map (Value.int .i64) → (findI x es = none ↔ x ∉ ids)
 | [], [], _ => ⟨(fun _ h => by cases h), (fun _ => rfl)⟩
 | [], _ :: _, h => by cases h
 | _ :: _, [], h => by cases h
 | (a, v, b) :: es, y :: ids, h => by
  simp only [List.map_cons, List.cons.injEq] at h
  obtain ⟨rfl, h⟩ := h
  have ih := findI_none_iff (x := x) h
  unfold findI
  by_cases hxy : x = y
  ·rw [if_pos hxy]
   exact ⟨(fun h => by cases h), (fun h => absurd (by rw [hxy]; exact List.mem_cons_self ..) h)⟩
  ·rw [if_neg hxy, Option.map_eq_none_iff, ih, List.mem_cons]
   exact ⟨fun h1 h2 => h2.elim hxy h1, fun h1 h2 => h1 (.inr h2)⟩
theorem findI_some_get {x : Int} : ∀ {es : List (Value × Value × Nat)} {ids : List Int} {i : Nat} {v : Value}, es.map (fun e => e.1) = ids.map (Value.int .i64) → findI x es = some (i, v) → ids[i]? = some x ∧ ∃ b, es[i]? = some (.int .i64 x, v, b)
 | [], _, _, _, _, h => by cases h
 | _ :: _, [], _, _, h, _ => by cases h
 | (a, w, b) :: es, y :: ids, i, v, h, hf => by
  simp only [List.map_cons, List.cons.injEq] at h
  obtain ⟨rfl, h⟩ := h
  unfold findI at hf
  by_cases hxy : x = y
  ·rw [if_pos hxy] at hf
   cases hf
   subst hxy
   exact ⟨rfl, b, rfl⟩
  ·rw [if_neg hxy, Option.map_eq_some_iff] at hf
   obtain ⟨p, hp, he⟩ := hf
   cases he
   obtain ⟨h1, b', h2⟩ := findI_some_get h hp
   exact ⟨by simpa using h1, b', by simpa using h2⟩
theorem modA_keys {x : Int} {v : Value} : ∀ {es : List (Value × Value × Nat)} {ids : List Int} {i : Nat}, es.map (fun e => e.1) = ids.map (Value.int .i64) → ids[i]? = some x → (modA (.int .i64 x) v es i).map (fun e => e.1) = ids.map (Value.int .i64) ∧ (modA (.int .i64 x) v es i).map (fun e => e.2.2) = es.map (fun e => e.2.2)
 | [], [], _, _, h => by cases h
 | [], _ :: _, _, h, _ => by cases h
 | _ :: _, [], _, h, _ => by cases h
 | (a, w, b) :: es, y :: ids, 0, h, hi => by
  simp only [List.map_cons, List.cons.injEq] at h
  obtain ⟨rfl, h⟩ := h
  cases hi
  exact ⟨by simp only [modA, List.map_cons, h], rfl⟩
 | (a, w, b) :: es, y :: ids, i + 1, h, hi => by
  simp only [List.map_cons, List.cons.injEq] at h
  obtain ⟨rfl, h⟩ := h
  obtain ⟨h1, h2⟩ := modA_keys (v := v) h (by simpa using hi)
  exact ⟨by simp only [modA, List.map_cons, h1], by simp only [modA, List.map_cons, h2]⟩
def putIds (x : Int) (ids : List Int) : List Int := if x ∈ ids then ids else ids ++ [x]
theorem Keyed.put {es : List (Value × Value × Nat)} {n : Nat} {ids : List Int} (k : Keyed es n ids) {x : Int} (hw : wfI x = true) (v : Value) : Keyed (putI .i64 x v n es).1 (putI .i64 x v n es).2 (putIds x ids) := by
 unfold putI putIds
 cases hf : findI x es with
 | none =>
  have hx := (findI_none_iff k.keys).1 hf
  rw [if_neg hx]
  refine ⟨by simp [k.keys], ?_, ?_, ?_, ?_⟩
  ·exact List.nodup_append.2 ⟨k.nodup, List.nodup_cons.2 ⟨List.not_mem_nil, .nil⟩, fun a ha b hb => by
    obtain rfl := List.mem_singleton.1 hb
    rintro rfl
    exact hx ha⟩
  ·rw [List.map_append]
   refine List.nodup_append.2 ⟨k.born, List.nodup_cons.2 ⟨List.not_mem_nil, .nil⟩, fun a ha b hb => ?_⟩
   obtain rfl := List.mem_singleton.1 hb
   obtain ⟨e, he, rfl⟩ := List.mem_map.1 ha
   have := k.lt e he
   omega
  ·intro e he
   rcases List.mem_append.1 he with he | he
   ·have := k.lt e he
    show e.2.2 < n + 1
    omega
   ·obtain rfl := List.mem_singleton.1 he
    exact Nat.lt_succ_self n
  ·intro y hy
   rcases List.mem_append.1 hy with hy | hy
   ·exact k.wf y hy
   ·obtain rfl := List.mem_singleton.1 hy
    exact hw
 | some p =>
  obtain ⟨i, w⟩ := p
  obtain ⟨h1, b, h2⟩ := findI_some_get k.keys hf
  rw [if_pos (List.mem_of_getElem? h1)]
  obtain ⟨h3, h4⟩ := modA_keys (v := v) k.keys h1
  refine ⟨h3, k.nodup, by rw [h4]; exact k.born, fun e he => ?_, k.wf⟩
  have : e.2.2 ∈ (modA (.int .i64 x) v es i).map fun e => e.2.2 := List.mem_map_of_mem he
  rw [h4] at this
  obtain ⟨e', he', h5⟩ := List.mem_map.1 this
  rw [← h5]
  exact k.lt e' he'
theorem Keyed.del {es : List (Value × Value × Nat)} {n : Nat} {ids : List Int} (k : Keyed es n ids) (x : Int) : ∃ ids', Keyed (delI x es) n ids' ∧ (∀ y, y ∈ ids' ↔ y ∈ ids ∧ y ≠ x) ∧ ids'.length = (if x ∈ ids then ids.length - 1 else ids.length) := by
 unfold delI
 cases hf : findI x es with
 | none =>
  have hx := (findI_none_iff k.keys).1 hf
  exact ⟨ids, k, fun y => ⟨fun h => ⟨h, fun e => hx (e ▸ h)⟩, fun h => h.1⟩, by rw [if_neg hx]⟩
 | some p =>
  obtain ⟨i, w⟩ := p
  obtain ⟨h1, b, h2⟩ := findI_some_get k.keys hf
  have hi := (List.getElem?_eq_some_iff.1 h1).1
  simp only
  rw [eraseA_eq]
  have hsub : (ids.eraseIdx i).Sublist ids := List.eraseIdx_sublist ids i
  have hsube : (es.eraseIdx i).Sublist es := List.eraseIdx_sublist es i
  refine ⟨ids.eraseIdx i, ⟨?_, k.nodup.sublist hsub, k.born.sublist (hsube.map _), fun e he => k.lt e (hsube.subset he), fun y hy => k.wf y (hsub.subset hy)⟩, fun y => ?_, ?_⟩
  ·have hm : ∀ {α β : Type} (f : α → β) (l : List α) (i : Nat), (l.eraseIdx i).map f = (l.map f).eraseIdx i := by
    intro α β f l
    induction l with
    | nil => intro i; rfl
    | cons a l ih =>
     intro i
     cases i with
     | zero => rfl
     | succ i => simp only [List.eraseIdx_cons_succ, List.map_cons, ih]
   rw [hm, k.keys, ← hm]
  ·rw [List.mem_eraseIdx_iff_getElem?]
   constructor
   ·rintro ⟨j, hj, hy⟩
    refine ⟨List.mem_of_getElem? hy, ?_⟩
    rintro rfl
    obtain ⟨hj1, hj2⟩ := List.getElem?_eq_some_iff.1 hy
    obtain ⟨hi1, hi2⟩ := List.getElem?_eq_some_iff.1 h1
    exact hj ((List.getElem_inj k.nodup).1 (hj2.trans hi2.symm))
   ·rintro ⟨hy, hne⟩
    obtain ⟨j, hj⟩ := List.mem_iff_getElem?.1 hy
    refine ⟨j, ?_, hj⟩
    rintro rfl
    rw [h1] at hj
    cases hj
    exact hne rfl
  ·rw [if_pos (List.mem_of_getElem? h1), List.length_eraseIdx_of_lt hi]
noncomputable def valI (x : Int) (es : List (Value × Value × Nat)) : Option Value := (findI x es).map fun p => p.2
theorem valI_none {x : Int} {es : List (Value × Value × Nat)} : valI x es = none ↔ findI x es = none := by unfold valI; exact Option.map_eq_none_iff
theorem valI_some {x : Int} {es : List (Value × Value × Nat)} {v : Value} (h : valI x es = some v) : ∃ i, findI x es = some (i, v) := by
 unfold valI at h
 obtain ⟨⟨i, w⟩, h1, h2⟩ := Option.map_eq_some_iff.1 h
 cases h2
 exact ⟨i, h1⟩
theorem valI_cons (x : Int) (k v : Value) (b : Nat) (es : List (Value × Value × Nat)) (y : Int) (hk : k = .int .i64 y) : valI x ((k, v, b) :: es) = if x = y then some v else valI x es := by
 subst hk
 unfold valI
 rw [findI]
 by_cases h : x = y
 ·rw [if_pos h, if_pos h]; rfl
 ·rw [if_neg h, if_neg h]
  cases findI x es <;> rfl
theorem valI_app (x y : Int) (v : Value) (b : Nat) : ∀ {es : List (Value × Value × Nat)} {ids : List Int}, es.map (fun e => e.1) = ids.map (Value.int .i64) → y ∉ ids → valI x (es ++ [(.int .i64 y, v, b)]) = if x = y then some v else valI x es
 | [], _, _, _ => by rw [List.nil_append, valI_cons x _ v b [] y rfl]
 | (k, w, b') :: es, [], h, _ => by cases h
 | (k, w, b') :: es, z :: ids, h, hy => by
  simp only [List.map_cons, List.cons.injEq] at h
  obtain ⟨h1, h2⟩ := h
  rw [List.cons_append, valI_cons x k w b' _ z h1, valI_cons x k w b' _ z h1, valI_app x y v b h2 fun q => hy (List.mem_cons_of_mem _ q)]
  by_cases hz : x = z
  ·rw [if_pos hz, if_pos hz, if_neg fun e => hy (by rw [← e, hz]; exact List.mem_cons_self ..)]
  ·rw [if_neg hz, if_neg hz]
theorem valI_mod (x y : Int) (v : Value) : ∀ {es : List (Value × Value × Nat)} {ids : List Int} {i : Nat}, es.map (fun e => e.1) = ids.map (Value.int .i64) → ids.Nodup → ids[i]? = some y → valI x (modA (.int .i64 y) v es i) = if x = y then some v else valI x es
 | [], [], _, _, _, h => by cases h
 | [], _ :: _, _, h, _, _ => by cases h
 | _ :: _, [], _, h, _, _ => by cases h
 | (k, w, b) :: es, z :: ids, 0, h, hn, hi => by
  simp only [List.map_cons, List.cons.injEq] at h
  cases hi
  show valI x ((.int .i64 y, v, b) :: es) = _
  rw [valI_cons x _ v b es y rfl, valI_cons x k w b es y h.1]
  by_cases hz : x = y
  ·rw [if_pos hz, if_pos hz]
  ·rw [if_neg hz, if_neg hz, if_neg hz]
 | (k, w, b) :: es, z :: ids, i + 1, h, hn, hi => by
  simp only [List.map_cons, List.cons.injEq] at h
  obtain ⟨h1, h2⟩ := h
  obtain ⟨n1, n2⟩ := List.nodup_cons.1 hn
  have hi' : ids[i]? = some y := by simpa using hi
  show valI x ((k, w, b) :: modA (.int .i64 y) v es i) = _
  rw [valI_cons x k w b _ z h1, valI_cons x k w b es z h1, valI_mod x y v h2 n2 hi']
  by_cases hz : x = z
  ·rw [if_pos hz, if_pos hz, if_neg fun e => n1 (by rw [← hz, e]; exact List.mem_of_getElem? hi')]
  ·rw [if_neg hz, if_neg hz]
theorem valI_put {es : List (Value × Value × Nat)} {n : Nat} {ids : List Int} (k : Keyed es n ids) (x y : Int) (v : Value) : valI x (putI .i64 y v n es).1 = if x = y then some v else valI x es := by
 unfold putI
 cases hf : findI y es with
 | none => exact valI_app x y v n k.keys ((findI_none_iff k.keys).1 hf)
 | some p =>
  obtain ⟨i, w⟩ := p
  exact valI_mod x y v k.keys k.nodup (findI_some_get k.keys hf).1
theorem valI_erase (x y : Int) : ∀ {es : List (Value × Value × Nat)} {ids : List Int} {i : Nat}, es.map (fun e => e.1) = ids.map (Value.int .i64) → ids.Nodup → ids[i]? = some y → valI x (es.eraseIdx i) = if x = y then none else valI x es
 | [], [], _, _, _, h => by cases h
 | [], _ :: _, _, h, _, _ => by cases h
 | _ :: _, [], _, h, _, _ => by cases h
 | (k, w, b) :: es, z :: ids, 0, h, hn, hi => by
  simp only [List.map_cons, List.cons.injEq] at h
  cases hi
  obtain ⟨n1, n2⟩ := List.nodup_cons.1 hn
  rw [List.eraseIdx_cons_zero, valI_cons x k w b es y h.1]
  by_cases hz : x = y
  ·rw [if_pos hz, hz]
   exact valI_none.2 ((findI_none_iff h.2).2 n1)
  ·rw [if_neg hz, if_neg hz]
 | (k, w, b) :: es, z :: ids, i + 1, h, hn, hi => by
  simp only [List.map_cons, List.cons.injEq] at h
  obtain ⟨h1, h2⟩ := h
  obtain ⟨n1, n2⟩ := List.nodup_cons.1 hn
  have hi' : ids[i]? = some y := by simpa using hi
  rw [List.eraseIdx_cons_succ, valI_cons x k w b _ z h1, valI_cons x k w b es z h1, valI_erase x y h2 n2 hi']
  by_cases hz : x = z
  ·rw [if_pos hz, if_pos hz, if_neg fun e => n1 (by rw [← hz, e]; exact List.mem_of_getElem? hi')]
  ·rw [if_neg hz, if_neg hz]
theorem valI_del {es : List (Value × Value × Nat)} {n : Nat} {ids : List Int} (k : Keyed es n ids) (x y : Int) : valI x (delI y es) = if x = y then none else valI x es := by
 unfold delI
 cases hf : findI y es with
 | none =>
  by_cases hz : x = y
  ·rw [if_pos hz, hz]
   exact valI_none.2 hf
  ·rw [if_neg hz]
 | some p =>
  obtain ⟨i, w⟩ := p
  simp only
  rw [eraseA_eq]
  exact valI_erase x y k.keys k.nodup (findI_some_get k.keys hf).1
theorem Keyed.ks {es : List (Value × Value × Nat)} {n : Nat} {ids : List Int} (k : Keyed es n ids) : KeysI .i64 es := fun p hp => by
 have : p.1 ∈ es.map fun e => e.1 := List.mem_map_of_mem hp
 rw [k.keys] at this
 obtain ⟨y, _, hy⟩ := List.mem_map.1 this
 exact ⟨y, hy.symm⟩
end Go.Ab.Seat
end
