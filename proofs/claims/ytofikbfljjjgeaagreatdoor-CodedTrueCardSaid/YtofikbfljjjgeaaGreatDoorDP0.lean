import Derived.Test.YtofikbfljjjgeaaGreatDoorDO1
import Derived.Test.YtofikbfljjjgeaaGreatDoorE50
import Derived.Test.YtofikbfljjjgeaaGreatDoorDO2
set_option linter.unusedVariables false
set_option linter.unusedSimpArgs false
section
/- Vectors that come in, cut to size; hits, ids compared (the abstract machine). -/
namespace Go.Ab.Seat
open Go.Extern Go.Proofs
set_option maxRecDepth 4000
variable {sm : Nat → Option (List Value → M Value)}
def VecsIn (h : T AObj) (v : Value) (zss : List (List Int)) : Prop :=
 ∃ oa cap, v = .slice oa zss.length cap ∧ ∀ (i : Nat) (zs : List Int), zss[i]? = some zs → ∃ b o sp cs a k, oa = some ⟨b, o, sp⟩ ∧ Cel h b cs ∧ nth cs (o + i * 1) = some (.slice a zs.length k) ∧ Row h (.slice a zs.length k) zs.length 1 (zs.map (Value.int .i32))
def VRow (h : T AObj) (c0 : Nat) (v : Value) (dim : Nat) (vss : List (List Int)) : Prop :=
 (v = .slice none 0 0 ∧ vss = []) ∨ ∃ b vals, v = .slice (some ⟨b, 0, some 1⟩) vss.length vss.length ∧ vss ≠ [] ∧ c0 ≤ b ∧ Has h b (.cells vals) ∧ vals.length = vss.length ∧ ∀ (i : Nat) (zs : List Int), vss[i]? = some zs → zs.length = dim ∧ ∃ bi, vals[i]? = some (.slice (some ⟨bi, 0, none⟩) dim dim) ∧ c0 ≤ bi ∧ Has h bi (.cells (zs.map (Value.int .i32)))
theorem VRow.keep {h h' : T AObj} {c c0 : Nat} {v : Value} {dim : Nat} {vss : List (List Int)} (x : VRow h c0 v dim vss) (hf : Fresh h c) (k : ∀ b, b < c → (∃ cs, Has h b (.cells cs)) → c0 ≤ b → h'.get b = h.get b) : VRow h' c0 v dim vss := by
 rcases x with x | ⟨b, vals, h1, h2, h3, h4, h5, h6⟩
 ·exact .inl x
 ·refine .inr ⟨b, vals, h1, h2, h3, (k b (h4.lt hf) ⟨_, h4⟩ h3).trans h4, h5, fun i zs hi => ?_⟩
  obtain ⟨g1, bi, g2, g3, g4⟩ := h6 i zs hi
  exact ⟨g1, bi, g2, g3, (k bi (g4.lt hf) ⟨_, g4⟩ g3).trans g4⟩
theorem VRow.val {h : T AObj} {c0 : Nat} {v : Value} {dim : Nat} {vss : List (List Int)} (x : VRow h c0 v dim vss) : ∃ oa, v = .slice oa vss.length vss.length := by
 rcases x with ⟨rfl, rfl⟩ | ⟨b, vals, h1, _⟩
 ·exact ⟨_, rfl⟩
 ·exact ⟨_, h1⟩
theorem VRow.at {h : T AObj} {c0 : Nat} {oa : Option Addr} {n cap dim : Nat} {vss : List (List Int)} (x : VRow h c0 (.slice oa n cap) dim vss) {i : Nat} {zs : List Int} (hi : vss[i]? = some zs) :
  zs.length = dim ∧ ∃ b vals bi, oa = some ⟨b, 0, some 1⟩ ∧ c0 ≤ b ∧ Has h b (.cells vals) ∧ nth vals (0 + i * 1) = some (.slice (some ⟨bi, 0, none⟩) dim dim) ∧ c0 ≤ bi ∧ Has h bi (.cells (zs.map (Value.int .i32))) := by
 rcases x with ⟨_, rfl⟩ | ⟨b, vals, h1, h2, h3, h4, h5, h6⟩
 ·cases hi
 ·obtain ⟨g1, bi, g2, g3, g4⟩ := h6 i zs hi
  simp only [Value.slice.injEq] at h1
  exact ⟨g1, b, vals, bi, h1.1, h3, h4, by rw [nth_eq, Nat.zero_add, Nat.mul_one]; exact g2, g3, g4⟩
def vecsZ (zss : List (List Int)) (dim n : Nat) : List (List Int) := (zss.take n).map fun zs => vecZ zs dim
def EVs (v : Value) (dim n : Nat) (lv : Value) (z : Int) (j17 : Value) : L :=
 .cons 0 v (.cons 1 (.int .i64 (dim : Int)) (.cons 2 (.int .i64 (n : Int)) (.cons 6 (.slice none 0 0) (.cons 7 lv (.cons 8 (.int .i64 z) (.cons 17 j17 .nil))))))
set_option maxHeartbeats 4000000 in
theorem vecs_spec (H : Std sm) {h : T AObj} {c : Nat} {rl wl : List Nat} (hf : Fresh h c) {v : Value} {zss : List (List Int)} (hv : VecsIn h v zss) (dim n : Nat) (hd : dim ≤ 1000) (hn : n ≤ 1000) (hb : zss.length ≤ 9223372036854775807) :
  ∃ r s', FnTo (Cs sm) eg 16 [v, .int .i64 (dim : Int), .int .i64 (n : Int)] ⟨h, c, rl, wl⟩ r s' ∧ VRow s'.h c r dim (vecsZ zss dim n) ∧ Ext ⟨h, c, rl, wl⟩ s' (fun _ => True) (fun _ => False) := by
 obtain ⟨oa, cap, rfl, hat⟩ := hv
 refine Fn.go (H 16 rfl) ex16 fn16 km16 rfl rfl ?_
 refine Zev ?_
 refine Zgo ?_
 refine Wx.loopE (fun k1 e s => ∃ (i : Nat) (z : Int) (lv j17 : Value) (h' : T AObj) (c' : Nat) (rl' wl' : List Nat), e = EVs (.slice oa zss.length cap) dim n lv z j17 ∧ z = i ∧ s = ⟨h', c', rl', wl'⟩ ∧ c ≤ c' ∧ Fresh h' c' ∧ Kp h h' c (fun _ => False) ∧ VRow h' c lv dim (vecsZ zss dim i) ∧ Lg c (fun _ => False) wl' ∧ i ≤ n ∧ i ≤ zss.length ∧ k1 = n - i) n (EVs (.slice oa zss.length cap) dim n (.slice none 0 0) 0 top) Zrs ?_ ?_ ?_
 ·unfold EVs
  exact Zek
 ·exact ⟨0, 0, _, _, _, _, _, _, rfl, rfl, rfl, Nat.le_refl _, Zfr, Zkp, .inl ⟨rfl, rfl⟩, Zlg, by omega, by omega, rfl⟩
 ·rintro k1 e s ⟨i, z, lv, j17, h', c', rl', wl', rfl, hz, rfl, hcc, hf', hkp, hV, hlw, hin, hil, rfl⟩
  unfold EVs
  have fin : ¬(i < zss.length ∧ i < n) → vecsZ zss dim i = vecsZ zss dim n := fun hi => by
   unfold vecsZ
   congr 1
   rcases Nat.lt_or_ge i zss.length with h | h
   ·rw [show i = n by omega]
   ·rw [List.take_of_length_le h, List.take_of_length_le (by omega)]
  have lgR : ∀ l : List Nat, Lg c (fun _ => True) l := fun l b hb => .inr trivial
  by_cases hi1 : i < zss.length
  ·by_cases hi2 : i < n
   ·obtain ⟨b, o, sp, cs, a, k, rfl, hc0, hn0, hr0⟩ := hat i zss[i] (List.getElem?_eq_getElem hi1)
    have lb := hc0.lt hf
    have hc1 : Cel h' b cs := by unfold Cel Has at hc0 ⊢; rw [hkp b lb (fun q => q)]; exact hc0
    have hr1 := Row.keepF hr0 hf (fun b hb => hkp b hb (fun q => q))
    refine Zgo ?_
    refine Zu (to_indexAddr (k := i) el22 rfl rfl hz hi1) ?_
    refine Zu (to_load (pl_ rfl) rfl hc1 (by omega) hn0) ?_
    refine Zgo ?_
    refine Wseq.call rfl rfl (vec_spec H Zfr rfl hr1 dim hd (fun _ => True) (fun _ _ => trivial)) ?_
    rintro w h1 c1 r1 w1 ⟨⟨rfl, hnew⟩, hext⟩
    have kp := Kp.ext (W := fun _ => False) (h := h) (c := c) hkp hext (by omega) (fun _ _ q => q)
    have lw := Lg.extW (W := fun _ => False) (c := c) Zlg hext (fun _ _ q => q)
    have fr1 := hext.fresh
    have le1 := hext.c
    have lnew := hnew.lt fr1
    simp only at le1 fr1 lnew
    have hbv' : ∀ b, blkOf lv = some b → b < c' := by
     intro b hb
     rcases hV with ⟨rfl, _⟩ | ⟨bl, vals, rfl, _, _, q, _⟩
     ·cases hb
     ·cases hb; exact q.lt hf'
    have hV1 := hV.keep hf' (fun b hb _ _ => hext.get hb (fun q => q))
    have hst : vecsZ zss dim (i + 1) = vecsZ zss dim i ++ [vecZ zss[i] dim] := by
     unfold vecsZ
     rw [List.take_succ_eq_append_getElem hi1, List.map_append]; rfl
    have hlen : (vecsZ zss dim i).length = i := by unfold vecsZ; rw [List.length_map, List.length_take]; omega
    have hbg : big = 1048576 := rfl
    rcases hV1 with ⟨rfl, hnil⟩ | ⟨bl, vals, rfl, hne, hbl, hbc, hvl, hel⟩
    ·refine Zgo ?_
     refine Zu (to_appNil ro22 sl22 rfl rfl (k := 0) Has.same.cel (by omega) (subN_all _ _ rfl) (by omega) Zfr) ?_
     refine Zgo ?_
     refine RoundE.go (n - (i + 1)) (EVs _ dim n _ (z + 1) _) (by omega) Zek ⟨i + 1, z + 1, _, _, _, _, _, _, rfl, by omega, rfl, by omega, Zfr, Zkp, ?_, Zlg, by omega, by omega, rfl⟩
     have hi0 : i = 0 := by rw [hnil] at hlen; simpa using hlen.symm
     rw [hst, hnil]
     refine .inr ⟨c1 + 1, [.slice (some ⟨c', 0, none⟩) dim dim], rfl, (fun e => by cases e), by omega, Has.same, rfl, fun j zs hj => ?_⟩
     cases j with
     | succ j => simp at hj
     | zero =>
      simp only [List.nil_append, List.getElem?_cons_zero, Option.some.injEq] at hj
      subst hj
      exact ⟨vecZ_len _ _, c', rfl, hcc, (hnew.other (by omega)).other (by omega)⟩
    ·have l3 := hbc.lt fr1
     refine Zgo ?_
     refine Zu (to_appOwn ro22 sl22 rfl rfl (k := 0) Has.same.cel (by omega) (subN_all _ _ rfl) (by omega) (by omega) (hbc.other (by omega)) (by omega) (subN_all _ _ (by omega)) (all_cons rfl all_nil) Zfr) ?_
     refine Zgo ?_
     refine RoundE.go (n - (i + 1)) (EVs _ dim n _ (z + 1) _) (by omega) Zek ⟨i + 1, z + 1, _, _, _, _, _, _, rfl, by omega, rfl, by omega, Zfr, Zkp, ?_, Zlg, by omega, by omega, rfl⟩
     rw [hst]
     refine .inr ⟨c1 + 1, _, ?_, (fun e => by simp at e), by omega, Has.same, ?_, fun j zs hj => ?_⟩
     ·rw [List.length_append]; rfl
     ·rw [List.length_append, List.length_append, hvl]; rfl
     ·rcases Nat.lt_or_ge j (vecsZ zss dim i).length with hj1 | hj1
      ·rw [List.getElem?_append_left hj1] at hj
       obtain ⟨g1, bi, g2, g3, g4⟩ := hel j zs hj
       refine ⟨g1, bi, by rw [List.getElem?_append_left (by omega)]; exact g2, g3, ?_⟩
       have := g4.lt fr1
       have nb : bi ≠ bl := by
        rintro rfl
        unfold Has at g4 hbc
        rw [g4] at hbc
        cases hbc
        rw [List.getElem?_map, Option.map_eq_some_iff] at g2
        obtain ⟨y, _, hy⟩ := g2
        cases hy
       exact ((g4.other (by omega)).other nb).other (by omega)
      ·rw [List.getElem?_append_right hj1] at hj
       have hj0 : j - (vecsZ zss dim i).length = 0 := by
        rcases Nat.eq_zero_or_pos (j - (vecsZ zss dim i).length) with q | q
        ·exact q
        ·rw [List.getElem?_eq_none (by simp; omega)] at hj; cases hj
       rw [hj0] at hj
       simp only [List.getElem?_cons_zero, Option.some.injEq] at hj
       subst hj
       refine ⟨vecZ_len _ _, c', by rw [List.getElem?_append_right (by omega), hvl, hj0]; rfl, hcc, ?_⟩
       have nb : c' ≠ bl := by have := hbv' bl rfl; omega
       exact ((hnew.other (by omega)).other nb).other (by omega)
   ·refine Zgo ?_
    refine ⟨.inr rfl, Wres.one rfl ⟨?_, ?_⟩⟩
    ·rw [← fin (by omega)]; exact hV
    ·exact Ext.of hcc hf' hkp (lgR _) Zlg
  ·refine Zgo ?_
   refine ⟨.inr rfl, Wres.one rfl ⟨?_, ?_⟩⟩
   ·rw [← fin (by omega)]; exact hV
   ·exact Ext.of hcc hf' hkp (lgR _) Zlg
end Go.Ab.Seat
end
section
/- The places of middles, the nearest first (the abstract machine). -/
namespace Go.Ab.Seat
open Go.Extern Go.Proofs
set_option maxRecDepth 4000
def GVals (h : T AObj) (dim : Nat) (mid : List (List Int)) (U : Nat → Prop) (vals : List Value) : Prop :=
 vals.length = mid.length ∧ ∀ (i : Nat) (zs : List Int), mid[i]? = some zs → zs.length = dim ∧ Bnd zs ∧ ∃ a k, vals[i]? = some (.slice a dim k) ∧ Row h (.slice a dim k) dim 1 (zs.map (Value.int .i32)) ∧ ∀ b', blkOf (.slice a dim k) = some b' → U b'
theorem GVals.nil {h : T AObj} {dim : Nat} {U : Nat → Prop} : GVals h dim [] U [] := ⟨rfl, fun i zs hi => by cases hi⟩
theorem GVals.keep {h h' : T AObj} {c dim : Nat} {mid : List (List Int)} {U U' : Nat → Prop} {vals : List Value} (x : GVals h dim mid U vals) (hf : Fresh h c) (hU : ∀ b, U b → U' b) (k : ∀ b, U b → b < c → (∃ cs, Cel h b cs) → h'.get b = h.get b) : GVals h' dim mid U' vals := by
 refine ⟨x.1, fun i zs hi => ?_⟩
 obtain ⟨g1, g2, a, kk, g3, g4, g5⟩ := x.2 i zs hi
 refine ⟨g1, g2, a, kk, g3, ?_, fun b' hb' => hU b' (g5 b' hb')⟩
 rcases g4 with g4 | ⟨b', o, sp', cap', cs, e, g6, g7⟩
 ·exact .inl g4
 ·refine .inr ⟨b', o, sp', cap', cs, e, ?_, g7⟩
  have q := k b' (g5 b' (by rw [e]; rfl)) (g6.lt hf) ⟨_, g6⟩
  unfold Cel Has at g6 ⊢
  rw [q]; exact g6
def MRow (h : T AObj) (v : Value) (dim : Nat) (mid : List (List Int)) (U : Nat → Prop) : Prop :=
 (v = .slice none 0 0 ∧ mid = []) ∨ ∃ b sp cap vals, v = .slice (some ⟨b, 0, sp⟩) mid.length cap ∧ mid ≠ [] ∧ mid.length ≤ cap ∧ U b ∧ Has h b (.cells vals) ∧ GVals h dim mid U vals
def GRow (h : T AObj) (v : Value) (dim : Nat) (mid : List (List Int)) (U : Nat → Prop) : Prop :=
 (v = .slice none 0 0 ∧ mid = []) ∨ ∃ b vals, v = .slice (some ⟨b, 0, some 1⟩) mid.length mid.length ∧ mid ≠ [] ∧ U b ∧ Has h b (.cells vals) ∧ GVals h dim mid U vals
theorem GRow.keep {h h' : T AObj} {c : Nat} {v : Value} {dim : Nat} {mid : List (List Int)} {U U' : Nat → Prop} (x : GRow h v dim mid U) (hf : Fresh h c) (hU : ∀ b, U b → U' b) (k : ∀ b, U b → b < c → (∃ cs, Cel h b cs) → h'.get b = h.get b) : GRow h' v dim mid U' := by
 rcases x with x | ⟨b, vals, h1, h2, h3, h4, h5⟩
 ·exact .inl x
 ·exact .inr ⟨b, vals, h1, h2, hU b h3, (k b h3 (h4.lt hf) ⟨_, h4.cel⟩).trans h4, h5.keep hf hU k⟩
theorem MRow.val {h : T AObj} {v : Value} {dim : Nat} {mid : List (List Int)} {U : Nat → Prop} (x : MRow h v dim mid U) : ∃ oa cap, v = .slice oa mid.length cap := by
 rcases x with ⟨rfl, rfl⟩ | ⟨b, sp, cap, vals, h1, _⟩
 ·exact ⟨_, _, rfl⟩
 ·exact ⟨_, _, h1⟩
theorem MRow.at {h : T AObj} {oa : Option Addr} {n cap dim : Nat} {mid : List (List Int)} {U : Nat → Prop} (x : MRow h (.slice oa n cap) dim mid U) {i : Nat} {zs : List Int} (hi : mid[i]? = some zs) :
  zs.length = dim ∧ Bnd zs ∧ ∃ b sp vals a k, oa = some ⟨b, 0, sp⟩ ∧ U b ∧ Has h b (.cells vals) ∧ nth vals (0 + i * 1) = some (.slice a dim k) ∧ Row h (.slice a dim k) dim 1 (zs.map (Value.int .i32)) ∧ ∀ b', blkOf (.slice a dim k) = some b' → U b' := by
 rcases x with ⟨_, rfl⟩ | ⟨b, sp, cap', vals, h1, h2, h3, h4, h5, h6, h7⟩
 ·cases hi
 ·obtain ⟨g1, g2, a, k, g3, g4, g5⟩ := h7 i zs hi
  simp only [Value.slice.injEq] at h1
  exact ⟨g1, g2, b, sp, vals, a, k, h1.1, h4, h5, by rw [nth_eq, Nat.zero_add, Nat.mul_one]; exact g3, g4, g5⟩
theorem MRow.keep {h h' : T AObj} {c : Nat} {v : Value} {dim : Nat} {mid : List (List Int)} {U U' : Nat → Prop} (x : MRow h v dim mid U) (hf : Fresh h c) (hU : ∀ b, U b → U' b) (k : ∀ b, U b → b < c → (∃ cs, Cel h b cs) → h'.get b = h.get b) : MRow h' v dim mid U' := by
 rcases x with x | ⟨b, sp, cap, vals, h1, h2, h3, h4, h5, h6⟩
 ·exact .inl x
 ·exact .inr ⟨b, sp, cap, vals, h1, h2, h3, hU b h4, (k b h4 (h5.lt hf) ⟨_, h5.cel⟩).trans h5, h6.keep hf hU k⟩
theorem VRow.mrow {h : T AObj} {c0 : Nat} {v : Value} {dim : Nat} {vss : List (List Int)} (x : VRow h c0 v dim vss) (hb : ∀ zs ∈ vss, Bnd zs) : MRow h v dim vss (fun b => c0 ≤ b) := by
 rcases x with x | ⟨b, vals, h1, h2, h3, h4, h5, h6⟩
 ·exact .inl x
 ·refine .inr ⟨b, some 1, _, vals, h1, h2, Nat.le_refl _, h3, h4, h5, fun i zs hi => ?_⟩
  obtain ⟨g1, bi, g2, g3, g4⟩ := h6 i zs hi
  refine ⟨g1, hb zs (List.mem_of_getElem? hi), _, _, g2, .inr ⟨bi, 0, none, dim, _, rfl, g4.cel, subN_all _ _ (by rw [List.length_map]; omega)⟩, fun b' hb' => ?_⟩
  cases hb'
  exact g3
def hitO (qs : List Int) (mid : List (List Int)) : List Ht := (List.range mid.length).map fun (i : Nat) => ⟨(i : Int), scoreZ 1 (mid.getD i []) qs⟩
theorem hitO_len (qs : List Int) (mid : List (List Int)) : (hitO qs mid).length = mid.length := by unfold hitO; simp
theorem hitO_nodup (qs : List Int) (mid : List (List Int)) : ((hitO qs mid).map Ht.id).Nodup := by
 unfold hitO
 rw [List.map_map]
 exact (List.pairwise_map.2 ((List.nodup_range (n := mid.length)).imp fun {a b} h => by
  show ((a : Nat) : Int) ≠ ((b : Nat) : Int)
  omega))
def ordZ (mid : List (List Int)) (qs : List Int) : List Int := (bestOf mid.length (hitO qs mid)).map Ht.id
def HI (h : T AObj) (c0 : Nat) (v : Value) (l : List Int) : Prop := (v = .slice none 0 0 ∧ l = []) ∨ ∃ b, v = .slice (some ⟨b, 0, some 1⟩) l.length l.length ∧ l ≠ [] ∧ c0 ≤ b ∧ Has h b (.cells (l.map (Value.int .i64)))
end Go.Ab.Seat
end
section
/- The nearest middle; vectors copied; an index of lists: made (the abstract machine). -/
namespace Go.Ab.Seat
open Go.Extern Go.Proofs
set_option maxRecDepth 4000
theorem HI.val {h : T AObj} {c : Nat} {v : Value} {l : List Int} (x : HI h c v l) : ∃ oa, v = .slice oa l.length l.length ∧ Row h v l.length 1 (l.map (Value.int .i64)) ∧ ∀ b, blkOf v = some b → c ≤ b := by
 rcases x with ⟨rfl, rfl⟩ | ⟨b, rfl, _, h1, h2⟩
 ·exact ⟨_, rfl, .inl ⟨rfl, rfl, _, _, rfl⟩, fun b hb => by cases hb⟩
 ·exact ⟨_, rfl, .inr ⟨b, 0, _, _, _, rfl, h2.cel, subN_all _ _ (by simp)⟩, fun b hb => by cases hb; exact h1⟩
def nearZ (mid : List (List Int)) (qs : List Int) : Int := if mid.length = 0 then -1 else (ordZ mid qs).getD 0 0
theorem GVals.ne {h : T AObj} {dim b : Nat} {mid : List (List Int)} {U : Nat → Prop} {vals : List Value} (x : GVals h dim mid U vals) (hd : 1 ≤ dim) (hb : Has h b (.cells vals)) {a : Option Addr} {k : Nat} {zs : List Int} (hr : Row h (.slice a dim k) dim 1 (zs.map (Value.int .i32))) (hz : zs.length = dim) : blkOf (.slice a dim k) ≠ some b := by
 intro e
 rcases hr with ⟨_, q, _⟩ | ⟨b', o, sp', cap', cs, e1, g6, g7⟩
 ·omega
 ·rw [e1] at e
  obtain rfl : b' = b := by simpa [blkOf] using e
  have hcs : cs = vals := by
   rcases g6 with q | q | q
   ·have := q.symm.trans hb
    simpa using this
   ·have := q.symm.trans hb
    simp at this
   ·have := q.symm.trans hb
    simp at this
  subst hcs
  have h1 := (subN_some _ _ _ _ g7).2.2 0 (by omega)
  rw [Nat.add_zero, List.getElem?_map, List.getElem?_eq_getElem (by omega : 0 < zs.length)] at h1
  have h2 := (List.getElem?_eq_some_iff.1 h1.symm).1
  rw [x.1] at h2
  obtain ⟨_, _, a', k', h3, _⟩ := x.2 o mid[o] (List.getElem?_eq_getElem h2)
  rw [h3] at h1
  cases h1
end Go.Ab.Seat
end
section
/- The places of middles, plainly. -/
namespace Go.Ab.Seat
open Go.Extern Go.Proofs
theorem VecsIn.keep {h h' : T AObj} {c : Nat} {v : Value} {zss : List (List Int)} (x : VecsIn h v zss) (hf : Fresh h c) (k : ∀ b, b < c → h'.get b = h.get b) : VecsIn h' v zss := by
 obtain ⟨oa, cap, e, hat⟩ := x
 refine ⟨oa, cap, e, fun i zs hi => ?_⟩
 obtain ⟨b, o, sp, cs, a, kk, e1, e2, e3, e4⟩ := hat i zs hi
 refine ⟨b, o, sp, cs, a, kk, e1, ?_, e3, Row.keepF e4 hf k⟩
 have q := k b (e2.lt hf)
 unfold Cel Has at e2 ⊢
 rw [q]; exact e2
end Go.Ab.Seat
end
section
/- Middles, plainly: the whole part of a mean, towards below; the first ones that are unlike; rounds. -/
namespace Go.Ab.Seat
open Go.Extern Go.Proofs
def flZ (a b : Int) : Int := if a.tmod b < 0 then a.tdiv b - 1 else a.tdiv b
def Vok (dim : Nat) (vs : List (List Int)) : Prop := ∀ v ∈ vs, v.length = dim ∧ Bnd v
end Go.Ab.Seat
end
