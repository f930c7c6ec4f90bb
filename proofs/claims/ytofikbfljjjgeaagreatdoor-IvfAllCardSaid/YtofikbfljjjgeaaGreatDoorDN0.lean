import Derived.Test.YtofikbfljjjgeaaGreatDoorDM1
import Derived.Test.YtofikbfljjjgeaaGreatDoorDO3
set_option linter.unusedVariables false
set_option linter.unusedSimpArgs false
section
/- A map's keys, in order (the abstract machine). -/
namespace Go.Ab.Seat
open Go.Extern Go.Proofs
set_option maxRecDepth 4000
variable {sm : Nat → Option (List Value → M Value)}
end Go.Ab.Seat
end
section
/- A map's keys, in order (the abstract machine). -/
namespace Go.Ab.Seat
open Go.Extern Go.Proofs
set_option maxRecDepth 4000
variable {sm : Nat → Option (List Value → M Value)}
theorem sortedI_none {h : T AObj} {c b m n : Nat} {rl wl : List Nat} {es : List (Value × Value × Nat)} (hf : Fresh h c) (hb : Has h b (.cells [.map (some m)])) (hm : Has h m (.map es n)) (hk : keyInts es n = some []) :
  ∃ v s', FnTo (Cs smQ) eg 84 [.func (.func 217) #[] ⟨[.pointer (some ⟨b, 0, none⟩)]⟩] ⟨h, c, rl, wl⟩ v s' ∧ (v = .slice none 0 0 ∧ s' = ⟨h, c, m :: b :: rl, wl⟩) := by
 refine ⟨_, _, ⟨0, ?_⟩, rfl, rfl⟩
 have hs : (Cs smQ).sm 84 = some (sumSorted kindOf) := rfl
 unfold callF
 rw [hs]
 show sumSorted kindOf _ _ = _
 unfold sumSorted
 have e1 : iterOf kindOf [.func (.func 217) #[] ⟨[.pointer (some ⟨b, 0, none⟩)]⟩] = some (217, true, b, 0) := rfl
 rw [e1, bind_run (lift_run (a := (217, true, b, 0)) rfl)]
 dsimp only
 rw [bind_run (getCells_run hb.cel (hb.lt hf))]
 have e2 : nth [Value.map (some m)] 0 = some (.map (some m)) := rfl
 rw [e2, bind_run (lift_run (a := Value.map (some m)) rfl)]
 unfold seqInts
 dsimp only
 rw [bind_run (show ((M.lift (mapAt (Value.map (some m)))).bind mapInts) _ = some ([], ⟨h, c, m :: b :: rl, wl⟩) from by
  have e3 : mapAt (Value.map (some m)) = some (some m) := rfl
  rw [e3, bind_run (lift_run (a := some m) rfl)]
  unfold mapInts
  dsimp only
  rw [bind_run (getMap_run hm (hm.lt hf))]
  exact lift_run hk)]
 rfl
theorem sortedI_some {h : T AObj} {c b m n : Nat} {rl wl : List Nat} {es : List (Value × Value × Nat)} {x : Int} {xs : List Int} (hf : Fresh h c) (hb : Has h b (.cells [.map (some m)])) (hm : Has h m (.map es n)) (hk : keyInts es n = some (x :: xs)) (hl : (x :: xs).length ≤ 1000000) :
  ∃ v s', FnTo (Cs smQ) eg 84 [.func (.func 217) #[] ⟨[.pointer (some ⟨b, 0, none⟩)]⟩] ⟨h, c, rl, wl⟩ v s' ∧ (v = .slice (some ⟨c, 0, some 1⟩) (x :: xs).length (x :: xs).length ∧ s' = ⟨h.set c (some (.cells ((sortI (x :: xs)).map fun n => Value.int .i64 n))), c + 1, m :: b :: rl, wl⟩) := by
 refine ⟨_, _, ⟨0, ?_⟩, rfl, rfl⟩
 have hs : (Cs smQ).sm 84 = some (sumSorted kindOf) := rfl
 unfold callF
 rw [hs]
 show sumSorted kindOf _ _ = _
 unfold sumSorted
 have e1 : iterOf kindOf [.func (.func 217) #[] ⟨[.pointer (some ⟨b, 0, none⟩)]⟩] = some (217, true, b, 0) := rfl
 rw [e1, bind_run (lift_run (a := (217, true, b, 0)) rfl)]
 dsimp only
 rw [bind_run (getCells_run hb.cel (hb.lt hf))]
 have e2 : nth [Value.map (some m)] 0 = some (.map (some m)) := rfl
 rw [e2, bind_run (lift_run (a := Value.map (some m)) rfl)]
 unfold seqInts
 dsimp only
 rw [bind_run (show ((M.lift (mapAt (Value.map (some m)))).bind mapInts) _ = some (x :: xs, ⟨h, c, m :: b :: rl, wl⟩) from by
  have e3 : mapAt (Value.map (some m)) = some (some m) := rfl
  rw [e3, bind_run (lift_run (a := some m) rfl)]
  unfold mapInts
  dsimp only
  rw [bind_run (getMap_run hm (hm.lt hf))]
  exact lift_run hk)]
 unfold giveInts
 dsimp only
 rw [show Nat.ble (len (x :: xs)) 1000000 = true from by rw [len_eq]; rw [Nat.ble_eq]; exact hl]
 dsimp only
 rw [bind_run (newCells_run hf), mapA_eq, len_eq]
 rfl
theorem keysI_spec (H : Std sm) {h : T AObj} {c m : Nat} {rl wl : List Nat} (hf : Fresh h c) :
  ∃ v s', FnTo (Cs sm) eg 178 [.map (some m)] ⟨h, c, rl, wl⟩ v s' ∧ (v = .func (.func 217) #[] ⟨[.pointer (some ⟨c, 0, none⟩)]⟩ ∧ s' = ⟨h.set c (some (.cells [.map (some m)])), c + 1, rl, wl⟩) := by
 refine Fn.go (H 178 rfl) ex178 fn178 km178 rfl rfl ?_
 refine Zev ?_
 refine Zgo ?_
 exact ⟨.inr rfl, Wres.one rfl ⟨rfl, rfl⟩⟩
end Go.Ab.Seat
end
section
/- An index of lists: its members as a rising list (the abstract machine). -/
namespace Go.Ab.Seat
open Go.Extern Go.Proofs
set_option maxRecDepth 4000
abbrev mbI (id : Int) (zs : List Int) (k : Int) : Rc := ⟨id, zs.map (Value.int .i32), .empty, k, false⟩
def listZ (mid : List (List Int)) (zs : List Int) : Int := max (nearZ mid zs) 0
def IRep (h : T AObj) (p m : Nat) (U : Nat → Prop) (r : Rc) (v : Value) : Prop := ∃ w, v = .agg ⟨[w, .int .i64 r.seq]⟩ ∧ Own h 0 w r.xs.length r.xs ∧ ∀ b, blkOf w = some b → U b ∧ b ≠ p ∧ b ≠ m
def IFits (h : T AObj) (p m : Nat) (U : Nat → Prop) (o : Option Rc) (w : Option Value) : Prop := (o = none ∧ w = none) ∨ ∃ r v, o = some r ∧ w = some v ∧ IRep h p m U r v
structure IvfM (h : T AObj) (p m : Nat) (mv : Value) (mt : Int) (dim : Nat) (mid : List (List Int)) (M : List Rc) (U : Nat → Prop) : Prop where
 ptr : Has h p (.cells [.int .i64 mt, mv, .map (some m)])
 mids : MRow h mv dim mid (fun b => U b ∧ b ≠ p ∧ b ≠ m)
 ex : ∃ es n, Has h m (.map es n) ∧ (∃ ids, Keyed es n ids) ∧ ∀ x, IFits h p m U (getM x M) (valI x es)
 pU : U p
 mU : U m
 ne : p ≠ m
 rises : Rises M
 ok : ∀ r ∈ M, ∃ zs : List Int, r = mbI r.id zs (listZ mid zs) ∧ zs.length = dim ∧ Bnd zs
theorem IRep.keep {h h' : T AObj} {p m c : Nat} {U U' : Nat → Prop} {r : Rc} {v : Value} (x : IRep h p m U r v) (hf : Fresh h c) (hU : ∀ b, U b → U' b) (k : ∀ b, U b → b < c → b ≠ p → b ≠ m → h'.get b = h.get b) : IRep h' p m U' r v := by
 obtain ⟨w, e, x1, x2⟩ := x
 exact ⟨w, e, x1.keep fun b hb => k b (x2 b hb).1 ((x1.blk hb).2.lt hf) (x2 b hb).2.1 (x2 b hb).2.2, fun b hb => ⟨hU b (x2 b hb).1, (x2 b hb).2⟩⟩
theorem IFits.keep {h h' : T AObj} {p m c : Nat} {U U' : Nat → Prop} {o : Option Rc} {w : Option Value} (x : IFits h p m U o w) (hf : Fresh h c) (hU : ∀ b, U b → U' b) (k : ∀ b, U b → b < c → b ≠ p → b ≠ m → h'.get b = h.get b) : IFits h' p m U' o w := by
 rcases x with x | ⟨r, v, h1, h2, h3⟩
 ·exact .inl x
 ·exact .inr ⟨r, v, h1, h2, h3.keep hf hU k⟩
theorem IvfM.keep {h h' : T AObj} {c p m dim : Nat} {mv : Value} {mt : Int} {mid : List (List Int)} {M : List Rc} {U : Nat → Prop} (q : IvfM h p m mv mt dim mid M U) (hf : Fresh h c) (k : ∀ b, U b → b < c → h'.get b = h.get b) : IvfM h' p m mv mt dim mid M U := by
 obtain ⟨es, n, h1, h2, h3⟩ := q.ex
 exact ⟨(k p q.pU (q.ptr.lt hf)).trans q.ptr, q.mids.keep hf (fun _ q => q) (fun b hb hc _ => k b hb.1 hc), ⟨es, n, (k m q.mU (h1.lt hf)).trans h1, h2, fun x => (h3 x).keep hf (fun _ q => q) fun b hb hc _ _ => k b hb hc⟩, q.pU, q.mU, q.ne, q.rises, q.ok⟩
theorem IvfM.lt {h : T AObj} {c p m dim : Nat} {mv : Value} {mt : Int} {mid : List (List Int)} {M : List Rc} {U : Nat → Prop} (q : IvfM h p m mv mt dim mid M U) (hf : Fresh h c) : p < c ∧ m < c := by
 obtain ⟨es, n, h1, h2, h3⟩ := q.ex
 exact ⟨q.ptr.lt hf, h1.lt hf⟩
theorem IvfM.hm {h : T AObj} {p m dim : Nat} {mv : Value} {mt : Int} {mid : List (List Int)} {M : List Rc} {U : Nat → Prop} (q : IvfM h p m mv mt dim mid M U) : ∃ es n, Has h m (.map es n) := by
 obtain ⟨es, n, h1, _⟩ := q.ex
 exact ⟨es, n, h1⟩
theorem IvfM.ids {h : T AObj} {p m : Nat} {U : Nat → Prop} {M : List Rc} {n : Nat} {es : List (Value × Value × Nat)} {ids : List Int} (hk : Keyed es n ids) (hr : Rises M) (hv : ∀ x, IFits h p m U (getM x M) (valI x es)) : sortI ids = M.map Rc.id := by
 refine rises_ext (sortI_rises hk.nodup) hr.ids fun x => ?_
 rw [(sortI_perm ids).mem_iff]
 constructor
 ·intro hx
  rcases hv x with ⟨_, h4⟩ | ⟨r, v, h4, _, _⟩
  ·exact absurd hx ((findI_none_iff hk.keys).1 (valI_none.1 h4))
  ·obtain ⟨h5, h6⟩ := getM_mem h4
   exact List.mem_map.2 ⟨r, h5, h6⟩
 ·intro hx
  obtain ⟨r, h5, rfl⟩ := List.mem_map.1 hx
  refine Classical.byContradiction fun hn => ?_
  rcases hv r.id with ⟨h4, _⟩ | ⟨r', v, _, h4, _⟩
  ·exact absurd rfl (getM_none.1 h4 r h5)
  ·rw [valI_none.2 ((findI_none_iff hk.keys).2 hn)] at h4
   cases h4
theorem iof_spec {h : T AObj} {c : Nat} {rl wl : List Nat} (hf : Fresh h c) {mt : Int} (hmt : mt = 1 ∨ mt = 2) {v : Value} {dim : Nat} {mid : List (List Int)} {U : Nat → Prop} (hm : MRow h v dim mid U) (hn : mid.length ≤ 16) (hd : dim ≤ 1000) (hd1 : 1 ≤ dim) (R : Nat → Prop) (hUR : ∀ b, U b → R b) :
  ∃ r s', FnTo (Cs smQ) eg 125 [.int .i64 mt, v] ⟨h, c, rl, wl⟩ r s' ∧ (∃ p m mv, r = .pointer (some ⟨p, 0, none⟩) ∧ IvfM s'.h p m mv mt dim mid [] (fun b => c ≤ b ∧ b < s'.c)) ∧ Ext ⟨h, c, rl, wl⟩ s' R (fun _ => False) := by
 obtain ⟨oa, cap, rfl⟩ := hm.val
 refine Fn.go (stdQ 125 rfl) ex125 fn125 km125 rfl rfl ?_
 refine Zev ?_
 refine Zgo ?_
 refine Wseq.call rfl rfl (known_spec stdQ Zfr mt hmt) ?_
 rintro v1 h1 c1 r1 w1 ⟨rfl, e1⟩
 cases e1
 refine Zgo ?_
 refine Wseq.call rfl rfl (copies_spec Zfr hm (by omega) hd hd1 R hUR) ?_
 rintro v1 h1 c1 r1 w1 ⟨hG, hext⟩
 have kp := Kp.ext (W := fun _ => False) (h := h) (c := c) Zkp hext (by omega) (fun _ _ q => q)
 have lr := Lg.extR (R := R) (c := c) Zlg hext (fun _ _ q => q)
 have lw := Lg.extW (W := fun _ => False) (c := c) Zlg hext (fun _ _ q => q)
 have fr1 := hext.fresh
 have le1 := hext.c
 simp only at le1 fr1 hG
 obtain ⟨oa1, cap1, rfl⟩ := hG.mrow.val
 refine Zgo ?_
 refine ⟨.inr rfl, Wres.one rfl ⟨⟨c1 + 1, c1, .slice oa1 mid.length cap1, rfl, ?_⟩, ?_⟩⟩
 ·refine ⟨Has.same, ?_, ⟨[], 0, Has.other (by omega) Has.same, ⟨[], .nil 0⟩, fun x => .inl ⟨rfl, rfl⟩⟩, ⟨by omega, by dsimp only; omega⟩, ⟨by omega, by dsimp only; omega⟩, by omega, Rises.nil, fun r hr => by cases hr⟩
  exact hG.mrow.keep fr1 (fun b hb => ⟨⟨hb.1, by dsimp only; omega⟩, by omega, by omega⟩) (fun b hb hc _ => by rw [get_other (by omega), get_other (by omega)])
 ·exact Zex
end Go.Ab.Seat
end
section
/- An index of lists: one is put, let go; the ids (the abstract machine). -/
namespace Go.Ab.Seat
open Go.Extern Go.Proofs
set_option maxRecDepth 4000
theorem iput_spec {h : T AObj} {c : Nat} {rl wl : List Nat} (hf : Fresh h c) {p m dim : Nat} {mv : Value} {mt : Int} {mid : List (List Int)} {M : List Rc} {U : Nat → Prop} (q : IvfM h p m mv mt dim mid M U) (hn : mid.length ≤ 12) (id : Int) (hid : -9223372036854775808 ≤ id ∧ id ≤ 9223372036854775807)
  {a : Option Addr} {cap : Nat} {zs : List Int} (hv : Row h (.slice a dim cap) dim 1 (zs.map (Value.int .i32))) (hx : zs.length = dim) (hb : Bnd zs) (hd : 1 ≤ dim) (hd' : dim ≤ 1000) (bs : Nat → Prop) (hbs : ∀ b, blkOf (.slice a dim cap) = some b → bs b) (hbm : ¬bs m) :
  ∃ r s', FnTo (Cs smQ) eg 69 [.pointer (some ⟨p, 0, none⟩), .int .i64 id, .slice a dim cap] ⟨h, c, rl, wl⟩ r s' ∧ IvfM s'.h p m mv mt dim mid (putM (mbI id zs (listZ mid zs)) M) (fun b => U b ∨ c ≤ b ∧ b < s'.c) ∧ Ext ⟨h, c, rl, wl⟩ s' (fun b => U b ∨ bs b) (fun b => b = m) := by
 obtain ⟨es, n, hm, ⟨ids, h2⟩, h3⟩ := q.ex
 have hp := q.ptr
 obtain ⟨lp, lm⟩ := q.lt hf
 have hpU := q.pU
 have hmU := q.mU
 obtain ⟨oa1, cap1, rfl⟩ := q.mids.val
 refine Fn.go (stdQ 69 rfl) ex69 fn69 km69 rfl rfl ?_
 refine Zev ?_
 refine Zgo ?_
 refine Wtr.call rfl rfl (copy_spec stdQ Zfr hv (by unfold bigV; omega) (fun e => by omega) bs (fun b o sp n' cap e => hbs b (by rw [e]; rfl))) ?_
 rintro v h1 c1 r1 w1 ⟨hown, hext⟩
 have hq := hext.quiet (fun _ _ q => q)
 have kp := Kp.ext (W := fun b => b = m) (h := h) (c := c) Zkp hext (by omega) (fun _ _ q => q.elim)
 have lr := Lg.extR (R := fun b => U b ∨ bs b) (c := c) Zlg hext (fun b _ hb => .inr hb)
 have lw := Lg.extW (W := fun b => b = m) (c := c) Zlg hext (fun b _ hb => hb.elim)
 have fr1 := hext.fresh
 have le1 := hext.c
 simp only at le1 fr1
 have hm1 : Has h1 m (.map es n) := hext.hs hm lm (fun q => q)
 have hp1 := hext.hs hp lp (fun q => q)
 have hrm : ∀ b ∈ r1, b ≠ m := fun b hb => by
  rcases hext.rl b hb with u | u
  ·exact absurd u List.not_mem_nil
  ·exact fun e => hbm (e ▸ u.2)
 refine ⟨Zap, ?_⟩
 have hv1 : Row h1 (.slice a dim cap) dim 1 (zs.map (Value.int .i32)) := Row.keepF hv hf (fun b hb => hext.get hb (fun q => q))
 have hmid1 := q.mids.keep (U' := fun b => U b ∧ b ≠ p ∧ b ≠ m) hf (fun _ q => q) (fun b _ hb _ => hext.get hb (fun q => q))
 have hap : ApartP ⟨r1, w1, c, c1⟩ ⟨[p], [], c1, c1⟩ := ApartP.wr (fun y hy => (hq y hy).elim) lp
 refine Zgo ?_
 refine Wtr.call rfl rfl (nearest_spec Zfr hmid1 hn hd' hv1 hx hb (fun b => (U b ∧ b ≠ m) ∨ bs b) (fun b u => .inl ⟨u.1, u.2.2⟩) (fun b hb => .inr (hbs b hb))) ?_
 rintro v2 h2' c2 r2 w2 ⟨rfl, hext2⟩
 have hq2 := hext2.quiet (fun _ _ q => q)
 have kp2 := Kp.ext (W := fun b => b = m) (h := h) (c := c) kp hext2 (by omega) (fun _ _ q => q.elim)
 have lr2 := Lg.extR (R := fun b => U b ∨ bs b) (c := c) Zlg hext2 (fun b _ hb => hb.imp (fun u => u.1) (fun u => u))
 have lw2 := Lg.extW (W := fun b => b = m) (c := c) Zlg hext2 (fun b _ hb => hb.elim)
 have fr2 := hext2.fresh
 have le2 := hext2.c
 simp only at le2 fr2
 have hm2 : Has h2' m (.map es n) := hext2.hs hm1 (by omega) (fun q => q)
 have hp2 := hext2.hs hp1 (by omega) (fun q => q)
 have hown2 := hown.keep (h' := h2') (fun b hb => hext2.get ((hown.blk hb).2.lt fr1) (fun q => q))
 have hrm2 : ∀ b ∈ r2, b ≠ m := fun b hb => by
  rcases hext2.rl b hb with u | u
  ·exact absurd u List.not_mem_nil
  ·exact fun e => u.2.elim (fun u => u.2 e) (fun u => hbm (e ▸ u))
 refine ⟨Zap, ?_⟩
 obtain ⟨va, vk, rfl⟩ := hown2.val
 refine Zgo ?_
 refine Wtr.op (s1 := ⟨h2'.set m (some (.map (putI .i64 id (.agg ⟨[.slice va dim vk, .int .i64 (listZ mid zs)]⟩) n es).1 (putI .i64 id (.agg ⟨[.slice va dim vk, .int .i64 (listZ mid zs)]⟩) n es).2)), c2, [m], [m]⟩) rfl (to_mapUpdate (mi_ rfl) rfl rfl rfl hm2 (hm2.lt fr2) h2.ks) ?_ ?_
 ·exact Zap
 dsimp only [put]
 refine Zgo ?_
 refine ⟨.inl rfl, Wres.nil ⟨?_, ?_⟩⟩
 ·refine ⟨Has.other (fun e => q.ne e) hp2, hmid1.keep fr1 (fun b hb => ⟨.inl hb.1, hb.2⟩) (fun b hb hc _ => (get_other hb.2.2).trans (hext2.get hc (fun q => q))), ⟨_, _, Has.same, ⟨_, h2.put (by unfold wfI; rw [decide_eq_true hid.1, decide_eq_true hid.2]; rfl) _⟩, fun x => ?_⟩, .inl hpU, .inl hmU, q.ne, q.rises.put _, fun r hr => ?_⟩
  ·rw [getM_put, valI_put h2]
   by_cases hxi : id = x
   ·rw [if_pos hxi, if_pos hxi.symm]
    refine .inr ⟨_, _, rfl, rfl, _, rfl, ?_, fun b hb => ?_⟩
    ·show Own _ 0 _ (zs.map (Value.int .i32)).length _
     rw [List.length_map, hx]
     exact (hown2.low (Nat.zero_le _)).keep fun b hb => get_other (by have := (hown2.blk hb).1; omega)
    ·obtain ⟨u1, u2⟩ := hown2.blk hb
     have := u2.lt fr2
     exact ⟨.inr ⟨u1, this⟩, by omega, by omega⟩
   ·rw [if_neg hxi, if_neg fun e => hxi e.symm]
    exact (h3 x).keep hf (fun b hb => .inl hb) fun b _ hc _ hm => (get_other hm).trans (kp2 b hc hm)
  ·rcases mem_putM hr with rfl | hr
   ·exact ⟨zs, rfl, hx, hb⟩
   ·exact q.ok r hr
 ·exact Zex
theorem idel_spec {h : T AObj} {c : Nat} {rl wl : List Nat} (hf : Fresh h c) {p m dim : Nat} {mv : Value} {mt : Int} {mid : List (List Int)} {M : List Rc} {U : Nat → Prop} (q : IvfM h p m mv mt dim mid M U) (id : Int) :
  ∃ r s', FnTo (Cs smQ) eg 105 [.pointer (some ⟨p, 0, none⟩), .int .i64 id] ⟨h, c, rl, wl⟩ r s' ∧ (r = .bool (getM id M).isSome ∧ IvfM s'.h p m mv mt dim mid (delM id M) U) ∧ Ext ⟨h, c, rl, wl⟩ s' U (fun b => b = m) := by
 obtain ⟨es, n, hm, ⟨ids, h2⟩, h3⟩ := q.ex
 have hp := q.ptr
 obtain ⟨lp, lm⟩ := q.lt hf
 have hpU := q.pU
 have hmU := q.mU
 obtain ⟨oa1, cap1, rfl⟩ := q.mids.val
 have his : (findI id es).isSome = (getM id M).isSome := by
  rcases h3 id with ⟨e1, e2⟩ | ⟨r, v, e1, e2, _⟩
  ·rw [e1, valI_none.1 e2]; rfl
  ·obtain ⟨i, e3⟩ := valI_some e2
   rw [e1, e3]; rfl
 obtain ⟨xa, xn, xk, xz, hv⟩ : ∃ a n k z, (match findI id es with | some p => p.2 | none => .agg ⟨[.slice none 0 0, .int .i64 0]⟩) = Value.agg ⟨[.slice a n k, .int .i64 z]⟩ := by
  rcases h3 id with ⟨e1, e2⟩ | ⟨r, v, e1, e2, w, rfl, e3, e4⟩
  ·rw [valI_none.1 e2]; exact ⟨_, _, _, _, rfl⟩
  ·obtain ⟨i, e5⟩ := valI_some e2
   obtain ⟨a, k, rfl⟩ := e3.val
   rw [e5]; exact ⟨_, _, _, _, rfl⟩
 refine Fn.go (stdQ 105 rfl) ex105 fn105 km105 rfl rfl ?_
 refine Zev ?_
 refine Zgo ?_
 refine Zu (to_lookupOk (mi_ rfl) (ze_ rfl) rfl rfl hm (by omega) h2.ks hv his) ?_
 refine Zgo ?_
 refine Wseq.st0 (to_delete (mi_ rfl) rfl rfl Zhs (by omega) h2.ks) ?_
 refine Zgo ?_
 refine ⟨.inr rfl, Wres.one rfl ⟨⟨rfl, ?_⟩, ?_⟩⟩
 ·obtain ⟨ids', k1, _, _⟩ := h2.del id
  refine ⟨Has.other (fun e => q.ne e) Zhs, q.mids.keep hf (fun _ q => q) (fun b hb hc _ => by rw [get_other hb.2.2]; repeat rw [get_other (by omega)]), ⟨_, _, Has.same, ⟨_, k1⟩, fun x => ?_⟩, hpU, hmU, q.ne, q.rises.filter _, fun r hr => q.ok r (List.mem_filter.1 hr).1⟩
  rw [getM_del, valI_del h2]
  by_cases hxi : x = id
  ·rw [if_pos hxi, if_pos hxi]; exact .inl ⟨rfl, rfl⟩
  ·rw [if_neg hxi, if_neg hxi]
   exact (h3 x).keep hf (fun b hb => hb) fun b _ hc _ hm => by rw [get_other hm]; repeat rw [get_other (by omega)]
 ·exact Zex
theorem iids_spec {h : T AObj} {c : Nat} {rl wl : List Nat} (hf : Fresh h c) {p m dim : Nat} {mv : Value} {mt : Int} {mid : List (List Int)} {M : List Rc} {U : Nat → Prop} (q : IvfM h p m mv mt dim mid M U) (hn : M.length ≤ 1000) :
  ∃ r s', FnTo (Cs smQ) eg 118 [.pointer (some ⟨p, 0, none⟩)] ⟨h, c, rl, wl⟩ r s' ∧ Own s'.h c r M.length ((M.map Rc.id).map (Value.int .i64)) ∧ Ext ⟨h, c, rl, wl⟩ s' U (fun _ => False) := by
 obtain ⟨es, n, hm, ⟨ids, h2⟩, h3⟩ := q.ex
 have hp := q.ptr
 obtain ⟨lp, lm⟩ := q.lt hf
 have hpU := q.pU
 have hmU := q.mU
 obtain ⟨oa1, cap1, rfl⟩ := q.mids.val
 have hs := IvfM.ids h2 q.rises h3
 have hlen : ids.length = M.length := by
  have := congrArg List.length hs
  rw [(sortI_perm ids).length_eq, List.length_map] at this
  exact this
 have hk := h2.keyInts
 refine Fn.go (stdQ 118 rfl) ex118 fn118 km118 rfl rfl ?_
 refine Zev ?_
 refine Zgo ?_
 refine Wseq.call rfl rfl (keysI_spec stdQ Zfr) ?_
 rintro v1 h1 c1 r1 w1 ⟨rfl, e1⟩
 cases e1
 cases ids with
 | nil =>
  obtain rfl : M = [] := by cases M with | nil => rfl | cons _ _ => simp at hlen
  refine Wseq.call rfl rfl (sortedI_none Zfr Zhs Zhs hk) ?_
  rintro v1 h1 c1 r1 w1 ⟨rfl, e1⟩
  cases e1
  refine Zgo ?_
  refine ⟨.inr rfl, Wres.one rfl ⟨.inl ⟨rfl, rfl, rfl⟩, ?_⟩⟩
  exact Zex
 | cons x0 xs0 =>
  refine Wseq.call rfl rfl (sortedI_some Zfr Zhs Zhs hk (by omega)) ?_
  rintro v1 h1 c1 r1 w1 ⟨rfl, e1⟩
  cases e1
  rw [hs, hlen]
  refine Zgo ?_
  refine ⟨.inr rfl, Wres.one rfl ⟨.inr ⟨c + 1, _, _, rfl, Nat.le_refl _, by omega, Has.same⟩, ?_⟩⟩
  exact Zex
end Go.Ab.Seat
end
section
/- The places of middles, plainly. -/
namespace Go.Ab.Seat
open Go.Extern Go.Proofs
theorem ordZ_mem {mid : List (List Int)} {qs : List Int} {x : Int} : x ∈ ordZ mid qs ↔ 0 ≤ x ∧ x < mid.length := by
 have h1 := hitO_len qs mid
 have h2 := (bestOf_ord (k := mid.length) (hitO_nodup qs mid) mid.length (by omega) (Nat.le_refl _)).1
 rw [List.take_of_length_le (by omega)] at h2
 unfold ordZ
 rw [(h2.map Ht.id).mem_iff]
 unfold hitO
 rw [List.map_map]
 constructor
 ·intro h
  obtain ⟨i, h3, rfl⟩ := List.mem_map.1 h
  have := List.mem_range.1 h3
  show 0 ≤ (i : Int) ∧ (i : Int) < _
  omega
 ·rintro ⟨h3, h4⟩
  exact List.mem_map.2 ⟨x.toNat, List.mem_range.2 (by omega), by show ((x.toNat : Nat) : Int) = x; omega⟩
theorem nearZ_rng {mid : List (List Int)} {zs : List Int} (h : mid.length ≠ 0) : 0 ≤ nearZ mid zs ∧ nearZ mid zs < mid.length := by
 have h1 := ordZ_len mid zs
 unfold nearZ
 rw [if_neg h]
 refine ordZ_mem (qs := zs).1 ?_
 rw [List.getD_eq_getElem?_getD, List.getElem?_eq_getElem (by omega)]
 exact List.getElem_mem _
theorem VecsIn.keep {h h' : T AObj} {c : Nat} {v : Value} {zss : List (List Int)} (x : VecsIn h v zss) (hf : Fresh h c) (k : ∀ b, b < c → h'.get b = h.get b) : VecsIn h' v zss := by
 obtain ⟨oa, cap, e, hat⟩ := x
 refine ⟨oa, cap, e, fun i zs hi => ?_⟩
 obtain ⟨b, o, sp, cs, a, kk, e1, e2, e3, e4⟩ := hat i zs hi
 refine ⟨b, o, sp, cs, a, kk, e1, ?_, e3, Row.keepF e4 hf k⟩
 have q := k b (e2.lt hf)
 unfold Cel Has at e2 ⊢
 rw [q]; exact e2
end Go.Ab.Seat
end
