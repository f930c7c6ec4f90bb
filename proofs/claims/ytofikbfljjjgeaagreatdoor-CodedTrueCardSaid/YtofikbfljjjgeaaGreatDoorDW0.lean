import Derived.Test.YtofikbfljjjgeaaGreatDoorDW2
import Derived.Test.YtofikbfljjjgeaaGreatDoorDY7
import Derived.Test.YtofikbfljjjgeaaGreatDoorDY2
import Derived.Test.YtofikbfljjjgeaaGreatDoorDV3
set_option linter.unusedVariables false
set_option linter.unusedSimpArgs false
section
/- A map's keys, in order (the abstract machine). -/
namespace Go.Ab.Seat
open Go.Extern Go.Proofs
set_option maxRecDepth 4000
variable {sm : Nat → Option (List Value → M Value)}
theorem sortedC_none {h : T AObj} {c b m n : Nat} {rl wl : List Nat} {es : List (Value × Value × Nat)} (hf : Fresh h c) (hb : Has h b (.cells [.map (some m)])) (hm : Has h m (.map es n)) (hk : keyInts es n = some []) :
  ∃ v s', FnTo (Cs smQ) eg 84 [.func (.func 164) #[] ⟨[.pointer (some ⟨b, 0, none⟩)]⟩] ⟨h, c, rl, wl⟩ v s' ∧ (v = .slice none 0 0 ∧ s' = ⟨h, c, m :: b :: rl, wl⟩) := by
 refine ⟨_, _, ⟨0, ?_⟩, rfl, rfl⟩
 have hs : (Cs smQ).sm 84 = some (sumSorted kindOf) := rfl
 unfold callF
 rw [hs]
 show sumSorted kindOf _ _ = _
 unfold sumSorted
 have e1 : iterOf kindOf [.func (.func 164) #[] ⟨[.pointer (some ⟨b, 0, none⟩)]⟩] = some (164, true, b, 0) := rfl
 rw [e1, bind_run (lift_run (a := (164, true, b, 0)) rfl)]
 dsimp only
 rw [bind_run (getCells_run hb.cel (hb.lt hf))]
 have e2 : nth [Value.map (some m)] 0 = some (.map (some m)) := rfl
 rw [e2, bind_run (lift_run (a := Value.map (some m)) rfl)]
 unfold seqInts
 dsimp only
 rw [bind_run (show ((M.lift (mapAt (Value.map (some m)))).bind mapInts) _ = some ([], ⟨h, c, m :: b :: rl, wl⟩) from by
  have e3 : mapAt (Value.map (some m)) = some (some m) := rfl
  rw [e3, bind_run (lift_run (a := some m) rfl)]
  unfold mapInts
  dsimp only
  rw [bind_run (getMap_run hm (hm.lt hf))]
  exact lift_run hk)]
 rfl
theorem sortedC_some {h : T AObj} {c b m n : Nat} {rl wl : List Nat} {es : List (Value × Value × Nat)} {x : Int} {xs : List Int} (hf : Fresh h c) (hb : Has h b (.cells [.map (some m)])) (hm : Has h m (.map es n)) (hk : keyInts es n = some (x :: xs)) (hl : (x :: xs).length ≤ 1000000) :
  ∃ v s', FnTo (Cs smQ) eg 84 [.func (.func 164) #[] ⟨[.pointer (some ⟨b, 0, none⟩)]⟩] ⟨h, c, rl, wl⟩ v s' ∧ (v = .slice (some ⟨c, 0, some 1⟩) (x :: xs).length (x :: xs).length ∧ s' = ⟨h.set c (some (.cells ((sortI (x :: xs)).map fun n => Value.int .i64 n))), c + 1, m :: b :: rl, wl⟩) := by
 refine ⟨_, _, ⟨0, ?_⟩, rfl, rfl⟩
 have hs : (Cs smQ).sm 84 = some (sumSorted kindOf) := rfl
 unfold callF
 rw [hs]
 show sumSorted kindOf _ _ = _
 unfold sumSorted
 have e1 : iterOf kindOf [.func (.func 164) #[] ⟨[.pointer (some ⟨b, 0, none⟩)]⟩] = some (164, true, b, 0) := rfl
 rw [e1, bind_run (lift_run (a := (164, true, b, 0)) rfl)]
 dsimp only
 rw [bind_run (getCells_run hb.cel (hb.lt hf))]
 have e2 : nth [Value.map (some m)] 0 = some (.map (some m)) := rfl
 rw [e2, bind_run (lift_run (a := Value.map (some m)) rfl)]
 unfold seqInts
 dsimp only
 rw [bind_run (show ((M.lift (mapAt (Value.map (some m)))).bind mapInts) _ = some (x :: xs, ⟨h, c, m :: b :: rl, wl⟩) from by
  have e3 : mapAt (Value.map (some m)) = some (some m) := rfl
  rw [e3, bind_run (lift_run (a := some m) rfl)]
  unfold mapInts
  dsimp only
  rw [bind_run (getMap_run hm (hm.lt hf))]
  exact lift_run hk)]
 unfold giveInts
 dsimp only
 rw [show Nat.ble (len (x :: xs)) 1000000 = true from by rw [len_eq]; rw [Nat.ble_eq]; exact hl]
 dsimp only
 rw [bind_run (newCells_run hf), mapA_eq, len_eq]
 rfl
theorem keysC_spec (H : Std sm) {h : T AObj} {c m : Nat} {rl wl : List Nat} (hf : Fresh h c) :
  ∃ v s', FnTo (Cs sm) eg 97 [.map (some m)] ⟨h, c, rl, wl⟩ v s' ∧ (v = .func (.func 164) #[] ⟨[.pointer (some ⟨c, 0, none⟩)]⟩ ∧ s' = ⟨h.set c (some (.cells [.map (some m)])), c + 1, rl, wl⟩) := by
 refine Fn.go (H 97 rfl) ex97 fn97 km97 rfl rfl ?_
 refine Zev ?_
 refine Zgo ?_
 exact ⟨.inr rfl, Wres.one rfl ⟨rfl, rfl⟩⟩
end Go.Ab.Seat
end
section
/- An index of codes: one is put; the ids (the abstract machine). -/
namespace Go.Ab.Seat
open Go.Extern Go.Proofs
set_option maxRecDepth 4000
theorem CodM.ids {h : T AObj} {p m : Nat} {U : Nat → Prop} {lo st : List Int} {M : List Rc} {n : Nat} {es : List (Value × Value × Nat)} {ids : List Int} (hk : Keyed es n ids) (hr : Rises M) (hv : ∀ x, CFits h p m U lo st (getM x M) (valI x es)) : sortI ids = M.map Rc.id := by
 refine rises_ext (sortI_rises hk.nodup) hr.ids fun x => ?_
 rw [(sortI_perm ids).mem_iff]
 constructor
 ·intro hx
  rcases hv x with ⟨_, h4⟩ | ⟨r, v, h4, _, _⟩
  ·exact absurd hx ((findI_none_iff hk.keys).1 (valI_none.1 h4))
  ·obtain ⟨h5, h6⟩ := getM_mem h4
   exact List.mem_map.2 ⟨r, h5, h6⟩
 ·intro hx
  obtain ⟨r, h5, rfl⟩ := List.mem_map.1 hx
  refine Classical.byContradiction fun hn => ?_
  rcases hv r.id with ⟨h4, _⟩ | ⟨r', v, _, h4, _⟩
  ·exact absurd rfl (getM_none.1 h4 r h5)
  ·rw [valI_none.2 ((findI_none_iff hk.keys).2 hn)] at h4
   cases h4
theorem cids_spec {h : T AObj} {c : Nat} {rl wl : List Nat} (hf : Fresh h c) {p m dim : Nat} {vl vs : Value} {mt : Int} {lo st : List Int} {M : List Rc} {U : Nat → Prop} (q : CodM h p m vl vs mt dim lo st M U) (hn : M.length ≤ 1000) :
  ∃ r s', FnTo (Cs smQ) eg 43 [.pointer (some ⟨p, 0, none⟩)] ⟨h, c, rl, wl⟩ r s' ∧ Own s'.h c r M.length ((M.map Rc.id).map (Value.int .i64)) ∧ Ext ⟨h, c, rl, wl⟩ s' U (fun _ => False) := by
 obtain ⟨es, n, hm, ⟨ids, h2⟩, h3⟩ := q.ex
 have hp := q.ptr
 obtain ⟨lp, lm⟩ := q.lt hf
 have hpU := q.pU
 have hmU := q.mU
 have hs := CodM.ids h2 q.rises h3
 have hlen : ids.length = M.length := by
  have := congrArg List.length hs
  rw [(sortI_perm ids).length_eq, List.length_map] at this
  exact this
 have hk := h2.keyInts
 refine Fn.go (stdQ 43 rfl) ex43 fn43 km43 rfl rfl ?_
 refine Zev ?_
 refine Zgo ?_
 refine Wseq.call rfl rfl (keysC_spec stdQ Zfr) ?_
 rintro v1 h1 c1 r1 w1 ⟨rfl, e1⟩
 cases e1
 cases ids with
 | nil =>
  obtain rfl : M = [] := by cases M with | nil => rfl | cons _ _ => simp at hlen
  refine Wseq.call rfl rfl (sortedC_none Zfr Zhs Zhs hk) ?_
  rintro v1 h1 c1 r1 w1 ⟨rfl, e1⟩
  cases e1
  refine Zgo ?_
  refine ⟨.inr rfl, Wres.one rfl ⟨.inl ⟨rfl, rfl, rfl⟩, ?_⟩⟩
  exact Zex
 | cons x0 xs0 =>
  refine Wseq.call rfl rfl (sortedC_some Zfr Zhs Zhs hk (by omega)) ?_
  rintro v1 h1 c1 r1 w1 ⟨rfl, e1⟩
  cases e1
  rw [hs, hlen]
  refine Zgo ?_
  refine ⟨.inr rfl, Wres.one rfl ⟨.inr ⟨c + 1, _, _, rfl, Nat.le_refl _, by omega, Has.same⟩, ?_⟩⟩
  exact Zex
set_option maxHeartbeats 4000000 in
theorem cput_spec {h : T AObj} {c : Nat} {rl wl : List Nat} (hf : Fresh h c) {p m dim : Nat} {vl vs : Value} {mt : Int} {lo st : List Int} {M : List Rc} {U : Nat → Prop} (q : CodM h p m vl vs mt dim lo st M U) (id : Int) (hid : -9223372036854775808 ≤ id ∧ id ≤ 9223372036854775807)
  {a : Option Addr} {cap : Nat} {zs : List Int} (hv : Row h (.slice a dim cap) dim 1 (zs.map (Value.int .i32))) (hx : zs.length = dim) (hb : Bnd zs) (hd : 1 ≤ dim) (hd' : dim ≤ 8) (bs : Nat → Prop) (hbs : ∀ b, blkOf (.slice a dim cap) = some b → bs b) (hbm : ¬bs m) :
  ∃ r s', FnTo (Cs smQ) eg 30 [.pointer (some ⟨p, 0, none⟩), .int .i64 id, .slice a dim cap] ⟨h, c, rl, wl⟩ r s' ∧ CodM s'.h p m vl vs mt dim lo st (putM (mbR id zs) M) (fun b => U b ∨ c ≤ b ∧ b < s'.c) ∧ Ext ⟨h, c, rl, wl⟩ s' (fun b => U b ∨ bs b) (fun b => b = m) := by
 obtain ⟨es, n, hm, ⟨ids, h2⟩, h3⟩ := q.ex
 have hp := q.ptr
 obtain ⟨lp, lm⟩ := q.lt hf
 have hpU := q.pU
 have hmU := q.mU
 have hbk := q.book
 obtain ⟨⟨al, kl, at_, ks, ebk, _⟩, _⟩ := _root_.id hbk
 simp only [Value.agg.injEq, Array.mk.injEq, List.cons.injEq, and_true] at ebk
 obtain ⟨rfl, rfl⟩ := ebk
 refine Fn.go (stdQ 30 rfl) ex30 fn30 km30 rfl rfl ?_
 refine Zev ?_
 refine Zgo ?_
 refine Wtr.call rfl rfl (copy_spec stdQ Zfr hv (by unfold bigV; omega) (fun e => by omega) bs (fun b o sp n' cap e => hbs b (by rw [e]; rfl))) ?_
 rintro v h1 c1 r1 w1 ⟨hown, hext⟩
 have hq := hext.quiet (fun _ _ q => q)
 have kp := Kp.ext (W := fun b => b = m) (h := h) (c := c) Zkp hext (by omega) (fun _ _ q => q.elim)
 have lr := Lg.extR (R := fun b => U b ∨ bs b) (c := c) Zlg hext (fun b _ hb => .inr hb)
 have lw := Lg.extW (W := fun b => b = m) (c := c) Zlg hext (fun b _ hb => hb.elim)
 have fr1 := hext.fresh
 have le1 := hext.c
 simp only at le1 fr1
 have hm1 : Has h1 m (.map es n) := hext.hs hm lm (fun q => q)
 have hp1 := hext.hs hp lp (fun q => q)
 have hrm : ∀ b ∈ r1, b ≠ m := fun b hb => by
  rcases hext.rl b hb with u | u
  ·exact absurd u List.not_mem_nil
  ·exact fun e => hbm (e ▸ u.2)
 refine ⟨Zap, ?_⟩
 have hv1 : Row h1 (.slice a dim cap) dim 1 (zs.map (Value.int .i32)) := Row.keepF hv hf (fun b hb => hext.get hb (fun q => q))
 have hbk1 := hbk.keep (U' := fun b => U b ∧ b ≠ p ∧ b ≠ m) hf (fun _ q => q) (fun b _ hb => hext.get hb (fun q => q))
 have hap : ApartP ⟨r1, w1, c, c1⟩ ⟨[p], [], c1, c1⟩ := ApartP.wr (fun y hy => (hq y hy).elim) lp
 refine Zgo ?_
 refine Wtr.call rfl rfl (qcode_spec Zfr hbk1 hd' hx hv1 hb (fun b => (U b ∧ b ≠ m) ∨ bs b) (fun b u => .inl ⟨u.1, u.2.2⟩) (fun b hb => .inr (hbs b hb))) ?_
 rintro v2 h2' c2 r2 w2 ⟨⟨cb, rfl, hcb, hcc⟩, hext2⟩
 have hq2 := hext2.quiet (fun _ _ q => q)
 have kp2 := Kp.ext (W := fun b => b = m) (h := h) (c := c) kp hext2 (by omega) (fun _ _ q => q.elim)
 have lr2 := Lg.extR (R := fun b => U b ∨ bs b) (c := c) Zlg hext2 (fun b _ hb => hb.imp (fun u => u.1) (fun u => u))
 have lw2 := Lg.extW (W := fun b => b = m) (c := c) Zlg hext2 (fun b _ hb => hb.elim)
 have fr2 := hext2.fresh
 have le2 := hext2.c
 simp only at le2 fr2 hcc
 have lcb := hcc.lt fr2
 have hm2 : Has h2' m (.map es n) := hext2.hs hm1 (by omega) (fun q => q)
 have hp2 := hext2.hs hp1 (by omega) (fun q => q)
 have hown2 := hown.keep (h' := h2') (fun b hb => hext2.get ((hown.blk hb).2.lt fr1) (fun q => q))
 have hrm2 : ∀ b ∈ r2, b ≠ m := fun b hb => by
  rcases hext2.rl b hb with u | u
  ·exact absurd u List.not_mem_nil
  ·exact fun e => u.2.elim (fun u => u.2 e) (fun u => hbm (e ▸ u))
 refine ⟨Zap, ?_⟩
 obtain ⟨va, vk, rfl⟩ := hown2.val
 refine Zgo ?_
 refine Wtr.op (s1 := ⟨h2'.set m (some (.map (putI .i64 id (.agg ⟨[.slice va dim vk, .slice (some ⟨cb, 0, none⟩) dim dim]⟩) n es).1 (putI .i64 id (.agg ⟨[.slice va dim vk, .slice (some ⟨cb, 0, none⟩) dim dim]⟩) n es).2)), c2, [m], [m]⟩) rfl (to_mapUpdate (mi_ rfl) rfl rfl rfl hm2 (hm2.lt fr2) h2.ks) ?_ ?_
 ·exact Zap
 dsimp only [put]
 refine Zgo ?_
 refine ⟨.inl rfl, Wres.nil ⟨?_, ?_⟩⟩
 ·refine ⟨Has.other (fun e => q.ne e) hp2, hbk1.keep fr1 (fun b hb => ⟨.inl hb.1, hb.2⟩) (fun b hb hc => (get_other hb.2.2).trans (hext2.get hc (fun q => q))), ⟨_, _, Has.same, ⟨_, h2.put (by unfold wfI; rw [decide_eq_true hid.1, decide_eq_true hid.2]; rfl) _⟩, fun x => ?_⟩, .inl hpU, .inl hmU, q.ne, q.rises.put _, fun r hr => ?_⟩
  ·rw [getM_put, valI_put h2]
   by_cases hxi : id = x
   ·rw [if_pos hxi, if_pos hxi.symm]
    refine .inr ⟨_, _, rfl, rfl, _, _, rfl, ?_, ?_, fun b hb => ?_, fun b hb => ?_⟩
    ·show Own _ 0 _ (zs.map (Value.int .i32)).length _
     rw [List.length_map, hx]
     exact (hown2.low (Nat.zero_le _)).keep fun b hb => get_other (by have := (hown2.blk hb).1; omega)
    ·show Own _ 0 _ (zs.map (Value.int .i32)).length ((codeZ lo st (intsV (zs.map (Value.int .i32)))).map (Value.int .u8))
     rw [List.length_map, hx, intsV_ints]
     exact .inr ⟨cb, none, dim, rfl, Nat.le_refl _, Nat.zero_le _, Has.other (by omega) hcc⟩
    ·obtain ⟨u1, u2⟩ := hown2.blk hb
     have := u2.lt fr2
     exact ⟨.inr ⟨u1, this⟩, by omega, by omega⟩
    ·have e : cb = b := by simpa [blkOf] using hb
     subst e
     exact ⟨.inr ⟨by omega, lcb⟩, by omega, by omega⟩
   ·rw [if_neg hxi, if_neg fun e => hxi e.symm]
    exact (h3 x).keep hf (fun b hb => .inl hb) fun b _ hc _ hm => (get_other hm).trans (kp2 b hc hm)
  ·rcases mem_putM hr with rfl | hr
   ·exact ⟨zs, rfl, hx, hb⟩
   ·exact q.ok r hr
 ·exact Zex
end Go.Ab.Seat
end
section
/- An index of codes: a search (the abstract machine). -/
namespace Go.Ab.Seat
open Go.Extern Go.Proofs
set_option maxRecDepth 4000
theorem codeZ_len (lo st zs : List Int) : (codeZ lo st zs).length = zs.length := by unfold codeZ; rw [List.length_map, List.length_range]
end Go.Ab.Seat
end
section
/- flat.Vec; the five ways of a Face that has a flat index (the abstract machine). -/
namespace Go.Ab.Seat
open Go.Extern Go.Proofs
set_option maxRecDepth 4000
end Go.Ab.Seat
end
section
/- Face's put; the law's Dim; the reference's New, made (the abstract machine). -/
namespace Go.Ab.Seat
open Go.Extern Go.Proofs
set_option maxRecDepth 4000
def opF (kd id k : Int) (oa : Option Addr) (on oc : Nat) (dw : Int) : Value := .agg ⟨[.int .i64 kd, .int .i64 id, .int .i64 k, .slice oa on oc, .int .u32 dw]⟩
end Go.Ab.Seat
end
section
/- Duet indexes side by side, whatever kind they are of; operations that come in (the abstract machine). -/
namespace Go.Ab.Seat
open Go.Extern Go.Proofs
def OpsD (h : T AObj) (c0 : Nat) (oa : Option Addr) (n : Nat) : Prop := ∀ i, i < n → ∃ b o sp cs kd id k va nv kv, ∃ zs : List Int, ∃ dw, oa = some ⟨b, o, sp⟩ ∧ b < c0 ∧ Cel h b cs ∧ subN (o + i * 5) 5 cs = some [.int .i64 kd, .int .i64 id, .int .i64 k, .slice va nv kv, .int .u32 dw] ∧
 Row h (.slice va nv kv) nv 1 (zs.map (Value.int .i32)) ∧ zs.length = nv ∧ ∀ b, blkOf (.slice va nv kv) = some b → b < c0
theorem OpsD.keep {h h' : T AObj} {c0 n : Nat} {oa : Option Addr} (x : OpsD h c0 oa n) (k : ∀ b, b < c0 → h'.get b = h.get b) : OpsD h' c0 oa n := fun i hi => by
 obtain ⟨b, o, sp, cs, kd, id, k1, va, nv, kv, zs, dw, h1, h2, h3, h4, h5, h6, h7⟩ := x i hi
 exact ⟨b, o, sp, cs, kd, id, k1, va, nv, kv, zs, dw, h1, h2, by unfold Cel Has at h3 ⊢; rw [k b h2]; exact h3, h4, Row.keepBT h5 (fun b hb => k b (h7 b hb)), h6, h7⟩
def Tells (h : T AObj) (v : Value) (dim : Nat) (o : Option Rc) : Prop := (o = none ∧ ∃ a k, v = .slice a 0 k ∧ Row h (.slice a 0 k) 0 1 []) ∨ ∃ (r0 : Rc) (zs : List Int) (a : Option Addr) (k : Nat), o = some r0 ∧ r0.xs = zs.map (Value.int .i32) ∧ zs.length = dim ∧ v = .slice a dim k ∧ Row h (.slice a dim k) dim 1 r0.xs
theorem Tells.keep {h h' : T AObj} {c : Nat} {v : Value} {dim : Nat} {o : Option Rc} (x : Tells h v dim o) (hf : Fresh h c) (k : ∀ b, b < c → h'.get b = h.get b) : Tells h' v dim o := by
 rcases x with ⟨h1, a, k1, h2, h3⟩ | ⟨r0, zs, a, k1, h1, h2, h3, h4, h5⟩
 ·exact .inl ⟨h1, a, k1, h2, Row.keepF h3 hf (fun b hb => k b hb)⟩
 ·exact .inr ⟨r0, zs, a, k1, h1, h2, h3, h4, Row.keepF h5 hf (fun b hb => k b hb)⟩
structure Duet {σ : Type} (fv : List Value) (r c0 dim : Nat) (mem : σ → List Rc) (put : σ → Int → List Int → Int → σ) (del : σ → Int → σ) (look : σ → List Int → Nat → List Ht) (J : T AObj → Nat → (Nat → Prop) → σ → σ → Prop) : Prop where
 f : ∀ {h c U A B}, J h c U A B → Fresh h c
 bd : ∀ {h c U A B}, J h c U A B → ∀ b, U b → c0 ≤ b ∧ b < c
 keep : ∀ {h c U A B h' c'}, J h c U A B → Fresh h' c' → c ≤ c' → (∀ b, U b → h'.get b = h.get b) → J h' c' U A B
 rises : ∀ {h c U A B}, J h c U A B → Rises (mem A)
 looks : ∀ A zs k, (look A zs k).length ≤ k
 mput : ∀ {A id zs dw x}, x ∈ mem (put A id zs dw) → x.id = id ∨ x ∈ mem A
 mdel : ∀ {A id x}, x ∈ mem (del A id) → x ∈ mem A
 putF : ∀ {h c U A B} {rl wl : List Nat} (d : J h c U A B) (id : Int) (hid : 0 ≤ id ∧ id ≤ 39) {bv : Nat} {zs : List Int} (hv : Has h bv (.cells (zs.map (Value.int .i32)))) (hz : zs.length = dim) (hb : Bnd zs) (kd k dw : Int) (oa : Option Addr) (on oc : Nat) (hn : (mem A).length ≤ 40), ¬U bv → c0 ≤ c →
  ∃ v s', FnTo (Cs smQ) eg 119 [.agg ⟨fv⟩, opF kd id k oa on oc dw, .slice (some ⟨bv, 0, none⟩) dim dim] ⟨h, c, rl, wl⟩ v s' ∧ J s'.h s'.c (fun b => U b ∨ c ≤ b ∧ b < s'.c) (put A id zs dw) B ∧ Ext ⟨h, c, rl, wl⟩ s' (fun _ => True) U
 putR : ∀ {h c U A B} {rl wl : List Nat} (d : J h c U A B) (id : Int) (hid : 0 ≤ id ∧ id ≤ 39) {bv : Nat} {zs : List Int} (hv : Has h bv (.cells (zs.map (Value.int .i32)))) (hz : zs.length = dim) (hb : Bnd zs) (dw : Int) (hn : (mem B).length ≤ 40), ¬U bv → c0 ≤ c →
  ∃ v s', FnTo (Cs smQ) eg 50 [.pointer (some ⟨r, 0, none⟩), .int .i64 id, .slice (some ⟨bv, 0, none⟩) dim dim, .int .u32 dw] ⟨h, c, rl, wl⟩ v s' ∧ J s'.h s'.c (fun b => U b ∨ c ≤ b ∧ b < s'.c) A (put B id zs dw) ∧ Ext ⟨h, c, rl, wl⟩ s' (fun _ => True) U
 delF : ∀ {h c U A B} {rl wl : List Nat} (d : J h c U A B) (id : Int) (hn : (mem A).length ≤ 40), c0 ≤ c →
  ∃ v s', FnTo (Cs smQ) eg 120 [.agg ⟨fv⟩, .int .i64 id] ⟨h, c, rl, wl⟩ v s' ∧ (v = .bool (getM id (mem A)).isSome ∧ J s'.h s'.c (fun b => U b ∨ c ≤ b ∧ b < s'.c) (del A id) B) ∧ Ext ⟨h, c, rl, wl⟩ s' (fun _ => True) U
 delR : ∀ {h c U A B} {rl wl : List Nat} (d : J h c U A B) (id : Int) (hn : (mem B).length ≤ 40), c0 ≤ c →
  ∃ v s', FnTo (Cs smQ) eg 52 [.pointer (some ⟨r, 0, none⟩), .int .i64 id] ⟨h, c, rl, wl⟩ v s' ∧ (v = .bool (getM id (mem B)).isSome ∧ J s'.h s'.c (fun b => U b ∨ c ≤ b ∧ b < s'.c) A (del B id)) ∧ Ext ⟨h, c, rl, wl⟩ s' (fun _ => True) U
 searchF : ∀ {h c U A B} {rl wl : List Nat} (d : J h c U A B) {bv : Nat} {zs : List Int} (hv : Has h bv (.cells (zs.map (Value.int .i32)))) (hz : zs.length = dim) (hb : Bnd zs) (k : Int) {kk : Nat} (hk : max k 0 = (kk : Int)) (hkk : kk ≤ 30) (hn : (mem A).length ≤ 40), c0 ≤ c →
  ∃ v s', FnTo (Cs smQ) eg 121 [.agg ⟨fv⟩, .slice (some ⟨bv, 0, none⟩) dim dim, .int .i64 k] ⟨h, c, rl, wl⟩ v s' ∧ (Best s'.h v (look A zs kk).length (flatH (look A zs kk)) ∧ ∀ b, blkOf v = some b → c ≤ b) ∧ Ext ⟨h, c, rl, wl⟩ s' (fun _ => True) (fun _ => False)
 searchR : ∀ {h c U A B} {rl wl : List Nat} (d : J h c U A B) {bv : Nat} {zs : List Int} (hv : Has h bv (.cells (zs.map (Value.int .i32)))) (hz : zs.length = dim) (hb : Bnd zs) (k : Int) {kk : Nat} (hk : max k 0 = (kk : Int)) (hkk : kk ≤ 30) (hn : (mem B).length ≤ 40), c0 ≤ c →
  ∃ v s', FnTo (Cs smQ) eg 53 [.pointer (some ⟨r, 0, none⟩), .slice (some ⟨bv, 0, none⟩) dim dim, .int .i64 k] ⟨h, c, rl, wl⟩ v s' ∧ (Best s'.h v (look B zs kk).length (flatH (look B zs kk)) ∧ ∀ b, blkOf v = some b → c ≤ b) ∧ Ext ⟨h, c, rl, wl⟩ s' (fun _ => True) (fun _ => False)
 idsF : ∀ {h c U A B} {rl wl : List Nat} (d : J h c U A B) (hn : (mem A).length ≤ 40),
  ∃ v s', FnTo (Cs smQ) eg 124 [.agg ⟨fv⟩] ⟨h, c, rl, wl⟩ v s' ∧ Own s'.h c v (mem A).length (((mem A).map Rc.id).map (Value.int .i64)) ∧ Ext ⟨h, c, rl, wl⟩ s' (fun _ => True) (fun _ => False)
 idsR : ∀ {h c U A B} {rl wl : List Nat} (d : J h c U A B) (hn : (mem B).length ≤ 40),
  ∃ v s', FnTo (Cs smQ) eg 56 [.pointer (some ⟨r, 0, none⟩)] ⟨h, c, rl, wl⟩ v s' ∧ HJ s'.h c v ((mem B).map Rc.id) ∧ Ext ⟨h, c, rl, wl⟩ s' (fun _ => True) (fun _ => False)
 vecF : ∀ {h c U A B} {rl wl : List Nat} (d : J h c U A B) (id : Int) (hn : (mem A).length ≤ 40),
  ∃ v s', FnTo (Cs smQ) eg 122 [.agg ⟨fv⟩, .int .i64 id] ⟨h, c, rl, wl⟩ v s' ∧ (∃ w, v = .tuple #[w, .bool (getM id (mem A)).isSome] ∧ Tells s'.h w dim (getM id (mem A))) ∧ Ext ⟨h, c, rl, wl⟩ s' (fun _ => True) (fun _ => False)
 vecR : ∀ {h c U A B} {rl wl : List Nat} (d : J h c U A B) (id : Int) (hn : (mem B).length ≤ 40),
  ∃ v s', FnTo (Cs smQ) eg 123 [.pointer (some ⟨r, 0, none⟩), .int .i64 id] ⟨h, c, rl, wl⟩ v s' ∧ (∃ w, v = .tuple #[w, .bool (getM id (mem B)).isSome] ∧ Tells s'.h w dim (getM id (mem B))) ∧ Ext ⟨h, c, rl, wl⟩ s' (fun _ => True) (fun _ => False)
end Go.Ab.Seat
end
