import Derived.Test.YtofikbfljjjgeaaGreatDoorDW0
import Derived.Test.YtofikbfljjjgeaaGreatDoorDW2
import Derived.Test.YtofikbfljjjgeaaGreatDoorDW6
set_option linter.unusedVariables false
set_option linter.unusedSimpArgs false
section
/- The law's 'alike' with any two indexes that go together answers true (the abstract machine). -/
namespace Go.Ab.Seat
open Go.Extern Go.Proofs
set_option maxRecDepth 4000
def EAk (a0 a1 a2 a3 : Value) (r dim : Nat) (oa : Option Addr) (n cap N bx : Nat) (z : Int) (j12 j13 j14 j15 j16 j17 j18 j27 j45 j58 j59 j72 j82 j113 : Value) : L :=
 .cons 0 (.agg ⟨[a0, a1, a2, a3]⟩) (.cons 1 (.pointer (some ⟨r, 0, none⟩)) (.cons 2 (.int .i64 (dim : Int)) (.cons 3 (.slice oa n cap) (.cons 4 (.int .i64 (N : Int)) (.cons 5 (.pointer (some ⟨bx, 0, none⟩)) (.cons 10 (.bool false) (.cons 11 (.int .i64 z) (.cons 12 j12 (.cons 13 j13 (.cons 14 j14 (.cons 15 j15 (.cons 16 j16 (.cons 17 j17 (.cons 18 j18 (.cons 27 j27 (.cons 45 j45 (.cons 58 j58 (.cons 59 j59 (.cons 72 j72 (.cons 82 j82 (.cons 113 j113 .nil)))))))))))))))))))))
theorem tmod40 (z : Int) : 0 ≤ (z.tmod 40 + 40).tmod 40 ∧ (z.tmod 40 + 40).tmod 40 ≤ 39 ∧ -40 < z.tmod 40 ∧ z.tmod 40 < 40 := by
 have h1 := tmod_lt z 40 (by omega)
 have h2 := Int.tmod_lt_of_pos (z.tmod 40 + 40) (show (0 : Int) < 40 by omega)
 have h3 := Int.tmod_nonneg (a := z.tmod 40 + 40) 40 (by omega)
 omega
def Low (M : List Rc) : Prop := ∀ x ∈ M, 0 ≤ x.id ∧ x.id ≤ 39
set_option maxHeartbeats 8000000 in
theorem alike_gen {σ : Type} {a0 a1 a2 a3 : Value} {r c0 dim : Nat} {mem : σ → List Rc} {pt : σ → Int → List Int → Int → σ} {dl : σ → Int → σ} {lk : σ → List Int → Nat → List Ht} {J : T AObj → Nat → (Nat → Prop) → σ → σ → Prop} (T2 : Duet [a0, a1, a2, a3] r c0 dim mem pt dl lk J)
  {h : T AObj} {c : Nat} {rl wl : List Nat} (hd1 : 1 ≤ dim) (hd : dim ≤ 8) {U0 : Nat → Prop} {M0 : σ} (d0 : J h c U0 M0 M0) (hM0 : Low (mem M0)) (hc0 : c0 ≤ c) {oa : Option Addr} {n cap N : Nat} (hN : N ≤ 60) (hx : OpsD h c0 oa n) :
  ∃ v s', FnTo (Cs smQ) eg 60 [.agg ⟨[a0, a1, a2, a3]⟩, .pointer (some ⟨r, 0, none⟩), .int .i64 (dim : Int), .slice oa n cap, .int .i64 (N : Int)] ⟨h, c, rl, wl⟩ v s' ∧ v = .bool true ∧ ∃ U M, J s'.h s'.c U M M ∧ Low (mem M) ∧ c ≤ s'.c ∧ Kp h s'.h c0 (fun _ => False) := by
 have hf := T2.f d0
 refine Fn.go (stdQ 60 rfl) ex60 fn60 km60 rfl rfl ?_
 refine Zev ?_
 refine Zgo ?_
 have D0 : J (h.set c (some (.cells [a0, a1, a2, a3]))) (c + 1) U0 M0 M0 := T2.keep d0 Zfr (by omega) (fun b hb => get_other (by have := (T2.bd d0 b hb).2; omega))
 have nb0 : ¬U0 c := fun q => by have := (T2.bd d0 c q).2; omega
 refine Wx.loopE (fun k1 e s => ∃ (i : Nat) (z : Int) (h' : T AObj) (c' : Nat) (rl' wl' : List Nat) (U : Nat → Prop) (M : σ) (j12 j13 j14 j15 j16 j17 j18 j27 j45 j58 j59 j72 j82 j113 : Value), e = EAk a0 a1 a2 a3 r dim oa n cap N c z j12 j13 j14 j15 j16 j17 j18 j27 j45 j58 j59 j72 j82 j113 ∧ z = i ∧ s = ⟨h', c', rl', wl'⟩ ∧ c + 1 ≤ c' ∧ Kp h h' c0 (fun _ => False) ∧ J h' c' U M M ∧ ¬U c ∧ Has h' c (.cells [a0, a1, a2, a3]) ∧ Low (mem M) ∧ i ≤ N ∧ k1 = N - i) N (EAk a0 a1 a2 a3 r dim oa n cap N c 0 top top top top top top top top top top top top top top) Zrs ?_ ?_ ?_
 ·unfold EAk
  exact Zek
 ·exact ⟨0, 0, _, _, _, _, U0, M0, _, _, _, _, _, _, _, _, _, _, _, _, _, _, rfl, rfl, rfl, Nat.le_refl _, Zkp, D0, nb0, Has.same, hM0, by omega, rfl⟩
 ·rintro k1 e s ⟨i, z, h2, c2, rl2, wl2, U, M, j12, j13, j14, j15, j16, j17, j18, j27, j45, j58, j59, j72, j82, j113, rfl, hz, rfl, hcc, kp2, d2, nb2, hbx, hM, hi, rfl⟩
  have f2 := T2.f d2
  unfold EAk
  by_cases hi1 : n ≤ i
  ·refine Zgo ?_
   exact ⟨.inr rfl, Wres.one rfl ⟨rfl, U, M, d2, hM, by dsimp only; omega, kp2⟩⟩
  by_cases hi2 : N ≤ i
  ·refine Zgo ?_
   exact ⟨.inr rfl, Wres.one rfl ⟨rfl, U, M, d2, hM, by dsimp only; omega, kp2⟩⟩
  obtain ⟨b1, o1, sp1, cs1, kd, id, k, va, nv, kv, zs, dw, rfl, lb1, hc1, hsub, hrow, hzl, hvb⟩ := hx i (by omega)
  have D1 : Cel h2 b1 cs1 := by unfold Cel Has at hc1 ⊢; rw [kp2 b1 lb1 (fun q => q)]; exact hc1
  have rowAt : ∀ h' : T AObj, Kp h h' c0 (fun _ => False) → Row h' (.slice va nv kv) nv 1 (zs.map (Value.int .i32)) := fun h' K => Row.keepBT hrow fun b hb => K b (hvb b hb) (fun q => q)
  have h40 := tmod40 id
  refine Zgo ?_
  refine Zu (to_indexAddr (k := i) el48 rfl rfl hz (by omega)) ?_
  refine Zu (to_loadS ag50 rfl D1 (by omega) hsub) ?_
  refine Zgo ?_
  refine Wseq.call rfl rfl (vec_spec stdQ Zfr hzl (rowAt _ Zkp) dim (by omega) (fun _ => True) (fun _ _ => trivial)) ?_
  rintro v3 h3 c3 r3 w3 ⟨⟨rfl, hv3⟩, x3⟩
  have y3 := x3.c
  have f3 : Fresh h3 c3 := x3.fresh
  dsimp only at y3 hv3
  have kp3 := Kp.ext (W := fun _ => False) (h := h) (c := c0) Zkp x3 (by omega) (fun b hb q => q)
  have d3 : J h3 c3 U M M := T2.keep d2 f3 (by omega) (fun b hb => by
   have := (T2.bd d2 b hb).2
   exact (x3.get (by omega) (fun q => q)).trans (by rw [get_other (by omega), get_other (by omega), get_other (by omega)]))
  have nbo : ¬U c2 := fun q => by have := (T2.bd d2 c2 q).2; omega
  have nbv : ¬U (c2 + 1) := fun q => by have := (T2.bd d2 _ q).2; omega
  have hbx3 := x3.hs (b := c) (Has.other (by omega) (Has.other (by omega) (Has.other (by omega) hbx))) (by omega) (fun q => q)
  have hob3 := x3.hs (b := c2) Has.same (by omega) (fun q => q)
  have lv3 := hv3.lt f3
  have hzb := Bnd_vecZ zs dim
  have hzl2 := vecZ_len zs dim
  generalize vecZ zs dim = ys at hv3 hzb hzl2
  generalize hid' : (id.tmod 40 + 40).tmod 40 = id' at hob3 h40
  have hML := ids_len (T2.rises d3) hM
  refine Zgb ?_
  refine Wx.cut (fun e s => ∃ (h' : T AObj) (c' : Nat) (rl' wl' : List Nat) (U' : Nat → Prop) (M' : σ) (j14 j45 j58 j59 j72 j82 : Value), e = EAk a0 a1 a2 a3 r dim (some ⟨b1, o1, sp1⟩) n cap N c z (.pointer (some ⟨c2, 0, none⟩)) (.slice (some ⟨c2 + 1, 0, none⟩) dim dim) j14 j15 j16 j17 j18 (.bool true) j45 j58 j59 j72 j82 j113 ∧ s = ⟨h', c', rl', wl'⟩ ∧ c2 + 1 ≤ c' ∧ Kp h h' c0 (fun _ => False) ∧ J h' c' U' M' M' ∧ ¬U' c ∧ Has h' c (.cells [a0, a1, a2, a3]) ∧ Has h' c2 (.cells [.int .i64 kd, .int .i64 id', .int .i64 k, .slice va nv kv, .int .u32 dw]) ∧ Low (mem M')) Zrs ?_ ?_
  ·by_cases k0 : kd = 0
   ·subst k0
    refine Zgo ?_
    refine Wseq.call rfl rfl (T2.putF d3 id' (by omega) hv3 hzl2 hzb 0 k dw va nv kv (by omega) nbv (by omega)) ?_
    rintro v4 h4 c4 r4 w4 ⟨d4, x4⟩
    have y4 := x4.c
    have f4 : Fresh h4 c4 := x4.fresh
    dsimp only at y4 d4
    have kp4 := Kp.ext (W := fun _ => False) (h := h) (c := c0) kp3 x4 (by omega) (fun b hb q => by have := (T2.bd d3 b q).1; omega)
    have hbx4 := x4.hs (b := c) hbx3 (by omega) nb2
    have hob4 := x4.hs (b := c2) hob3 (by omega) nbo
    have hv4 := x4.hs (b := c2 + 1) hv3 (by omega) nbv
    have no4 : ∀ b, b = c ∨ b = c2 ∨ b = c2 + 1 → ¬(U b ∨ c3 ≤ b ∧ b < c4) := by
     rintro b hb (q | q)
     ·rcases hb with rfl | rfl | rfl
      ·exact nb2 q
      ·exact nbo q
      ·exact nbv q
     ·omega
    refine Zgo ?_
    refine Wseq.call rfl rfl (T2.putR d4 id' (by omega) hv4 hzl2 hzb dw (by omega) (no4 _ (.inr (.inr rfl))) (by omega)) ?_
    rintro v5 h5 c5 r5 w5 ⟨d5, x5⟩
    have y5 := x5.c
    dsimp only at y5 d5
    have kp5 := Kp.ext (W := fun _ => False) (h := h) (c := c0) kp4 x5 (by omega) (fun b hb q => by have := (T2.bd d4 b q).1; omega)
    have hbx5 := x5.hs (b := c) hbx4 (by omega) (no4 _ (.inl rfl))
    have hob5 := x5.hs (b := c2) hob4 (by omega) (no4 _ (.inr (.inl rfl)))
    refine Zgo ?_
    refine CutQ.go (EAk a0 a1 a2 a3 r dim _ n cap N c z (.pointer (some ⟨c2, 0, none⟩)) (.slice (some ⟨c2 + 1, 0, none⟩) dim dim) _ j15 j16 j17 j18 (.bool true) _ _ _ _ _ j113) (by unfold EAk; exact Zek) ⟨h5, c5, _, _, _, _, _, _, _, _, _, _, rfl, rfl, by omega, kp5, d5, (fun q => q.elim (no4 _ (.inl rfl)) (fun q => by omega)), hbx5, hob5, fun x hx => ?_⟩
    rcases T2.mput hx with q | hx
    ·rw [q]; omega
    ·exact hM x hx
   by_cases k1 : kd = 1
   ·subst k1
    refine Zgo ?_
    refine Wtr.call rfl rfl (T2.delF d3 id' (by omega) (by omega)) ?_
    rintro v4 h4 c4 r4 w4 ⟨⟨rfl, d4⟩, x4⟩
    have y4 := x4.c
    have f4 : Fresh h4 c4 := x4.fresh
    have hap : ApartP ⟨r4, w4, c3, c4⟩ ⟨[c2], [], c4, c4⟩ := ApartP.wr (fun y hy e => by
     rcases x4.wl y hy with q | q
     ·exact List.not_mem_nil q
     ·exact nbo (e ▸ q.2)) (by omega)
    dsimp only at y4 d4
    have no4 : ∀ b, b = c ∨ b = c2 → ¬(U b ∨ c3 ≤ b ∧ b < c4) := by
     rintro b hb (q | q)
     ·rcases hb with rfl | rfl
      ·exact nb2 q
      ·exact nbo q
     ·omega
    have kp4 := Kp.ext (W := fun _ => False) (h := h) (c := c0) kp3 x4 (by omega) (fun b hb q => by have := (T2.bd d3 b q).1; omega)
    have hbx4 := x4.hs (b := c) hbx3 (by omega) nb2
    have hob4 := x4.hs (b := c2) hob3 (by omega) nbo
    refine ⟨Zap, ?_⟩
    refine Zgo ?_
    refine Wtr.call rfl rfl (T2.delR d4 id' (by have := hML; omega) (by omega)) ?_
    rintro v5 h5 c5 r5 w5 ⟨⟨rfl, d5⟩, x5⟩
    have y5 := x5.c
    dsimp only at y5 d5
    have kp5 := Kp.ext (W := fun _ => False) (h := h) (c := c0) kp4 x5 (by omega) (fun b hb q => by have := (T2.bd d4 b q).1; omega)
    have hbx5 := x5.hs (b := c) hbx4 (by omega) (no4 _ (.inl rfl))
    have hob5 := x5.hs (b := c2) hob4 (by omega) (no4 _ (.inr rfl))
    refine ⟨Zap, ?_⟩
    refine Zgo ?_
    exact CutQ.go (EAk a0 a1 a2 a3 r dim _ n cap N c z (.pointer (some ⟨c2, 0, none⟩)) (.slice (some ⟨c2 + 1, 0, none⟩) dim dim) _ j15 j16 j17 j18 (.bool true) _ _ _ _ _ j113) (by unfold EAk; exact Zek) ⟨h5, c5, _, _, _, _, _, _, _, _, _, _, rfl, rfl, by omega, kp5, d5, (fun q => q.elim (no4 _ (.inl rfl)) (fun q => by omega)), hbx5, hob5, fun x hx => hM x (T2.mdel hx)⟩
   ·have hk25 := tmod_lt k 25 (by omega)
    have hkk : max (k.tmod 25) 0 = ((max (k.tmod 25) 0).toNat : Int) := by omega
    refine Zgo ?_
    refine Wseq.call rfl rfl (T2.searchF d3 hv3 hzl2 hzb _ hkk (by omega) (by omega) (by omega)) ?_
    rintro v4 h4 c4 r4 w4 ⟨⟨gA, gA2⟩, x4⟩
    have y4 := x4.c
    have f4 : Fresh h4 c4 := x4.fresh
    dsimp only at y4 gA gA2
    have kp4 := Kp.ext (W := fun _ => False) (h := h) (c := c0) kp3 x4 (by omega) (fun b hb q => q)
    have hbx4 := x4.hs (b := c) hbx3 (by omega) (fun q => q)
    have hob4 := x4.hs (b := c2) hob3 (by omega) (fun q => q)
    have hv4 := x4.hs (b := c2 + 1) hv3 (by omega) (fun q => q)
    have d4 := T2.keep d3 f4 (by omega) (fun b hb => x4.get (T2.bd d3 b hb).2 (fun q => q))
    refine Zgo ?_
    refine Wseq.call rfl rfl (T2.searchR d4 hv4 hzl2 hzb _ hkk (by omega) (by omega) (by omega)) ?_
    rintro v5 h5 c5 r5 w5 ⟨⟨gB, gB2⟩, x5⟩
    have y5 := x5.c
    have f5 : Fresh h5 c5 := x5.fresh
    dsimp only at y5 gB gB2
    have kp5 := Kp.ext (W := fun _ => False) (h := h) (c := c0) kp4 x5 (by omega) (fun b hb q => q)
    have hbx5 := x5.hs (b := c) hbx4 (by omega) (fun q => q)
    have hob5 := x5.hs (b := c2) hob4 (by omega) (fun q => q)
    have d5 := T2.keep d4 f5 (by omega) (fun b hb => x5.get (T2.bd d4 b hb).2 (fun q => q))
    obtain ⟨oA, cA, rfl, _, rowA⟩ := gA.row
    obtain ⟨oB, cB, rfl, _, rowB⟩ := gB.row
    have rowA5 := Row.keepF rowA f4 (fun b hb => x5.get hb (fun q => q))
    have hbl := T2.looks M ys (max (k.tmod 25) 0).toNat
    refine Zgo ?_
    refine Wseq.call rfl rfl (hits_spec stdQ Zfr rowA5 rowB (by omega)) ?_
    rintro v6 h6 c6 r6 w6 ⟨rfl, e6, e6', x6⟩
    simp only at e6 e6'
    subst e6 e6'
    refine Zgo ?_
    exact CutQ.go (EAk a0 a1 a2 a3 r dim _ n cap N c z (.pointer (some ⟨c2, 0, none⟩)) (.slice (some ⟨c2 + 1, 0, none⟩) dim dim) _ j15 j16 j17 j18 (.bool true) _ _ _ _ _ j113) (by unfold EAk; exact Zek) ⟨h6, c6, _, _, _, _, _, _, _, _, _, _, rfl, rfl, by omega, kp5, d5, nb2, hbx5, hob5, hM⟩
  ·rintro e s ⟨h6, c6, rl6, wl6, U', M', j14, j45, j58, j59, j72, j82, rfl, rfl, hc6, kp6, d6, nb6, hbx6, hob6, hM6⟩
   have f6 := T2.f d6
   unfold EAk
   have hML6 := ids_len (T2.rises d6) hM6
   refine Zgo ?_
   refine Wseq.call rfl rfl (T2.vecF d6 id' (by omega)) ?_
   rintro v7 h7 c7 r7 w7 ⟨⟨wa, rfl, ta⟩, x7⟩
   have y7 := x7.c
   have f7 : Fresh h7 c7 := x7.fresh
   dsimp only at y7 ta
   have kp7 := Kp.ext (W := fun _ => False) (h := h) (c := c0) kp6 x7 (by omega) (fun b hb q => q)
   have hbx7 := x7.hs (b := c) hbx6 (by omega) (fun q => q)
   have hob7 := x7.hs (b := c2) hob6 (by omega) (fun q => q)
   have d7 := T2.keep d6 f7 (by omega) (fun b hb => x7.get (T2.bd d6 b hb).2 (fun q => q))
   refine Zgo ?_
   refine Wseq.call rfl rfl (T2.vecR d7 id' (by omega)) ?_
   rintro v8 h8 c8 r8 w8 ⟨⟨wb, rfl, tb⟩, x8⟩
   have y8 := x8.c
   have f8 : Fresh h8 c8 := x8.fresh
   dsimp only at y8 tb
   have kp8 := Kp.ext (W := fun _ => False) (h := h) (c := c0) kp7 x8 (by omega) (fun b hb q => q)
   have hbx8 := x8.hs (b := c) hbx7 (by omega) (fun q => q)
   have d8 := T2.keep d7 f8 (by omega) (fun b hb => x8.get (T2.bd d7 b hb).2 (fun q => q))
   have ta8 := ta.keep f7 (fun b hb => x8.get hb (fun q => q))
   obtain ⟨zv, nz, aa, ka, ab, kb, rfl, rfl, hzv, hnz, ra, rb⟩ : ∃ (zv : List Int) (nz : Nat) (aa : Option Addr) (ka : Nat) (ab : Option Addr) (kb : Nat), wa = .slice aa nz ka ∧ wb = .slice ab nz kb ∧ zv.length = nz ∧ nz ≤ 1000 ∧ Row h8 (.slice aa nz ka) nz 1 (zv.map (Value.int .i32)) ∧ Row h8 (.slice ab nz kb) nz 1 (zv.map (Value.int .i32)) := by
    rcases ta8 with ⟨g1, a, k1, rfl, g3⟩ | ⟨r0, z0, a, k1, g1, g2, g3, rfl, g5⟩
    ·rcases tb with ⟨_, a', k1', rfl, g3'⟩ | ⟨r0', z0', a', k1', g1', _⟩
     ·exact ⟨[], 0, a, k1, a', k1', rfl, rfl, rfl, by omega, g3, g3'⟩
     ·rw [g1] at g1'; cases g1'
    ·rcases tb with ⟨g1', _⟩ | ⟨r0', z0', a', k1', g1', g2', g3', rfl, g5'⟩
     ·rw [g1] at g1'; cases g1'
     ·rw [g1] at g1'
      cases g1'
      rw [g2] at g5 g5'
      exact ⟨z0, dim, a, k1, a', k1', rfl, rfl, g3, by omega, g5, g5'⟩
   refine Zgo ?_
   refine Wseq.call rfl rfl (eq_spec stdQ Zfr hzv ra rb (by unfold big; omega) (fun _ => True) (fun _ _ => trivial)) ?_
   rintro v9 h9 c9 r9 w9 ⟨rfl, x9⟩
   have y9 := x9.c
   have f9 : Fresh h9 c9 := x9.fresh
   dsimp only at y9
   have kp9 := Kp.ext (W := fun _ => False) (h := h) (c := c0) kp8 x9 (by omega) (fun b hb q => q)
   have hbx9 := x9.hs (b := c) hbx8 (by omega) (fun q => q)
   have d9 := T2.keep d8 f9 (by omega) (fun b hb => x9.get (T2.bd d8 b hb).2 (fun q => q))
   refine Zgo ?_
   refine Wseq.call rfl rfl (T2.idsF d9 (by omega)) ?_
   rintro va hA cA ra' wa' ⟨iA, xA⟩
   have yA := xA.c
   have fA : Fresh hA cA := xA.fresh
   dsimp only at yA iA
   have kpA := Kp.ext (W := fun _ => False) (h := h) (c := c0) kp9 xA (by omega) (fun b hb q => q)
   have hbxA := xA.hs (b := c) hbx9 (by omega) (fun q => q)
   have dA := T2.keep d9 fA (by omega) (fun b hb => xA.get (T2.bd d9 b hb).2 (fun q => q))
   refine Zgo ?_
   refine Wseq.call rfl rfl (T2.idsR dA (by omega)) ?_
   rintro vb hB cB rb' wb' ⟨iB, xB⟩
   have yB := xB.c
   have fB : Fresh hB cB := xB.fresh
   dsimp only at yB iB
   have kpB := Kp.ext (W := fun _ => False) (h := h) (c := c0) kpA xB (by omega) (fun b hb q => q)
   have hbxB := xB.hs (b := c) hbxA (by omega) (fun q => q)
   have dB := T2.keep dA fB (by omega) (fun b hb => xB.get (T2.bd dA b hb).2 (fun q => q))
   have iA' : Own hB c9 va (mem M').length (((mem M').map Rc.id).map (Value.int .i64)) := iA.keep fun b hb => xB.get ((iA.blk hb).2.lt fA) (fun q => q)
   have rA := iA'.row (by rw [List.length_map, List.length_map])
   obtain ⟨ia, ik, rfl⟩ := iA.val
   obtain ⟨ib, rfl, rB, _⟩ := iB.val
   rw [List.length_map] at rB
   rw [List.length_map]
   refine Zgo ?_
   refine Wseq.call rfl rfl (ints_spec stdQ Zfr (l := (mem M').map Rc.id) (by rw [List.length_map]) rA rB (by omega)) ?_
   rintro wc hc' cc rc wc' ⟨rfl, e10, e10', hextc⟩
   simp only at e10 e10'
   subst e10 e10'
   refine Zgo ?_
   exact RoundE.go (N - (i + 1)) (EAk a0 a1 a2 a3 r dim _ n cap N c (z + 1) _ _ _ _ _ _ _ _ _ _ _ _ _ _) (by omega) (by unfold EAk; exact Zek) ⟨i + 1, z + 1, _, _, _, _, U', M', _, _, _, _, _, _, _, _, _, _, _, _, _, _, rfl, by omega, rfl, by omega, kpB, dB, nb6, hbxB, hM6, by omega, rfl⟩
end Go.Ab.Seat
end
section
/- An index of lists and the reference's one go together (the abstract machine). -/
namespace Go.Ab.Seat
open Go.Extern Go.Proofs
theorem strip_put (x : Rc) : ∀ B : List Rc, (putM x B).map strip = putM (strip x) (B.map strip)
 | [] => rfl
 | y :: B => by
  rw [List.map_cons, putM, putM]
  show _ = if (strip x).id < (strip y).id then _ else _
  have e1 : (strip x).id = x.id := rfl
  have e2 : (strip y).id = y.id := rfl
  rw [e1, e2]
  split
  ·rfl
  ·split
   ·rfl
   ·rw [List.map_cons, strip_put x B]
theorem strip_del (id : Int) (B : List Rc) : (delM id B).map strip = delM id (B.map strip) := by
 unfold delM
 induction B with
 | nil => rfl
 | cons y B ih =>
  rw [List.map_cons, List.filter_cons, List.filter_cons]
  have e : (strip y).id = y.id := rfl
  rw [e]
  split
  ·rw [List.map_cons, ih]
  ·exact ih
theorem IMem.put {dim : Nat} {mid : List (List Int)} {B : List Rc} (h : IMem dim mid B) {id : Int} {zs : List Int} (hz : zs.length = dim) (hb : Bnd zs) : IMem dim mid (putM (mbI id zs (listZ mid zs)) B) := fun r hr => by
 rcases mem_putM hr with rfl | hr
 ·exact ⟨zs, rfl, hz, hb⟩
 ·exact h r hr
theorem IMem.del {dim : Nat} {mid : List (List Int)} {B : List Rc} (h : IMem dim mid B) {id : Int} : IMem dim mid (delM id B) := fun r hr => h r (mem_delM hr)
structure IDuo (c0 p m r : Nat) (mv1 mv2 : Value) (mt : Int) (dim : Nat) (mid : List (List Int)) (h : T AObj) (c : Nat) (U : Nat → Prop) (A B : List Rc) : Prop where
 f : Fresh h c
 bd : ∀ b, U b → c0 ≤ b ∧ b < c
 ex : ∃ U1 U2 U3 : Nat → Prop, IvfM h p m mv1 mt dim mid A U1 ∧ RefX h r ⟨2, mv2, .slice none 0 0, .slice none 0 0⟩ mt dim dim (B.map strip) U2 ∧ MRow h mv2 dim mid U3 ∧ IMem dim mid B ∧ (∀ b, U1 b → U b ∧ ¬U2 b) ∧ (∀ b, U2 b → U b) ∧ (∀ b, U3 b → U b ∧ ¬U1 b ∧ b ≠ r)
section
variable {c0 p m r dim : Nat} {mv1 mv2 : Value} {mt : Int} {mid : List (List Int)}
theorem IDuo.keep {h h' : T AObj} {c c' : Nat} {U : Nat → Prop} {A B : List Rc} (d : IDuo c0 p m r mv1 mv2 mt dim mid h c U A B) (f' : Fresh h' c') (hc : c ≤ c') (k : ∀ b, U b → h'.get b = h.get b) : IDuo c0 p m r mv1 mv2 mt dim mid h' c' U A B := by
 obtain ⟨U1, U2, U3, q1, q2, q3, q4, q5, q6, q7⟩ := d.ex
 exact ⟨f', fun b hb => by have := d.bd b hb; omega, U1, U2, U3, q1.keep d.f (fun b hb _ => k b (q5 b hb).1), q2.keep d.f (fun b hb _ => k b (q6 b hb)), q3.keep d.f (fun _ q => q) (fun b hb _ _ => k b (q7 b hb).1), q4, q5, q6, q7⟩
theorem rowOf {h : T AObj} {bv dim : Nat} {zs : List Int} (hv : Has h bv (.cells (zs.map (Value.int .i32)))) (hz : zs.length = dim) : Row h (.slice (some ⟨bv, 0, none⟩) dim dim) dim 1 (zs.map (Value.int .i32)) := .inr ⟨bv, 0, none, dim, _, rfl, hv.cel, subN_all _ _ (by rw [List.length_map]; omega)⟩
theorem iduet (hmn : mid.length ≤ 12) (hmt : mt = 1 ∨ mt = 2) (hd1 : 1 ≤ dim) (hd : dim ≤ 8) :
  Duet (faceIs p) r c0 dim (fun A : List Rc => A) (fun A id zs _ => putM (mbI id zs (listZ mid zs)) A) (fun A id => delM id A) (fun A zs k => bestOf k (hitsI mt zs mid A)) (IDuo c0 p m r mv1 mv2 mt dim mid) where
 f := fun d => d.f
 bd := fun d => d.bd
 keep := fun d f' hc k => d.keep f' hc k
 rises := fun d => by obtain ⟨U1, U2, U3, q1, _⟩ := d.ex; exact q1.rises
 looks := fun A zs k => by
  have := (bestOf_good k (hitsI mt zs mid A) _ (Nat.le_refl _)).2
  rwa [List.take_length] at this
 mput := fun {A id zs dw x} hx => by
  rcases mem_putM hx with rfl | hx
  ·exact .inl rfl
  ·exact .inr hx
 mdel := fun hx => mem_delM hx
 putF := fun {h c U A B rl wl} d id hid {bv zs} hv hz hb kd k dw oa on oc hn hbv hc => by
  obtain ⟨U1, U2, U3, q1, q2, q3, q4, q5, q6, q7⟩ := d.ex
  obtain ⟨v, s', e1, e2, e3⟩ := ifput_spec (rl := rl) (wl := wl) d.f q1 hmn id (by omega) (rowOf hv hz) hz hb hd1 (by omega) (fun b => b = bv) (fun b e => by cases e; rfl) (fun e => hbv (e ▸ (q5 m q1.mU).1)) kd k dw oa on oc
  have hcc := e3.c
  simp only at hcc
  have hU2 : ∀ b, U2 b → b ≠ m := fun b hb e => (q5 m q1.mU).2 (e ▸ hb)
  refine ⟨v, s', e1, ⟨e3.fresh, ?_, _, U2, U3, e2, q2.keep d.f (fun b hb hlt => e3.h b hlt (hU2 b hb)), q3.keep d.f (fun _ q => q) (fun b hb hlt _ => e3.h b hlt (fun e => (q7 b hb).2.1 (e ▸ q1.mU))), q4, ?_, fun b hb => .inl (q6 b hb), ?_⟩, e3.mono (fun _ _ _ => trivial) (fun b _ e => e ▸ (q5 m q1.mU).1)⟩
  ·rintro b (q | q)
   ·have := d.bd b q; omega
   ·omega
  ·rintro b (q | q)
   ·exact ⟨.inl (q5 b q).1, (q5 b q).2⟩
   ·exact ⟨.inr q, fun q' => by have := d.bd b (q6 b q'); omega⟩
  ·intro b hb
   refine ⟨.inl (q7 b hb).1, ?_, (q7 b hb).2.2⟩
   rintro (q | q)
   ·exact (q7 b hb).2.1 q
   ·have := d.bd b (q7 b hb).1; omega
 putR := fun {h c U A B rl wl} d id hid {bv zs} hv hz hb dw hn hbv hc => by
  obtain ⟨U1, U2, U3, q1, q2, q3, q4, q5, q6, q7⟩ := d.ex
  have hr2 := q2.pU
  obtain ⟨v, s', e1, e2, e3⟩ := rput_spec (rl := rl) (wl := wl) d.f q2 (show (2 : Int) ≠ 3 by decide) (fun b hb => (d.bd b (q6 b hb)).2) (by rw [List.length_map]; omega) id hz hd1 (by omega) hb (rowOf hv hz) (fun b => b = bv) (fun b e => by cases e; rfl) (fun e => hbv (e ▸ q6 _ hr2)) dw
  have hcc := e3.c
  simp only at hcc
  have hU1 : ∀ b, U1 b → b ≠ r := fun b hb e => (q5 b hb).2 (e ▸ hr2)
  rw [← strip_mbI id zs (listZ mid zs), ← strip_put] at e2
  refine ⟨v, s', e1, ⟨e3.fresh, ?_, U1, _, U3, q1.keep d.f (fun b hb hlt => e3.h b hlt (hU1 b hb)), e2, q3.keep d.f (fun _ q => q) (fun b hb hlt _ => e3.h b hlt (q7 b hb).2.2), q4.put hz hb, ?_, ?_, ?_⟩, e3.mono (fun _ _ _ => trivial) (fun b _ e => e ▸ q6 _ hr2)⟩
  ·rintro b (q | q)
   ·have := d.bd b q; omega
   ·omega
  ·intro b hb
   refine ⟨.inl (q5 b hb).1, ?_⟩
   rintro (q | q)
   ·exact (q5 b hb).2 q
   ·have := d.bd b (q5 b hb).1; omega
  ·rintro b (q | q)
   ·exact .inl (q6 b q)
   ·exact .inr q
  ·intro b hb
   exact ⟨.inl (q7 b hb).1, (q7 b hb).2⟩
 delF := fun {h c U A B rl wl} d id hn hc => by
  obtain ⟨U1, U2, U3, q1, q2, q3, q4, q5, q6, q7⟩ := d.ex
  obtain ⟨v, s', e1, ⟨e2, e4⟩, e3⟩ := ifdel_spec (rl := rl) (wl := wl) d.f q1 id
  have hcc := e3.c
  simp only at hcc
  have hU2 : ∀ b, U2 b → b ≠ m := fun b hb e => (q5 m q1.mU).2 (e ▸ hb)
  refine ⟨v, s', e1, ⟨e2, e3.fresh, ?_, U1, U2, U3, e4, q2.keep d.f (fun b hb hlt => e3.h b hlt (hU2 b hb)), q3.keep d.f (fun _ q => q) (fun b hb hlt _ => e3.h b hlt (fun e => (q7 b hb).2.1 (e ▸ q1.mU))), q4, fun b hb => ⟨.inl (q5 b hb).1, (q5 b hb).2⟩, fun b hb => .inl (q6 b hb), fun b hb => ⟨.inl (q7 b hb).1, (q7 b hb).2⟩⟩, e3.mono (fun _ _ _ => trivial) (fun b _ e => e ▸ (q5 m q1.mU).1)⟩
  rintro b (q | q)
  ·have := d.bd b q; omega
  ·omega
 delR := fun {h c U A B rl wl} d id hn hc => by
  obtain ⟨U1, U2, U3, q1, q2, q3, q4, q5, q6, q7⟩ := d.ex
  have hr2 := q2.pU
  obtain ⟨v, s', e1, ⟨e2, e4⟩, e3⟩ := rdel_spec (rl := rl) (wl := wl) d.f q2 (show (2 : Int) ≠ 3 by decide) (by rw [List.length_map]; omega) id
  have hcc := e3.c
  simp only at hcc
  have hU1 : ∀ b, U1 b → b ≠ r := fun b hb e => (q5 b hb).2 (e ▸ hr2)
  rw [← strip_del] at e4
  rw [getM_strip] at e2
  refine ⟨v, s', e1, ⟨by rw [e2]; cases getM id B <;> rfl, e3.fresh, ?_, U1, _, U3, q1.keep d.f (fun b hb hlt => e3.h b hlt (hU1 b hb)), e4, q3.keep d.f (fun _ q => q) (fun b hb hlt _ => e3.h b hlt (q7 b hb).2.2), q4.del, ?_, ?_, fun b hb => ⟨.inl (q7 b hb).1, (q7 b hb).2⟩⟩, e3.mono (fun _ _ _ => trivial) (fun b _ e => e ▸ q6 _ hr2)⟩
  ·rintro b (q | q)
   ·have := d.bd b q; omega
   ·omega
  ·intro b hb
   refine ⟨.inl (q5 b hb).1, ?_⟩
   rintro (q | q)
   ·exact (q5 b hb).2 q
   ·have := d.bd b (q5 b hb).1; omega
  ·rintro b (q | q)
   ·exact .inl (q6 b q)
   ·exact .inr q
 searchF := fun {h c U A B rl wl} d {bv zs} hv hz hb k {kk} hk hkk hn hc => by
  obtain ⟨U1, U2, U3, q1, q2, q3, q4, q5, q6, q7⟩ := d.ex
  exact ifsearch_spec d.f q1 hmn hmt (rowOf hv hz) hz hb (by omega) k hk (by omega) (by omega) (fun _ => True) (fun _ _ => trivial) (fun _ _ => trivial)
 searchR := fun {h c U A B rl wl} d {bv zs} hv hz hb k {kk} hk hkk hn hc => by
  obtain ⟨U1, U2, U3, q1, q2, q3, q4, q5, q6, q7⟩ := d.ex
  exact rsearch2_spec d.f q2 rfl q3 q4 hmn hmt (rowOf hv hz) hz hb (by omega) k hk (by omega) (by omega) (fun _ => True) (fun _ _ => trivial) (fun _ _ => trivial) (fun _ _ => trivial)
 idsF := fun {h c U A B rl wl} d hn => by
  obtain ⟨U1, U2, U3, q1, q2, q3, q4, q5, q6, q7⟩ := d.ex
  obtain ⟨v, s', e1, e2, e3⟩ := ifids_spec (rl := rl) (wl := wl) d.f q1 (by omega)
  exact ⟨v, s', e1, e2, e3.mono (fun _ _ _ => trivial) fun _ _ q => q⟩
 idsR := fun {h c U A B rl wl} d hn => by
  obtain ⟨U1, U2, U3, q1, q2, q3, q4, q5, q6, q7⟩ := d.ex
  obtain ⟨lv, l, h1, h2, h3, h4, h5⟩ := q2.ex
  have hl : l.length = B.length := by
   have := congrArg List.length h5
   simpa using this
  obtain ⟨v, s', e1, e2, e3⟩ := rids_spec (rl := rl) (wl := wl) d.f h1 h2 (by omega) (fun _ => True) trivial (fun _ _ => trivial)
  have e : l.map On.id = B.map Rc.id := by
   have := congrArg (List.map Rc.id) h5
   rw [List.map_map, List.map_map] at this
   exact this
  rw [e] at e2
  exact ⟨v, s', e1, e2, e3⟩
 vecF := fun {h c U A B rl wl} d id hn => by
  obtain ⟨U1, U2, U3, q1, q2, q3, q4, q5, q6, q7⟩ := d.ex
  obtain ⟨v, s', e1, e2, e3⟩ := ifvec_spec (rl := rl) (wl := wl) d.f q1 hd1 (by omega) id
  exact ⟨v, s', e1, e2, e3.mono (fun _ _ _ => trivial) fun _ _ q => q⟩
 vecR := fun {h c U A B rl wl} d id hn => by
  obtain ⟨U1, U2, U3, q1, q2, q3, q4, q5, q6, q7⟩ := d.ex
  obtain ⟨lv, l, h1, h2, h3, h4, h5⟩ := q2.ex
  have hl : l.length = B.length := by
   have := congrArg List.length h5
   simpa using this
  obtain ⟨v, s', e1, ⟨e2, e4, e5⟩, e3⟩ := rvec_spec (rl := rl) (wl := wl) d.f h1 h2 (by omega) (fun x hx => by obtain ⟨a, k, e⟩ := (h4 x hx).1.val; exact ⟨a, _, k, e⟩) id (fun _ => True) trivial (fun _ _ => trivial)
  rw [h5, getM_strip] at e2
  refine ⟨v, s', e1, ?_, e3⟩
  rcases e2 with ⟨g, rfl⟩ | ⟨k, x, rfl, hk, _, g⟩
  ·have g' : getM id B = none := by
    cases hb : getM id B with
    | none => rfl
    | some r0 => rw [hb] at g; cases g
   exact ⟨_, by rw [g']; rfl, .inl ⟨g', none, 0, rfl, .inl ⟨rfl, rfl, _, _, rfl⟩⟩⟩
  ·obtain ⟨r0, g', g''⟩ : ∃ r0, getM id B = some r0 ∧ strip r0 = x.rc := by
    cases hb : getM id B with
    | none => rw [hb] at g; cases g
    | some r0 => rw [hb] at g; exact ⟨r0, rfl, by simpa using g⟩
   obtain ⟨zs, g1, g2, _⟩ := q4 r0 (getM_mem g').1
   have exs : x.xs = r0.xs := (congrArg Rc.xs g'').symm
   have e0 : r0.xs = zs.map (Value.int .i32) := by rw [g1]
   have o := (h4 x (List.mem_of_getElem? hk)).1
   obtain ⟨a, k, e⟩ := o.val
   have hl2 : x.xs.length = dim := by rw [exs, e0, List.length_map, g2]
   rw [hl2] at e o
   rw [e, exs] at o
   refine ⟨_, by rw [g']; rfl, .inr ⟨r0, zs, a, k, g', e0, g2, e, ?_⟩⟩
   exact Row.keepF (o.row (by rw [← exs]; exact hl2)) d.f (fun b hb => by rw [e4])
end
end Go.Ab.Seat
end
