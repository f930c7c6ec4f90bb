/- The operations of the abstract machine against the model's. Part 3: places, parts, maps, lengths. -/
import Derived.Test.YtofikbfljjjgeaaGreatDoorE5
set_option linter.unusedVariables false
set_option linter.unusedSimpArgs false
namespace Go.Ab
section ops
variable {G : Nat} {C : Ctx} {eg : TypeId → Bool} {P : Program} {ι : Iota} {s : St} {w : World}
theorem sim_fieldAddr (ok : C.Ok eg P) (hr : HR G ι s.h w.heap) (t : TypeId) {x x' : Value} (f : Nat) (hx : VR ι x x') :
  SimV G P ι s w (opFieldAddr C t x f) (Instr.fieldAt t x' f) := by
 intro v s' h _
 unfold opFieldAddr at h
 cases hd : C.und t with
 | none => rw [hd] at h; exact (fail_some h).elim
 | some d =>
  cases hp : addrOf x with
  | none => rw [hd, hp] at h; cases d <;> exact (fail_some h).elim
  | some p =>
   obtain ⟨b, o⟩ := p
   rw [hd, hp] at h
   have e1 := addrOf_some hp
   simp only at e1
   subst e1
   obtain ⟨L, hL, rfl⟩ := hx.ptr_inv
   cases d with
   | struct fields =>
    simp only at h
    cases hn : nth fields.toList f with
    | none => rw [hn] at h; exact (fail_some h).elim
    | some fd =>
     rw [hn] at h
     simp only at h
     cases hs : C.size fd.type with
     | none => rw [hs] at h; exact (fail_some h).elim
     | some n =>
      rw [hs] at h
      cases n with
      | zero => exact (fail_some h).elim
      | succ n =>
       simp only at h
       obtain ⟨rfl, rfl⟩ := ret_some h
       refine ⟨.pointer (some ⟨L.blk, L.off + (o + fd.offset), none⟩), w, ι, ?_, .ptr b _ L hL, Post.refl hr rfl rfl⟩
       rw [nth_eq, Array.getElem?_toList] at hn
       unfold Instr.fieldAt
       simp only [Sem.run_bind, ok.runUnd hd, Result.andThen_ok, hn, Instr.sureAddr, Sem.run_pure, fieldPlace, ok.size hs]
       rw [if_neg (by omega)]
       simp only [Sem.run_pure, Result.andThen_ok, addr_add, Nat.add_assoc]
   | _ => exact (fail_some h).elim
theorem sim_indexAddr (ok : C.Ok eg P) (hr : HR G ι s.h w.heap) (t : TypeId) {x x' i i' : Value} (hx : VR ι x x') (hi : VR ι i i') :
  SimV G P ι s w (opIndexAddr C t x i) (Instr.indexAt t x' i') := by
 intro v s' h _
 unfold opIndexAddr at h
 cases hn : natOf i with
 | none => rw [hn] at h; exact (fail_some h).elim
 | some n =>
  obtain ⟨k, rfl⟩ := natOf_VR hi hn
  cases hd : C.und t with
  | none => rw [hn, hd] at h; exact (fail_some h).elim
  | some d =>
   rw [hn, hd] at h
   simp only at h
   have hun := ok.runUnd hd w
   cases d with
   | array len e =>
    simp only at h
    cases hp : addrOf x with
    | none => rw [hp] at h; exact (fail_some h).elim
    | some p =>
     cases hs : C.size e with
     | none => rw [hp, hs] at h; exact (fail_some h).elim
     | some sz =>
      cases hl : Nat.blt n len with
      | false => rw [hp, hs, hl] at h; exact (fail_some h).elim
      | true =>
       obtain ⟨b, o⟩ := p
       rw [hp, hs, hl] at h
       have e1 := addrOf_some hp
       simp only at e1
       subst e1
       obtain ⟨L, hL, rfl⟩ := hx.ptr_inv
       simp only at h
       obtain ⟨rfl, rfl⟩ := ret_some h
       have hlt := blt_iff.1 hl
       refine ⟨.pointer (some ⟨L.blk, L.off + (o + n * sz), none⟩), w, ι, ?_, .ptr b _ L hL, Post.refl hr rfl rfl⟩
       unfold Instr.indexAt
       simp only [asIntOf, Sem.run_bind, Sem.run_pure, hun, Result.andThen_ok, Instr.sureAddr]
       rw [if_pos (by omega)]
       simp only [Sem.run_bind, ok.size hs, Result.andThen_ok, Sem.run_pure, Int.toNat_natCast, addr_add, Nat.add_assoc]
   | slice e =>
    cases x with
    | slice a len cap =>
     cases a with
     | none => exact (fail_some h).elim
     | some a =>
      simp only at h
      cases hs : C.size e with
      | none => rw [hs] at h; exact (fail_some h).elim
      | some sz =>
       cases hl : Nat.blt n len with
       | false => rw [hs, hl] at h; exact (fail_some h).elim
       | true =>
        rw [hs, hl] at h
        simp only at h
        obtain ⟨rfl, rfl⟩ := ret_some h
        have hlt := blt_iff.1 hl
        have fin : ∀ (L : Loc) (c' : Nat), ι a.block = some L → x' = .slice (some ⟨L.blk, L.off + a.off, none⟩) len c' →
          ∃ v' w' ι', (Instr.indexAt t x' (.int k (n : Int))).run P w = .ok v' w' ∧ VR ι' (.pointer (some ⟨a.block, a.off + n * sz, none⟩)) v' ∧ Post G ι ι' s' s' w w' := by
         intro L c' hL he
         subst he
         refine ⟨.pointer (some ⟨L.blk, L.off + (a.off + n * sz), none⟩), w, ι, ?_, .ptr a.block _ L hL, Post.refl hr rfl rfl⟩
         unfold Instr.indexAt
         simp only [asIntOf, Sem.run_bind, Sem.run_pure, hun, Result.andThen_ok]
         rw [if_pos (by omega)]
         simp only [Sem.run_bind, ok.size hs, Result.andThen_ok, Sem.run_pure, Int.toNat_natCast, addr_add, Nat.add_assoc]
        obtain ⟨b, o, sp⟩ := a
        rcases hx.slice_inv with ⟨rfl, L, hL, hx'⟩ | ⟨e', rfl, L, c', hL, hc, hs', hx'⟩ | ⟨e', rfl, rfl, rfl, a', hx'⟩
        ·exact fin L cap hL hx'
        ·exact fin L c' hL hx'
        ·omega
    | _ => exact (fail_some h).elim
   | _ => exact (fail_some h).elim
theorem part_VR (ok : C.Ok eg P) {t : TypeId} {cs : List Value} {cs' : Array Value} {o : Nat} {v : Value} (hv : VRl ι cs cs'.toList) (h : partA C t cs o = some v) :
  ∃ v', (part t cs' o).run P w = .ok v' w ∧ VR ι v v' := by
 unfold partA at h
 cases hd : C.und t with
 | none => simp [hd] at h
 | some d =>
  rw [hd] at h
  simp only at h
  have hag := ok.isAgg hd w
  have one : aggD d = false → nth cs o = some v → ∃ v', (part t cs' o).run P w = .ok v' w ∧ VR ι v v' := by
   intro ha hn
   rw [nth_eq] at hn
   obtain ⟨y, hy, hxy⟩ := hv.get hn
   refine ⟨y, ?_, hxy⟩
   rw [Array.getElem?_toList] at hy
   unfold part
   simp only [Sem.run_bind, hag, Result.andThen_ok, ha, Bool.false_eq_true, if_false, hy, Sem.run_pure]
  have many : aggD d = true → (match C.size t with | none => none | some n => match subN o n cs with | some r => some (Value.agg ⟨r⟩) | none => none) = some v → ∃ v', (part t cs' o).run P w = .ok v' w ∧ VR ι v v' := by
   intro ha hn
   cases hs : C.size t with
   | none => simp [hs] at hn
   | some n =>
    simp only [hs] at hn
    cases hsub : subN o n cs with
    | none => simp [hsub] at hn
    | some r =>
     simp only [hsub, Option.some.injEq] at hn
     subst hn
     obtain ⟨r1, r2, r3⟩ := subN_some o n cs r hsub
     have hl := hv.1
     simp only [Array.length_toList] at hl
     refine ⟨.agg (cs'.extract o (o + n)), ?_, .agg _ _ ?_ ?_⟩
     ·unfold part
      simp only [Sem.run_bind, hag, Result.andThen_ok, ha, if_true, ok.size hs, Sem.run_pure]
     ·simp [r1]; omega
     ·intro i x y hx hy
      have hi : i < n := by
       rcases Nat.lt_or_ge i n with hh | hh
       ·exact hh
       ·rw [List.getElem?_eq_none (by show r.length ≤ i; omega)] at hx; cases hx
      have hx' : r[i]? = some x := hx
      rw [r3 i hi] at hx'
      have hy' : cs'.toList[o + i]? = some y := by
       rw [Array.getElem?_toList] at hy ⊢
       rw [Array.getElem?_extract] at hy
       split at hy
       ·exact hy
       ·cases hy
      exact hv.2 _ x y hx' hy'
  cases d with
  | struct fs => exact many rfl h
  | array n e => exact many rfl h
  | _ => exact one rfl h
theorem sim_field (ok : C.Ok eg P) (hr : HR G ι s.h w.heap) (t : TypeId) {x x' : Value} (f : Nat) (hx : VR ι x x') :
  SimV G P ι s w (opField C t x f) (Instr.field t x' f) := by
 intro v s' h _
 unfold opField at h
 cases hd : C.und t with
 | none => rw [hd] at h; exact (fail_some h).elim
 | some d =>
  rw [hd] at h
  cases d with
  | struct fields =>
   cases x with
   | agg cs =>
    cases hx with
    | agg _ cs' ha ra =>
     simp only at h
     cases hn : nth fields.toList f with
     | none => rw [hn] at h; exact (fail_some h).elim
     | some fd =>
      rw [hn] at h
      simp only at h
      obtain ⟨hp, rfl⟩ := lift_some h
      obtain ⟨v', h1, h2⟩ := part_VR (P := P) (w := w) ok ⟨ha, ra⟩ hp
      refine ⟨v', w, ι, ?_, h2, Post.refl hr rfl rfl⟩
      rw [nth_eq, Array.getElem?_toList] at hn
      unfold Instr.field
      simp only [Sem.run_bind, ok.runUnd hd, Result.andThen_ok, hn, asAgg, Sem.run_pure, h1]
   | _ => exact (fail_some h).elim
  | _ => exact (fail_some h).elim
theorem sim_index (ok : C.Ok eg P) (hr : HR G ι s.h w.heap) (t : TypeId) {x x' i i' : Value} (hx : VR ι x x') (hi : VR ι i i') :
  SimV G P ι s w (opIndex C t x i) (Instr.index t x' i') := by
 intro v s' h _
 unfold opIndex at h
 cases hn : natOf i with
 | none => rw [hn] at h; exact (fail_some h).elim
 | some n =>
  obtain ⟨k, rfl⟩ := natOf_VR hi hn
  cases hd : C.und t with
  | none => rw [hn, hd] at h; exact (fail_some h).elim
  | some d =>
   rw [hn, hd] at h
   simp only at h
   have hun := ok.runUnd hd w
   cases d with
   | array len e =>
    cases x with
    | agg cs =>
     cases hx with
     | agg _ cs' ha ra =>
      simp only at h
      cases hs : C.size e with
      | none => rw [hs] at h; exact (fail_some h).elim
      | some sz =>
       cases hl : Nat.blt n len with
       | false => rw [hs, hl] at h; exact (fail_some h).elim
       | true =>
        rw [hs, hl] at h
        simp only at h
        obtain ⟨hp, rfl⟩ := lift_some h
        have hlt := blt_iff.1 hl
        obtain ⟨v', h1, h2⟩ := part_VR (P := P) (w := w) ok ⟨ha, ra⟩ hp
        refine ⟨v', w, ι, ?_, h2, Post.refl hr rfl rfl⟩
        unfold Instr.index
        simp only [asIntOf, Sem.run_bind, Sem.run_pure, hun, Result.andThen_ok]
        rw [if_pos (by omega)]
        simp only [Sem.run_bind, ok.size hs, Result.andThen_ok, Int.toNat_natCast, h1]
    | _ => exact (fail_some h).elim
   | string =>
    cases x with
    | string st =>
     cases hx with
     | string =>
      simp only at h
      cases hb : nth st.data.toList n with
      | none => rw [hb] at h; exact (fail_some h).elim
      | some b =>
       rw [hb] at h
       simp only at h
       obtain ⟨rfl, rfl⟩ := ret_some h
       refine ⟨.int .u8 b.toNat, w, ι, ?_, .int _ _, Post.refl hr rfl rfl⟩
       rw [nth_eq, Array.getElem?_toList] at hb
       have hb' : (if (0 : Int) ≤ (n : Int) then st[(n : Int).toNat]? else none) = some b := by
        rw [if_pos (by omega), Int.toNat_natCast]
        have hlt : n < st.data.size := by
         rcases Nat.lt_or_ge n st.data.size with hh | hh
         ·exact hh
         ·rw [Array.getElem?_eq_none hh] at hb; cases hb
        rw [getElem?_pos st n hlt]
        rw [Array.getElem?_eq_getElem hlt] at hb
        exact hb
       unfold Instr.index
       simp only [asIntOf, Sem.run_bind, Sem.run_pure, hun, Result.andThen_ok, hb']
    | _ => exact (fail_some h).elim
   | _ => exact (fail_some h).elim
end ops
end Go.Ab
