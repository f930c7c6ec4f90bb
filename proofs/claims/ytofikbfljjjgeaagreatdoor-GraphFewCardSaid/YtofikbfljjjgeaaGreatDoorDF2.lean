import Derived.Test.YtofikbfljjjgeaaGreatDoorE50
set_option linter.unusedVariables false
set_option linter.unusedSimpArgs false
section
/- More rules over the abstract machine: cap, copy, append(x, make(..)...), functions that are known. -/
namespace Go.Ab
theorem setMany_row {o n k : Nat} {cs A B B' D : List Value} (h : subN o n cs = some (A ++ B ++ D)) (hA : A.length = k) (hB : B'.length = B.length) (ha : ∀ x ∈ B', atom x = true) :
  ∃ r, setMany B' cs (o + k) = some r ∧ subN o n r = some (A ++ B' ++ D) := by
 obtain ⟨h1, h2, _⟩ := subN_some _ _ _ _ h
 rw [subN_eq o n cs h2] at h
 have h := Option.some.inj h
 have hcs : cs = cs.take o ++ (A ++ B ++ D) ++ cs.drop (o + n) := by
  rw [← h, List.append_assoc, ← List.drop_drop, List.take_append_drop, List.take_append_drop]
 have hP : (cs.take o).length = o := by rw [List.length_take]; omega
 simp only [List.length_append] at h1
 generalize cs.take o = P at hcs hP
 generalize cs.drop (o + n) = S at hcs
 subst hcs
 subst hA
 refine ⟨P ++ (A ++ B' ++ D) ++ S, ?_, ?_⟩
 ·rw [setMany_eq _ _ _ (by simp only [List.length_append]; omega) ha]
  congr 1
  have e1 : P ++ (A ++ B ++ D) ++ S = (P ++ A) ++ (B ++ (D ++ S)) := by simp only [List.append_assoc]
  rw [e1, List.take_left' (by rw [List.length_append]; omega), List.drop_append, List.drop_eq_nil_of_le (by rw [List.length_append]; omega), List.nil_append, List.drop_left' (by rw [List.length_append]; omega)]
  simp only [List.append_assoc]
 ·rw [subN_eq _ _ _ (by simp only [List.length_append]; omega)]
  congr 1
  rw [List.append_assoc, List.drop_left' hP, List.take_left' (by simp only [List.length_append]; omega)]
section
variable {C : Ctx} {eg : TypeId → Bool} {e : Env} {s : St} {h : T AObj} {c : Nat} {rl wl : List Nat} {d : Option Nat} {ty : TypeId} {ps : String} {af : Array Edge} {g : Option (Nat × Bool)}
theorem FnTo.of_ex {f : Nat} {args : List Value} {v : Value} {s' : St} {q : List Value → M Value} (hsm : C.sm f = none) (hex : C.ex f = some q) (h : q args s = some (v, s')) : FnTo C eg f args s v s' := by
 refine ⟨0, ?_⟩
 unfold callF
 rw [hsm]
 simp only
 rw [hex]
 exact h
theorem FnTo.of_sm {f : Nat} {args : List Value} {v : Value} {s' : St} {q : List Value → M Value} (hsm : C.sm f = some q) (h : q args s = some (v, s')) : FnTo C eg f args s v s' := by
 refine ⟨0, ?_⟩
 unfold callF
 rw [hsm]
 exact h
theorem to_capX {t : TypeId} {x : Operand} {b o n cap : Nat} (ht : sliceT C t = true) (hx : evalA e x = .slice (some ⟨b, o, none⟩) n cap) :
  OpTo C eg e ⟨d, .call ⟨.builtin .cap, #[x], #[t]⟩, ty, ps, af, g⟩ s (.int .i64 (cap : Int)) s := ⟨0, by
 show opBuiltin C .cap #[t] [evalA e x] s = _
 rw [hx]
 show ((M.lift (nth [t] 0)).bind fun t => opCap C t _) s = _
 rw [bind_run (lift_run (show nth [t] 0 = some t from rfl))]
 unfold sliceT at ht
 unfold opCap
 cases hu : C.und t with
 | none => rw [hu] at ht; cases ht
 | some u =>
  rw [hu] at ht
  cases u <;> first | (cases ht; done) | rfl⟩
theorem to_capI {t : TypeId} {x : Operand} {b o n cap k : Nat} (ht : sliceT C t = true) (hx : evalA e x = .slice (some ⟨b, o, some k⟩) n cap) :
  OpTo C eg e ⟨d, .call ⟨.builtin .cap, #[x], #[t]⟩, ty, ps, af, g⟩ s (.chan (some cap)) s := ⟨0, by
 show opBuiltin C .cap #[t] [evalA e x] s = _
 rw [hx]
 show ((M.lift (nth [t] 0)).bind fun t => opCap C t _) s = _
 rw [bind_run (lift_run (show nth [t] 0 = some t from rfl))]
 unfold sliceT at ht
 unfold opCap
 cases hu : C.und t with
 | none => rw [hu] at ht; cases ht
 | some u =>
  rw [hu] at ht
  cases u <;> first | (cases ht; done) | rfl⟩
theorem to_gtrLeast {t t2 : TypeId} {x y : Operand} {z : Int} {m k : Nat} (hx : evalA e x = .int .i64 z) (hy : evalA e y = .chan (some k)) (hz : z = (m : Int)) (hk : m ≤ k) :
  OpTo C eg e ⟨d, .binOp .gtr t x y t2, ty, ps, af, g⟩ s (.bool false) s :=
 to_bin hx hy (by
  subst hz
  show leastGtr .gtr .i64 (m : Int) k = _
  unfold leastGtr
  show (match decide (IntKind.i64 = .i64) && Nat.ble m k with | true => some (Value.bool false) | false => none) = _
  rw [ble_iff.2 hk]
  rfl)
theorem to_copy {t et xt : TypeId} {a x : Operand} {n by_ j dl xl cp cap b0 o0 ob off : Nat} {sp0 sp : Option Nat} {z cs cs0 r r0 : List Value} (ht : C.row t = some (et, n, by_, z)) (ha : evalA e a = .slice (some ⟨b0, o0, sp0⟩) dl cp) (hx : evalA e x = .slice (some ⟨ob, off, sp⟩) xl cap)
  (hj : Nat.min xl dl = j + 1) (hb : Cel h ob cs) (hc : ob < c) (hs : subN off ((j + 1) * n) cs = some r) (hne : r ≠ []) (h0 : Has h b0 (.cells cs0)) (hc0 : b0 < c) (hr : setMany r cs0 o0 = some r0) :
  OpTo C eg e ⟨d, .call ⟨.builtin .copy, #[a, x], #[t, xt]⟩, ty, ps, af, g⟩ ⟨h, c, rl, wl⟩ (.int .i64 ((j + 1 : Nat) : Int)) ⟨h.set b0 (some (.cells r0)), c, b0 :: ob :: rl, b0 :: wl⟩ := ⟨0, by
 show opCopy C #[t, xt] (evalA e a) (evalA e x) _ = _
 rw [ha, hx]
 unfold opCopy
 rw [show nth (#[t, xt] : Array TypeId).toList 0 = some t from rfl, show lenA (.slice (some ⟨ob, off, sp⟩) xl cap) = some xl from rfl]
 simp only
 rw [bind_run (lift_run ht)]
 simp only
 rw [hj]
 have hfirst : firstA n (j + 1) (.slice (some ⟨ob, off, sp⟩) xl cap) ⟨h, c, rl, wl⟩ = some (r, ⟨h, c, ob :: rl, wl⟩) := by
  unfold firstA
  simp only [ble_iff.2 (show j + 1 ≤ xl by have := Nat.min_le_left xl dl; have e : Nat.min xl dl = min xl dl := rfl; omega)]
  exact readCells_run hb hc hs
 rw [bind_run hfirst]
 cases r with
 | nil => exact absurd rfl hne
 | cons y ys =>
  simp only
  rw [bind_run (writeCells_run h0 hc0 hr)]
  rfl⟩
noncomputable def intT (C : Ctx) (t : TypeId) : Bool := match C.und t with | some (.int _) => true | _ => false
theorem appendedN_run {n m : Nat} {z : List Value} {xt : TypeId} {j : IntKind} (hu : intT C xt = true) (hm : m ≤ big) : appended C n z (some xt) (.int j (m : Int)) s = some ((m, rep z m), s) := by
 unfold appended
 unfold intT at hu
 cases hw : C.und xt with
 | none => rw [hw] at hu; cases hu
 | some w =>
  rw [hw] at hu
  cases w <;> first | (cases hu; done) | skip
  simp only [hw]
  rw [bind_run (lift_run (show natOf (.int j (m : Int)) = some m from rfl))]
  simp only [ble_iff.2 hm]
  rfl
theorem to_appMake0 {t et xt : TypeId} {a x : Operand} {n by_ cp m b0 o0 : Nat} {j : IntKind} {y : Int} {z : List Value} (ht : C.row t = some (et, n, by_, z)) (hu : intT C xt = true) (ha : evalA e a = .slice (some ⟨b0, o0, none⟩) 0 cp) (hx : evalA e x = .int j y) (hy : y = (m : Int))
  (hroom : cp < 0 + m) (hbig : 0 + m ≤ big) (hf : Fresh h c) :
  OpTo C eg e ⟨d, .call ⟨.builtin .append, #[a, x], #[t, xt]⟩, ty, ps, af, g⟩ ⟨h, c, rl, wl⟩ (.slice (some ⟨c, 0, some n⟩) (0 + m) (0 + m)) ⟨h.set c (some (.cells ([] ++ rep z m))), c + 1, rl, wl⟩ := ⟨0, by
 subst hy
 show opAppend C #[t, xt] (evalA e a) (evalA e x) _ = _
 rw [ha, hx]
 unfold opAppend
 rw [show nth (#[t, xt] : Array TypeId).toList 0 = some t from rfl]
 simp only
 rw [bind_run (lift_run ht)]
 simp only
 have happ : appended C n z (nth #[t, xt].toList 1) (.int j (m : Int)) ⟨h, c, rl, wl⟩ = _ := appendedN_run (z := z) hu (by omega)
 rw [bind_run happ]
 simp only [show Nat.ble (0 + m) cp = false from ble_false.2 (by omega), show fitsA by_ (0 + m) = true from fitsA_big hbig]
 rw [bind_run (show firstA n 0 _ _ = some ([], ⟨h, c, rl, wl⟩) from rfl), app_eq, bind_run (newCells_run hf)]
 rfl⟩
theorem to_appMake {t et xt : TypeId} {a x : Operand} {n by_ ln cp m b0 o0 : Nat} {j : IntKind} {y : Int} {z cs0 old : List Value} (ht : C.row t = some (et, n, by_, z)) (hu : intT C xt = true) (ha : evalA e a = .slice (some ⟨b0, o0, none⟩) (ln + 1) cp) (hx : evalA e x = .int j y) (hy : y = (m : Int))
  (hroom : cp < ln + 1 + m) (hbig : ln + 1 + m ≤ big) (h0 : Cel h b0 cs0) (hc0 : b0 < c) (hs0 : subN o0 ((ln + 1) * n) cs0 = some old) (hf : Fresh h c) :
  OpTo C eg e ⟨d, .call ⟨.builtin .append, #[a, x], #[t, xt]⟩, ty, ps, af, g⟩ ⟨h, c, rl, wl⟩ (.slice (some ⟨c, 0, some n⟩) (ln + 1 + m) (ln + 1 + m)) ⟨h.set c (some (.cells (old ++ rep z m))), c + 1, b0 :: rl, wl⟩ := ⟨0, by
 subst hy
 show opAppend C #[t, xt] (evalA e a) (evalA e x) _ = _
 rw [ha, hx]
 unfold opAppend
 rw [show nth (#[t, xt] : Array TypeId).toList 0 = some t from rfl]
 simp only
 rw [bind_run (lift_run ht)]
 simp only
 have happ : appended C n z (nth #[t, xt].toList 1) (.int j (m : Int)) ⟨h, c, rl, wl⟩ = _ := appendedN_run (z := z) hu (by omega)
 rw [bind_run happ]
 simp only [show Nat.ble (ln + 1 + m) cp = false from ble_false.2 (by omega), show fitsA by_ (ln + 1 + m) = true from fitsA_big hbig]
 have hfirst : firstA n (ln + 1) (.slice (some ⟨b0, o0, none⟩) (ln + 1) cp) ⟨h, c, rl, wl⟩ = some (old, ⟨h, c, b0 :: rl, wl⟩) := by
  unfold firstA
  simp only [ble_iff.2 (Nat.le_refl (ln + 1))]
  exact readCells_run h0 hc0 hs0
 rw [bind_run hfirst, app_eq, bind_run (newCells_run hf)]
 rfl⟩
theorem to_appFull {t et xt : TypeId} {a x : Operand} {n by_ k cap ln cp b0 o0 : Nat} {z cs r cs0 old : List Value} {sp : Option Nat} {ob off : Nat} (ht : C.row t = some (et, n, by_, z)) (hu : sliceT C xt = true) (ha : evalA e a = .slice (some ⟨b0, o0, none⟩) (ln + 1) cp) (hx : evalA e x = .slice (some ⟨ob, off, sp⟩) (k + 1) cap)
  (hb : Cel h ob cs) (hc : ob < c) (hs : subN off ((k + 1) * n) cs = some r) (hroom : cp < ln + 1 + (k + 1)) (hbig : ln + 1 + (k + 1) ≤ big) (h0 : Cel h b0 cs0) (hc0 : b0 < c) (hs0 : subN o0 ((ln + 1) * n) cs0 = some old) (hf : Fresh h c) :
  OpTo C eg e ⟨d, .call ⟨.builtin .append, #[a, x], #[t, xt]⟩, ty, ps, af, g⟩ ⟨h, c, rl, wl⟩ (.slice (some ⟨c, 0, some n⟩) (ln + 1 + (k + 1)) (ln + 1 + (k + 1))) ⟨h.set c (some (.cells (old ++ r))), c + 1, b0 :: ob :: rl, wl⟩ := ⟨0, by
 show opAppend C #[t, xt] (evalA e a) (evalA e x) _ = _
 rw [ha, hx]
 unfold opAppend
 rw [show nth (#[t, xt] : Array TypeId).toList 0 = some t from rfl]
 simp only
 rw [bind_run (lift_run ht)]
 simp only
 have happ : appended C n z (nth #[t, xt].toList 1) (.slice (some ⟨ob, off, sp⟩) (k + 1) cap) ⟨h, c, rl, wl⟩ = _ := appended_run (z := z) hu hb hc hs
 rw [bind_run happ]
 simp only [show Nat.ble (ln + 1 + (k + 1)) cp = false from ble_false.2 (by omega), show fitsA by_ (ln + 1 + (k + 1)) = true from fitsA_big hbig]
 have hfirst : firstA n (ln + 1) (.slice (some ⟨b0, o0, none⟩) (ln + 1) cp) ⟨h, c, ob :: rl, wl⟩ = some (old, ⟨h, c, b0 :: ob :: rl, wl⟩) := by
  unfold firstA
  simp only [ble_iff.2 (Nat.le_refl (ln + 1))]
  exact readCells_run h0 hc0 hs0
 rw [bind_run hfirst, app_eq, bind_run (newCells_run hf)]
 rfl⟩
theorem to_appRoom {t et xt : TypeId} {a x : Operand} {n by_ k cap ln cp b0 o0 : Nat} {sp0 : Option Nat} {z cs r cs0 r0 : List Value} {sp : Option Nat} {ob off : Nat} (ht : C.row t = some (et, n, by_, z)) (hu : sliceT C xt = true) (ha : evalA e a = .slice (some ⟨b0, o0, sp0⟩) ln cp) (hx : evalA e x = .slice (some ⟨ob, off, sp⟩) (k + 1) cap)
  (hb : Cel h ob cs) (hc : ob < c) (hs : subN off ((k + 1) * n) cs = some r) (hne : r ≠ []) (hroom : ln + (k + 1) ≤ cp) (h0 : Has h b0 (.cells cs0)) (hc0 : b0 < c) (hr : setMany r cs0 (o0 + ln * n) = some r0) :
  OpTo C eg e ⟨d, .call ⟨.builtin .append, #[a, x], #[t, xt]⟩, ty, ps, af, g⟩ ⟨h, c, rl, wl⟩ (.slice (some ⟨b0, o0, sp0⟩) (ln + (k + 1)) cp) ⟨h.set b0 (some (.cells r0)), c, b0 :: ob :: rl, b0 :: wl⟩ := ⟨0, by
 show opAppend C #[t, xt] (evalA e a) (evalA e x) _ = _
 rw [ha, hx]
 unfold opAppend
 rw [show nth (#[t, xt] : Array TypeId).toList 0 = some t from rfl]
 simp only
 rw [bind_run (lift_run ht)]
 simp only
 have happ : appended C n z (nth #[t, xt].toList 1) (.slice (some ⟨ob, off, sp⟩) (k + 1) cap) ⟨h, c, rl, wl⟩ = _ := appended_run (z := z) hu hb hc hs
 rw [bind_run happ]
 simp only [show Nat.ble (ln + (k + 1)) cp = true from ble_iff.2 hroom]
 cases r with
 | nil => exact absurd rfl hne
 | cons y ys =>
  simp only
  rw [bind_run (writeCells_run h0 hc0 hr)]
  rfl⟩
theorem to_sliceEnd {t : TypeId} {x lo : Operand} {b o len n : Nat} {j : IntKind} {z : Int} (ht : elemAt C t = some n) (hx : evalA e x = .slice (some ⟨b, o, none⟩) len len) (hl : evalA e lo = .int j z) (hz : z = (len : Int)) :
  OpTo C eg e ⟨d, .slice t x (some lo) none none, ty, ps, af, g⟩ s (.slice (some ⟨b, o, none⟩) (len - len) (len - len)) s := ⟨0, by
 show opSlice C t (evalA e x) ((some lo).map (evalA e)) ((none : Option Operand).map (evalA e)) ((none : Option Operand).map (evalA e)) s = _
 subst hz
 simp only [Option.map_some, Option.map_none]
 rw [hx, hl]
 unfold elemAt at ht
 unfold opSlice
 cases hu : C.und t with
 | none => rw [hu] at ht; cases ht
 | some u =>
  rw [hu] at ht
  cases u <;> first | (cases ht; done) | skip
  simp only at ht ⊢
  rw [bind_run (lift_run ht)]
  have hb : boundsA len len (some (.int j (len : Int))) none none = some (len, len, len) := by
   unfold boundsA
   simp only
   show (match boundA none len len with | none => none | some m => _) = _
   simp only [boundA]
   rw [show natOf (.int j (len : Int)) = some len from rfl]
   simp only [ble_iff.2 (Nat.le_refl len)]
  rw [bind_run (lift_run hb)]
  simp only [Nat.beq_refl]
  rfl⟩
end
end Go.Ab
end
section
/- Hits compared; a vector's score; a metric (the abstract machine). -/
namespace Go.Ab.Seat
open Go.Extern Go.Proofs
set_option maxRecDepth 4000
variable {sm : Nat → Option (List Value → M Value)}
abbrev hitv (id sc : Int) : Value := .agg ⟨[.int .i64 id, .int .i64 sc]⟩
structure Ht where
 id : Int
 sc : Int
def Ht.val (x : Ht) : Value := hitv x.id x.sc
def Ht.cells (x : Ht) : List Value := [.int .i64 x.id, .int .i64 x.sc]
def lessH (a b : Ht) : Bool := if a.sc = b.sc then decide (a.id < b.id) else decide (a.sc < b.sc)
theorem less_spec (H : Std sm) {h : T AObj} {c : Nat} {rl wl : List Nat} (hf : Fresh h c) (a b : Ht) :
  ∃ r s', FnTo (Cs sm) eg 187 [hitv a.id a.sc, hitv b.id b.sc] ⟨h, c, rl, wl⟩ r s' ∧ r = .bool (lessH a b) ∧ Ext ⟨h, c, rl, wl⟩ s' (fun _ => False) (fun _ => False) := by
 refine Fn.go (H 187 rfl) ex187 fn187 km187 rfl rfl ?_
 refine Zev ?_
 by_cases h1 : a.sc = b.sc
 ·refine Zgo ?_
  refine ⟨.inr rfl, Wres.one rfl ⟨?_, ?_⟩⟩
  ·unfold lessH
   rw [if_pos h1]
   rfl
  ·exact Zex
 ·refine Zgo ?_
  refine ⟨.inr rfl, Wres.one rfl ⟨?_, ?_⟩⟩
  ·unfold lessH
   rw [if_neg h1]
   rfl
  ·exact Zex
theorem known_spec (H : Std sm) {h : T AObj} {c : Nat} {rl wl : List Nat} (hf : Fresh h c) (m : Int) (hm : m = 1 ∨ m = 2) :
  ∃ r s', FnTo (Cs sm) eg 72 [.int .i64 m] ⟨h, c, rl, wl⟩ r s' ∧ (r = .bool true ∧ s' = ⟨h, c, rl, wl⟩) := by
 refine Fn.go (H 72 rfl) ex72 fn72 km72 rfl rfl ?_
 refine Zev ?_
 rcases hm with rfl | rfl
 ·refine Zgo ?_
  exact ⟨.inr rfl, Wres.one rfl ⟨rfl, rfl⟩⟩
 ·refine Zgo ?_
  exact ⟨.inr rfl, Wres.one rfl ⟨rfl, rfl⟩⟩
theorem fnew_spec (H : Std sm) {h : T AObj} {c : Nat} {rl wl : List Nat} (hf : Fresh h c) (m : Int) (hm : m = 1 ∨ m = 2) :
  ∃ r s', FnTo (Cs sm) eg 18 [.int .i64 m] ⟨h, c, rl, wl⟩ r s' ∧ (r = .pointer (some ⟨c + 1, 0, none⟩) ∧ Has s'.h c (.map [] 0) ∧ Has s'.h (c + 1) (.cells [.int .i64 m, .map (some c)]) ∧ s'.c = c + 2) ∧ Ext ⟨h, c, rl, wl⟩ s' (fun _ => False) (fun _ => False) := by
 refine Fn.go (H 18 rfl) ex18 fn18 km18 rfl rfl ?_
 refine Zev ?_
 refine Zgo ?_
 refine Wseq.call rfl rfl (known_spec H Zfr m hm) ?_
 rintro v h1 c1 r1 w1 ⟨rfl, e1⟩
 cases e1
 refine Zgo ?_
 refine ⟨.inr rfl, Wres.one rfl ⟨⟨rfl, Has.other (by omega) Has.same, Has.same, rfl⟩, ?_⟩⟩
 exact Zex
theorem bnew_spec (H : Std sm) {h : T AObj} {c : Nat} {rl wl : List Nat} (hf : Fresh h c) (k : Int) :
  ∃ r s', FnTo (Cs sm) eg 137 [.int .i64 k] ⟨h, c, rl, wl⟩ r s' ∧ (r = .pointer (some ⟨c, 0, none⟩) ∧ Has s'.h c (.cells [.slice none 0 0, .int .i64 (max k 0)]) ∧ s'.c = c + 1) ∧ Ext ⟨h, c, rl, wl⟩ s' (fun _ => False) (fun _ => False) := by
 refine Fn.go (H 137 rfl) ex137 fn137 km137 rfl rfl ?_
 refine Zev ?_
 refine Zgo ?_
 refine ⟨.inr rfl, Wres.one rfl ⟨⟨rfl, ?_, rfl⟩, ?_⟩⟩
 ·exact Has.same
 ·exact Zex
theorem clo_spec (H : Std sm) {h : T AObj} {c b : Nat} {rl wl : List Nat} (hf : Fresh h c) (x y : Ht) (hb : Has h b (.cells [.int .i64 y.id, .int .i64 y.sc])) :
  ∃ r s', FnTo (Cs sm) eg 199 [hitv x.id x.sc, .pointer (some ⟨b, 0, none⟩)] ⟨h, c, rl, wl⟩ r s' ∧ r = .bool (decide (x.id = y.id)) ∧ Ext ⟨h, c, rl, wl⟩ s' (fun z => z = b) (fun _ => False) := by
 have l1 := hb.lt hf
 refine Fn.go (H 199 rfl) ex199 fn199 km199 rfl rfl ?_
 refine Zev ?_
 refine Zgo ?_
 refine ⟨.inr rfl, Wres.one rfl ⟨rfl, ?_⟩⟩
 exact Zex
end Go.Ab.Seat
end
section
/- A score; an id among hits (the abstract machine). -/
namespace Go.Ab.Seat
open Go.Extern Go.Proofs
set_option maxRecDepth 4000
variable {sm : Nat → Option (List Value → M Value)}
def termZ (m x y : Int) : Int := if m = 1 then (x - y) * (x - y) else -(x * y)
def scoreN (m : Int) (zs ys : List Int) : Nat → Int
 | 0 => 0
 | i + 1 => scoreN m zs ys i + termZ m (zs.getD i 0) (ys.getD i 0)
def scoreZ (m : Int) (zs ys : List Int) : Int := scoreN m zs ys zs.length
def Bnd (zs : List Int) : Prop := ∀ i, -1048576 ≤ zs.getD i 0 ∧ zs.getD i 0 ≤ 1048576
theorem mul_bnd {a b : Int} {k : Int} (hk : 0 ≤ k) (ha : -k ≤ a ∧ a ≤ k) (hb : -k ≤ b ∧ b ≤ k) : -(k * k) ≤ a * b ∧ a * b ≤ k * k := by
 have h1 : (a * b).natAbs ≤ (k * k).natAbs := by
  rw [Int.natAbs_mul, Int.natAbs_mul]
  exact Nat.mul_le_mul (by omega) (by omega)
 have h2 : 0 ≤ k * k := Int.mul_nonneg hk hk
 omega
theorem term_bnd {m x y : Int} (hx : -1048576 ≤ x ∧ x ≤ 1048576) (hy : -1048576 ≤ y ∧ y ≤ 1048576) : (-4398046511104 ≤ (x - y) * (x - y) ∧ (x - y) * (x - y) ≤ 4398046511104) ∧ (-4398046511104 ≤ x * y ∧ x * y ≤ 4398046511104) ∧ -4398046511104 ≤ termZ m x y ∧ termZ m x y ≤ 4398046511104 := by
 have h1 := mul_bnd (a := x - y) (b := x - y) (k := 2097152) (by omega) (by omega) (by omega)
 have h2 := mul_bnd (a := x) (b := y) (k := 1048576) (by omega) hx hy
 refine ⟨by omega, by omega, ?_⟩
 unfold termZ
 split <;> omega
theorem score_bnd {m : Int} {zs ys : List Int} (hx : Bnd zs) (hy : Bnd ys) : ∀ i : Nat, -(4398046511104 * (i : Int)) ≤ scoreN m zs ys i ∧ scoreN m zs ys i ≤ 4398046511104 * (i : Int) := by
 intro i
 induction i with
 | zero => exact ⟨by simp [scoreN], by simp [scoreN]⟩
 | succ i ih =>
  have := (term_bnd (m := m) (hx i) (hy i)).2.2
  unfold scoreN
  omega
def ESc (m : Int) (a : Option Addr) (n k : Nat) (b : Option Addr) (k' : Nat) (s z : Int) (j8 j9 j10 j17 j29 j30 j41 : Value) : L :=
 .cons 0 (.int .i64 m) (.cons 1 (.slice a n k) (.cons 2 (.slice b n k') (.cons 6 (.int .i64 0) (.cons 7 (.int .i64 s) (.cons 15 (.int .i64 (n : Int)) (.cons 16 (.int .i64 z) (.cons 8 j8 (.cons 9 j9 (.cons 10 j10 (.cons 17 j17 (.cons 29 j29 (.cons 30 j30 (.cons 41 j41 .nil)))))))))))))
set_option maxHeartbeats 4000000 in
theorem score_spec (H : Std sm) {h : T AObj} {c : Nat} {rl wl : List Nat} (hf : Fresh h c) {m : Int} (hm : m = 1 ∨ m = 2) {a b : Option Addr} {n k k' : Nat} {zs ys : List Int} (hn : zs.length = n) (hn' : ys.length = n) (hx : Row h (.slice a n k) n 1 (zs.map (Value.int .i32))) (hy : Row h (.slice b n k') n 1 (ys.map (Value.int .i32))) (bx : Bnd zs) (by_ : Bnd ys) (hb : n ≤ 1000) (R : Nat → Prop) (hR : ∀ x, blkOf (.slice a n k) = some x ∨ blkOf (.slice b n k') = some x → R x) :
  ∃ r s', FnTo (Cs sm) eg 35 [.int .i64 m, .slice a n k, .slice b n k'] ⟨h, c, rl, wl⟩ r s' ∧ (r = .int .i64 (scoreZ m zs ys) ∧ s'.h = h ∧ s'.c = c) ∧ Ext ⟨h, c, rl, wl⟩ s' R (fun _ => False) := by
 refine Fn.go (H 35 rfl) ex35 fn35 km35 rfl rfl ?_
 refine Zev ?_
 refine Zgo ?_
 simp only [Int.min_self]
 refine Wx.cutO (fun e s => ∃ (j8 j9 j10 j17 j29 j30 j41 : Value) (rl' : List Nat), e = ESc m a n k b k' (scoreZ m zs ys) n j8 j9 j10 j17 j29 j30 j41 ∧ s = ⟨h, c, rl', []⟩ ∧ Lg c R rl') Zrs ?_ ?_
 ·refine Wx.loopE (fun k1 e s => ∃ (i : Nat) (z : Int) (j8 j9 j10 j17 j29 j30 j41 : Value) (rl' : List Nat), e = ESc m a n k b k' (scoreN m zs ys i) z j8 j9 j10 j17 j29 j30 j41 ∧ z = i ∧ s = ⟨h, c, rl', []⟩ ∧ Lg c R rl' ∧ i ≤ n ∧ k1 = n - i) n (ESc m a n k b k' 0 0 top top top top top top top) Zrs ?_ ?_ ?_
  ·unfold ESc
   exact Zek
  ·exact ⟨0, 0, _, _, _, _, _, _, _, _, rfl, rfl, rfl, Zlg, by omega, rfl⟩
  ·rintro k1 e s ⟨i, z, j8, j9, j10, j17, j29, j30, j41, rl', rfl, hz, rfl, hlr, hid, rfl⟩
   unfold ESc
   by_cases hi : i < n
   ·have hzs : (zs.map (Value.int .i32))[i]? = some (.int .i32 (zs.getD i 0)) := by
     rw [List.getElem?_map, List.getD_eq_getElem?_getD, List.getElem?_eq_getElem (by omega : i < zs.length)]; rfl
    have hys : (ys.map (Value.int .i32))[i]? = some (.int .i32 (ys.getD i 0)) := by
     rw [List.getElem?_map, List.getD_eq_getElem?_getD, List.getElem?_eq_getElem (by omega : i < ys.length)]; rfl
    obtain ⟨b1, o1, sp1, cs1, rfl, hc1, hn1⟩ := rowCell hx (j := i * 1) (by omega) (by rw [Nat.mul_one]; exact hzs)
    obtain ⟨b2, o2, sp2, cs2, rfl, hc2, hn2⟩ := rowCell hy (j := i * 1) (by omega) (by rw [Nat.mul_one]; exact hys)
    have hR1 := hR b1 (.inl rfl)
    have hR2 := hR b2 (.inr rfl)
    have l1 := hc1.lt hf
    have l2 := hc2.lt hf
    have q1 := bx i
    have q2 := by_ i
    have q3 := score_bnd (m := m) bx by_ i
    obtain ⟨t1, t2, _⟩ := term_bnd (m := m) q1 q2
    refine Zgo ?_
    refine Zq (to_indexAddr (k := i) el25 rfl rfl hz (by omega)) ?_
    refine Zd (to_load (pl_ rfl) rfl hc1 (by omega) hn1) ?_
    refine Zgo ?_
    refine Zq (to_indexAddr (k := i) el25 rfl rfl hz (by omega)) ?_
    refine Zd (to_load (pl_ rfl) rfl hc2 (by omega) hn2) ?_
    refine Zgo ?_
    simp only [wrapA_i64 (show (-9223372036854775808 : Int) ≤ zs.getD i 0 by omega) (by omega), wrapA_i64 (show (-9223372036854775808 : Int) ≤ ys.getD i 0 by omega) (by omega)]
    rcases hm with rfl | rfl
    ·refine Zgo ?_
     refine RoundE.go (n - (i + 1)) (ESc 1 _ n k _ k' (scoreN 1 zs ys (i + 1)) (z + 1) _ _ _ _ _ _ _) (by omega) Zek ⟨i + 1, z + 1, _, _, _, _, _, _, _, _, rfl, by omega, rfl, Zlg, by omega, rfl⟩
    ·refine Zgo ?_
     have e : scoreN 2 zs ys (i + 1) = scoreN 2 zs ys i - zs.getD i 0 * ys.getD i 0 := by
      show _ + termZ 2 _ _ = _
      unfold termZ
      rw [if_neg (by decide)]; omega
     refine RoundE.go (n - (i + 1)) (ESc 2 _ n k _ k' (scoreN 2 zs ys i - zs.getD i 0 * ys.getD i 0) (z + 1) _ _ _ _ _ _ _) (by omega) Zek ⟨i + 1, z + 1, _, _, _, _, _, _, _, _, (by rw [e]; rfl), by omega, rfl, Zlg, by omega, rfl⟩
   ·refine Zgo ?_
    obtain rfl : i = n := by omega
    subst hz
    have e : scoreZ m zs ys = scoreN m zs ys i := by unfold scoreZ; rw [hn]
    exact CutQ.go (ESc m a i k b k' (scoreN m zs ys i) i _ _ _ _ _ _ _) Zek ⟨_, _, _, _, _, _, _, _, (by rw [e]; rfl), rfl, Zlg⟩
 ·rintro e s ⟨j8, j9, j10, j17, j29, j30, j41, rl', rfl, rfl, hlr⟩
  unfold ESc
  refine Zgo ?_
  refine ⟨.inr rfl, Wres.one rfl ⟨⟨rfl, rfl, rfl⟩, ?_⟩⟩
  exact Zex
end Go.Ab.Seat
end
