import Derived.Test.YtcnfbfiakkjabaaGreatDoorDZ0
import Derived.Test.YtcnfbfiakkjabaaGreatDoorE43
import Derived.Test.YtcnfbfiakkjabaaGreatDoorE48
set_option linter.unusedVariables false
set_option linter.unusedSimpArgs false
section
/- Copies of vectors; errors. -/
namespace Go.Ab.Seat
open Go.Extern Go.Proofs
/-- What special functions there are: those that are known and not run. -/
def special (f : Nat) : Bool := [9, 43, 150, 234, 49, 135, 155].contains f
def Std (sm : Nat → Option (List Value → M Value)) : Prop := ∀ f, special f = false → sm f = none
set_option linter.unusedSimpArgs false
set_option linter.unusedVariables false
set_option maxRecDepth 4000
variable {sm : Nat → Option (List Value → M Value)}

theorem clone_nil (H : Std sm) {h : T AObj} {c : Nat} {rl wl : List Nat} : ∃ v s', FnTo (Cs sm) eg 84 [.slice none 0 0] ⟨h, c, rl, wl⟩ v s' ∧ (v = .slice none 0 0 ∧ s' = ⟨h, c, rl, wl⟩) := by
  refine Fn.go (H 84 rfl) ex84 fn84 km84 rfl rfl ?_
  refine Zev ?_
  refine Zgo ?_
  refine ⟨.inr rfl, Wres.one rfl ⟨rfl, rfl⟩⟩

theorem clone_zero (H : Std sm) {h : T AObj} {c : Nat} {rl wl : List Nat} (hf : Fresh h c) (ad : Addr) (cap : Nat) : ∃ v s', FnTo (Cs sm) eg 84 [.slice (some ad) 0 cap] ⟨h, c, rl, wl⟩ v s' ∧ (v = .slice (some ⟨c, 0, none⟩) 0 0 ∧ s' = ⟨h.set c (some (.cells [])), c + 1, rl, wl⟩) := by
  refine Fn.go (H 84 rfl) ex84 fn84 km84 rfl rfl ?_
  refine Zev ?_
  refine Zgo ?_
  refine Wseq.st (to_appZero ro24 sl24 rfl rfl (by omega)) ?_
  refine Zgo ?_
  refine ⟨.inr rfl, Wres.one rfl ⟨rfl, rfl⟩⟩

theorem clone_some (H : Std sm) {h : T AObj} {c : Nat} {rl wl : List Nat} (hf : Fresh h c) {b o n cap : Nat} {sp : Option Nat} {cs xs : List Value} (hb : Cel h b cs) (hs : subN o ((n + 1) * 1) cs = some xs) (hn : n + 1 ≤ bigV) :
    ∃ v s', FnTo (Cs sm) eg 84 [.slice (some ⟨b, o, sp⟩) (n + 1) cap] ⟨h, c, rl, wl⟩ v s' ∧ (v = .slice (some ⟨c + 1, 0, some 1⟩) (n + 1) (n + 1) ∧ Has s'.h (c + 1) (.cells xs) ∧ Ext ⟨h, c, rl, wl⟩ s' (· = b) (fun _ => False)) := by
  have hbc := hb.lt hf
  refine Fn.go (H 84 rfl) ex84 fn84 km84 rfl rfl ?_
  refine Zev ?_
  refine Zgo ?_
  refine Wseq.st (to_appExB ro24 sl24 rfl rfl Zce (by omega) hs (by decide) (by unfold bigV at hn; omega) Zfr) ?_
  refine Zgo ?_
  refine ⟨.inr rfl, Wres.one rfl ⟨rfl, Zhs, ?_⟩⟩
  exact Zex

/-- A vector's copy: memory of its own. -/
theorem clone_spec (H : Std sm) {h : T AObj} {c : Nat} {rl wl : List Nat} (hf : Fresh h c) {v : Value} {n : Nat} {xs : List Value} (hv : Row h v n 1 xs) (hn : n ≤ bigV) (hz : n = 0 → ∃ a cap, v = .slice a 0 cap ∧ (a = none → cap = 0)) (bs : Nat → Prop) (hbs : ∀ b o sp n' cap, v = .slice (some ⟨b, o, sp⟩) n' cap → bs b) :
    ∃ v' s', FnTo (Cs sm) eg 84 [v] ⟨h, c, rl, wl⟩ v' s' ∧ Own s'.h c v' n xs ∧ Ext ⟨h, c, rl, wl⟩ s' bs (fun _ => False) := by
  cases n with
  | zero =>
    obtain ⟨a, cap, rfl, ha⟩ := hz rfl
    have hx : xs = [] := by
      rcases hv with ⟨_, h2, _⟩ | ⟨b, o, sp, cap', cs, _, _, h4⟩
      · exact h2
      · have := (subN_some _ _ _ _ h4).1
        simpa using this
    subst hx
    cases a with
    | none =>
      obtain rfl := ha rfl
      obtain ⟨v', s', h1, rfl, rfl⟩ := clone_nil H (h := h) (c := c) (rl := rl) (wl := wl)
      exact ⟨_, _, h1, .inl ⟨rfl, rfl, rfl⟩, Ext.refl hf⟩
    | some ad =>
      obtain ⟨v', s', h1, rfl, rfl⟩ := clone_zero H (rl := rl) (wl := wl) hf ad cap
      refine ⟨_, _, h1, .inr ⟨c, none, 0, rfl, Nat.le_refl _, Nat.le_refl _, Has.same⟩, ⟨by simp, hf.new, fun b hb _ => get_other (by simp at hb; omega), fun _ q => .inl q, fun _ q => .inl q⟩⟩
  | succ n =>
    rcases hv with ⟨h1, _⟩ | ⟨b, o, sp, cap', cs, rfl, h3, h4⟩
    · cases h1
    · obtain ⟨v', s', h1, rfl, h5, h6⟩ := clone_some H (rl := rl) (wl := wl) (cap := cap') (sp := sp) hf h3 h4 hn
      exact ⟨_, _, h1, .inr ⟨c + 1, some 1, n + 1, rfl, Nat.le_refl _, by omega, h5⟩, h6.mono (fun x _ q => by subst q; exact hbs _ _ _ _ _ rfl) (fun _ _ q => q)⟩

theorem copy_spec (H : Std sm) {h : T AObj} {c : Nat} {rl wl : List Nat} (hf : Fresh h c) {v : Value} {n : Nat} {xs : List Value} (hv : Row h v n 1 xs) (hn : n ≤ bigV) (hz : n = 0 → ∃ a cap, v = .slice a 0 cap ∧ (a = none → cap = 0)) (bs : Nat → Prop) (hbs : ∀ b o sp n' cap, v = .slice (some ⟨b, o, sp⟩) n' cap → bs b) :
    ∃ v' s', FnTo (Cs sm) eg 46 [v] ⟨h, c, rl, wl⟩ v' s' ∧ Own s'.h c v' n xs ∧ Ext ⟨h, c, rl, wl⟩ s' bs (fun _ => False) := by
  obtain ⟨v', ⟨h1, c1, rl1, wl1⟩, hfn, hown, hext⟩ := clone_spec H (rl := []) (wl := []) hf hv hn hz bs hbs
  refine Fn.go (H 46 rfl) ex46 fn46 km46 rfl rfl ?_
  refine Zev ?_
  refine Zgo ?_
  refine Wseq.st (OpTo.ofCall hfn rfl) ?_
  refine Zgo ?_
  refine ⟨.inr rfl, Wres.one rfl ⟨hown, ?_⟩⟩
  exact Ext.of hext.c hext.fresh hext.h (Lg.extR Lg.nil hext fun _ _ q => q) (Lg.extW Lg.nil hext fun _ _ q => q)
end Go.Ab.Seat
end
section
/- A closure is called (the abstract machine). -/
namespace Go.Ab
section
variable {C : Ctx} {eg : TypeId → Bool} {e : Env} {s : St}
theorem OpTo.ofCallV {d : Option Nat} {g : Nat} {fo : Operand} {first cap : Array Value} {ar : Array Operand} {ts : Array TypeId} {ty : TypeId} {ps : String} {af : Array Edge} {gd : Option (Nat × Bool)} {args : List Value} {v : Value} {s' : St} (hf : evalA e fo = .func (.func g) first cap) (ha : mapA (evalA e) ar.toList = args)
    (h : FnTo C eg g (app first.toList (app args cap.toList)) s v s') : OpTo C eg e ⟨d, .call ⟨.value fo, ar, ts⟩, ty, ps, af, gd⟩ s v s' := by
  obtain ⟨n, h⟩ := h
  refine ⟨n, ?_⟩
  show callV C (exec C eg n) (evalA e fo) (mapA (evalA e) ar.toList) s = _
  rw [hf, ha]
  exact h
end
section
variable {C : Ctx} {eg : TypeId → Bool} {all os : List Oper} {loc kept : L} {h : T AObj} {c : Nat} {rl wl : List Nat} {Q : Env → St → Prop} {d : Nat} {ty : TypeId} {ps : String} {af : Array Edge} {g : Option (Nat × Bool)}
theorem Wseq.callV {f : Nat} {fo : Operand} {first cap : Array Value} {ar : Array Operand} {ts : Array TypeId} {args : List Value} {P : Value → St → Prop} (hw : wantedA all (.mk loc kept) ⟨some d, .call ⟨.value fo, ar, ts⟩, ty, ps, af, g⟩ = some true) (hf : evalA (.mk loc kept) fo = .func (.func f) first cap) (ha : mapA (evalA (.mk loc kept)) ar.toList = args)
    (hc : ∃ v s', FnTo C eg f (app first.toList (app args cap.toList)) ⟨h, c, rl, wl⟩ v s' ∧ P v s') (k : ∀ v h' c' r1 w1, P v ⟨h', c', r1, w1⟩ → Wseq C eg all os (.mk (.cons d v loc) kept) ⟨h', c', r1, w1⟩ Q) :
    Wseq C eg all (⟨some d, .call ⟨.value fo, ar, ts⟩, ty, ps, af, g⟩ :: os) (.mk loc kept) ⟨h, c, rl, wl⟩ Q := by
  obtain ⟨v, ⟨h', c', r1, w1⟩, h1, h2⟩ := hc
  exact Wseq.op hw (OpTo.ofCallV hf ha h1) (k v h' c' r1 w1 h2)
end
end Go.Ab
end
section
/- More rules over the abstract machine: cap, copy, append(x, make(..)...), functions that are known. -/
namespace Go.Ab

/-- What is written into a row. -/
theorem setMany_row {o n k : Nat} {cs A B B' D : List Value} (h : subN o n cs = some (A ++ B ++ D)) (hA : A.length = k) (hB : B'.length = B.length) (ha : ∀ x ∈ B', atom x = true) :
    ∃ r, setMany B' cs (o + k) = some r ∧ subN o n r = some (A ++ B' ++ D) := by
  obtain ⟨h1, h2, _⟩ := subN_some _ _ _ _ h
  rw [subN_eq o n cs h2] at h
  have h := Option.some.inj h
  have hcs : cs = cs.take o ++ (A ++ B ++ D) ++ cs.drop (o + n) := by
    rw [← h, List.append_assoc, ← List.drop_drop, List.take_append_drop, List.take_append_drop]
  have hP : (cs.take o).length = o := by rw [List.length_take]; omega
  simp only [List.length_append] at h1
  generalize cs.take o = P at hcs hP
  generalize cs.drop (o + n) = S at hcs
  subst hcs
  subst hA
  refine ⟨P ++ (A ++ B' ++ D) ++ S, ?_, ?_⟩
  · rw [setMany_eq _ _ _ (by simp only [List.length_append]; omega) ha]
    congr 1
    have e1 : P ++ (A ++ B ++ D) ++ S = (P ++ A) ++ (B ++ (D ++ S)) := by simp only [List.append_assoc]
    rw [e1, List.take_left' (by rw [List.length_append]; omega), List.drop_append, List.drop_eq_nil_of_le (by rw [List.length_append]; omega), List.nil_append, List.drop_left' (by rw [List.length_append]; omega)]
    simp only [List.append_assoc]
  · rw [subN_eq _ _ _ (by simp only [List.length_append]; omega)]
    congr 1
    rw [List.append_assoc, List.drop_left' hP, List.take_left' (by simp only [List.length_append]; omega)]

section
variable {C : Ctx} {eg : TypeId → Bool} {e : Env} {s : St} {h : T AObj} {c : Nat} {rl wl : List Nat} {d : Option Nat} {ty : TypeId} {ps : String} {af : Array Edge} {g : Option (Nat × Bool)}

theorem FnTo.of_ex {f : Nat} {args : List Value} {v : Value} {s' : St} {q : List Value → M Value} (hsm : C.sm f = none) (hex : C.ex f = some q) (h : q args s = some (v, s')) : FnTo C eg f args s v s' := by
  refine ⟨0, ?_⟩
  unfold callF
  rw [hsm]
  simp only
  rw [hex]
  exact h
theorem FnTo.of_sm {f : Nat} {args : List Value} {v : Value} {s' : St} {q : List Value → M Value} (hsm : C.sm f = some q) (h : q args s = some (v, s')) : FnTo C eg f args s v s' := by
  refine ⟨0, ?_⟩
  unfold callF
  rw [hsm]
  exact h

theorem to_capX {t : TypeId} {x : Operand} {b o n cap : Nat} (ht : sliceT C t = true) (hx : evalA e x = .slice (some ⟨b, o, none⟩) n cap) :
    OpTo C eg e ⟨d, .call ⟨.builtin .cap, #[x], #[t]⟩, ty, ps, af, g⟩ s (.int .i64 (cap : Int)) s := ⟨0, by
  show opBuiltin C .cap #[t] [evalA e x] s = _
  rw [hx]
  show ((M.lift (nth [t] 0)).bind fun t => opCap C t _) s = _
  rw [bind_run (lift_run (show nth [t] 0 = some t from rfl))]
  unfold sliceT at ht
  unfold opCap
  cases hu : C.und t with
  | none => rw [hu] at ht; cases ht
  | some u =>
    rw [hu] at ht
    cases u <;> first | (cases ht; done) | rfl⟩

theorem to_capI {t : TypeId} {x : Operand} {b o n cap k : Nat} (ht : sliceT C t = true) (hx : evalA e x = .slice (some ⟨b, o, some k⟩) n cap) :
    OpTo C eg e ⟨d, .call ⟨.builtin .cap, #[x], #[t]⟩, ty, ps, af, g⟩ s (.chan (some cap)) s := ⟨0, by
  show opBuiltin C .cap #[t] [evalA e x] s = _
  rw [hx]
  show ((M.lift (nth [t] 0)).bind fun t => opCap C t _) s = _
  rw [bind_run (lift_run (show nth [t] 0 = some t from rfl))]
  unfold sliceT at ht
  unfold opCap
  cases hu : C.und t with
  | none => rw [hu] at ht; cases ht
  | some u =>
    rw [hu] at ht
    cases u <;> first | (cases ht; done) | rfl⟩

/-- An int against one that is at least so much. -/
theorem to_gtrLeast {t t2 : TypeId} {x y : Operand} {z : Int} {m k : Nat} (hx : evalA e x = .int .i64 z) (hy : evalA e y = .chan (some k)) (hz : z = (m : Int)) (hk : m ≤ k) :
    OpTo C eg e ⟨d, .binOp .gtr t x y t2, ty, ps, af, g⟩ s (.bool false) s :=
  to_bin hx hy (by
    subst hz
    show leastGtr .gtr .i64 (m : Int) k = _
    unfold leastGtr
    show (match decide (IntKind.i64 = .i64) && Nat.ble m k with | true => some (Value.bool false) | false => none) = _
    rw [ble_iff.2 hk]
    rfl)

/-- copy(a, x), where something is copied. -/
theorem to_copy {t et xt : TypeId} {a x : Operand} {n by_ j dl xl cp cap b0 o0 ob off : Nat} {sp0 sp : Option Nat} {z cs cs0 r r0 : List Value} (ht : C.row t = some (et, n, by_, z)) (ha : evalA e a = .slice (some ⟨b0, o0, sp0⟩) dl cp) (hx : evalA e x = .slice (some ⟨ob, off, sp⟩) xl cap)
    (hj : Nat.min xl dl = j + 1) (hb : Cel h ob cs) (hc : ob < c) (hs : subN off ((j + 1) * n) cs = some r) (hne : r ≠ []) (h0 : Has h b0 (.cells cs0)) (hc0 : b0 < c) (hr : setMany r cs0 o0 = some r0) :
    OpTo C eg e ⟨d, .call ⟨.builtin .copy, #[a, x], #[t, xt]⟩, ty, ps, af, g⟩ ⟨h, c, rl, wl⟩ (.int .i64 ((j + 1 : Nat) : Int)) ⟨h.set b0 (some (.cells r0)), c, b0 :: ob :: rl, b0 :: wl⟩ := ⟨0, by
  show opCopy C #[t, xt] (evalA e a) (evalA e x) _ = _
  rw [ha, hx]
  unfold opCopy
  rw [show nth (#[t, xt] : Array TypeId).toList 0 = some t from rfl, show lenA (.slice (some ⟨ob, off, sp⟩) xl cap) = some xl from rfl]
  simp only
  rw [bind_run (lift_run ht)]
  simp only
  rw [hj]
  have hfirst : firstA n (j + 1) (.slice (some ⟨ob, off, sp⟩) xl cap) ⟨h, c, rl, wl⟩ = some (r, ⟨h, c, ob :: rl, wl⟩) := by
    unfold firstA
    simp only [ble_iff.2 (show j + 1 ≤ xl by have := Nat.min_le_left xl dl; have e : Nat.min xl dl = min xl dl := rfl; omega)]
    exact readCells_run hb hc hs
  rw [bind_run hfirst]
  cases r with
  | nil => exact absurd rfl hne
  | cons y ys =>
    simp only
    rw [bind_run (writeCells_run h0 hc0 hr)]
    rfl⟩

noncomputable def intT (C : Ctx) (t : TypeId) : Bool := match C.und t with | some (.int _) => true | _ => false

theorem appendedN_run {n m : Nat} {z : List Value} {xt : TypeId} {j : IntKind} (hu : intT C xt = true) (hm : m ≤ big) : appended C n z (some xt) (.int j (m : Int)) s = some ((m, rep z m), s) := by
  unfold appended
  unfold intT at hu
  cases hw : C.und xt with
  | none => rw [hw] at hu; cases hu
  | some w =>
    rw [hw] at hu
    cases w <;> first | (cases hu; done) | skip
    simp only [hw]
    rw [bind_run (lift_run (show natOf (.int j (m : Int)) = some m from rfl))]
    simp only [ble_iff.2 hm]
    rfl

/-- append(x, make(.., m)...) onto a slice that is full, where there is no room. -/
theorem to_appMake0 {t et xt : TypeId} {a x : Operand} {n by_ cp m b0 o0 : Nat} {j : IntKind} {y : Int} {z : List Value} (ht : C.row t = some (et, n, by_, z)) (hu : intT C xt = true) (ha : evalA e a = .slice (some ⟨b0, o0, none⟩) 0 cp) (hx : evalA e x = .int j y) (hy : y = (m : Int))
    (hroom : cp < 0 + m) (hbig : 0 + m ≤ big) (hf : Fresh h c) :
    OpTo C eg e ⟨d, .call ⟨.builtin .append, #[a, x], #[t, xt]⟩, ty, ps, af, g⟩ ⟨h, c, rl, wl⟩ (.slice (some ⟨c, 0, some n⟩) (0 + m) (0 + m)) ⟨h.set c (some (.cells ([] ++ rep z m))), c + 1, rl, wl⟩ := ⟨0, by
  subst hy
  show opAppend C #[t, xt] (evalA e a) (evalA e x) _ = _
  rw [ha, hx]
  unfold opAppend
  rw [show nth (#[t, xt] : Array TypeId).toList 0 = some t from rfl]
  simp only
  rw [bind_run (lift_run ht)]
  simp only
  have happ : appended C n z (nth #[t, xt].toList 1) (.int j (m : Int)) ⟨h, c, rl, wl⟩ = _ := appendedN_run (z := z) hu (by omega)
  rw [bind_run happ]
  simp only [show Nat.ble (0 + m) cp = false from ble_false.2 (by omega), show fitsA by_ (0 + m) = true from fitsA_big hbig]
  rw [bind_run (show firstA n 0 _ _ = some ([], ⟨h, c, rl, wl⟩) from rfl), app_eq, bind_run (newCells_run hf)]
  rfl⟩
theorem to_appMake {t et xt : TypeId} {a x : Operand} {n by_ ln cp m b0 o0 : Nat} {j : IntKind} {y : Int} {z cs0 old : List Value} (ht : C.row t = some (et, n, by_, z)) (hu : intT C xt = true) (ha : evalA e a = .slice (some ⟨b0, o0, none⟩) (ln + 1) cp) (hx : evalA e x = .int j y) (hy : y = (m : Int))
    (hroom : cp < ln + 1 + m) (hbig : ln + 1 + m ≤ big) (h0 : Cel h b0 cs0) (hc0 : b0 < c) (hs0 : subN o0 ((ln + 1) * n) cs0 = some old) (hf : Fresh h c) :
    OpTo C eg e ⟨d, .call ⟨.builtin .append, #[a, x], #[t, xt]⟩, ty, ps, af, g⟩ ⟨h, c, rl, wl⟩ (.slice (some ⟨c, 0, some n⟩) (ln + 1 + m) (ln + 1 + m)) ⟨h.set c (some (.cells (old ++ rep z m))), c + 1, b0 :: rl, wl⟩ := ⟨0, by
  subst hy
  show opAppend C #[t, xt] (evalA e a) (evalA e x) _ = _
  rw [ha, hx]
  unfold opAppend
  rw [show nth (#[t, xt] : Array TypeId).toList 0 = some t from rfl]
  simp only
  rw [bind_run (lift_run ht)]
  simp only
  have happ : appended C n z (nth #[t, xt].toList 1) (.int j (m : Int)) ⟨h, c, rl, wl⟩ = _ := appendedN_run (z := z) hu (by omega)
  rw [bind_run happ]
  simp only [show Nat.ble (ln + 1 + m) cp = false from ble_false.2 (by omega), show fitsA by_ (ln + 1 + m) = true from fitsA_big hbig]
  have hfirst : firstA n (ln + 1) (.slice (some ⟨b0, o0, none⟩) (ln + 1) cp) ⟨h, c, rl, wl⟩ = some (old, ⟨h, c, b0 :: rl, wl⟩) := by
    unfold firstA
    simp only [ble_iff.2 (Nat.le_refl (ln + 1))]
    exact readCells_run h0 hc0 hs0
  rw [bind_run hfirst, app_eq, bind_run (newCells_run hf)]
  rfl⟩

/-- append(x, xs...) onto a slice that is full. -/
theorem to_appFull {t et xt : TypeId} {a x : Operand} {n by_ k cap ln cp b0 o0 : Nat} {z cs r cs0 old : List Value} {sp : Option Nat} {ob off : Nat} (ht : C.row t = some (et, n, by_, z)) (hu : sliceT C xt = true) (ha : evalA e a = .slice (some ⟨b0, o0, none⟩) (ln + 1) cp) (hx : evalA e x = .slice (some ⟨ob, off, sp⟩) (k + 1) cap)
    (hb : Cel h ob cs) (hc : ob < c) (hs : subN off ((k + 1) * n) cs = some r) (hroom : cp < ln + 1 + (k + 1)) (hbig : ln + 1 + (k + 1) ≤ big) (h0 : Cel h b0 cs0) (hc0 : b0 < c) (hs0 : subN o0 ((ln + 1) * n) cs0 = some old) (hf : Fresh h c) :
    OpTo C eg e ⟨d, .call ⟨.builtin .append, #[a, x], #[t, xt]⟩, ty, ps, af, g⟩ ⟨h, c, rl, wl⟩ (.slice (some ⟨c, 0, some n⟩) (ln + 1 + (k + 1)) (ln + 1 + (k + 1))) ⟨h.set c (some (.cells (old ++ r))), c + 1, b0 :: ob :: rl, wl⟩ := ⟨0, by
  show opAppend C #[t, xt] (evalA e a) (evalA e x) _ = _
  rw [ha, hx]
  unfold opAppend
  rw [show nth (#[t, xt] : Array TypeId).toList 0 = some t from rfl]
  simp only
  rw [bind_run (lift_run ht)]
  simp only
  have happ : appended C n z (nth #[t, xt].toList 1) (.slice (some ⟨ob, off, sp⟩) (k + 1) cap) ⟨h, c, rl, wl⟩ = _ := appended_run (z := z) hu hb hc hs
  rw [bind_run happ]
  simp only [show Nat.ble (ln + 1 + (k + 1)) cp = false from ble_false.2 (by omega), show fitsA by_ (ln + 1 + (k + 1)) = true from fitsA_big hbig]
  have hfirst : firstA n (ln + 1) (.slice (some ⟨b0, o0, none⟩) (ln + 1) cp) ⟨h, c, ob :: rl, wl⟩ = some (old, ⟨h, c, b0 :: ob :: rl, wl⟩) := by
    unfold firstA
    simp only [ble_iff.2 (Nat.le_refl (ln + 1))]
    exact readCells_run h0 hc0 hs0
  rw [bind_run hfirst, app_eq, bind_run (newCells_run hf)]
  rfl⟩

/-- append(x, xs...), where there is room. -/
theorem to_appRoom {t et xt : TypeId} {a x : Operand} {n by_ k cap ln cp b0 o0 : Nat} {sp0 : Option Nat} {z cs r cs0 r0 : List Value} {sp : Option Nat} {ob off : Nat} (ht : C.row t = some (et, n, by_, z)) (hu : sliceT C xt = true) (ha : evalA e a = .slice (some ⟨b0, o0, sp0⟩) ln cp) (hx : evalA e x = .slice (some ⟨ob, off, sp⟩) (k + 1) cap)
    (hb : Cel h ob cs) (hc : ob < c) (hs : subN off ((k + 1) * n) cs = some r) (hne : r ≠ []) (hroom : ln + (k + 1) ≤ cp) (h0 : Has h b0 (.cells cs0)) (hc0 : b0 < c) (hr : setMany r cs0 (o0 + ln * n) = some r0) :
    OpTo C eg e ⟨d, .call ⟨.builtin .append, #[a, x], #[t, xt]⟩, ty, ps, af, g⟩ ⟨h, c, rl, wl⟩ (.slice (some ⟨b0, o0, sp0⟩) (ln + (k + 1)) cp) ⟨h.set b0 (some (.cells r0)), c, b0 :: ob :: rl, b0 :: wl⟩ := ⟨0, by
  show opAppend C #[t, xt] (evalA e a) (evalA e x) _ = _
  rw [ha, hx]
  unfold opAppend
  rw [show nth (#[t, xt] : Array TypeId).toList 0 = some t from rfl]
  simp only
  rw [bind_run (lift_run ht)]
  simp only
  have happ : appended C n z (nth #[t, xt].toList 1) (.slice (some ⟨ob, off, sp⟩) (k + 1) cap) ⟨h, c, rl, wl⟩ = _ := appended_run (z := z) hu hb hc hs
  rw [bind_run happ]
  simp only [show Nat.ble (ln + (k + 1)) cp = true from ble_iff.2 hroom]
  cases r with
  | nil => exact absurd rfl hne
  | cons y ys =>
    simp only
    rw [bind_run (writeCells_run h0 hc0 hr)]
    rfl⟩
/-- x[len(x):] of a slice that is full. -/
theorem to_sliceEnd {t : TypeId} {x lo : Operand} {b o len n : Nat} {j : IntKind} {z : Int} (ht : elemAt C t = some n) (hx : evalA e x = .slice (some ⟨b, o, none⟩) len len) (hl : evalA e lo = .int j z) (hz : z = (len : Int)) :
    OpTo C eg e ⟨d, .slice t x (some lo) none none, ty, ps, af, g⟩ s (.slice (some ⟨b, o, none⟩) (len - len) (len - len)) s := ⟨0, by
  show opSlice C t (evalA e x) ((some lo).map (evalA e)) ((none : Option Operand).map (evalA e)) ((none : Option Operand).map (evalA e)) s = _
  subst hz
  simp only [Option.map_some, Option.map_none]
  rw [hx, hl]
  unfold elemAt at ht
  unfold opSlice
  cases hu : C.und t with
  | none => rw [hu] at ht; cases ht
  | some u =>
    rw [hu] at ht
    cases u <;> first | (cases ht; done) | skip
    simp only at ht ⊢
    rw [bind_run (lift_run ht)]
    have hb : boundsA len len (some (.int j (len : Int))) none none = some (len, len, len) := by
      unfold boundsA
      simp only
      show (match boundA none len len with | none => none | some m => _) = _
      simp only [boundA]
      rw [show natOf (.int j (len : Int)) = some len from rfl]
      simp only [ble_iff.2 (Nat.le_refl len)]
    rw [bind_run (lift_run hb)]
    simp only [Nat.beq_refl]
    rfl⟩
end
end Go.Ab
end
