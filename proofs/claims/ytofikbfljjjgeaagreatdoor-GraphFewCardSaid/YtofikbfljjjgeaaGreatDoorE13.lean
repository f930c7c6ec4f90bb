import Derived.Test.YtofikbfljjjgeaaGreatDoorE11
set_option linter.unusedVariables false
set_option linter.unusedSimpArgs false
section
/- A run of the abstract machine looks at the blocks it logs, and at no others. -/
namespace Go.Ab
def Touch (r w : List Nat) (lo hi b : Nat) : Prop := b ∈ r ∨ b ∈ w ∨ (lo ≤ b ∧ b < hi)
structure LocalR {α : Type} (m : M α) (s : St) (a : α) (s' : St) (r w : List Nat) : Prop where
 rl : s'.rl = r ++ s.rl
 wl : s'.wl = w ++ s.wl
 cle : s.c ≤ s'.c
 rlt : ∀ b ∈ r, b < s'.c
 wlt : ∀ b ∈ w, b < s'.c
 keep : ∀ b, b ∉ w → ¬(s.c ≤ b ∧ b < s'.c) → s'.h.get b = s.h.get b
 move : ∀ t : St, t.c = s.c → (∀ b, Touch r w s.c s'.c b → t.h.get b = s.h.get b) →
  ∃ h', m t = some (a, ⟨h', s'.c, r ++ t.rl, w ++ t.wl⟩) ∧ (∀ b, Touch r w s.c s'.c b → h'.get b = s'.h.get b) ∧
   (∀ b, b ∉ w → ¬(s.c ≤ b ∧ b < s'.c) → h'.get b = t.h.get b)
def Local {α : Type} (m : M α) : Prop := ∀ s a s', m s = some (a, s') → ∃ r w, LocalR m s a s' r w
section loc
variable {α β : Type}
theorem getO_eq {s : St} {b : Nat} {o : AObj} (h : s.h.get b = some o) (hb : b < s.c) : getO b s = some (o, ⟨s.h, s.c, b :: s.rl, s.wl⟩) := by
 obtain ⟨h0, c, rl, wl⟩ := s
 show Bool.rec (motive := fun _ => Option (AObj × St)) (Option.rec (motive := fun _ => Option (AObj × St)) none (fun o => some (o, ⟨h0, c, b :: rl, wl⟩)) (h0.get b)) none (Nat.ble c b) = _
 rw [ble_false.2 hb]
 simp only at h
 rw [h]
theorem putO_eq {s : St} {b : Nat} {o : Option AObj} {x : AObj} (h : s.h.get b = some x) (hb : b < s.c) : putO b o s = some ((), ⟨s.h.set b o, s.c, s.rl, b :: s.wl⟩) := by
 obtain ⟨h0, c, rl, wl⟩ := s
 show Bool.rec (motive := fun _ => Option (Unit × St)) (Option.rec (motive := fun _ => Option (Unit × St)) none (fun _ => (h0.set b o).force fun h => some ((), ⟨h, c, rl, b :: wl⟩)) (h0.get b)) none (Nat.ble c b) = _
 rw [ble_false.2 hb]
 simp only at h
 rw [h]
 simp only [T.force_eq]
theorem newO_eq {s : St} {o : AObj} (h : s.h.get s.c = none) : newO o s = some (s.c, ⟨s.h.set s.c (some o), s.c + 1, s.rl, s.wl⟩) := by
 obtain ⟨h0, c, rl, wl⟩ := s
 show Option.rec (motive := fun _ => Option (Nat × St)) ((h0.set c (some o)).force fun h => some (c, ⟨h, Nat.add c 1, rl, wl⟩)) (fun _ => none) (h0.get c) = _
 simp only at h
 rw [h]
 simp only [T.force_eq]
theorem Local.ret (a : α) : Local (M.ret a) := by
 intro s b s' h
 obtain ⟨rfl, rfl⟩ := ret_some h
 exact ⟨[], [], rfl, rfl, Nat.le_refl _, by simp, by simp, fun _ _ _ => rfl, fun t ht hh => ⟨t.h, by rw [← ht]; rfl, hh, fun _ _ _ => rfl⟩⟩
theorem Local.fail : Local (M.fail : M α) := fun _ _ _ h => (fail_some h).elim
theorem Local.lift (x : Option α) : Local (M.lift x) := by
 cases x with
 | none => intro s b s' h; cases h
 | some a => exact Local.ret a
theorem bind_eq {m : M α} {f : α → M β} {s s1 : St} {a : α} (h : m s = some (a, s1)) : m.bind f s = f a s1 := by
 show Option.rec (motive := fun _ => Option (β × St)) none (fun p => Prod.rec (motive := fun _ => Option (β × St)) (fun a s => f a s) p) (m s) = _
 rw [h]
theorem Local.bind {m : M α} {f : α → M β} (hm : Local m) (hf : ∀ a, Local (f a)) : Local (m.bind f) := by
 intro s b s2 h
 obtain ⟨a, s1, h1, h2⟩ := bind_some h
 obtain ⟨r1, w1, L1⟩ := hm s a s1 h1
 obtain ⟨r2, w2, L2⟩ := hf a s1 b s2 h2
 have c1 := L1.cle
 have c2 := L2.cle
 refine ⟨r2 ++ r1, w2 ++ w1, ?_, ?_, by omega, ?_, ?_, ?_, ?_⟩
 ·rw [L2.rl, L1.rl, List.append_assoc]
 ·rw [L2.wl, L1.wl, List.append_assoc]
 ·intro b hb
  rcases List.mem_append.1 hb with hb | hb
  ·exact L2.rlt b hb
  ·exact Nat.lt_of_lt_of_le (L1.rlt b hb) c2
 ·intro b hb
  rcases List.mem_append.1 hb with hb | hb
  ·exact L2.wlt b hb
  ·exact Nat.lt_of_lt_of_le (L1.wlt b hb) c2
 ·intro b hb hc
  simp only [List.mem_append, not_or] at hb
  rw [L2.keep b hb.1 (by omega), L1.keep b hb.2 (by omega)]
 ·intro t ht hh
  have up1 : ∀ b, Touch r1 w1 s.c s1.c b → Touch (r2 ++ r1) (w2 ++ w1) s.c s2.c b := by
   intro b hb
   rcases hb with hb | hb | hb
   ·exact .inl (List.mem_append_right _ hb)
   ·exact .inr (.inl (List.mem_append_right _ hb))
   ·exact .inr (.inr (by omega))
  have up2 : ∀ b, Touch r2 w2 s1.c s2.c b → Touch (r2 ++ r1) (w2 ++ w1) s.c s2.c b := by
   intro b hb
   rcases hb with hb | hb | hb
   ·exact .inl (List.mem_append_left _ hb)
   ·exact .inr (.inl (List.mem_append_left _ hb))
   ·exact .inr (.inr (by omega))
  obtain ⟨g1, e1, p1, q1⟩ := L1.move t ht fun b hb => hh b (up1 b hb)
  obtain ⟨g2, e2, p2, q2⟩ := L2.move ⟨g1, s1.c, r1 ++ t.rl, w1 ++ t.wl⟩ rfl fun b hb => by
   show g1.get b = _
   by_cases hw : b ∈ w1 ∨ (s.c ≤ b ∧ b < s1.c)
   ·exact p1 b (.inr hw)
   ·simp only [not_or] at hw
    rw [q1 b hw.1 hw.2, L1.keep b hw.1 hw.2]
    exact hh b (up2 b hb)
  refine ⟨g2, ?_, ?_, ?_⟩
  ·rw [bind_eq e1, e2]
   simp only [List.append_assoc]
  ·intro b hb
   by_cases h2 : Touch r2 w2 s1.c s2.c b
   ·exact p2 b h2
   ·simp only [Touch, not_or] at h2
    rw [q2 b h2.2.1 h2.2.2, L2.keep b h2.2.1 h2.2.2]
    refine p1 b ?_
    rcases hb with hb | hb | hb
    ·exact .inl ((List.mem_append.1 hb).resolve_left h2.1)
    ·exact .inr (.inl ((List.mem_append.1 hb).resolve_left h2.2.1))
    ·exact .inr (.inr (by omega))
  ·intro b hb hc
   simp only [List.mem_append, not_or] at hb
   rw [q2 b hb.1 (by omega)]
   show g1.get b = _
   exact q1 b hb.2 (by omega)
theorem Local.getO (b : Nat) : Local (getO b) := by
 intro s o s' h
 obtain ⟨h1, h2, rfl⟩ := getO_some h
 refine ⟨[b], [], rfl, rfl, Nat.le_refl _, by simpa using h2, by simp, fun _ _ _ => rfl, fun t ht hh => ⟨t.h, ?_, hh, fun _ _ _ => rfl⟩⟩
 rw [getO_eq ((hh b (.inl (by simp))).trans h1) (by rw [ht]; exact h2), ht]
 rfl
theorem Local.putO (b : Nat) (o : Option AObj) : Local (putO b o) := by
 intro s a s' h
 obtain ⟨⟨x, h1⟩, h2, rfl⟩ := putO_some h
 refine ⟨[], [b], rfl, rfl, Nat.le_refl _, by simp, by simpa using h2, fun k hk _ => ?_, fun t ht hh => ⟨t.h.set b o, ?_, ?_, ?_⟩⟩
 ·show (s.h.set b o).get k = _
  rw [T.get_set, if_neg (by simpa using hk)]
 ·rw [putO_eq ((hh b (.inr (.inl (by simp)))).trans h1) (by rw [ht]; exact h2), ht]
  rfl
 ·intro k hk
  show _ = (s.h.set b o).get k
  rw [T.get_set, T.get_set]
  split
  ·rfl
  ·exact hh k hk
 ·intro k hk _
  rw [T.get_set, if_neg (by simpa using hk)]
theorem Local.newO (o : AObj) : Local (newO o) := by
 intro s a s' h
 obtain ⟨h1, rfl, rfl⟩ := newO_some h
 refine ⟨[], [], rfl, rfl, Nat.le_succ _, by simp, by simp, fun k _ hk => ?_, fun t ht hh => ⟨t.h.set s.c (some o), ?_, ?_, ?_⟩⟩
 ·show (s.h.set s.c (some o)).get k = _
  rw [T.get_set, if_neg (by simp only at hk; omega)]
 ·rw [newO_eq (by rw [ht]; exact (hh s.c (.inr (.inr ⟨Nat.le_refl _, Nat.lt_succ_self _⟩))).trans h1), ht]
  rfl
 ·intro k hk
  show _ = (s.h.set s.c (some o)).get k
  rw [T.get_set, T.get_set]
  split
  ·rfl
  ·exact hh k hk
 ·intro k _ hk
  rw [T.get_set, if_neg (by simp only at hk; omega)]
theorem told_some {m : M α} {s s' : St} {p : α × Fp} (h : told m s = some (p, s')) :
  ∃ s1, m ⟨s.h, s.c, [], []⟩ = some (p.1, s1) ∧ p.2 = ⟨s1.rl, s1.wl, s.c, s1.c⟩ ∧ s' = ⟨s1.h, s1.c, s1.rl ++ s.rl, s1.wl ++ s.wl⟩ := by
 obtain ⟨h0, c, rl, wl⟩ := s
 have h' : Option.rec (motive := fun _ => Option ((α × Fp) × St)) none
   (fun p => Prod.rec (motive := fun _ => Option ((α × Fp) × St)) (fun a s1 =>
    St.rec (motive := fun _ => Option ((α × Fp) × St)) (fun h1 c1 rl1 wl1 => some ((a, ⟨rl1, wl1, c, c1⟩), ⟨h1, c1, app rl1 rl, app wl1 wl⟩)) s1) p)
   (m ⟨h0, c, [], []⟩) = some (p, s') := h
 cases hm : m ⟨h0, c, [], []⟩ with
 | none => rw [hm] at h'; cases h'
 | some q =>
  rw [hm] at h'
  obtain ⟨a, h1, c1, rl1, wl1⟩ := q
  simp only [app_eq, Option.some.injEq, Prod.mk.injEq] at h'
  obtain ⟨rfl, rfl⟩ := h'
  exact ⟨_, rfl, rfl, rfl⟩
theorem told_eq {m : M α} {s s1 : St} {a : α} (h : m ⟨s.h, s.c, [], []⟩ = some (a, s1)) : told m s = some ((a, ⟨s1.rl, s1.wl, s.c, s1.c⟩), ⟨s1.h, s1.c, s1.rl ++ s.rl, s1.wl ++ s.wl⟩) := by
 obtain ⟨h0, c, rl, wl⟩ := s
 show Option.rec (motive := fun _ => Option ((α × Fp) × St)) none
   (fun p => Prod.rec (motive := fun _ => Option ((α × Fp) × St)) (fun a s1 =>
    St.rec (motive := fun _ => Option ((α × Fp) × St)) (fun h1 c1 rl1 wl1 => some ((a, ⟨rl1, wl1, c, c1⟩), ⟨h1, c1, app rl1 rl, app wl1 wl⟩)) s1) p)
   (m ⟨h0, c, [], []⟩) = _
 simp only at h
 rw [h]
 simp only [app_eq]
theorem framed_some {m : M α} {s s' : St} {a : α} (h : framed m s = some (a, s')) :
  ∃ s1, m ⟨s.h, s.c, [], []⟩ = some (a, s1) ∧ s' = ⟨s1.h, s1.c, s1.rl.filter (fun b => decide (b < s.c)) ++ s.rl, s1.wl.filter (fun b => decide (b < s.c)) ++ s.wl⟩ := by
 obtain ⟨h0, c, rl, wl⟩ := s
 have h' : Option.rec (motive := fun _ => Option (α × St)) none
   (fun p => Prod.rec (motive := fun _ => Option (α × St)) (fun a s1 =>
    St.rec (motive := fun _ => Option (α × St)) (fun h1 c1 rl1 wl1 => some (a, ⟨h1, c1, below c rl1 rl, below c wl1 wl⟩)) s1) p)
   (m ⟨h0, c, [], []⟩) = some (a, s') := h
 cases hm : m ⟨h0, c, [], []⟩ with
 | none => rw [hm] at h'; cases h'
 | some q =>
  rw [hm] at h'
  obtain ⟨a, h1, c1, rl1, wl1⟩ := q
  simp only [below_eq, Option.some.injEq, Prod.mk.injEq] at h'
  obtain ⟨rfl, rfl⟩ := h'
  exact ⟨_, rfl, rfl⟩
theorem framed_eq {m : M α} {s s1 : St} {a : α} (h : m ⟨s.h, s.c, [], []⟩ = some (a, s1)) :
  framed m s = some (a, ⟨s1.h, s1.c, s1.rl.filter (fun b => decide (b < s.c)) ++ s.rl, s1.wl.filter (fun b => decide (b < s.c)) ++ s.wl⟩) := by
 obtain ⟨h0, c, rl, wl⟩ := s
 show Option.rec (motive := fun _ => Option (α × St)) none
   (fun p => Prod.rec (motive := fun _ => Option (α × St)) (fun a s1 =>
    St.rec (motive := fun _ => Option (α × St)) (fun h1 c1 rl1 wl1 => some (a, ⟨h1, c1, below c rl1 rl, below c wl1 wl⟩)) s1) p)
   (m ⟨h0, c, [], []⟩) = _
 simp only at h
 rw [h]
 simp only [below_eq]
theorem Local.told {m : M α} (hm : Local m) : Local (told m) := by
 intro s p s' h
 obtain ⟨s1, h1, h2, rfl⟩ := told_some h
 obtain ⟨r, w, L⟩ := hm _ _ _ h1
 have er : s1.rl = r := by rw [L.rl]; simp
 have ew : s1.wl = w := by rw [L.wl]; simp
 refine ⟨r, w, by rw [er], by rw [ew], L.cle, L.rlt, L.wlt, L.keep, fun t ht hh => ?_⟩
 obtain ⟨h', e, p1, q1⟩ := L.move ⟨t.h, t.c, [], []⟩ ht hh
 refine ⟨h', ?_, p1, q1⟩
 rw [told_eq e]
 obtain ⟨pa, pf⟩ := p
 simp only at h2
 subst h2
 simp only [List.append_nil, er, ew, ht]
theorem Local.framed {m : M α} (hm : Local m) : Local (framed m) := by
 intro s a s' h
 obtain ⟨s1, h1, rfl⟩ := framed_some h
 obtain ⟨r, w, L⟩ := hm _ _ _ h1
 have er : s1.rl = r := by rw [L.rl]; simp
 have ew : s1.wl = w := by rw [L.wl]; simp
 have cle : s.c ≤ s1.c := L.cle
 have up : ∀ b, Touch r w s.c s1.c b ↔ Touch (r.filter fun b => decide (b < s.c)) (w.filter fun b => decide (b < s.c)) s.c s1.c b := by
  intro b
  simp only [Touch, List.mem_filter, decide_eq_true_eq]
  constructor
  ·rintro (hb | hb | hb)
   ·have := L.rlt b hb
    by_cases hc : b < s.c
    ·exact .inl ⟨hb, hc⟩
    ·exact .inr (.inr (by omega))
   ·have := L.wlt b hb
    by_cases hc : b < s.c
    ·exact .inr (.inl ⟨hb, hc⟩)
    ·exact .inr (.inr (by omega))
   ·exact .inr (.inr hb)
  ·rintro (hb | hb | hb)
   ·exact .inl hb.1
   ·exact .inr (.inl hb.1)
   ·exact .inr (.inr hb)
 refine ⟨r.filter fun b => decide (b < s.c), w.filter fun b => decide (b < s.c), by rw [er], by rw [ew], cle, ?_, ?_, ?_, fun t ht hh => ?_⟩
 ·intro b hb; exact L.rlt b (List.mem_filter.1 hb).1
 ·intro b hb; exact L.wlt b (List.mem_filter.1 hb).1
 ·intro b hb hc
  have hb' : b ∉ w := fun hw => by
   have := L.wlt b hw
   simp only [List.mem_filter, decide_eq_true_eq] at hb
   by_cases hlt : b < s.c
   ·exact hb ⟨hw, hlt⟩
   ·simp only at hc; omega
  exact L.keep b hb' hc
 ·obtain ⟨h', e, p1, q1⟩ := L.move ⟨t.h, t.c, [], []⟩ ht fun b hb => hh b ((up b).1 hb)
  refine ⟨h', ?_, fun b hb => p1 b ((up b).2 hb), ?_⟩
  ·rw [framed_eq e]
   simp only [List.append_nil, ht]
  ·intro b hb hc
   have hb' : b ∉ w := fun hw => by
    have := L.wlt b hw
    simp only [List.mem_filter, decide_eq_true_eq] at hb
    by_cases hlt : b < s.c
    ·exact hb ⟨hw, hlt⟩
    ·simp only at hc; omega
   exact q1 b hb' hc
end loc
end Go.Ab
end
section
/- Locality of the operations (printed by gen13.py; the steps once, as a default proof). -/
namespace Go.Ab
theorem Zloc {P : Prop} (h : P := by
  repeat' first
   | exact Local.ret _
   | exact Local.fail
   | exact Local.lift _
   | exact Local.getO _
   | exact Local.putO _ _
   | exact Local.newO _
   | assumption
   | exact local_getCells _
   | exact local_getCellsW _
   | exact local_getCellsB _
   | exact local_getMap _
   | exact local_readCells _ _ _
   | exact local_writeCells _ _ _
   | exact local_newCells _
   | exact local_newBytes _
   | exact local_opLoad _ _ _
   | exact local_opStore _ _ _ _
   | exact local_opBox _
   | exact local_opAlloc _ _
   | exact local_opBuild _ _ _
   | exact local_opBuildSlice _ _ _ _
   | exact local_opMakeSlice _ _ _ _
   | exact local_opSlice _ _ _ _ _ _
   | exact local_opFieldAddr _ _ _ _
   | exact local_opIndexAddr _ _ _ _
   | exact local_opIndex _ _ _ _
   | exact local_opField _ _ _ _
   | exact local_opLookup _ _ _ _ _
   | exact local_opMapUpdate _ _ _ _ _
   | exact local_opDelete _ _ _ _
   | exact local_opLen _ _ _
   | exact local_opCap _ _ _
   | exact local_firstA _ _ _
   | exact local_appended _ _ _ _ _
   | exact local_opAppend _ _ _ _
   | exact local_opCopy _ _ _ _
   | exact local_opClear _ _ _
   | exact local_opConvert _ _ _ _
   | exact local_opMakeInterface _ _ _
   | exact local_opTypeAssert _ _ _ _
   | exact local_opExtract _ _
   | exact local_opNilCheck _
   | (refine Local.bind ?_ fun _ => ?_)
   | split
   | (rw [forceL_eq])
   | dsimp only
  ) : P := h
theorem lc0 (b : Nat) : Local (getCells b) := by
 unfold getCells
 exact Zloc
abbrev local_getCells := @lc0
theorem lc1 (b : Nat) : Local (getCellsW b) := by
 unfold getCellsW
 exact Zloc
abbrev local_getCellsW := @lc1
theorem lc2 (b : Nat) : Local (getCellsB b) := by
 unfold getCellsB
 exact Zloc
abbrev local_getCellsB := @lc2
theorem lc3 (b : Nat) : Local (getMap b) := by
 unfold getMap
 exact Zloc
abbrev local_getMap := @lc3
theorem lc4 (b o n : Nat) : Local (readCells b o n) := by
 unfold readCells
 exact Zloc
abbrev local_readCells := @lc4
theorem lc5 (b o : Nat) (xs : List Value) : Local (writeCells b o xs) := by
 unfold writeCells
 exact Zloc
abbrev local_writeCells := @lc5
theorem lc6 (cs : List Value) : Local (newCells cs) := by
 unfold newCells
 exact Zloc
abbrev local_newCells := @lc6
theorem lc7 (cs : List Value) : Local (newBytes cs) := by
 unfold newBytes
 exact Zloc
abbrev local_newBytes := @lc7
theorem lc8 (C : Ctx) (t : TypeId) (a : Value) : Local (opLoad C t a) := by
 unfold opLoad
 exact Zloc
abbrev local_opLoad := @lc8
theorem lc9 (C : Ctx) (t : TypeId) (a x : Value) : Local (opStore C t a x) := by
 unfold opStore
 exact Zloc
abbrev local_opStore := @lc9
theorem lc10 (x : Value) : Local (opBox x) := by
 unfold opBox
 exact Zloc
abbrev local_opBox := @lc10
theorem lc11 (C : Ctx) (t : TypeId) : Local (opAlloc C t) := by
 unfold opAlloc
 exact Zloc
abbrev local_opAlloc := @lc11
theorem lc12 (C : Ctx) (t : TypeId) (ps : List (Nat × Value)) : Local (opBuild C t ps) := by
 unfold opBuild
 exact Zloc
abbrev local_opBuild := @lc12
theorem lc13 (C : Ctx) (t : TypeId) (n : Nat) (ps : List (Nat × Value)) : Local (opBuildSlice C t n ps) := by
 unfold opBuildSlice
 exact Zloc
abbrev local_opBuildSlice := @lc13
theorem lc14 (C : Ctx) (t : TypeId) (l c : Value) : Local (opMakeSlice C t l c) := by
 unfold opMakeSlice
 exact Zloc
abbrev local_opMakeSlice := @lc14
theorem lc15 (C : Ctx) (t : TypeId) (x : Value) (lo hi mx : Option Value) : Local (opSlice C t x lo hi mx) := by
 unfold opSlice
 exact Zloc
abbrev local_opSlice := @lc15
theorem lc16 (C : Ctx) (s : TypeId) (x : Value) (f : Nat) : Local (opFieldAddr C s x f) := by
 unfold opFieldAddr
 exact Zloc
abbrev local_opFieldAddr := @lc16
theorem lc17 (C : Ctx) (t : TypeId) (x i : Value) : Local (opIndexAddr C t x i) := by
 unfold opIndexAddr
 exact Zloc
abbrev local_opIndexAddr := @lc17
theorem lc18 (C : Ctx) (t : TypeId) (x i : Value) : Local (opIndex C t x i) := by
 unfold opIndex
 exact Zloc
abbrev local_opIndex := @lc18
theorem lc19 (C : Ctx) (t : TypeId) (x : Value) (f : Nat) : Local (opField C t x f) := by
 unfold opField
 exact Zloc
abbrev local_opField := @lc19
theorem lc20 (C : Ctx) (t : TypeId) (m k : Value) (ok : Bool) : Local (opLookup C t m k ok) := by
 unfold opLookup
 exact Zloc
abbrev local_opLookup := @lc20
theorem lc21 (C : Ctx) (t : TypeId) (m k v : Value) : Local (opMapUpdate C t m k v) := by
 unfold opMapUpdate
 exact Zloc
abbrev local_opMapUpdate := @lc21
theorem lc22 (C : Ctx) (t : TypeId) (m k : Value) : Local (opDelete C t m k) := by
 unfold opDelete
 exact Zloc
abbrev local_opDelete := @lc22
theorem lc23 (C : Ctx) (t : TypeId) (x : Value) : Local (opLen C t x) := by
 unfold opLen
 exact Zloc
abbrev local_opLen := @lc23
theorem lc24 (C : Ctx) (t : TypeId) (x : Value) : Local (opCap C t x) := by
 unfold opCap
 exact Zloc
abbrev local_opCap := @lc24
theorem lc25 (size n : Nat) (x : Value) : Local (firstA size n x) := by
 unfold firstA
 exact Zloc
abbrev local_firstA := @lc25
theorem lc26 (C : Ctx) (size : Nat) (z : List Value) (xt : Option TypeId) (x : Value) : Local (appended C size z xt x) := by
 unfold appended
 exact Zloc
abbrev local_appended := @lc26
theorem lc27 (C : Ctx) (ts : Array TypeId) (s x : Value) : Local (opAppend C ts s x) := by
 unfold opAppend
 exact Zloc
abbrev local_opAppend := @lc27
theorem lc28 (C : Ctx) (ts : Array TypeId) (d x : Value) : Local (opCopy C ts d x) := by
 unfold opCopy
 exact Zloc
abbrev local_opCopy := @lc28
theorem lc29 (C : Ctx) (ts : Array TypeId) (x : Value) : Local (opClear C ts x) := by
 unfold opClear
 exact Zloc
abbrev local_opClear := @lc29
theorem lc30 (C : Ctx) (a b : TypeId) (x : Value) : Local (opConvert C a b x) := by
 unfold opConvert
 exact Zloc
abbrev local_opConvert := @lc30
theorem lc31 (C : Ctx) (t : TypeId) (x : Value) : Local (opMakeInterface C t x) := by
 unfold opMakeInterface
 exact Zloc
abbrev local_opMakeInterface := @lc31
theorem lc32 (C : Ctx) (x : Value) (t : TypeId) (ok : Bool) : Local (opTypeAssert C x t ok) := by
 unfold opTypeAssert
 exact Zloc
abbrev local_opTypeAssert := @lc32
theorem lc33 (x : Value) (i : Nat) : Local (opExtract x i) := by
 unfold opExtract
 exact Zloc
abbrev local_opExtract := @lc33
theorem lc34 (x : Value) : Local (opNilCheck x) := by
 unfold opNilCheck
 exact Zloc
abbrev local_opNilCheck := @lc34
theorem lc35 (C : Ctx) (b : Builtin) (ts : Array TypeId) (args : List Value) : Local (opBuiltin C b ts args) := by
 unfold opBuiltin
 exact Zloc
abbrev local_opBuiltin := @lc35
end Go.Ab
end
