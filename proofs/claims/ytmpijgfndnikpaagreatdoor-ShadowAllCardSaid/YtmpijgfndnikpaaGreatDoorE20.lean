/- A summary by two runs: a slice of unknown capacity, once taken to be full, once to have room for one more. -/
import Derived.Test.YtmpijgfndnikpaaGreatDoorE19
set_option linter.unusedVariables false
set_option linter.unusedSimpArgs false
namespace Go.Ab

/-- m is run and undone; what it wrote below is told. The numbers it gave to blocks are used up. -/
noncomputable def trial {α : Type} (m : M α) : M (α × Nat × List Nat) := fun s =>
  Option.rec (motive := fun _ => Option ((α × Nat × List Nat) × St)) none
    (fun p => some ((p.1, s.c, p.2.wl), ⟨s.h, p.2.c, below s.c p.2.rl (below s.c p.2.wl s.rl), s.wl⟩)) (m ⟨s.h, s.c, [], []⟩)

theorem trial_some {α : Type} {m : M α} {s s' : St} {p : α × Nat × List Nat} (h : trial m s = some (p, s')) :
    ∃ s1, m ⟨s.h, s.c, [], []⟩ = some (p.1, s1) ∧ p.2.1 = s.c ∧ p.2.2 = s1.wl ∧ s' = ⟨s.h, s1.c, s1.rl.filter (fun b => decide (b < s.c)) ++ (s1.wl.filter (fun b => decide (b < s.c)) ++ s.rl), s.wl⟩ := by
  unfold trial at h
  cases hm : m ⟨s.h, s.c, [], []⟩ with
  | none => rw [hm] at h; cases h
  | some q =>
    rw [hm] at h
    simp only [below_eq, Option.some.injEq, Prod.mk.injEq] at h
    obtain ⟨rfl, rfl⟩ := h
    exact ⟨q.2, rfl, rfl, rfl, rfl⟩

theorem trial_eq {α : Type} {m : M α} {s s1 : St} {a : α} (h : m ⟨s.h, s.c, [], []⟩ = some (a, s1)) :
    trial m s = some ((a, s.c, s1.wl), ⟨s.h, s1.c, s1.rl.filter (fun b => decide (b < s.c)) ++ (s1.wl.filter (fun b => decide (b < s.c)) ++ s.rl), s.wl⟩) := by
  unfold trial
  rw [h]
  simp only [below_eq]

theorem Local.trial {α : Type} {m : M α} (hm : Local m) : Local (trial m) := by
  intro s p s' h
  obtain ⟨s1, h1, h2, h3, rfl⟩ := trial_some h
  obtain ⟨r, w, L⟩ := hm _ _ _ h1
  have er : s1.rl = r := by rw [L.rl]; simp
  have ew : s1.wl = w := by rw [L.wl]; simp
  have cle : s.c ≤ s1.c := L.cle
  refine ⟨r.filter (fun b => decide (b < s.c)) ++ w.filter (fun b => decide (b < s.c)), [], by rw [er, ew]; simp, rfl, cle, ?_, by simp, fun _ _ _ => rfl, fun t ht hh => ?_⟩
  · intro b hb
    simp only [List.mem_append, List.mem_filter, decide_eq_true_eq] at hb
    show b < s1.c
    omega
  · have up : ∀ b, Touch r w s.c s1.c b → Touch (r.filter (fun b => decide (b < s.c)) ++ w.filter (fun b => decide (b < s.c))) [] s.c s1.c b := by
      intro b hb
      simp only [Touch, List.mem_append, List.mem_filter, decide_eq_true_eq]
      rcases hb with hb | hb | hb
      · have := L.rlt b hb
        by_cases hc : b < s.c
        · exact .inl (.inl ⟨hb, hc⟩)
        · exact .inr (.inr (by omega))
      · have := L.wlt b hb
        by_cases hc : b < s.c
        · exact .inl (.inr ⟨hb, hc⟩)
        · exact .inr (.inr (by omega))
      · exact .inr (.inr hb)
    obtain ⟨h', e, _, _⟩ := L.move ⟨t.h, t.c, [], []⟩ ht fun b hb => hh b (up b hb)
    refine ⟨t.h, ?_, hh, fun _ _ _ => rfl⟩
    rw [trial_eq e]
    obtain ⟨a, c, wl⟩ := p
    simp only at h2 h3
    subst h2
    subst h3
    simp only [List.append_nil, ht, ew, List.append_assoc, List.nil_append]

/-- The same value, seen on its face. -/
noncomputable def sameA (a b : Value) : Bool :=
  match a, b with
  | .int j x, .int k y => decide (j = k) && decide (x = y)
  | .float j x, .float k y => decide (j = k) && decide (x = y)
  | .bool x, .bool y => x == y
  | _, _ => false

theorem sameA_eq {a b : Value} (h : sameA a b = true) : a = b := by
  unfold sameA at h
  split at h
  · simp only [Bool.and_eq_true, decide_eq_true_eq] at h; rw [h.1, h.2]
  · simp only [Bool.and_eq_true, decide_eq_true_eq] at h; rw [h.1, h.2]
  · rw [beq_iff_eq] at h; rw [h]
  · cases h

noncomputable def mergeL (l : List Value) : List Value → List Value :=
  List.rec (motive := fun _ => List Value → List Value) (fun _ => []) (fun x _ ih r => List.rec (motive := fun _ => List Value) [] (fun y r _ => (Bool.rec (motive := fun _ => Value) top x (sameA x y)) :: ih r) r) l

theorem mergeL_left {ι : Iota} : ∀ (l r m : List Value), VRl ι l m → l.length = r.length → VRl ι (mergeL l r) m := by
  intro l
  induction l with
  | nil => intro r m h _; exact h
  | cons x l ih =>
    intro r m h hl
    cases r with
    | nil => simp at hl
    | cons y r =>
      obtain ⟨x', m', rfl, h1, h2⟩ := h.cons_inv
      refine VRl.cons ?_ (ih r m' h2 (by simpa using hl))
      cases sameA x y
      · exact .top _
      · exact h1

theorem mergeL_right {ι : Iota} : ∀ (l r m : List Value), VRl ι r m → l.length = r.length → VRl ι (mergeL l r) m := by
  intro l
  induction l with
  | nil => intro r m h hl; have : r = [] := List.length_eq_zero_iff.1 (by simpa using hl.symm); subst this; exact h
  | cons x l ih =>
    intro r m h hl
    cases r with
    | nil => simp at hl
    | cons y r =>
      obtain ⟨x', m', rfl, h1, h2⟩ := h.cons_inv
      refine VRl.cons ?_ (ih r m' h2 (by simpa using hl))
      cases hs : sameA x y
      · exact .top _
      · rw [sameA_eq hs]; exact h1

noncomputable def tops (n : Nat) : List Value := Nat.rec (motive := fun _ => List Value) [] (fun _ ih => top :: ih) n
theorem tops_len (n : Nat) : (tops n).length = n := by
  induction n with
  | zero => rfl
  | succ n ih => show (tops n).length + 1 = _; rw [ih]
theorem tops_mem {n : Nat} {x : Value} (h : x ∈ tops n) : x = top := by
  induction n with
  | zero => cases h
  | succ n ih =>
    rcases List.mem_cons.1 (show x ∈ top :: tops n from h) with h | h
    · exact h
    · exact ih h

noncomputable def pad (cs : List Value) (n : Nat) : List Value := app cs (tops (Nat.sub n (len cs)))

/-- The slice that such a run ends with: its block, its cells. -/
noncomputable def endOf (size n : Nat) (v : Value) : M (Nat × List Value) :=
  match v with
  | .slice (some ⟨k, o, some e⟩) m c =>
    match Nat.beq e size && Nat.beq m n && Nat.ble n c with
    | true => (getCellsW k).bind fun cs => (M.lift (subN o (n * size) cs)).bind fun l => M.ret (k, l)
    | false => M.fail
  | _ => M.fail

/-- What it wrote below is b alone, and it ends with b or with a new block. -/
noncomputable def onlyB (b : Nat) (p : (Nat × List Value) × Nat × List Nat) : Bool :=
  (Nat.beq p.1.1 b || Nat.ble p.2.1 p.1.1) && allB (fun x => Nat.beq x b || Nat.ble p.2.1 x) p.2.2

noncomputable def runA (C : Ctx) (eg : TypeId → Bool) (fuel f size : Nat) (b o n : Nat) (rest : List Value) : M (Nat × List Value) :=
  (callB C (exec C eg fuel) f (.slice (some ⟨b, o, none⟩) n n :: rest)).bind (endOf size (n + 1))

noncomputable def runB (C : Ctx) (eg : TypeId → Bool) (fuel f size : Nat) (b o n : Nat) (cs : List Value) (rest : List Value) : M (Nat × List Value) :=
  (putO b (some (.cells (pad cs (o + (n + 1) * size))))).bind fun _ =>
    (callB C (exec C eg fuel) f (.slice (some ⟨b, o, some size⟩) n (n + 1) :: rest)).bind (endOf size (n + 1))

noncomputable def forkEnd (b size n : Nat) (A B : (Nat × List Value) × Nat × List Nat) : M Value :=
  match onlyB b A && onlyB b B with
  | true => (putO b none).bind fun _ => (newCells (mergeL A.1.2 B.1.2)).bind fun k => M.ret (.slice (some ⟨k, 0, some size⟩) (n + 1) (n + 1))
  | false => M.fail

/-- A function that takes a slice first and makes it longer by one. -/
noncomputable def fork (C : Ctx) (eg : TypeId → Bool) (fuel f size : Nat) (args : List Value) : M Value :=
  match args with
  | .slice (some ⟨b, o, some e⟩) n cap :: rest =>
    match Nat.beq e size && Nat.ble n cap && Nat.blt 0 cap with
    | true =>
      (getCellsW b).bind fun cs =>
        (trial (runA C eg fuel f size b o n rest)).bind fun A =>
          (trial (runB C eg fuel f size b o n cs rest)).bind fun B => forkEnd b size n A B
    | false => M.fail
  | args => callB C (exec C eg fuel) f args

theorem local_endOf (size n : Nat) (v : Value) : Local (endOf size n v) := by
  unfold endOf
  split
  · split
    · exact Local.bind (local_getCellsW _) fun _ => Local.bind (Local.lift _) fun _ => Local.ret _
    · exact Local.fail
  · exact Local.fail

theorem local_fork {C : Ctx} {eg : TypeId → Bool} (hs : SmLocal C) (fuel f size : Nat) (args : List Value) : Local (fork C eg fuel f size args) := by
  have hr := local_exec (eg := eg) hs fuel
  unfold fork
  split
  · split
    · refine Local.bind (local_getCellsW _) fun cs => Local.bind (Local.trial ?_) fun A => Local.bind (Local.trial ?_) fun B => ?_
      · exact Local.bind (local_callB hr _ _) (local_endOf _ _)
      · exact Local.bind (Local.putO _ _) fun _ => Local.bind (local_callB hr _ _) (local_endOf _ _)
      · unfold forkEnd
        split
        · exact Local.bind (Local.putO _ _) fun _ => Local.bind (local_newCells _) fun _ => Local.ret _
        · exact Local.fail
    · exact Local.fail
  · exact local_callB hr _ _

end Go.Ab
