import Derived.Test.YtofikbfljjjgeaaGreatDoorE19
import Derived.Test.YtofikbfljjjgeaaGreatDoorProg
import Derived.KernelRfl
set_option linter.unusedVariables false
set_option linter.unusedSimpArgs false
section
/- A summary by two runs: a slice of unknown capacity, once taken to be full, once to have room for one more. -/
namespace Go.Ab
noncomputable def trial {α : Type} (m : M α) : M (α × Nat × List Nat) := fun s =>
 Option.rec (motive := fun _ => Option ((α × Nat × List Nat) × St)) none
  (fun p => some ((p.1, s.c, p.2.wl), ⟨s.h, p.2.c, below s.c p.2.rl (below s.c p.2.wl s.rl), s.wl⟩)) (m ⟨s.h, s.c, [], []⟩)
theorem trial_some {α : Type} {m : M α} {s s' : St} {p : α × Nat × List Nat} (h : trial m s = some (p, s')) :
  ∃ s1, m ⟨s.h, s.c, [], []⟩ = some (p.1, s1) ∧ p.2.1 = s.c ∧ p.2.2 = s1.wl ∧ s' = ⟨s.h, s1.c, s1.rl.filter (fun b => decide (b < s.c)) ++ (s1.wl.filter (fun b => decide (b < s.c)) ++ s.rl), s.wl⟩ := by
 unfold trial at h
 cases hm : m ⟨s.h, s.c, [], []⟩ with
 | none => rw [hm] at h; cases h
 | some q =>
  rw [hm] at h
  simp only [below_eq, Option.some.injEq, Prod.mk.injEq] at h
  obtain ⟨rfl, rfl⟩ := h
  exact ⟨q.2, rfl, rfl, rfl, rfl⟩
theorem trial_eq {α : Type} {m : M α} {s s1 : St} {a : α} (h : m ⟨s.h, s.c, [], []⟩ = some (a, s1)) :
  trial m s = some ((a, s.c, s1.wl), ⟨s.h, s1.c, s1.rl.filter (fun b => decide (b < s.c)) ++ (s1.wl.filter (fun b => decide (b < s.c)) ++ s.rl), s.wl⟩) := by
 unfold trial
 rw [h]
 simp only [below_eq]
theorem Local.trial {α : Type} {m : M α} (hm : Local m) : Local (trial m) := by
 intro s p s' h
 obtain ⟨s1, h1, h2, h3, rfl⟩ := trial_some h
 obtain ⟨r, w, L⟩ := hm _ _ _ h1
 have er : s1.rl = r := by rw [L.rl]; simp
 have ew : s1.wl = w := by rw [L.wl]; simp
 have cle : s.c ≤ s1.c := L.cle
 refine ⟨r.filter (fun b => decide (b < s.c)) ++ w.filter (fun b => decide (b < s.c)), [], by rw [er, ew]; simp, rfl, cle, ?_, by simp, fun _ _ _ => rfl, fun t ht hh => ?_⟩
 ·intro b hb
  simp only [List.mem_append, List.mem_filter, decide_eq_true_eq] at hb
  show b < s1.c
  omega
 ·have up : ∀ b, Touch r w s.c s1.c b → Touch (r.filter (fun b => decide (b < s.c)) ++ w.filter (fun b => decide (b < s.c))) [] s.c s1.c b := by
   intro b hb
   simp only [Touch, List.mem_append, List.mem_filter, decide_eq_true_eq]
   rcases hb with hb | hb | hb
   ·have := L.rlt b hb
    by_cases hc : b < s.c
    ·exact .inl (.inl ⟨hb, hc⟩)
    ·exact .inr (.inr (by omega))
   ·have := L.wlt b hb
    by_cases hc : b < s.c
    ·exact .inl (.inr ⟨hb, hc⟩)
    ·exact .inr (.inr (by omega))
   ·exact .inr (.inr hb)
  obtain ⟨h', e, _, _⟩ := L.move ⟨t.h, t.c, [], []⟩ ht fun b hb => hh b (up b hb)
  refine ⟨t.h, ?_, hh, fun _ _ _ => rfl⟩
  rw [trial_eq e]
  obtain ⟨a, c, wl⟩ := p
  simp only at h2 h3
  subst h2
  subst h3
  simp only [List.append_nil, ht, ew, List.append_assoc, List.nil_append]
noncomputable def sameA (a b : Value) : Bool :=
 match a, b with
 | .int j x, .int k y => decide (j = k) && decide (x = y)
 | .float j x, .float k y => decide (j = k) && decide (x = y)
 | .bool x, .bool y => x == y
 | _, _ => false
theorem sameA_eq {a b : Value} (h : sameA a b = true) : a = b := by
 unfold sameA at h
 split at h
 ·simp only [Bool.and_eq_true, decide_eq_true_eq] at h; rw [h.1, h.2]
 ·simp only [Bool.and_eq_true, decide_eq_true_eq] at h; rw [h.1, h.2]
 ·rw [beq_iff_eq] at h; rw [h]
 ·cases h
noncomputable def mergeL (l : List Value) : List Value → List Value :=
 List.rec (motive := fun _ => List Value → List Value) (fun _ => []) (fun x _ ih r => List.rec (motive := fun _ => List Value) [] (fun y r _ => (Bool.rec (motive := fun _ => Value) top x (sameA x y)) :: ih r) r) l
theorem mergeL_left {ι : Iota} : ∀ (l r m : List Value), VRl ι l m → l.length = r.length → VRl ι (mergeL l r) m := by
 intro l
 induction l with
 | nil => intro r m h _; exact h
 | cons x l ih =>
  intro r m h hl
  cases r with
  | nil => simp at hl
  | cons y r =>
   obtain ⟨x', m', rfl, h1, h2⟩ := h.cons_inv
   refine VRl.cons ?_ (ih r m' h2 (by simpa using hl))
   cases sameA x y
   ·exact .top _
   ·exact h1
theorem mergeL_right {ι : Iota} : ∀ (l r m : List Value), VRl ι r m → l.length = r.length → VRl ι (mergeL l r) m := by
 intro l
 induction l with
 | nil => intro r m h hl; have : r = [] := List.length_eq_zero_iff.1 (by simpa using hl.symm); subst this; exact h
 | cons x l ih =>
  intro r m h hl
  cases r with
  | nil => simp at hl
  | cons y r =>
   obtain ⟨x', m', rfl, h1, h2⟩ := h.cons_inv
   refine VRl.cons ?_ (ih r m' h2 (by simpa using hl))
   cases hs : sameA x y
   ·exact .top _
   ·rw [sameA_eq hs]; exact h1
noncomputable def tops (n : Nat) : List Value := Nat.rec (motive := fun _ => List Value) [] (fun _ ih => top :: ih) n
theorem tops_len (n : Nat) : (tops n).length = n := by
 induction n with
 | zero => rfl
 | succ n ih => show (tops n).length + 1 = _; rw [ih]
theorem tops_mem {n : Nat} {x : Value} (h : x ∈ tops n) : x = top := by
 induction n with
 | zero => cases h
 | succ n ih =>
  rcases List.mem_cons.1 (show x ∈ top :: tops n from h) with h | h
  ·exact h
  ·exact ih h
noncomputable def pad (cs : List Value) (n : Nat) : List Value := app cs (tops (Nat.sub n (len cs)))
noncomputable def endOf (size n : Nat) (v : Value) : M (Nat × List Value) :=
 match v with
 | .slice (some ⟨k, o, some e⟩) m c =>
  match Nat.beq e size && Nat.beq m n && Nat.ble n c with
  | true => (getCellsW k).bind fun cs => (M.lift (subN o (n * size) cs)).bind fun l => M.ret (k, l)
  | false => M.fail
 | _ => M.fail
noncomputable def onlyB (b : Nat) (p : (Nat × List Value) × Nat × List Nat) : Bool :=
 (Nat.beq p.1.1 b || Nat.ble p.2.1 p.1.1) && allB (fun x => Nat.beq x b || Nat.ble p.2.1 x) p.2.2
noncomputable def runA (C : Ctx) (eg : TypeId → Bool) (fuel f size : Nat) (b o n : Nat) (rest : List Value) : M (Nat × List Value) :=
 (callB C (exec C eg fuel) f (.slice (some ⟨b, o, none⟩) n n :: rest)).bind (endOf size (n + 1))
noncomputable def runB (C : Ctx) (eg : TypeId → Bool) (fuel f size : Nat) (b o n : Nat) (cs : List Value) (rest : List Value) : M (Nat × List Value) :=
 (putO b (some (.cells (pad cs (o + (n + 1) * size))))).bind fun _ =>
  (callB C (exec C eg fuel) f (.slice (some ⟨b, o, some size⟩) n (n + 1) :: rest)).bind (endOf size (n + 1))
noncomputable def forkEnd (b size n : Nat) (A B : (Nat × List Value) × Nat × List Nat) : M Value :=
 match onlyB b A && onlyB b B with
 | true => (putO b none).bind fun _ => (newCells (mergeL A.1.2 B.1.2)).bind fun k => M.ret (.slice (some ⟨k, 0, some size⟩) (n + 1) (n + 1))
 | false => M.fail
noncomputable def fork (C : Ctx) (eg : TypeId → Bool) (fuel f size : Nat) (args : List Value) : M Value :=
 match args with
 | .slice (some ⟨b, o, some e⟩) n cap :: rest =>
  match Nat.beq e size && Nat.ble n cap && Nat.blt 0 cap with
  | true =>
   (getCellsW b).bind fun cs =>
    (trial (runA C eg fuel f size b o n rest)).bind fun A =>
     (trial (runB C eg fuel f size b o n cs rest)).bind fun B => forkEnd b size n A B
  | false => M.fail
 | args => callB C (exec C eg fuel) f args
theorem local_endOf (size n : Nat) (v : Value) : Local (endOf size n v) := by
 unfold endOf
 split
 ·split
  ·exact Local.bind (local_getCellsW _) fun _ => Local.bind (Local.lift _) fun _ => Local.ret _
  ·exact Local.fail
 ·exact Local.fail
theorem local_fork {C : Ctx} {eg : TypeId → Bool} (hs : SmLocal C) (fuel f size : Nat) (args : List Value) : Local (fork C eg fuel f size args) := by
 have hr := local_exec (eg := eg) hs fuel
 unfold fork
 split
 ·split
  ·refine Local.bind (local_getCellsW _) fun cs => Local.bind (Local.trial ?_) fun A => Local.bind (Local.trial ?_) fun B => ?_
   ·exact Local.bind (local_callB hr _ _) (local_endOf _ _)
   ·exact Local.bind (Local.putO _ _) fun _ => Local.bind (local_callB hr _ _) (local_endOf _ _)
   ·unfold forkEnd
    split
    ·exact Local.bind (Local.putO _ _) fun _ => Local.bind (local_newCells _) fun _ => Local.ret _
    ·exact Local.fail
  ·exact Local.fail
 ·exact local_callB hr _ _
end Go.Ab
end
section
/- The seat's tables: the program's types and functions as tries, keep masks, functions without a body. -/
namespace Go.Ab.Seat
open Go.Proofs (Tryz.prog)
def G0 : Nat := 2
def tRt : Nat := 257
def tPE : Nat := 158
def tErrno : Nat := 82
def tAt : Nat := 159
def tErr : Nat := 59
def fValueOf : Nat := 166
def fType : Nat := 167
def fIsNil : Nat := 168
def fTypeOf : Nat := 213
def fElem : Nat := 214
def fSet : Nat := 215
def hd (t : Nat) : Value := .pointer (some ⟨G0, t, none⟩)
def rt (t : Nat) : Value := .iface tRt (.agg #[hd t])
def rv (t : Nat) (a : Value) (f : Nat) : Value := .agg #[hd t, a, .int .u64 f]
noncomputable def unHd (v : Value) : Option Nat :=
 match v with
 | .pointer (some ⟨b, o, none⟩) => bif Nat.beq b G0 then some o else none
 | _ => none
noncomputable def unRt (v : Value) : Option Nat :=
 match v with
 | .agg cs => match cs.toList with | [h] => unHd h | _ => none
 | _ => none
noncomputable def unRv (v : Value) : Option (Nat × Nat × Nat × Nat) :=
 match v with
 | .agg cs =>
  match cs.toList with
  | [h, .pointer (some ⟨b, o, none⟩), .int .u64 (.ofNat (f + 1))] => match unHd h with | some t => some (t, b, o, f + 1) | none => none
  | _ => none
 | _ => none
noncomputable def xTypeOf (args : List Value) : M Value :=
 match args with
 | [.iface t _] => M.ret (rt t)
 | _ => M.fail
noncomputable def flagOf (t : Nat) : Option Nat :=
 bif Nat.beq t tPE then some 150 else bif Nat.beq t tErrno then some 130 else none
noncomputable def xValueOf (args : List Value) : M Value :=
 match args with
 | [.iface t v] =>
  match atom v, flagOf t with
  | true, some f => (newCells [v]).bind fun b => M.ret (rv t (.pointer (some ⟨b, 0, none⟩)) f)
  | _, _ => M.fail
 | _ => M.fail
noncomputable def xType (args : List Value) : M Value :=
 match args with
 | [v] => match unRv v with | some (t, _) => M.ret (rt t) | none => M.fail
 | _ => M.fail
noncomputable def xIsNil (args : List Value) : M Value :=
 match args with
 | [v] =>
  match unRv v with
  | some (t, b, o, f) =>
   bif Nat.beq t tPE && Nat.beq f 150 then (getCells b).bind fun cs =>
    match nth cs o with
    | some (.pointer none) => M.ret (.bool true)
    | some (.pointer (some _)) => M.ret (.bool false)
    | _ => M.fail
   else M.fail
  | none => M.fail
 | _ => M.fail
noncomputable def xElem (args : List Value) : M Value :=
 match args with
 | [v] =>
  match unRv v with
  | some (t, b, o, f) =>
   bif Nat.beq t tPE && Nat.beq f 150 then (getCells b).bind fun cs =>
    match nth cs o with
    | some (.pointer (some ⟨c, p, none⟩)) => M.ret (rv tErrno (.pointer (some ⟨c, p, none⟩)) 386)
    | _ => M.fail
   else M.fail
  | none => M.fail
 | _ => M.fail
noncomputable def xSet (args : List Value) : M Value :=
 match args with
 | [v, x] =>
  match unRv v, unRv x with
  | some (t, b, o, f), some (u, c, p, g) =>
   bif Nat.beq t tErrno && Nat.beq u tErrno && Nat.beq f 386 && Nat.beq g 130 then
    (getCells c).bind fun cs =>
     match nth cs p with
     | some (.int .i64 n) => (writeCells b o [.int .i64 n]).bind fun _ => M.ret undefA
     | _ => M.fail
   else M.fail
  | _, _ => M.fail
 | _ => M.fail
noncomputable def xOverlaps (args : List Value) : M Value :=
 match args with
 | [.slice (some a) (_ + 1) _, .slice (some b) (_ + 1) _] =>
  bif Nat.beq a.block b.block then M.fail else (getCellsW a.block).bind fun _ => (getCellsW b.block).bind fun cs => match nth cs 0 with | some _ => M.ret (.bool false) | none => M.fail
 | _ => M.fail
def fOverInt : Nat := 204
def fOverHit : Nat := 227
def fInsInt : Nat := 144
def fInsHit : Nat := 200
noncomputable def ex (f : Nat) : Option (List Value → M Value) :=
 bif Nat.beq f fTypeOf then some xTypeOf else
 bif Nat.beq f fValueOf then some xValueOf else
 bif Nat.beq f fType then some xType else
 bif Nat.beq f fIsNil then some xIsNil else
 bif Nat.beq f fElem then some xElem else
 bif Nat.beq f fSet then some xSet else
 bif Nat.beq f fOverInt then some xOverlaps else
 bif Nat.beq f fOverHit then some xOverlaps else none
noncomputable def vKind (args : List Value) : M Value :=
 match args with
 | [v] => match unRt v with
  | some t => bif Nat.beq t tPE then M.ret (.int .u8 22) else bif Nat.beq t tErrno then M.ret (.int .u8 2) else M.fail
  | none => M.fail
 | _ => M.fail
noncomputable def vElem (args : List Value) : M Value :=
 match args with
 | [v] => match unRt v with
  | some t => bif Nat.beq t tPE then M.ret (rt tErrno) else M.fail
  | none => M.fail
 | _ => M.fail
noncomputable def vImplements (args : List Value) : M Value :=
 match args with
 | [v, .iface r u] => match unRt v, unRt u with
  | some t, some e => bif Nat.beq t tErrno && Nat.beq e tErr && Nat.beq r tRt then M.ret (.bool true) else M.fail
  | _, _ => M.fail
 | _ => M.fail
noncomputable def vAssignableTo (args : List Value) : M Value :=
 match args with
 | [v, .iface r u] => match unRt v, unRt u with
  | some t, some e => bif Nat.beq e tErrno && Nat.beq r tRt then (bif Nat.beq t tErrno then M.ret (.bool true) else bif Nat.beq t tAt then M.ret (.bool false) else M.fail) else M.fail
  | _, _ => M.fail
 | _ => M.fail
noncomputable def vComparable (args : List Value) : M Value :=
 match args with
 | [v] => match unRt v with
  | some t => bif Nat.beq t tErrno then M.ret (.bool true) else M.fail
  | none => M.fail
 | _ => M.fail
noncomputable def vi (t : Nat) (name : String) : Option (List Value → M Value) :=
 bif Nat.beq t tRt then
  match name with
  | "Kind" => some vKind
  | "Elem" => some vElem
  | "Implements" => some vImplements
  | "AssignableTo" => some vAssignableTo
  | "Comparable" => some vComparable
  | _ => none
 else none
def kms : List Nat := [0, 0, 0, 2319282994207, 1267669943410854577798583058419, 316921112537799156446745919247, 3848291023903, 1286306517387554776530549791, 1127841232101319, 11462583032047255313540231626609530496558088189, 21778071485159688454326116642971384938483, 196207366486323332452224797459830365420945572534828396607, 4503608250869703, 2535301201526369976860746776335, 151115729430949576916751, 4951760157141522473986064383, 131527, 37, 37, 37147268195997750458483834639, 135, 131187, 16806963, 65971251326919, 31431, 5, 8390573, 32282066037556383475, 21, 71, 135, 1008806316534990535, 37182857619891580687, 4616198439919690511, 2256210746151367, 2200634099655, 33554503, 66483, 21, 755, 19, 83, 17697271, 21, 37325842632360861455, 557, 67459571, 71027425395, 4157, 17183670323, 131087, 2155905235, 8467, 11247716600898666159958805025917556981378870312689351, 16806963, 67637301, 3613, 21, 5, 783, 10384593721910081766728691964443711, 9223372372130662387, 19, 983213, 917565, 21, 1107191, 2055, 7327, 135, 4505661345902023, 1, 5, 5, 38885736577748731411487, 35184379960847, 8053064007, 71, 21, 15539, 21, 21, 17592193916431, 268467055, 13, 7, 155, 582907660279, 537330935, 524487, 5, 65555, 7, 16806963, 21, 7, 4147, 7, 108716138161064600943532043125869455896215495, 296305330421974179827, 34368129779, 5, 77371400030414896351018767, 16777243, 339, 339, 339, 8395827, 10633864531098827074374669187500006323, 19, 71, 15032393203, 16791677, 477, 4977378920694605937359903, 4401267869639, 1107191, 1907, 21, 4299165727, 2105399, 33620175, 67174519, 2163, 132111, 4115, 66114300693392295753415, 268437363, 1005, 33231, 4147, 32925, 147, 64424756723, 19, 132095, 21, 5, 2207613222971, 1005, 21, 66483, 11, 134251507, 295147905181504570311, 16071, 21, 7, 65735, 23, 537399539, 95, 5, 5, 8363, 537399539, 21, 11, 2067, 19, 5, 21, 19, 5, 8363, 16806963, 0, 0, 0, 1193287703199244111, 1037, 73805023713087741455, 9672456868407859218511559, 19, 18107597860367, 21, 4440391, 288247968346175463, 7, 755, 755, 65587, 19, 11, 2212238067, 19, 159, 543, 66483, 7197, 140814797768135, 30755, 2251799932174589, 5, 21, 1, 21, 83, 19, 15, 295147905181504570311, 21, 19, 5, 0, 3, 8363, 183, 10384593871817177683247510831234831, 5, 66483, 66483, 66483, 0, 0, 0, 31, 8363, 4147, 42535296023574879666274036850519702559, 504373101, 7, 3758112483, 4836293578209799956332861, 1029, 4398047164383, 66483, 0, 3, 5, 3, 1073746119, 1074268103, 8804682991559, 20829169751433159, 8391, 83087207854311395603287443752634311, 19023213622105999119, 22458641409078797123448399039441150152463, 277, 16661, 17179886351, 8592039695, 35218731966215, 1333065575601045263, 33543, 21268317252094917911888073248812900111, 1217485249602318769183, 22997644815212700899627017342834150232570911, 65619, 16883, 1048621, 261, 1073746419, 17729625006707, 33149, 8797099655923, 1049213, 17592202854515, 70403104048125, 1188952517831098055, 144257025092751347, 1, 3, 525, 4503668346913551, 5, 5, 71, 1055, 288231475663604767, 271, 4159, 1048829, 33991, 51, 21, 66013, 21, 21, 576465154644903923, 1049359, 5, 17179871549, 4339, 5, 45, 19, 32967, 1267, 4295008255, 525, 262927, 4197407, 590311713694889820019, 5, 19, 33, 35, 134219891, 8197, 83, 2099, 4639143427053511, 0, 0, 0, 0, 0, 0, 0, 0, 0, 0, 0, 0, 0, 0, 0, 0, 0, 0, 0, 5, 0, 0, 0, 0, 0, 0, 0, 0, 0, 0, 0, 0, 0, 0, 0, 0, 0, 0, 0, 0, 0]
noncomputable def eg (t : Nat) : Bool := Proofs.Tryz.prog.eqGuardType Proofs.Tryz.prog.depth t || Proofs.Tryz.prog.stoodInHeld t
noncomputable def Cs (sm : Nat → Option (List Value → M Value)) : Ctx := { km := T.ofList kms, ty := T.ofList Proofs.Tryz.prog.types.toList, fn := T.ofList Proofs.Tryz.prog.funcs.toList, sm, ex, vi }
noncomputable def C0 : Ctx := Cs fun _ => none
noncomputable def smIns (rest : Nat → Option (List Value → M Value)) (f : Nat) : Option (List Value → M Value) :=
 bif Nat.beq f fInsHit then some (fork C0 eg 100 fInsHit 2) else
 bif Nat.beq f fInsInt then some (fork C0 eg 100 fInsInt 1) else rest f
noncomputable def tab : List Value := [0, 1, 28, 2, 29, 14, 24, 3, 30, 22, 20, 15, 25, 17, 4, 8, 31, 27, 13, 23, 21, 19, 16, 7, 26, 12, 18, 6, 11, 5, 10, 9].map fun n => .int .u8 n
noncomputable def s0 : St := { h := ((T.leaf : T AObj).set 0 (some (.ro tab))).set 1 (some (.ro [rt tErr])), c := 3, rl := [], wl := [] }
noncomputable def isTrue (x : Option (Value × St)) : Bool := match x with | some (.bool true, _) => true | _ => false
end Go.Ab.Seat
end
