import Derived.Test.YthkmcfiijooddaaGreatDoorBS6
import Derived.Test.YthkmcfiijooddaaGreatDoorE21
import Derived.Shelf.SlIterI.Nil
import Derived.Shelf.SortM.Plain
import Derived.Shelf.SortM.SortNone
import Derived.RangeFuncBox
set_option linter.unusedVariables false
set_option linter.unusedSimpArgs false
section
/- A closed call that answers true is a contract; law 1's and law 4's. -/
namespace Go.Ab.Seat
open Go.Extern Go.Proofs

noncomputable def eqAll (l : List Value) : List Value → Bool :=
  List.rec (motive := fun _ => List Value → Bool) (fun r => List.rec (motive := fun _ => Bool) true (fun _ _ _ => false) r)
    (fun x _ ih r => List.rec (motive := fun _ => Bool) false (fun y r _ => Bool.rec (motive := fun _ => Bool) false (ih r) (sameA x y)) r) l

theorem eqAll_eq : ∀ (l r : List Value), eqAll l r = true → l = r := by
  intro l
  induction l with
  | nil => intro r h; cases r with
    | nil => rfl
    | cons y r => cases h
  | cons x l ih =>
    intro r h
    cases r with
    | nil => cases h
    | cons y r =>
      have h' : Bool.rec (motive := fun _ => Bool) false (eqAll l r) (sameA x y) = true := h
      cases hs : sameA x y with
      | false => rw [hs] at h'; cases h'
      | true => rw [hs] at h'; rw [sameA_eq hs, ih r h']

/-- The package-level variables are as laid. -/
noncomputable def globOk : M Unit :=
  (getCells 1).bind fun c0 => (getCells 0).bind fun c1 =>
    match eqAll c0 tab, c1 with
    | true, [.iface r u] =>
      match unRt u with
      | some e => bif Nat.beq r tRt && Nat.beq e tErr then M.ret () else M.fail
      | none => M.fail
    | _, _ => M.fail

noncomputable def gTrue (args : List Value) : M Value :=
  match args with
  | [] => globOk.bind fun _ => M.ret (.bool true)
  | _ => M.fail

theorem local_gTrue (args : List Value) : Local (gTrue args) := by
  unfold gTrue
  split
  · refine Local.bind ?_ fun _ => Local.ret _
    unfold globOk
    refine Local.bind (local_getCells _) fun c0 => Local.bind (local_getCells _) fun c1 => ?_
    split
    · split
      · rename_i r u _ _ e _
        cases (Nat.beq r tRt && Nat.beq e tErr)
        · exact Local.fail
        · exact Local.ret _
      · exact Local.fail
    · exact Local.fail
  · exact Local.fail

theorem globOk_some {s s' : St} {u : Unit} (h : globOk s = some (u, s')) :
    s'.h = s.h ∧ s'.c = s.c ∧ (s.h.get 1 = some (.cells tab) ∨ s.h.get 1 = some (.ro tab) ∨ s.h.get 1 = some (.bytes tab)) ∧
      ∃ v, (s.h.get 0 = some (.cells [.iface tRt v]) ∨ s.h.get 0 = some (.ro [.iface tRt v]) ∨ s.h.get 0 = some (.bytes [.iface tRt v])) ∧ unRt v = some tErr := by
  obtain ⟨c0, s1, h1, h2⟩ := bind_some h
  obtain ⟨g0, _, rfl⟩ := getCells_some h1
  obtain ⟨c1, s2, h3, h4⟩ := bind_some h2
  obtain ⟨g1, _, rfl⟩ := getCells_some h3
  cases he : eqAll c0 tab with
  | false => rw [he] at h4; exact (fail_some h4).elim
  | true =>
    rw [he] at h4
    have := eqAll_eq _ _ he
    subst this
    cases c1 with
    | nil => exact (fail_some h4).elim
    | cons x l =>
      cases l with
      | cons y l => cases x <;> exact (fail_some h4).elim
      | nil =>
        cases x with
        | iface r u =>
          simp only at h4
          cases hu : unRt u with
          | none => rw [hu] at h4; exact (fail_some h4).elim
          | some e =>
            rw [hu] at h4
            simp only at h4
            cases hc : (Nat.beq r tRt && Nat.beq e tErr) with
            | false => simp only [hc] at h4; exact (fail_some (s := ⟨s.h, s.c, 0 :: 1 :: s.rl, s.wl⟩) h4).elim
            | true =>
              simp only [hc] at h4
              obtain ⟨_, rfl⟩ := ret_some h4
              rw [Bool.and_eq_true] at hc
              have e1 := beq_iff.1 hc.1
              have e2 := beq_iff.1 hc.2
              subst e1; subst e2
              exact ⟨rfl, rfl, g0, u, g1, hu⟩
        | _ => exact (fail_some h4).elim

theorem s0_get (b : Nat) : s0.h.get b = if b = 0 then some (.ro [rt tErr]) else if b = 1 then some (.ro tab) else none := by
  show ((((T.leaf : T AObj).set 1 (some (.ro tab))).set 0 (some (.ro [rt tErr]))).get b) = _
  rw [T.get_set, T.get_set, T.get_leaf]

theorem tab_flat : ∀ x ∈ tab, flat 1 x = true := by
  intro x hx
  unfold tab at hx
  obtain ⟨n, _, rfl⟩ := List.mem_map.1 hx
  rfl

/-- What a world must hold: the two package-level variables, and the types' block. -/
structure Laid (w : World) : Prop where
  var0 : ∃ c t fr, w.heap[1]? = some (.cells c t fr) ∧ tab.length ≤ c.size ∧ ∀ (i : Nat) (x : Value), tab[i]? = some x → c[i]? = some x
  var1 : ∃ c t fr, w.heap[0]? = some (.cells c t fr) ∧ c[0]? = some (rt tErr)
  size : 2 < w.heap.size

/-- The numbers of the package-level variables. -/
def ι0 (w : World) : Iota := fun b => if b < 3 then some ⟨b, 0, match w.heap[b]? with | some (.cells c _ _) => c.size | _ => 0⟩ else none

theorem Laid.hr {w : World} (h : Laid w) : HR 3 (ι0 w) s0.h w.heap := by
  have glob : ∀ g, g < 3 → ∃ L, ι0 w g = some L ∧ L.blk = g ∧ L.off = 0 := fun g hg => ⟨_, if_pos hg, rfl, rfl⟩
  have hdv : ∀ t, VR (ι0 w) (hd t) (hd t) := by
    intro t
    obtain ⟨L, hL, h1, h2⟩ := glob 2 (by decide)
    have := VR.ptr (ι := ι0 w) 2 t L hL
    rw [h1, h2, Nat.zero_add] at this
    exact this
  refine ⟨?_, ?_, ?_, glob⟩
  · intro b o hb
    rw [s0_get] at hb
    by_cases h1 : b = 0
    · subst h1
      rw [if_pos rfl] at hb
      cases hb
      obtain ⟨c, t, fr, hH, hc⟩ := h.var1
      refine ⟨_, if_pos (by decide), c, t, fr, hH, ?_, ?_, ?_⟩
      · simp only [hH]
      · have := (Array.getElem?_eq_some_iff.1 hc).1
        show 0 + 1 ≤ c.size
        omega
      · intro i x hx
        cases i with
        | zero =>
          simp at hx
          subst hx
          exact ⟨rt tErr, hc, .iface _ _ _ (.agg _ _ rfl (VRl.cons (hdv tErr) (VRl.nil _)).2)⟩
        | succ i => simp at hx
    · rw [if_neg h1] at hb
      by_cases h0 : b = 1
      · subst h0
        rw [if_pos rfl] at hb
        cases hb
        obtain ⟨c, t, fr, hH, hl, hc⟩ := h.var0
        refine ⟨_, if_pos (by decide), c, t, fr, hH, ?_, ?_, ?_⟩
        · simp only [hH]
        · show 0 + tab.length ≤ c.size
          omega
        · intro i x hx
          exact ⟨x, by show c[0 + i]? = _; rw [Nat.zero_add]; exact hc i x hx, flat_VR _ 1 x (tab_flat x (List.mem_of_getElem? hx))⟩
      · rw [if_neg h0] at hb; cases hb
  · intro b1 b2 o1 o2 L1 L2 g1 g2 i1 i2 he
    unfold ι0 at i1 i2
    split at i1
    · split at i2
      · cases i1; cases i2; exact he
      · cases i2
    · cases i1
  · intro b L hb
    unfold ι0 at hb
    split at hb
    · cases hb
      have := h.size
      show b < _
      omega
    · cases hb

theorem s0_owned {ι : Iota} {k : Nat} : ¬Owned ι s0.h k := by
  rintro ⟨b, o, L, h1, h2, _⟩
  rw [s0_get] at h1
  by_cases e1 : b = 0
  · rw [if_pos e1] at h1; cases h1; cases h2
  · rw [if_neg e1] at h1
    by_cases e0 : b = 1
    · rw [if_pos e0] at h1; cases h1; cases h2
    · rw [if_neg e0] at h1; cases h1

/-- What a closed call leaves. -/
structure Left (w w' : World) : Prop where
  os : w'.os = w.os
  tape : w'.tape = w.tape
  output : w'.output = w.output
  size : w.heap.size ≤ w'.heap.size
  heap : ∀ k, k < w.heap.size → w'.heap[k]? = w.heap[k]?

/-- A closed call that answers true. -/
theorem closed_true {C : Ctx} (W : C.Whole eg Tryz.prog 3) {fuel f : Nat} (h : isTrue (callB C (exec C eg fuel) f [] s0) = true) {w : World} (hl : Laid w) :
    Callable Tryz.prog f ∧ Calls Tryz.prog f #[] w fun e w' => e = .returned (.bool true) ∧ Left w w' := by
  cases hc : callB C (exec C eg fuel) f [] s0 with
  | none => rw [hc] at h; cases h
  | some p =>
    obtain ⟨v, s'⟩ := p
    rw [hc] at h
    have hv : v = .bool true := by
      unfold isTrue at h
      split at h
      · rename_i he; cases he; rfl
      · cases h
    subst hv
    refine calls_of_abs W fuel f (args' := []) hc (VRl.nil _) hl.hr (fun b h1 _ => ?_) fun v' w' ι' hv hp => ?_
    · show ι0 w b = none
      have : 3 ≤ b := h1
      exact if_neg (by omega)
    · cases hv
      exact ⟨rfl, hp.os, hp.tape, hp.output, hp.size, fun k hk => hp.frame k hk s0_owned⟩

/-- The same, as a function that is known. -/
theorem known_true {f : Nat} (h : ∀ w, Laid w → Callable Tryz.prog f ∧ Calls Tryz.prog f #[] w fun e w' => e = .returned (.bool true) ∧ Left w w') : SmOne f gTrue := by
  refine ⟨local_gTrue, ?_⟩
  intro args s s' v ι w args' R hg ha hr _ hR
  unfold gTrue at hg
  split at hg
  · have := ha.nil_inv
    subst this
    obtain ⟨u, s1, h1, h2⟩ := bind_some hg
    obtain ⟨e1, e2, g0, y, g1, hy⟩ := globOk_some h1
    obtain ⟨rfl, rfl⟩ := ret_some h2
    obtain ⟨L0, c0, t0, fr0, hL0, hH0, hc0⟩ := hr.cells g0
    obtain ⟨L1, c1, t1, fr1, hL1, hH1, hc1⟩ := hr.cells g1
    obtain ⟨M0, hM0, b0, o0⟩ := hr.glob 1 (by decide)
    obtain ⟨M1, hM1, b1, o1⟩ := hr.glob 0 (by decide)
    obtain ⟨M2, hM2, b2, _⟩ := hr.glob 2 (by decide)
    rw [hL0] at hM0; cases hM0
    rw [hL1] at hM1; cases hM1
    have hl : Laid w := by
      refine ⟨⟨c0, t0, fr0, by rw [← b0]; exact hH0, by have := hc0.2.1; omega, fun i x hx => ?_⟩, ⟨c1, t1, fr1, by rw [← b1]; exact hH1, ?_⟩, by have := hr.lt _ _ hM2; omega⟩
      · obtain ⟨z, hz, hv⟩ := hc0.2.2 i x hx
        rw [o0, Nat.zero_add] at hz
        have hxm := List.mem_of_getElem? hx
        unfold tab at hxm
        obtain ⟨n, _, rfl⟩ := List.mem_map.1 hxm
        cases hv
        exact hz
      · obtain ⟨z, hz, hv⟩ := hc1.2.2 0 _ rfl
        rw [o1] at hz
        cases hv with
        | iface _ _ z' hv =>
          rw [unRt_VR hr hy hv] at hz
          exact hz
    obtain ⟨hcall, hcalls⟩ := h w hl
    refine ⟨hcall, Calls.mono hcalls ?_⟩
    rintro e w' ⟨rfl, hleft⟩
    refine hR _ w' ι (.bool true) ⟨Iota.le_refl _, fun _ q _ => q, ?_, hleft.os, hleft.tape, hleft.output, hleft.size, fun k hk _ => hleft.heap k hk, fun k hk q => by rw [e1] at q; exact q, by omega⟩
    refine ⟨fun b o hb => ?_, fun b1 b2 o1 o2 L1 L2 q1 q2 => hr.inj b1 b2 o1 o2 L1 L2 (by rw [← e1]; exact q1) (by rw [← e1]; exact q2), fun b L hL => Nat.lt_of_lt_of_le (hr.lt b L hL) hleft.size, hr.glob⟩
    rw [e1] at hb
    obtain ⟨L, hL, hO⟩ := hr.obj b o hb
    exact ⟨L, hL, hO.of_block (hleft.heap _ (hr.lt b L hL))⟩
  · exact (fail_some hg).elim

end Go.Ab.Seat
end
section
/- Law 1's and law 4's Begun answer true. -/
namespace Go.Ab.Seat
open Go.Extern Go.Proofs
set_option maxRecDepth 1000000

def fBegun1 : Nat := 250
def fBegun4 : Nat := 205

theorem run1 : isTrue (callB C0 (exec C0 eg 10000) fBegun1 [] s0) = true := by kernel_rfl

theorem begun1 : SmOne fBegun1 gTrue := known_true fun _ hw => closed_true whole0 run1 hw

noncomputable def sm4 : Nat → Option (List Value → M Value) := smIns fun f => bif Nat.beq f fBegun1 then some gTrue else none
noncomputable def C4 : Ctx := Cs sm4

theorem smIns_one {rest : Nat → Option (List Value → M Value)} (h : ∀ f g, rest f = some g → SmOne f g) : ∀ f g, smIns rest f = some g → SmOne f g := by
  intro f g hg
  unfold smIns at hg
  cases h1 : Nat.beq f fInsHit <;> rw [h1] at hg
  · cases h2 : Nat.beq f fInsInt <;> rw [h2] at hg
    · exact h f g hg
    · cases hg; rw [beq_iff.1 h2]; exact smIns_ok 1 fInsInt
  · cases hg; rw [beq_iff.1 h1]; exact smIns_ok 2 fInsHit

theorem one_more {k : Nat} {gk : List Value → M Value} {rest : Nat → Option (List Value → M Value)} (hk : SmOne k gk) (h : ∀ f g, rest f = some g → SmOne f g) :
    ∀ f g, (bif Nat.beq f k then some gk else rest f) = some g → SmOne f g := by
  intro f g hg
  cases h1 : Nat.beq f k <;> rw [h1] at hg
  · exact h f g hg
  · cases hg; rw [beq_iff.1 h1]; exact hk

theorem whole4 : C4.Whole eg Tryz.prog 3 := whole _ (smOk _ (smIns_one (one_more begun1 fun f g hg => by cases hg)))

theorem run4 : isTrue (callB C4 (exec C4 eg 10000) fBegun4 [] s0) = true := by kernel_rfl

theorem begun4 : SmOne fBegun4 gTrue := known_true fun _ hw => closed_true whole4 run4 hw
#print axioms begun4
end Go.Ab.Seat
end
section
/- slices.Sorted over maps.Keys and slices.Values: what an iterator gives to a round that turns nothing that lay before; lines of the kit's worked proofs, turned. -/
namespace Go.Ab
open Go.RowKit Go.Maps Go.Sort Go.Shelf Go.Proofs

/-- An iterator's word to a caller whose rounds turn nothing that lay before the call. -/
def SeqB (P : Program) (F : Fence) (n : Nat) (g : Nat) (lb : Array Value) (S : List Int → Prop) (N : Nat) (w : World) : Prop :=
  ∀ (l : Nat) (J : List Int → World → Prop) (W : World), Below w.heap.size w W → AbidesFrom W.heap.size J → (∀ pre W1, J pre W1 → Below w.heap.size w W1) →
    (∀ pre x W1, J pre W1 → pre.length < N → YieldAt F (n - 1) P l #[encZ x] W1 fun e W' => e = .returned (.bool true) ∧ J (pre ++ [x]) W' ∧ KeepsWalks W1 W') → J [] W →
    CallsIn F n P g (#[.func (.yield l) #[] #[]] ++ lb) W fun e W' => (∃ v, e = .returned v) ∧ ∃ xs, S xs ∧ J xs W'

variable {P : Program} {ρ : Ren}

set_option maxRecDepth 100000 in
set_option maxHeartbeats 1000000 in
theorem keysAt (L : SlLaysZI.n10 P ρ) {H : Type} (F : Fence) (n : Nat) (h10 : F.fn (ρ.f 10)) (hro : F.round = none) (hn : 1 ≤ n) (l Bm om b nn : Nat) (D0 : DataW H) {R : Value → Option (DataW H × List MemPlace)} (J : List Int → World → Prop)
    (hY : ∀ pre x W, J pre W → pre.length < Maps.size D0 → YieldAt F (n - 1) P l #[encZ x] W fun e W' => e = .returned (.bool true) ∧ J (pre ++ [x]) W' ∧ KeepsWalks W W')
    (W : World) (hJ : AbidesFrom W.heap.size J) (hm : W.cell? ⟨Bm, om, none⟩ = some (.map (some b))) (hown : W.ownsMap P (ρ.t 26) R b nn D0) (h0 : J [] W) :
    CallsIn F n P (ρ.f 10) #[.func (.yield l) #[] #[], .pointer (some ⟨Bm, om, none⟩)] W fun e W' => (∃ v, e = .returned v) ∧ ∃ ss : List Int, ss.Perm (intKeys D0) ∧ J ss W' := by
  have mixed := L.mixed; have t0 := L.t0; have a0 := L.a0; have z0 := L.z0; have v0 := L.v0; have t4 := L.t4; have a4 := L.a4; have z4 := L.z4; have v4 := L.v4; have t23 := L.t23; have a23 := L.a23; have z23 := L.z23; have v23 := L.v23; have t26 := L.t26; have a26 := L.a26; have z26 := L.z26; have v26 := L.v26; have t33 := L.t33; have a33 := L.a33; have z33 := L.z33; have v33 := L.v33
  have u0 := run_underlying L.t0; have u4 := run_underlying L.t4; have u23 := run_underlying L.t23; have u26 := run_underlying L.t26; have u33 := run_underlying L.t33
  obtain ⟨_, _, FG⟩ := L.f10
  refine callsIn_of_wp FG rfl h10 ?_ hro
  simp only [SlBodyZ.n10_ntmps ρ, List.size_toArray, List.length_cons, List.length_nil, Nat.reduceAdd, Nat.reduceSub, Array.replicate_succ, Array.replicate_zero, List.push_toArray, List.append_toArray, List.nil_append, List.cons_append]
  gi_wp2_with (first
    | (gi_at_range; refine wpListIn_range_own _ rfl _ (ρ.t 23) rfl (ρ.t 26) (ρ.t 3) (int_keyed L.t26) L.t23 _ b nn _ rfl hown ?_; intro w0 hrg0 hg0 hs0)
    | gi_in)
  go_frame
  gi_loopw [3] (fun _ wr => ∃ (left : Lit → Bool) (cnt : Nat) (ss : List Int), wr.ranges P (ρ.t 26) R b W.heap.size nn D0 left cnt ∧ ss.length + cnt ≤ Maps.size D0 ∧ CollectedI D0 left ss ∧ J ss wr)
    (fun _ wr => wr.rangeLeft b W.heap.size)
  case atStart =>
    exact ⟨_, _, [], hrg0, by simp, CollectedI.start D0, hJ [] W w0 none h0 hg0 (fun r e => by cases e)⟩
  case round =>
    obtain ⟨left, cnt, ss, hrg, hcs, hC, hJs⟩ := hrel
    gi_wp2_with (first
      | (gi_at_next; refine wpListIn_next_ranges _ rfl _ rfl (ρ.t 26) (int_keyed L.t26) R encZ id (fun key kl hk => by obtain ⟨x, hx, _⟩ := Maps.keyOf_i64 L.t26 hk; exact ⟨x, hx⟩) (fun v _ _ => ⟨v, rfl⟩) b W.heap.size nn _ _ _ rfl hrg ?_ ?_)
      | gi_in)
    · -- NOTHING IS LEFT
      intro hc0 hl0
      gi_wp2
      go_end0
      exact ⟨⟨_, rfl⟩, ss, hC.perm hown (int_keyed L.t26) L.t26 hl0, hJs⟩
    · -- AN ENTRY HAS COME: yield(k)
      intro x c kl yd yp w2 cnt2 hkey hlk hv hat hrg2 hlt hg2 hs2 hen
      obtain ⟨x', ex, rfl, _⟩ := Maps.keyOf_i64 L.t26 hkey
      obtain rfl : x = x' := encZ_inj ex
      have hJ2 : J ss w2 := hJ ss wr w2 (some W.heap.size) hJs hg2 (fun r e => by cases e; exact ⟨Nat.le_refl _, hrg.iter_walk⟩)
      obtain ⟨fn, tmps, assign, body, hy, hR⟩ := hY ss x w2 hJ2 (by omega)
      clear hs2
      gi_wp2
      refine hR.mono ?_
      rintro e W3 ⟨rfl, hJ3, hk3⟩
      gi_wp2
      have hrg3 := hrg2.of_walks hk3
      go_roundw
      case rel => exact ⟨_, cnt2, ss ++ [x], hrg3, by simp; omega, hC.step hlk hat, hJ3⟩
      case measure => rw [hrg3.left_eq, hrg.left_eq]; exact hlt



set_option maxRecDepth 100000 in
set_option maxHeartbeats 1000000 in
theorem keysNil (L : SlLaysZI.n10 P ρ) (F : Fence) (n : Nat) (h10 : F.fn (ρ.f 10)) (hro : F.round = none) (l Bm om : Nat) (J : List Int → World → Prop) (W : World) (hJ : AbidesFrom W.heap.size J)
    (hm : W.cell? ⟨Bm, om, none⟩ = some (.map none)) (h0 : J [] W) :
    CallsIn F n P (ρ.f 10) #[.func (.yield l) #[] #[], .pointer (some ⟨Bm, om, none⟩)] W fun e W' => (∃ v, e = .returned v) ∧ ∃ ss : List Int, ss = [] ∧ J ss W' := by
  have mixed := L.mixed; have t0 := L.t0; have a0 := L.a0; have z0 := L.z0; have v0 := L.v0; have t4 := L.t4; have a4 := L.a4; have z4 := L.z4; have v4 := L.v4; have t23 := L.t23; have a23 := L.a23; have z23 := L.z23; have v23 := L.v23; have t26 := L.t26; have a26 := L.a26; have z26 := L.z26; have v26 := L.v26; have t33 := L.t33; have a33 := L.a33; have z33 := L.z33; have v33 := L.v33
  have u0 := run_underlying L.t0; have u4 := run_underlying L.t4; have u23 := run_underlying L.t23; have u26 := run_underlying L.t26; have u33 := run_underlying L.t33
  obtain ⟨_, _, FG⟩ := L.f10
  refine callsIn_of_wp FG rfl h10 ?_ hro
  simp only [SlBodyZ.n10_ntmps ρ, List.size_toArray, List.length_cons, List.length_nil, Nat.reduceAdd, Nat.reduceSub, Array.replicate_succ, Array.replicate_zero, List.push_toArray, List.append_toArray, List.nil_append, List.cons_append]
  have hrg := run_range_nilMap (P := P) W (ρ.t 23) (ρ.t 26) (ρ.t 3) L.t23
  have hnx : ∀ ty, (Instr.next (.pointer (some ⟨W.heap.size, 0, none⟩)) false ty).run P (W.alloc (.mapIter none 0 #[] 0)) = _ := fun ty => run_next_nilMap _ ty 0 0 #[]
  gi_wp2
  refine wpIn_loop_rounds 1 ?_
  rw [roundsIn_succ]
  gi_wp2
  go_end0
  exact ⟨⟨_, rfl⟩, [], rfl, hJ [] W _ none h0 (World.grownBy_alloc W _ none) (fun r e => by cases e)⟩


set_option maxRecDepth 100000 in
set_option maxHeartbeats 2000000 in
theorem appendSeqB (L : SlLaysZI.n11 P ρ) (F : Fence) (n : Nat) (h11 : F.fn (ρ.f 11)) (hro : F.round = none) (hn : 2 ≤ n) (g : Nat) (lb : Array Value) (hFg : F.fn g) (eg : ∀ args w, (callFunc g args).run P w = .ok (.enter g args) w)
    (S : List Int → Prop) (N : Nat) (hN : N ≤ maxLen) (hNb : N * 8 ≤ 140737488355328) (w : World) (hseq : SeqB P F (n - 1) g lb S N w) :
    CallsIn F n P (ρ.f 11) #[.slice none 0 0, .func (.func g) #[] lb] w fun e w' => ∃ (v : Value) (ss : List Int), e = .returned v ∧ S ss ∧ w'.ownsRow w.heap.size (ρ.t 26) 1 v ss.length (ss.map encZ) ∧ (v = .slice none 0 0 ↔ ss = []) ∧ Below w.heap.size w w' := by
  have h1 : 1 ≤ n := by omega
  have mixed := L.mixed; have t0 := L.t0; have a0 := L.a0; have z0 := L.z0; have v0 := L.v0; have t24 := L.t24; have a24 := L.a24; have z24 := L.z24; have v24 := L.v24; have t26 := L.t26; have a26 := L.a26; have z26 := L.z26; have v26 := L.v26; have t28 := L.t28; have a28 := L.a28; have z28 := L.z28; have v28 := L.v28
  have hne : ρ.t 24 ≠ ρ.t 26 := fun e => by have h := L.t24; rw [e, L.t26] at h; cases h
  have u0 := run_underlying L.t0; have u24 := run_underlying L.t24; have u26 := run_underlying L.t26; have u28 := run_underlying L.t28
  obtain ⟨_, _, FG⟩ := L.f11
  refine callsIn_of_wp_marks FG rfl h11 ?_ hro
  simp only [SlBodyZ.n11_ntmps ρ, List.size_toArray, List.length_cons, List.length_nil, Nat.reduceAdd, Nat.reduceSub, Array.replicate_succ, Array.replicate_zero, List.push_toArray, List.append_toArray, List.nil_append, List.cons_append]
  gi_wp2
  refine wpIn_rangeFunc ?_
  intro fn hfn
  rw [hro]
  obtain ⟨W0, hW0⟩ : ∃ W0, w.alloc (.cells #[.slice none 0 0] (ρ.t 24)) = W0 := ⟨_, rfl⟩
  have hs0 : W0.heap.size = w.heap.size + 1 := by rw [← hW0]; simp
  have hv0 : W0.heap[w.heap.size]? = some (.cells #[.slice none 0 0] (ρ.t 24) (0, 0)) := by rw [← hW0]; exact World.alloc_heap_new w _
  have hb0 : Below w.heap.size w W0 := by rw [← hW0]; exact (Below.refl _ w).alloc (Nat.le_refl _) _
  rw [hW0]
  obtain ⟨W1, hW1⟩ : ∃ W1, (W0.alloc (.deferred (some []))).alloc (.loop (AnyZI.apRec ρ fn (.func (.func g) #[] lb) w.heap.size W0.heap.size .ready none)) = W1 := ⟨_, rfl⟩
  have hold : ∀ k, k < W0.heap.size → W1.heap[k]? = W0.heap[k]? := fun k hk => by
    rw [← hW1]; exact (Below.heap_alloc _ _ k (by simp; omega)).trans (Below.heap_alloc _ _ k hk)
  have hb1 : Below w.heap.size w W1 := by rw [← hW1]; exact (hb0.alloc hb0.size _).alloc (by have := hb0.size; simp; omega) _
  have hs1 : W1.heap.size = W0.heap.size + 2 := by rw [← hW1]; simp
  have hM : AnyZI.ApAt ρ w fn (.func (.func g) #[] lb) w.heap.size (W0.heap.size + 1) W0.heap.size [] W1 :=
    ⟨⟨_, (hold w.heap.size (by omega)).trans hv0, ⟨rfl, .inl ⟨rfl, rfl⟩⟩, by simp⟩,
     by rw [← hW1]; have := World.alloc_heap_new (W0.alloc (.deferred (some []))) (.loop (AnyZI.apRec ρ fn (.func (.func g) #[] lb) w.heap.size W0.heap.size .ready none)); rwa [World.size_alloc] at this,
     by rw [← hW1]; exact (Below.heap_alloc _ _ _ (by simp)).trans (World.alloc_heap_new W0 _), hb1⟩
  refine ⟨W0.heap.size + 1, [{ target := .collected W0.heap.size, args := #[] }], W1, { target := .fn (.func g) lb, args := #[.func (.yield (W0.heap.size + 1)) #[] #[]] }, W1, g,
    #[.func (.yield (W0.heap.size + 1)) #[] #[]] ++ lb, W1, ?_, ?_, ?_, ?_, fun _ => h1, ?_⟩
  · rw [← hW1]; exact run_enterLoop_outer _ _ _ _ _
  · simp [resolve, go_sem]
  · intro f' hf'; simp [Target.leads] at hf'; subst hf'; exact hFg
  · simp [invoke, go_sem, eg]
  · refine (hseq (W0.heap.size + 1) (AnyZI.ApAt ρ w fn (.func (.func g) #[] lb) w.heap.size (W0.heap.size + 1) W0.heap.size) W1 hb1 (AnyZI.ap_abides ρ _ _ _ _ _ _ _ hb1.size) (fun _ _ hJ => hJ.below)
      (fun pre x W hJ hl => AnyZI.apYield { L with } F (n - 1 - 1) w fn hfn _ w.heap.size (W0.heap.size + 1) W0.heap.size (by omega) (by omega) (by omega) (Nat.le_refl _) (by omega) N hN hNb pre x W hJ hl) hM).mono ?_
    rintro e W2 ⟨⟨v0, rfl⟩, ss, hS, h2⟩
    obtain ⟨v, hv, hrow, hnil⟩ := h2.box
    have hend := run_endLoop (P := P) h2.L (by simp [AnyZI.apRec])
    obtain ⟨W3, hW3⟩ : ∃ W3, W2.putObj (W0.heap.size + 1) (.loop { AnyZI.apRec ρ fn (.func (.func g) #[] lb) w.heap.size W0.heap.size .ready none with state := .exhausted }) = W3 := ⟨_, rfl⟩
    rw [hW3] at hend
    have hg3 : W2.grownBy W3 (some (W0.heap.size + 1)) := by rw [← hW3]; exact grownBy_putObj_a _ _ _
    have hv3 : W3.heap[w.heap.size]? = some (.cells #[v] (ρ.t 24) (0, 0)) := by rw [← hW3]; exact (World.putObj_heap_other (by omega)).trans hv
    have hK3 : W3.heap[W0.heap.size]? = some (.deferred (some [])) := by rw [← hW3]; exact (World.putObj_heap_other (by omega)).trans h2.K
    have hrow3 := hrow.kept hg3 (ownsRow_ne_a hrow h2.L (fun cur e => by first | cases e | exact hne (Obj.cells.inj e).2.1))
    have hb3 : Below w.heap.size w W3 := h2.below.grown hg3 h2.below.size (fun k e => by cases e; omega)
    obtain ⟨hc3, hf3⟩ := cell_of_box_a hv3
    clear hW3
    refine ⟨none, W3, hend, ?_⟩
    gi_wp2
    rw [← hs0]
    refine ⟨by simp, .inl ⟨_, _, rfl, run_takeDeferred hK3, ?_⟩⟩
    exact ⟨_, results_tmp rfl _ _ _, v, ss, rfl, hS, hrow3.kept (grownBy_putObj_a _ _ _) (ownsRow_ne_a hrow3 hK3 (fun cur e => by first | cases e | exact hne (Obj.cells.inj e).2.1)), hnil, hb3.grown (grownBy_putObj_a _ _ _) hb3.size (fun k e => by cases e; omega)⟩


set_option maxHeartbeats 1000000 in
theorem collectB (L : SlLaysZI.n8 P ρ) (F : Fence) (n : Nat) (h8 : F.fn (ρ.f 8)) (h11 : F.fn (ρ.f 11)) (hro : F.round = none) (hn : 3 ≤ n) (g : Nat) (lb : Array Value) (hFg : F.fn g) (eg : ∀ args w, (callFunc g args).run P w = .ok (.enter g args) w)
    (S : List Int → Prop) (N : Nat) (hN : N ≤ maxLen) (hNb : N * 8 ≤ 140737488355328) (w : World) (hseq : SeqB P F (n - 1 - 1) g lb S N w) :
    CallsIn F n P (ρ.f 8) #[.func (.func g) #[] lb] w fun e w' => ∃ (v : Value) (ss : List Int), e = .returned v ∧ S ss ∧ w'.ownsRow w.heap.size (ρ.t 26) 1 v ss.length (ss.map encZ) ∧ (v = .slice none 0 0 ↔ ss = []) ∧ Below w.heap.size w w' := by
  have h1 : 1 ≤ n := by omega
  have e11 : ∀ args w, (callFunc (ρ.f 11) args).run P w = .ok (.enter (ρ.f 11) args) w := L.f11.enters rfl
  have mixed := L.mixed; have t0 := L.t0; have a0 := L.a0; have z0 := L.z0; have v0 := L.v0; have t24 := L.t24; have a24 := L.a24; have z24 := L.z24; have v24 := L.v24; have t26 := L.t26; have a26 := L.a26; have z26 := L.z26; have v26 := L.v26; have t28 := L.t28; have a28 := L.a28; have z28 := L.z28; have v28 := L.v28
  have u0 := run_underlying L.t0; have u24 := run_underlying L.t24; have u26 := run_underlying L.t26; have u28 := run_underlying L.t28
  obtain ⟨_, _, FG⟩ := L.f8
  refine callsIn_of_wp FG rfl h8 ?_ hro
  simp only [SlBodyZ.n8_ntmps ρ, List.size_toArray, List.length_cons, List.length_nil, Nat.reduceAdd, Nat.reduceSub, Array.replicate_succ, Array.replicate_zero, List.push_toArray, List.append_toArray, List.nil_append, List.cons_append]
  gi_wp2_with (gi_at_fn (ρ.f 11); refine (appendSeqB { L with } F (n - 1) h11 hro (by omega) g lb hFg eg S N hN hNb _ hseq).mono ?_; rintro e w' ⟨v, ss, rfl, hS, hrow, hnil, hb⟩)
  go_ret
  exact ⟨v, ss, rfl, hS, hrow, hnil, hb⟩


set_option maxRecDepth 100000 in
set_option maxHeartbeats 2000000 in
theorem sortedB (L : SlLaysZI.n6 P ρ) (F : Fence) (n : Nat) (h6 : F.fn (ρ.f 6)) (h8 : F.fn (ρ.f 8)) (h9 : F.fn (ρ.f 9)) (h11 : F.fn (ρ.f 11)) (hro : F.round = none) (hn : 4 ≤ n) (hsort : AnyZI.SortsIn P ρ F (n - 1)) (e9 : ∀ args w, (callFunc (ρ.f 9) args).run P w = .ok (.enter (ρ.f 9) args) w) (g : Nat) (lb : Array Value) (hFg : F.fn g) (eg : ∀ args w, (callFunc g args).run P w = .ok (.enter g args) w)
    (S : List Int → Prop) (N : Nat) (hN : N ≤ maxLen) (hNb : N * 8 ≤ 140737488355328) (w : World) (hSl : ∀ ss, S ss → ss.length ≤ N) (hseq : SeqB P F (n - 1 - 1 - 1) g lb S N w) :
    CallsIn F n P (ρ.f 6) #[.func (.func g) #[] lb] w fun e w' => ∃ (v : Value) (ss : List Int), e = .returned v ∧ S ss ∧
      w'.ownsRow w.heap.size (ρ.t 26) 1 v ss.length ((ss.mergeSort (fun x y => decide (x ≤ y))).map encZ) ∧ (v = .slice none 0 0 ↔ ss = []) ∧ Below w.heap.size w w' := by
  have h1 : 1 ≤ n := by omega
  have e8 : ∀ args w, (callFunc (ρ.f 8) args).run P w = .ok (.enter (ρ.f 8) args) w := L.f8.enters rfl
  have mixed := L.mixed; have t0 := L.t0; have a0 := L.a0; have z0 := L.z0; have v0 := L.v0; have t24 := L.t24; have a24 := L.a24; have z24 := L.z24; have v24 := L.v24; have t26 := L.t26; have a26 := L.a26; have z26 := L.z26; have v26 := L.v26; have t28 := L.t28; have a28 := L.a28; have z28 := L.z28; have v28 := L.v28
  have u0 := run_underlying L.t0; have u24 := run_underlying L.t24; have u26 := run_underlying L.t26; have u28 := run_underlying L.t28
  obtain ⟨_, _, FG⟩ := L.f6
  refine callsIn_of_wp FG rfl h6 ?_ hro
  simp only [SlBodyZ.n6_ntmps ρ, List.size_toArray, List.length_cons, List.length_nil, Nat.reduceAdd, Nat.reduceSub, Array.replicate_succ, Array.replicate_zero, List.push_toArray, List.append_toArray, List.nil_append, List.cons_append]
  gi_wp2_with (gi_at_fn (ρ.f 8); refine (collectB { L with } F (n - 1) h8 h11 hro (by omega) g lb hFg eg S N hN hNb _ hseq).mono ?_; rintro e W ⟨v, ss, rfl, hS, hrow, hnil, hb⟩)
  have hlen := hSl ss hS
  rcases hrow.2 with ⟨rfl, hz⟩ | ⟨gb, cap, cur, rfl, hbase, hgb, r1, r2, r3, r4⟩
  · -- nothing came: the nil slice is sorted and handed back
    have hss : ss = [] := List.eq_nil_of_length_eq_zero hz
    subst hss
    gi_wp2_with (gi_at_fn (ρ.f 9); refine (hsort.2 none 0 W).mono ?_; rintro e w' ⟨rfl, rfl⟩)
    go_ret
    exact ⟨.slice none 0 0, [], rfl, hS, by simpa using hrow, by simp, hb⟩
  · have hH : Holds encZ W gb 0 ss.toArray := holds_of_block_i hgb (by simpa using r4)
    have hgl : gb < W.heap.size := (Array.getElem?_eq_some_iff.1 hgb).1
    have hsz : ss.length < 4611686018427387904 := by omega
    have cS := hsort.1 gb 0 cap ss W hH hgl hsz
    gi_wp2_with (gi_at_fn (ρ.f 9); refine cS.mono ?_; rintro e w' ⟨rfl, nn, os, rfl⟩)
    go_ret
    exact ⟨_, ss, rfl, hS, ownsRow_sorted_i (by simp) hbase hgb r1 r2 r3, hnil, hb.grown (grownBy_sorted_i _) hb.size (fun j hj => by cases hj; exact hbase)⟩


end Go.Ab
end
