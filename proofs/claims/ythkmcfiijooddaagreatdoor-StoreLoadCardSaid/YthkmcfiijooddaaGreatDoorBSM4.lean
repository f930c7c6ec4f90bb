import Derived.Test.YthkmcfiijooddaaGreatDoorBSM2
import Derived.Test.YthkmcfiijooddaaGreatDoorE48
set_option linter.unusedVariables false
set_option linter.unusedSimpArgs false
section
/- A store of the call's own, and what is put and let go (plain lists). -/
namespace Go.Ab.Seat
open Go.Extern Go.Proofs
set_option linter.unusedVariables false

theorem liveG_put (r : Rc) (x : Int) (M : List Rc) : liveG x (putM r M) = if r.id = x then (if r.gone then none else some r) else liveG x M := by
  unfold liveG
  rw [getM_put]
  by_cases h : r.id = x
  · rw [if_pos h, if_pos h]
  · rw [if_neg h, if_neg h]

theorem seqM_le {M : List Rc} {n : Int} (h : ∀ r ∈ M, r.seq ≤ n) (h0 : 0 ≤ n) (x : Int) : seqM x M ≤ n := by
  unfold seqM
  cases hg : getM x M with
  | none => exact h0
  | some r => exact h r (getM_mem hg).1

theorem liveG_live {M : List Rc} (hr : Rises M) {x : Int} {r : Rc} : liveG x M = some r ↔ r ∈ liveM M ∧ r.id = x := by
  unfold liveG liveM
  constructor
  · intro h
    cases hg : getM x M with
    | none => rw [hg] at h; cases h
    | some r0 =>
      rw [hg] at h
      simp only at h
      split at h
      · cases h
      · cases h
        exact ⟨List.mem_filter.2 ⟨(getM_mem hg).1, by simp [*]⟩, (getM_mem hg).2⟩
  · rintro ⟨h1, h2⟩
    obtain ⟨h3, h4⟩ := List.mem_filter.1 h1
    rw [getM_some hr h3 h2]
    simp only
    rw [if_neg (by simpa using h4)]

theorem delZ_live {M : List Rc} {seq : Int} (h : ∀ r ∈ M, r.seq ≤ seq) (id : Int) : delZ id (seq + 1) M = if (liveG id M).isSome then 0 else 3 := by
  unfold delZ liveG
  cases hg : getM id M with
  | none => rfl
  | some r =>
    have := h r (getM_mem hg).1
    simp only
    have h2 : ¬seq + 1 ≤ r.seq := by omega
    by_cases hgo : r.gone = true
    · simp [hgo]
    · simp [hgo, h2]

/-- A put behind all. -/
theorem putM_end (r : Rc) : ∀ {M : List Rc}, (∀ x ∈ M, x.id < r.id) → putM r M = M ++ [r]
  | [], _ => rfl
  | y :: M, h => by
    have := h y (List.mem_cons_self ..)
    rw [putM, if_neg (by omega), if_neg (by omega), putM_end r fun x hx => h x (List.mem_cons_of_mem _ hx)]
    rfl
theorem putM_last (r r' : Rc) (he : r.id = r'.id) : ∀ {M : List Rc}, (∀ x ∈ M, x.id < r.id) → putM r (M ++ [r']) = M ++ [r]
  | [], _ => by
    rw [List.nil_append, putM, if_neg (by omega), if_pos he]
    rfl
  | y :: M, h => by
    have := h y (List.mem_cons_self ..)
    rw [List.cons_append, putM, if_neg (by omega), if_neg (by omega), putM_last r r' he fun x hx => h x (List.mem_cons_of_mem _ hx)]
    rfl
theorem putM_new_len (r : Rc) (hg : r.gone = false) : ∀ {M : List Rc}, getM r.id M = none → (liveM (putM r M)).length = (liveM M).length + 1
  | [], _ => by
    unfold putM liveM
    rw [List.filter_cons, hg]
    rfl
  | y :: M, h => by
    rw [getM] at h
    split at h
    · cases h
    · rename_i hy
      rw [putM]
      split
      · unfold liveM
        rw [List.filter_cons, hg]
        rfl
      · rw [if_neg (by omega)]
        have ih := putM_new_len r hg h
        unfold liveM at ih ⊢
        rw [List.filter_cons, List.filter_cons]
        split
        · rw [List.length_cons, List.length_cons, ih]
        · exact ih
theorem sweep_live (upto : Int) (M : List Rc) : liveM (sweepM upto M) = liveM M := by
  unfold liveM sweepM
  rw [List.filter_filter]
  refine List.filter_congr fun r _ => ?_
  unfold sweptR
  cases r.gone <;> simp
theorem sweep_again (upto : Int) (M : List Rc) : sweepM upto (sweepM upto M) = sweepM upto M ∧ (sweepM upto M).filter (sweptR upto) = [] := by
  unfold sweepM
  constructor
  · rw [List.filter_filter]
    refine List.filter_congr fun r _ => ?_
    cases sweptR upto r <;> rfl
  · rw [List.filter_filter]
    refine List.filter_eq_nil_iff.2 fun r _ => ?_
    cases sweptR upto r <;> simp

/-- A store of the call's own, at c + 1, its map at c. -/
structure SO (h0 : T AObj) (c : Nat) (h : T AObj) (c' : Nat) (M : List Rc) : Prop where
  f : Fresh h c'
  le : c + 2 ≤ c'
  kp : Kp h0 h c (fun _ => False)
  st : StM h (c + 1) c M (fun b => c ≤ b ∧ b < c')

theorem SO.keep {h0 : T AObj} {c : Nat} {h h2 : T AObj} {c' c2 : Nat} {M : List Rc} (x : SO h0 c h c' M) (hf : Fresh h2 c2) (hc : c' ≤ c2) (K : Kp h h2 c' (fun _ => False)) : SO h0 c h2 c2 M := by
  have l1 := x.le
  exact ⟨hf, by omega, fun b hb q => (K b (by omega) (fun q => q)).trans (x.kp b hb q), (x.st.keep x.f fun b hb hl => K b hl (fun q => q)).wide fun b hb => ⟨hb.1, by omega⟩⟩

/-- A call that turns the map. -/
theorem SO.turn {h0 : T AObj} {c : Nat} {h h2 h3 : T AObj} {c' c2 c3 : Nat} {rl wl rl' wl' : List Nat} {M M' : List Rc} {R U : Nat → Prop} (x : SO h0 c h c' M) (hc : c' ≤ c2) (K : Kp h h2 c' (fun _ => False)) (e : Ext ⟨h2, c2, rl, wl⟩ ⟨h3, c3, rl', wl'⟩ R (fun b => b = c)) (st : StM h3 (c + 1) c M' U) (hU : ∀ b, U b → c ≤ b ∧ b < c3) : SO h0 c h3 c3 M' := by
  have l1 := x.le
  have l2 := e.c
  dsimp only at l2
  exact ⟨e.fresh, by omega, fun b hb q => (e.get (by omega) (by omega)).trans ((K b (by omega) (fun q => q)).trans (x.kp b hb q)), st.wide hU⟩
/-- A call that turns nothing. -/
theorem SO.call {h0 : T AObj} {c : Nat} {h h2 h3 : T AObj} {c' c2 c3 : Nat} {rl wl rl' wl' : List Nat} {M : List Rc} {R : Nat → Prop} (x : SO h0 c h c' M) (hc : c' ≤ c2) (K : Kp h h2 c' (fun _ => False)) (e : Ext ⟨h2, c2, rl, wl⟩ ⟨h3, c3, rl', wl'⟩ R (fun _ => False)) : SO h0 c h3 c3 M := by
  have l2 := e.c
  dsimp only at l2
  exact x.keep e.fresh (by omega) fun b hb q => (e.get (by omega) (fun q => q)).trans (K b hb q)
end Go.Ab.Seat
end
section
/- Put, of any id; operations on a store as they come in. -/
namespace Go.Ab.Seat
open Go.Extern Go.Proofs
set_option linter.unusedVariables false

/-- Put, of any id. -/
theorem mputA_spec {sm : Nat → Option (List Value → M Value)} (H : Std sm) {h : T AObj} {c : Nat} {rl wl : List Nat} (hf : Fresh h c) {p m : Nat} {M : List Rc} {U : Nat → Prop} (q : StM h p m M U) (id seq : Int) (pay : ByteArray)
    {a : Option Addr} {k cap : Nat} {zs : List Int} (hv : Row h (.slice a k cap) k 1 (zs.map (Value.int .i32))) (hx : zs.length = k) (hn : k ≤ bigV) (hz : k = 0 → a = none → cap = 0) (bs : Nat → Prop) (hbs : ∀ b o sp, a = some ⟨b, o, sp⟩ → bs b) (hbm : ¬bs m) :
    ∃ r s', FnTo (Cs sm) eg 12 [.pointer (some ⟨p, 0, none⟩), .int .i64 id, .slice a k cap, .string pay, .int .i64 seq] ⟨h, c, rl, wl⟩ r s' ∧ (ErrIs s'.h c s'.c r (putZ id seq pay M) ∧
      StM s'.h p m (putL id seq (zs.map (Value.int .i32)) pay M) (fun b => U b ∨ c ≤ b ∧ b < s'.c)) ∧ Ext ⟨h, c, rl, wl⟩ s' (fun b => U b ∨ bs b) (fun b => b = m) := by
  by_cases hid : -9223372036854775808 ≤ id ∧ id ≤ 9223372036854775807
  · exact mput_spec H hf q id seq hid pay hv hx hn hz bs hbs hbm
  · have c1 : id < 1 ∨ 1000 < id := by omega
    obtain ⟨es, n, h1, _⟩ := q.ex
    obtain ⟨r, s', e1, ⟨b, f1, f2, f3, w, f4⟩, e3⟩ := sput_range H hf h1 id seq pay c1 a k cap (rl := rl) (wl := wl)
    have hz0 : putZ id seq pay M = 2 := by unfold putZ; rw [if_pos c1]
    refine ⟨r, s', e1, ⟨.inr ⟨by rw [hz0]; decide, by rw [hz0]; decide +kernel, b, w, f1, f2, f3, by rw [hz0]; exact f4⟩, ?_⟩, e3.mono (fun b _ hb => .inl hb) fun b _ hb => hb.elim⟩
    unfold putL
    rw [hz0, if_neg (by decide)]
    exact (q.keep hf fun b hb hc => e3.h b hc (fun q => q)).wide fun b hb => .inl hb

/-- Operations on a store as they come in. -/
def OpsS (h : T AObj) (c0 : Nat) (oa : Option Addr) (n : Nat) : Prop := ∀ i, i < n → ∃ b o sp cs kd id va nv kv, ∃ zs : List Int, ∃ pay sq, oa = some ⟨b, o, sp⟩ ∧ Cel h b cs ∧ subN (o + i * 5) 5 cs = some [.int .i64 kd, .int .i64 id, .slice va nv kv, .string pay, .int .i64 sq] ∧
  Row h (.slice va nv kv) nv 1 (zs.map (Value.int .i32)) ∧ zs.length = nv ∧ nv ≤ kv ∧ (va = none → kv = 0) ∧ ∀ a, va = some a → (a.spot = none ∨ a.spot = some 1) ∧ a.block < c0

end Go.Ab.Seat
end
