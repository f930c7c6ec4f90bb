import Derived.Test.YthkmcfiijooddaaGreatDoorBST1
import Derived.Test.YthkmcfiijooddaaGreatDoorBSM2
set_option linter.unusedVariables false
set_option linter.unusedSimpArgs false
section
/- What lies between two parts of a code; rows that come in. -/
namespace Go.Ab
section cut
variable {C : Ctx} {eg : TypeId → Bool} {km : Nat} {Q : Ex → Env → St → Prop}
/-- What lies between two parts of a code. -/
def CutE (J : L → St → Prop) (x : Ex) (e : Env) (s : St) : Prop := x = .normal ∧ ∃ k k1, e = .mk .nil k ∧ EqK k1 k ∧ J k1 s
theorem Wx.cutT {a b : Code} {e : Env} {s : St} (J : L → St → Prop) (hQ : Resp Q) (h1 : Wx C eg km a e s (CutE J)) (h2 : ∀ k s, J k s → Wx C eg km b (.mk .nil k) s Q) : Wx C eg km a e s (Then C eg km b Q) := by
  refine h1.mono fun x e' s' h => ?_
  obtain ⟨rfl, k, k1, rfl, hk, hJ⟩ := h
  exact Wx.swap hQ hk (h2 k1 s' hJ)
theorem CutE.go {J : L → St → Prop} {k : L} {s : St} (k1 : L) (h2 : EqK k1 k) (h3 : J k1 s) : CutE J .normal (.mk .nil k) s := ⟨rfl, k, k1, rfl, h2, h3⟩

/-- What lies behind a part of a code: the states J; or it has ended. -/
def CutQ (J : L → St → Prop) (Q : Ex → Env → St → Prop) (x : Ex) (e : Env) (s : St) : Prop :=
  match x with | .normal => ∃ k k1, e = .mk .nil k ∧ EqK k1 k ∧ J k1 s | x => Q x e s
theorem CutQ.go {J : L → St → Prop} {k : L} {s : St} (k1 : L) (h2 : EqK k1 k) (h3 : J k1 s) : CutQ J Q .normal (.mk .nil k) s := ⟨k, k1, rfl, h2, h3⟩
theorem CutQ.ex {J : L → St → Prop} {j : Nat} {e : Env} {s : St} (h : Q (.exit j) e s) : CutQ J Q (.exit j) e s := h
theorem CutQ.rt {J : L → St → Prop} {e : Env} {s : St} (h : Q .ret e s) : CutQ J Q .ret e s := h
theorem Resp.cut {J : L → St → Prop} (hQ : Resp Q) : Resp (CutQ J Q) := by
  intro x loc k k' s hk h
  cases x with
  | normal =>
    obtain ⟨k2, k1, h2, h3, h4⟩ := h
    cases h2
    exact ⟨k', k1, rfl, h3.trans hk, h4⟩
  | exit j => exact hQ _ _ _ _ _ hk h
  | ret => exact hQ _ _ _ _ _ hk h
theorem CutQ.then {b : Code} {J : L → St → Prop} (hQ : Resp Q) (h2 : ∀ k s, J k s → Wx C eg km b (.mk .nil k) s Q) {x : Ex} {e : Env} {s : St} (h : CutQ J Q x e s) : Then C eg km b Q x e s := by
  cases x with
  | normal =>
    obtain ⟨k, k1, rfl, hk, hJ⟩ := h
    exact Wx.swap hQ hk (h2 k1 s hJ)
  | exit j => exact h
  | ret => exact h
/-- A part, and what comes behind it. -/
theorem Wx.cut {a b : Code} {e : Env} {s : St} (J : L → St → Prop) (hQ : Resp Q) (h1 : Wx C eg km a e s (CutQ J Q)) (h2 : ∀ k s, J k s → Wx C eg km b (.mk .nil k) s Q) : Wx C eg km a e s (Then C eg km b Q) :=
  h1.mono fun _ _ _ h => CutQ.then hQ h2 h
/-- The same in a block that may be left. -/
theorem Wx.cutO {a b : Code} {id : Nat} {e : Env} {s : St} (J : L → St → Prop) (hQ : Resp Q) (h1 : Wx C eg km a e s (Out id (CutQ J Q))) (h2 : ∀ k s, J k s → Wx C eg km b (.mk .nil k) s Q) : Wx C eg km a e s (Out id (Then C eg km b Q)) :=
  h1.mono fun x e' s' h => by
    cases x with
    | normal => exact (show Then C eg km b Q .normal e' s' from CutQ.then (x := .normal) (e := e') (s := s') hQ h2 h)
    | ret => exact (show Then C eg km b Q .ret e' s' from CutQ.then (x := .ret) (e := e') (s := s') hQ h2 h)
    | exit j =>
      unfold Out at h ⊢
      by_cases hj : j = id
      · simp only [hj, if_true] at h ⊢
        exact CutQ.then (x := .normal) hQ h2 h
      · simp only [hj, if_false] at h ⊢
        exact CutQ.then (x := .exit j) hQ h2 h
end cut

theorem ApartP.wr {r w : List Nat} {x a a' b b' : Nat} (h : ∀ y ∈ w, y ≠ x) (hx : x < a) : ApartP ⟨r, w, a, a'⟩ ⟨[x], [], b, b'⟩ :=
  ⟨fun y hy hm => h y hy (List.mem_singleton.1 hm), fun _ _ hm => List.not_mem_nil hm, fun _ hm _ => List.not_mem_nil hm, fun y hy => by
    obtain rfl := List.mem_singleton.1 hy
    show ¬(a ≤ y ∧ y < a')
    omega, fun _ hm => absurd hm List.not_mem_nil⟩

/-- Nothing is written but m. -/
def OnlyW (w : List Nat) (m : Nat) : Prop := ∀ y ∈ w, y = m
theorem OnlyW.of {s : St} {h' : T AObj} {c' m : Nat} {rl wl : List Nat} {R : Nat → Prop} (x : Ext s ⟨h', c', rl, wl⟩ R (fun b => b = m)) (h0 : s.wl = []) : OnlyW wl m := fun y hy => by
  rcases x.wl y hy with q | q
  · rw [h0] at q
    exact absurd q List.not_mem_nil
  · exact q.2
theorem ApartP.ow {r w : List Nat} {m x a a' b b' : Nat} (h : OnlyW w m) (hm : m ≠ x) (hx : x < a) : ApartP ⟨r, w, a, a'⟩ ⟨[x], [], b, b'⟩ := ApartP.wr (fun y hy => by rw [h y hy]; exact hm) hx
/-- Reads, and a call that writes m. -/
theorem ApartP.rw' {r w : List Nat} {m x a b b' : Nat} {r' : List Nat} (h : OnlyW w m) (hm : m ≠ x) : ApartP ⟨[x], [], a, a⟩ ⟨r', w, b, b'⟩ :=
  ⟨fun y hy => absurd hy List.not_mem_nil, fun y hy => absurd hy List.not_mem_nil, fun y hy e => by
    have h1 := h y hy
    have h2 := List.mem_singleton.1 e
    exact hm (h1.symm.trans h2), fun y _ => by show ¬(a ≤ y ∧ y < a); omega, fun y _ => by show ¬(a ≤ y ∧ y < a); omega⟩
/-- Two calls that write m and m'. -/
theorem ApartP.ww {r w r' w' : List Nat} {m m' a a' b b' : Nat} (h : OnlyW w m) (h' : OnlyW w' m') (hr : ∀ y ∈ r, y ≠ m') (hr' : ∀ y ∈ r', y ≠ m ∧ y < a) (hm : m ≠ m') (hm' : m' < a) : ApartP ⟨r, w, a, a'⟩ ⟨r', w', b, b'⟩ :=
  ⟨fun y hy e => (hr' y e).1 (h y hy), fun y hy e => hm ((h y hy).symm.trans (h' y e)), fun y hy e => hr y e (h' y hy), fun y hy => by
    have := (hr' y hy).2
    show ¬(a ≤ y ∧ y < a')
    omega, fun y hy => by
    have := h' y hy
    show ¬(a ≤ y ∧ y < a')
    omega⟩

theorem Row.keepF {h h' : T AObj} {c : Nat} {v : Value} {n k : Nat} {xs : List Value} (x : Row h v n k xs) (hf : Fresh h c) (hk : ∀ b, b < c → h'.get b = h.get b) : Row h' v n k xs := by
  rcases x with x | ⟨b, o, sp, cap, cs, rfl, hc, hs⟩
  · exact .inl x
  · refine .inr ⟨b, o, sp, cap, cs, rfl, ?_, hs⟩
    have := hk b (hc.lt hf)
    unfold Cel Has at hc ⊢
    rw [this]; exact hc

theorem Row.cut {h : T AObj} {oa : Option Addr} {n cap : Nat} {xs : List Value} (x : Row h (.slice oa n cap) n 1 xs) {m : Nat} (hm : m ≤ n) : Row h (.slice oa m cap) m 1 (xs.take m) := by
  rcases x with ⟨rfl, rfl, a, c', e⟩ | ⟨b, o, sp, cap', cs, e, hc, hs⟩
  · obtain rfl : m = 0 := by omega
    exact .inl ⟨rfl, rfl, _, _, rfl⟩
  · cases e
    refine .inr ⟨b, o, sp, cap, cs, rfl, hc, ?_⟩
    obtain ⟨h1, h2, _⟩ := subN_some _ _ _ _ hs
    have e2 : xs = xs.take m ++ xs.drop m := (List.take_append_drop m xs).symm
    rw [e2, show n * 1 = m * 1 + (n - m) * 1 by omega] at hs
    exact (subN_app hs (by rw [List.length_take]; omega)).1
end Go.Ab
end
section
/- A store of the call's own, and what is put and let go (plain lists). -/
namespace Go.Ab.Seat
open Go.Extern Go.Proofs
set_option linter.unusedVariables false

theorem liveG_put (r : Rc) (x : Int) (M : List Rc) : liveG x (putM r M) = if r.id = x then (if r.gone then none else some r) else liveG x M := by
  unfold liveG
  rw [getM_put]
  by_cases h : r.id = x
  · rw [if_pos h, if_pos h]
  · rw [if_neg h, if_neg h]

theorem seqM_le {M : List Rc} {n : Int} (h : ∀ r ∈ M, r.seq ≤ n) (h0 : 0 ≤ n) (x : Int) : seqM x M ≤ n := by
  unfold seqM
  cases hg : getM x M with
  | none => exact h0
  | some r => exact h r (getM_mem hg).1

theorem liveG_live {M : List Rc} (hr : Rises M) {x : Int} {r : Rc} : liveG x M = some r ↔ r ∈ liveM M ∧ r.id = x := by
  unfold liveG liveM
  constructor
  · intro h
    cases hg : getM x M with
    | none => rw [hg] at h; cases h
    | some r0 =>
      rw [hg] at h
      simp only at h
      split at h
      · cases h
      · cases h
        exact ⟨List.mem_filter.2 ⟨(getM_mem hg).1, by simp [*]⟩, (getM_mem hg).2⟩
  · rintro ⟨h1, h2⟩
    obtain ⟨h3, h4⟩ := List.mem_filter.1 h1
    rw [getM_some hr h3 h2]
    simp only
    rw [if_neg (by simpa using h4)]

theorem delZ_live {M : List Rc} {seq : Int} (h : ∀ r ∈ M, r.seq ≤ seq) (id : Int) : delZ id (seq + 1) M = if (liveG id M).isSome then 0 else 3 := by
  unfold delZ liveG
  cases hg : getM id M with
  | none => rfl
  | some r =>
    have := h r (getM_mem hg).1
    simp only
    have h2 : ¬seq + 1 ≤ r.seq := by omega
    by_cases hgo : r.gone = true
    · simp [hgo]
    · simp [hgo, h2]

/-- A put behind all. -/
theorem putM_end (r : Rc) : ∀ {M : List Rc}, (∀ x ∈ M, x.id < r.id) → putM r M = M ++ [r]
  | [], _ => rfl
  | y :: M, h => by
    have := h y (List.mem_cons_self ..)
    rw [putM, if_neg (by omega), if_neg (by omega), putM_end r fun x hx => h x (List.mem_cons_of_mem _ hx)]
    rfl
theorem putM_last (r r' : Rc) (he : r.id = r'.id) : ∀ {M : List Rc}, (∀ x ∈ M, x.id < r.id) → putM r (M ++ [r']) = M ++ [r]
  | [], _ => by
    rw [List.nil_append, putM, if_neg (by omega), if_pos he]
    rfl
  | y :: M, h => by
    have := h y (List.mem_cons_self ..)
    rw [List.cons_append, putM, if_neg (by omega), if_neg (by omega), putM_last r r' he fun x hx => h x (List.mem_cons_of_mem _ hx)]
    rfl
theorem putM_new_len (r : Rc) (hg : r.gone = false) : ∀ {M : List Rc}, getM r.id M = none → (liveM (putM r M)).length = (liveM M).length + 1
  | [], _ => by
    unfold putM liveM
    rw [List.filter_cons, hg]
    rfl
  | y :: M, h => by
    rw [getM] at h
    split at h
    · cases h
    · rename_i hy
      rw [putM]
      split
      · unfold liveM
        rw [List.filter_cons, hg]
        rfl
      · rw [if_neg (by omega)]
        have ih := putM_new_len r hg h
        unfold liveM at ih ⊢
        rw [List.filter_cons, List.filter_cons]
        split
        · rw [List.length_cons, List.length_cons, ih]
        · exact ih
theorem sweep_live (upto : Int) (M : List Rc) : liveM (sweepM upto M) = liveM M := by
  unfold liveM sweepM
  rw [List.filter_filter]
  refine List.filter_congr fun r _ => ?_
  unfold sweptR
  cases r.gone <;> simp
theorem sweep_again (upto : Int) (M : List Rc) : sweepM upto (sweepM upto M) = sweepM upto M ∧ (sweepM upto M).filter (sweptR upto) = [] := by
  unfold sweepM
  constructor
  · rw [List.filter_filter]
    refine List.filter_congr fun r _ => ?_
    cases sweptR upto r <;> rfl
  · rw [List.filter_filter]
    refine List.filter_eq_nil_iff.2 fun r _ => ?_
    cases sweptR upto r <;> simp

/-- A store of the call's own, at c + 1, its map at c. -/
structure SO (h0 : T AObj) (c : Nat) (h : T AObj) (c' : Nat) (M : List Rc) : Prop where
  f : Fresh h c'
  le : c + 2 ≤ c'
  kp : Kp h0 h c (fun _ => False)
  st : StM h (c + 1) c M (fun b => c ≤ b ∧ b < c')

theorem SO.keep {h0 : T AObj} {c : Nat} {h h2 : T AObj} {c' c2 : Nat} {M : List Rc} (x : SO h0 c h c' M) (hf : Fresh h2 c2) (hc : c' ≤ c2) (K : Kp h h2 c' (fun _ => False)) : SO h0 c h2 c2 M := by
  have l1 := x.le
  exact ⟨hf, by omega, fun b hb q => (K b (by omega) (fun q => q)).trans (x.kp b hb q), (x.st.keep x.f fun b hb hl => K b hl (fun q => q)).wide fun b hb => ⟨hb.1, by omega⟩⟩

/-- A call that turns the map. -/
theorem SO.turn {h0 : T AObj} {c : Nat} {h h2 h3 : T AObj} {c' c2 c3 : Nat} {rl wl rl' wl' : List Nat} {M M' : List Rc} {R U : Nat → Prop} (x : SO h0 c h c' M) (hc : c' ≤ c2) (K : Kp h h2 c' (fun _ => False)) (e : Ext ⟨h2, c2, rl, wl⟩ ⟨h3, c3, rl', wl'⟩ R (fun b => b = c)) (st : StM h3 (c + 1) c M' U) (hU : ∀ b, U b → c ≤ b ∧ b < c3) : SO h0 c h3 c3 M' := by
  have l1 := x.le
  have l2 := e.c
  dsimp only at l2
  exact ⟨e.fresh, by omega, fun b hb q => (e.get (by omega) (by omega)).trans ((K b (by omega) (fun q => q)).trans (x.kp b hb q)), st.wide hU⟩
/-- A call that turns nothing. -/
theorem SO.call {h0 : T AObj} {c : Nat} {h h2 h3 : T AObj} {c' c2 c3 : Nat} {rl wl rl' wl' : List Nat} {M : List Rc} {R : Nat → Prop} (x : SO h0 c h c' M) (hc : c' ≤ c2) (K : Kp h h2 c' (fun _ => False)) (e : Ext ⟨h2, c2, rl, wl⟩ ⟨h3, c3, rl', wl'⟩ R (fun _ => False)) : SO h0 c h3 c3 M := by
  have l2 := e.c
  dsimp only at l2
  exact x.keep e.fresh (by omega) fun b hb q => (e.get (by omega) (fun q => q)).trans (K b hb q)
end Go.Ab.Seat
end
section
/- Put, of any id; operations on a store as they come in. -/
namespace Go.Ab.Seat
open Go.Extern Go.Proofs
set_option linter.unusedVariables false

/-- Put, of any id. -/
theorem mputA_spec {sm : Nat → Option (List Value → M Value)} (H : Std sm) {h : T AObj} {c : Nat} {rl wl : List Nat} (hf : Fresh h c) {p m : Nat} {M : List Rc} {U : Nat → Prop} (q : StM h p m M U) (id seq : Int) (pay : ByteArray)
    {a : Option Addr} {k cap : Nat} {zs : List Int} (hv : Row h (.slice a k cap) k 1 (zs.map (Value.int .i32))) (hx : zs.length = k) (hn : k ≤ big) (hz : k = 0 → a = none → cap = 0) (bs : Nat → Prop) (hbs : ∀ b o sp, a = some ⟨b, o, sp⟩ → bs b) (hbm : ¬bs m) :
    ∃ r s', FnTo (Cs sm) eg 12 [.pointer (some ⟨p, 0, none⟩), .int .i64 id, .slice a k cap, .string pay, .int .i64 seq] ⟨h, c, rl, wl⟩ r s' ∧ (ErrIs s'.h c s'.c r (putZ id seq pay M) ∧
      StM s'.h p m (putL id seq (zs.map (Value.int .i32)) pay M) (fun b => U b ∨ c ≤ b ∧ b < s'.c)) ∧ Ext ⟨h, c, rl, wl⟩ s' (fun b => U b ∨ bs b) (fun b => b = m) := by
  by_cases hid : -9223372036854775808 ≤ id ∧ id ≤ 9223372036854775807
  · exact mput_spec H hf q id seq hid pay hv hx hn hz bs hbs hbm
  · have c1 : id < 1 ∨ 1000 < id := by omega
    obtain ⟨es, n, h1, _⟩ := q.ex
    obtain ⟨r, s', e1, ⟨b, f1, f2, f3, w, f4⟩, e3⟩ := sput_range H hf h1 id seq pay c1 a k cap (rl := rl) (wl := wl)
    have hz0 : putZ id seq pay M = 2 := by unfold putZ; rw [if_pos c1]
    refine ⟨r, s', e1, ⟨.inr ⟨by rw [hz0]; decide, by rw [hz0]; decide +kernel, b, w, f1, f2, f3, by rw [hz0]; exact f4⟩, ?_⟩, e3.mono (fun b _ hb => .inl hb) fun b _ hb => hb.elim⟩
    unfold putL
    rw [hz0, if_neg (by decide)]
    exact (q.keep hf fun b hb hc => e3.h b hc (fun q => q)).wide fun b hb => .inl hb

/-- Operations on a store as they come in. -/
def OpsS (h : T AObj) (c0 : Nat) (oa : Option Addr) (n : Nat) : Prop := ∀ i, i < n → ∃ b o sp cs kd id va nv kv, ∃ zs : List Int, ∃ pay sq, oa = some ⟨b, o, sp⟩ ∧ Cel h b cs ∧ subN (o + i * 5) 5 cs = some [.int .i64 kd, .int .i64 id, .slice va nv kv, .string pay, .int .i64 sq] ∧
  Row h (.slice va nv kv) nv 1 (zs.map (Value.int .i32)) ∧ zs.length = nv ∧ nv ≤ kv ∧ (va = none → kv = 0) ∧ ∀ a, va = some a → (a.spot = none ∨ a.spot = some 1) ∧ a.block < c0

end Go.Ab.Seat
end
section
/- Operations on strings and slices (of the abstract machine). -/
namespace Go.Ab
section ops
set_option linter.unusedSimpArgs false
variable {C : Ctx} {eg : TypeId → Bool} {e : Env} {s : St} {d : Option Nat} {ty : TypeId} {ps : String} {af : Array Edge} {g : Option (Nat × Bool)}
theorem to_sliceHi {t : TypeId} {x hi : Operand} {oa : Option Addr} {len cap n k : Nat} {j : IntKind} {z : Int} (ht : elemAt C t = some n) (hx : evalA e x = .slice oa len cap) (hl : evalA e hi = .int j z) (hz : z = (k : Int)) (hk : k ≤ cap) (hsp : ∀ a, oa = some a → a.spot = none ∨ a.spot = some n) :
    OpTo C eg e ⟨d, .slice t x none (some hi) none, ty, ps, af, g⟩ s (.slice oa k cap) s := ⟨0, by
  show opSlice C t (evalA e x) ((none : Option Operand).map (evalA e)) ((some hi).map (evalA e)) ((none : Option Operand).map (evalA e)) s = _
  subst hz
  simp only [Option.map_some, Option.map_none]
  rw [hx, hl]
  unfold elemAt at ht
  unfold opSlice
  cases hu : C.und t with
  | none => rw [hu] at ht; cases ht
  | some u =>
    rw [hu] at ht
    cases u <;> first | (cases ht; done) | skip
    simp only at ht ⊢
    rw [bind_run (lift_run ht)]
    have hb : boundsA len cap none (some (.int j (k : Int))) none = some (0, k, cap) := by
      unfold boundsA
      simp only
      show (match boundA none cap cap with | none => none | some m => _) = _
      simp only [boundA]
      rw [show natOf (.int j (k : Int)) = some k from rfl]
      simp only [ble_iff.2 hk]
    rw [bind_run (lift_run hb)]
    cases oa with
    | none => rfl
    | some a =>
      obtain ⟨b, o, sp⟩ := a
      have e0 : o + 0 * n = o := by omega
      rcases hsp _ rfl with h | h
      · simp only at h
        subst h
        cases hb2 : Nat.beq cap 0 <;> simp only [hb2, e0] <;> rfl
      · simp only at h
        subst h
        simp only [show (Nat.beq n n && Nat.ble k cap) = true by rw [ble_iff.2 hk, Nat.beq_refl]; rfl, e0]
        rfl⟩
theorem eqBytes_dec (x y : ByteArray) : eqBytes x.data.toList y.data.toList = decide (x = y) := by
  rw [eqBytes_eq]
  by_cases h : x = y
  · subst h
    simp
  · rw [decide_eq_false h]
    cases hb : x.data.toList == y.data.toList with
    | false => rfl
    | true =>
      refine absurd ?_ h
      have h1 := Array.toList_inj.1 (eq_of_beq hb)
      cases x; cases y
      cases h1; rfl
theorem to_eqStr {t t2 : TypeId} {x y : Operand} {a b : ByteArray} (hx : evalA e x = .string a) (hy : evalA e y = .string b) : OpTo C eg e ⟨d, .binOp .eql t x y t2, ty, ps, af, g⟩ s (.bool (decide (a = b))) s :=
  to_bin hx hy (by
    show strA .eql a b = _
    unfold strA
    simp only [eqBytes_dec])
theorem to_neStr {t t2 : TypeId} {x y : Operand} {a b : ByteArray} (hx : evalA e x = .string a) (hy : evalA e y = .string b) : OpTo C eg e ⟨d, .binOp .neq t x y t2, ty, ps, af, g⟩ s (.bool (!decide (a = b))) s :=
  to_bin hx hy (by
    show strA .neq a b = _
    unfold strA
    simp only [eqBytes_dec])
theorem to_eqStrT {t t2 : TypeId} {x y : Operand} {a b : ByteArray} (hx : evalA e x = .string a) (hy : evalA e y = .string b) (h : a = b) : OpTo C eg e ⟨d, .binOp .eql t x y t2, ty, ps, af, g⟩ s (.bool true) s := by
  have := to_eqStr (C := C) (eg := eg) (e := e) (s := s) (d := d) (ty := ty) (ps := ps) (af := af) (g := g) (t := t) (t2 := t2) hx hy
  rwa [decide_eq_true h] at this
theorem to_eqStrF {t t2 : TypeId} {x y : Operand} {a b : ByteArray} (hx : evalA e x = .string a) (hy : evalA e y = .string b) (h : ¬a = b) : OpTo C eg e ⟨d, .binOp .eql t x y t2, ty, ps, af, g⟩ s (.bool false) s := by
  have := to_eqStr (C := C) (eg := eg) (e := e) (s := s) (d := d) (ty := ty) (ps := ps) (af := af) (g := g) (t := t) (t2 := t2) hx hy
  rwa [decide_eq_false h] at this
theorem to_neStrF {t t2 : TypeId} {x y : Operand} {a b : ByteArray} (hx : evalA e x = .string a) (hy : evalA e y = .string b) (h : a = b) : OpTo C eg e ⟨d, .binOp .neq t x y t2, ty, ps, af, g⟩ s (.bool false) s := by
  have := to_neStr (C := C) (eg := eg) (e := e) (s := s) (d := d) (ty := ty) (ps := ps) (af := af) (g := g) (t := t) (t2 := t2) hx hy
  rwa [decide_eq_true h] at this
theorem to_neStrT {t t2 : TypeId} {x y : Operand} {a b : ByteArray} (hx : evalA e x = .string a) (hy : evalA e y = .string b) (h : ¬a = b) : OpTo C eg e ⟨d, .binOp .neq t x y t2, ty, ps, af, g⟩ s (.bool true) s := by
  have := to_neStr (C := C) (eg := eg) (e := e) (s := s) (d := d) (ty := ty) (ps := ps) (af := af) (g := g) (t := t) (t2 := t2) hx hy
  rwa [decide_eq_false h] at this
theorem to_sliceStr {t : TypeId} {x hi : Operand} {b : ByteArray} {k : Nat} {j : IntKind} {z : Int} (ht : strT C t = true) (hx : evalA e x = .string b) (hl : evalA e hi = .int j z) (hz : z = (k : Int)) (hk : k ≤ b.size) :
    OpTo C eg e ⟨d, .slice t x none (some hi) none, ty, ps, af, g⟩ s (.string (b.extract 0 k)) s := ⟨0, by
  show opSlice C t (evalA e x) ((none : Option Operand).map (evalA e)) ((some hi).map (evalA e)) ((none : Option Operand).map (evalA e)) s = _
  subst hz
  simp only [Option.map_some, Option.map_none]
  rw [hx, hl]
  unfold strT at ht
  unfold opSlice
  cases hu : C.und t with
  | none => rw [hu] at ht; cases ht
  | some u =>
    rw [hu] at ht
    cases u <;> first | (cases ht; done) | skip
    simp only
    have hb : boundsA b.size b.size none (some (.int j (k : Int))) none = some (0, k, b.size) := by
      unfold boundsA
      simp only
      show (match boundA none b.size b.size with | none => none | some m => _) = _
      simp only [boundA]
      rw [show natOf (.int j (k : Int)) = some k from rfl]
      simp only [ble_iff.2 hk]
    rw [bind_run (lift_run hb)]
    rfl⟩
theorem to_neBF {t t2 : TypeId} {x y : Operand} {p q : Bool} (ht : undIs C t 3 = true) (hx : evalA e x = .bool p) (hy : evalA e y = .bool q) (h : p = q) : OpTo C eg e ⟨d, .binOp .neq t x y t2, ty, ps, af, g⟩ s (.bool false) s := by
  have := to_neB (C := C) (eg := eg) (e := e) (s := s) (d := d) (ty := ty) (ps := ps) (af := af) (g := g) (t := t) (t2 := t2) ht hx hy
  subst h
  rwa [show (!(p == p)) = false by cases p <;> rfl] at this
/-- nothing[0:] -/
theorem to_sliceLoNil {t : TypeId} {x lo : Operand} {n : Nat} {j : IntKind} {z : Int} (ht : elemAt C t = some n) (hx : evalA e x = .slice none 0 0) (hl : evalA e lo = .int j z) (hz : z = 0) :
    OpTo C eg e ⟨d, .slice t x (some lo) none none, ty, ps, af, g⟩ s (.slice none 0 0) s := ⟨0, by
  show opSlice C t (evalA e x) ((some lo).map (evalA e)) ((none : Option Operand).map (evalA e)) ((none : Option Operand).map (evalA e)) s = _
  subst hz
  simp only [Option.map_some, Option.map_none]
  rw [hx, hl]
  unfold elemAt at ht
  unfold opSlice
  cases hu : C.und t with
  | none => rw [hu] at ht; cases ht
  | some u =>
    rw [hu] at ht
    cases u <;> first | (cases ht; done) | skip
    simp only at ht ⊢
    rw [bind_run (lift_run ht)]
    rfl⟩
end ops
end Go.Ab
end
