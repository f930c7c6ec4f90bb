import Derived.Test.YtcnfbfiakkjabaaGreatDoorDST5
set_option linter.unusedVariables false
set_option linter.unusedSimpArgs false
section
/- What lies between two parts of a code; rows that come in. -/
namespace Go.Ab
section cut
variable {C : Ctx} {eg : TypeId → Bool} {km : Nat} {Q : Ex → Env → St → Prop}
/-- What lies between two parts of a code. -/
def CutE (J : L → St → Prop) (x : Ex) (e : Env) (s : St) : Prop := x = .normal ∧ ∃ k k1, e = .mk .nil k ∧ EqK k1 k ∧ J k1 s
theorem Wx.cutT {a b : Code} {e : Env} {s : St} (J : L → St → Prop) (hQ : Resp Q) (h1 : Wx C eg km a e s (CutE J)) (h2 : ∀ k s, J k s → Wx C eg km b (.mk .nil k) s Q) : Wx C eg km a e s (Then C eg km b Q) := by
  refine h1.mono fun x e' s' h => ?_
  obtain ⟨rfl, k, k1, rfl, hk, hJ⟩ := h
  exact Wx.swap hQ hk (h2 k1 s' hJ)
theorem CutE.go {J : L → St → Prop} {k : L} {s : St} (k1 : L) (h2 : EqK k1 k) (h3 : J k1 s) : CutE J .normal (.mk .nil k) s := ⟨rfl, k, k1, rfl, h2, h3⟩

/-- What lies behind a part of a code: the states J; or it has ended. -/
def CutQ (J : L → St → Prop) (Q : Ex → Env → St → Prop) (x : Ex) (e : Env) (s : St) : Prop :=
  match x with | .normal => ∃ k k1, e = .mk .nil k ∧ EqK k1 k ∧ J k1 s | x => Q x e s
theorem CutQ.go {J : L → St → Prop} {k : L} {s : St} (k1 : L) (h2 : EqK k1 k) (h3 : J k1 s) : CutQ J Q .normal (.mk .nil k) s := ⟨k, k1, rfl, h2, h3⟩
theorem CutQ.ex {J : L → St → Prop} {j : Nat} {e : Env} {s : St} (h : Q (.exit j) e s) : CutQ J Q (.exit j) e s := h
theorem CutQ.rt {J : L → St → Prop} {e : Env} {s : St} (h : Q .ret e s) : CutQ J Q .ret e s := h
theorem Resp.cut {J : L → St → Prop} (hQ : Resp Q) : Resp (CutQ J Q) := by
  intro x loc k k' s hk h
  cases x with
  | normal =>
    obtain ⟨k2, k1, h2, h3, h4⟩ := h
    cases h2
    exact ⟨k', k1, rfl, h3.trans hk, h4⟩
  | exit j => exact hQ _ _ _ _ _ hk h
  | ret => exact hQ _ _ _ _ _ hk h
theorem CutQ.then {b : Code} {J : L → St → Prop} (hQ : Resp Q) (h2 : ∀ k s, J k s → Wx C eg km b (.mk .nil k) s Q) {x : Ex} {e : Env} {s : St} (h : CutQ J Q x e s) : Then C eg km b Q x e s := by
  cases x with
  | normal =>
    obtain ⟨k, k1, rfl, hk, hJ⟩ := h
    exact Wx.swap hQ hk (h2 k1 s hJ)
  | exit j => exact h
  | ret => exact h
/-- A part, and what comes behind it. -/
theorem Wx.cut {a b : Code} {e : Env} {s : St} (J : L → St → Prop) (hQ : Resp Q) (h1 : Wx C eg km a e s (CutQ J Q)) (h2 : ∀ k s, J k s → Wx C eg km b (.mk .nil k) s Q) : Wx C eg km a e s (Then C eg km b Q) :=
  h1.mono fun _ _ _ h => CutQ.then hQ h2 h
/-- The same in a block that may be left. -/
theorem Wx.cutO {a b : Code} {id : Nat} {e : Env} {s : St} (J : L → St → Prop) (hQ : Resp Q) (h1 : Wx C eg km a e s (Out id (CutQ J Q))) (h2 : ∀ k s, J k s → Wx C eg km b (.mk .nil k) s Q) : Wx C eg km a e s (Out id (Then C eg km b Q)) :=
  h1.mono fun x e' s' h => by
    cases x with
    | normal => exact (show Then C eg km b Q .normal e' s' from CutQ.then (x := .normal) (e := e') (s := s') hQ h2 h)
    | ret => exact (show Then C eg km b Q .ret e' s' from CutQ.then (x := .ret) (e := e') (s := s') hQ h2 h)
    | exit j =>
      unfold Out at h ⊢
      by_cases hj : j = id
      · simp only [hj, if_true] at h ⊢
        exact CutQ.then (x := .normal) hQ h2 h
      · simp only [hj, if_false] at h ⊢
        exact CutQ.then (x := .exit j) hQ h2 h
end cut

theorem ApartP.wr {r w : List Nat} {x a a' b b' : Nat} (h : ∀ y ∈ w, y ≠ x) (hx : x < a) : ApartP ⟨r, w, a, a'⟩ ⟨[x], [], b, b'⟩ :=
  ⟨fun y hy hm => h y hy (List.mem_singleton.1 hm), fun _ _ hm => List.not_mem_nil hm, fun _ hm _ => List.not_mem_nil hm, fun y hy => by
    obtain rfl := List.mem_singleton.1 hy
    show ¬(a ≤ y ∧ y < a')
    omega, fun _ hm => absurd hm List.not_mem_nil⟩

/-- Nothing is written but m. -/
def OnlyW (w : List Nat) (m : Nat) : Prop := ∀ y ∈ w, y = m
theorem OnlyW.of {s : St} {h' : T AObj} {c' m : Nat} {rl wl : List Nat} {R : Nat → Prop} (x : Ext s ⟨h', c', rl, wl⟩ R (fun b => b = m)) (h0 : s.wl = []) : OnlyW wl m := fun y hy => by
  rcases x.wl y hy with q | q
  · rw [h0] at q
    exact absurd q List.not_mem_nil
  · exact q.2
theorem ApartP.ow {r w : List Nat} {m x a a' b b' : Nat} (h : OnlyW w m) (hm : m ≠ x) (hx : x < a) : ApartP ⟨r, w, a, a'⟩ ⟨[x], [], b, b'⟩ := ApartP.wr (fun y hy => by rw [h y hy]; exact hm) hx
/-- Reads, and a call that writes m. -/
theorem ApartP.rw' {r w : List Nat} {m x a b b' : Nat} {r' : List Nat} (h : OnlyW w m) (hm : m ≠ x) : ApartP ⟨[x], [], a, a⟩ ⟨r', w, b, b'⟩ :=
  ⟨fun y hy => absurd hy List.not_mem_nil, fun y hy => absurd hy List.not_mem_nil, fun y hy e => by
    have h1 := h y hy
    have h2 := List.mem_singleton.1 e
    exact hm (h1.symm.trans h2), fun y _ => by show ¬(a ≤ y ∧ y < a); omega, fun y _ => by show ¬(a ≤ y ∧ y < a); omega⟩
/-- Two calls that write m and m'. -/
theorem ApartP.ww {r w r' w' : List Nat} {m m' a a' b b' : Nat} (h : OnlyW w m) (h' : OnlyW w' m') (hr : ∀ y ∈ r, y ≠ m') (hr' : ∀ y ∈ r', y ≠ m ∧ y < a) (hm : m ≠ m') (hm' : m' < a) : ApartP ⟨r, w, a, a'⟩ ⟨r', w', b, b'⟩ :=
  ⟨fun y hy e => (hr' y e).1 (h y hy), fun y hy e => hm ((h y hy).symm.trans (h' y e)), fun y hy e => hr y e (h' y hy), fun y hy => by
    have := (hr' y hy).2
    show ¬(a ≤ y ∧ y < a')
    omega, fun y hy => by
    have := h' y hy
    show ¬(a ≤ y ∧ y < a')
    omega⟩

theorem Row.keepF {h h' : T AObj} {c : Nat} {v : Value} {n k : Nat} {xs : List Value} (x : Row h v n k xs) (hf : Fresh h c) (hk : ∀ b, b < c → h'.get b = h.get b) : Row h' v n k xs := by
  rcases x with x | ⟨b, o, sp, cap, cs, rfl, hc, hs⟩
  · exact .inl x
  · refine .inr ⟨b, o, sp, cap, cs, rfl, ?_, hs⟩
    have := hk b (hc.lt hf)
    unfold Cel Has at hc ⊢
    rw [this]; exact hc

theorem Row.cut {h : T AObj} {oa : Option Addr} {n cap : Nat} {xs : List Value} (x : Row h (.slice oa n cap) n 1 xs) {m : Nat} (hm : m ≤ n) : Row h (.slice oa m cap) m 1 (xs.take m) := by
  rcases x with ⟨rfl, rfl, a, c', e⟩ | ⟨b, o, sp, cap', cs, e, hc, hs⟩
  · obtain rfl : m = 0 := by omega
    exact .inl ⟨rfl, rfl, _, _, rfl⟩
  · cases e
    refine .inr ⟨b, o, sp, cap, cs, rfl, hc, ?_⟩
    obtain ⟨h1, h2, _⟩ := subN_some _ _ _ _ hs
    have e2 : xs = xs.take m ++ xs.drop m := (List.take_append_drop m xs).symm
    rw [e2, show n * 1 = m * 1 + (n - m) * 1 by omega] at hs
    exact (subN_app hs (by rw [List.length_take]; omega)).1
end Go.Ab
end
section
/- Operations on strings and slices (of the abstract machine). -/
namespace Go.Ab
section ops
set_option linter.unusedSimpArgs false
variable {C : Ctx} {eg : TypeId → Bool} {e : Env} {s : St} {d : Option Nat} {ty : TypeId} {ps : String} {af : Array Edge} {g : Option (Nat × Bool)}
theorem to_sliceHi {t : TypeId} {x hi : Operand} {oa : Option Addr} {len cap n k : Nat} {j : IntKind} {z : Int} (ht : elemAt C t = some n) (hx : evalA e x = .slice oa len cap) (hl : evalA e hi = .int j z) (hz : z = (k : Int)) (hk : k ≤ cap) (hsp : ∀ a, oa = some a → a.spot = none ∨ a.spot = some n) :
    OpTo C eg e ⟨d, .slice t x none (some hi) none, ty, ps, af, g⟩ s (.slice oa k cap) s := ⟨0, by
  show opSlice C t (evalA e x) ((none : Option Operand).map (evalA e)) ((some hi).map (evalA e)) ((none : Option Operand).map (evalA e)) s = _
  subst hz
  simp only [Option.map_some, Option.map_none]
  rw [hx, hl]
  unfold elemAt at ht
  unfold opSlice
  cases hu : C.und t with
  | none => rw [hu] at ht; cases ht
  | some u =>
    rw [hu] at ht
    cases u <;> first | (cases ht; done) | skip
    simp only at ht ⊢
    rw [bind_run (lift_run ht)]
    have hb : boundsA len cap none (some (.int j (k : Int))) none = some (0, k, cap) := by
      unfold boundsA
      simp only
      show (match boundA none cap cap with | none => none | some m => _) = _
      simp only [boundA]
      rw [show natOf (.int j (k : Int)) = some k from rfl]
      simp only [ble_iff.2 hk]
    rw [bind_run (lift_run hb)]
    cases oa with
    | none => rfl
    | some a =>
      obtain ⟨b, o, sp⟩ := a
      have e0 : o + 0 * n = o := by omega
      rcases hsp _ rfl with h | h
      · simp only at h
        subst h
        cases hb2 : Nat.beq cap 0 <;> simp only [hb2, e0] <;> rfl
      · simp only at h
        subst h
        simp only [show (Nat.beq n n && Nat.ble k cap) = true by rw [ble_iff.2 hk, Nat.beq_refl]; rfl, e0]
        rfl⟩
theorem eqBytes_dec (x y : ByteArray) : eqBytes x.data.toList y.data.toList = decide (x = y) := by
  rw [eqBytes_eq]
  by_cases h : x = y
  · subst h
    simp
  · rw [decide_eq_false h]
    cases hb : x.data.toList == y.data.toList with
    | false => rfl
    | true =>
      refine absurd ?_ h
      have h1 := Array.toList_inj.1 (eq_of_beq hb)
      cases x; cases y
      cases h1; rfl
theorem to_eqStr {t t2 : TypeId} {x y : Operand} {a b : ByteArray} (hx : evalA e x = .string a) (hy : evalA e y = .string b) : OpTo C eg e ⟨d, .binOp .eql t x y t2, ty, ps, af, g⟩ s (.bool (decide (a = b))) s :=
  to_bin hx hy (by
    show strA .eql a b = _
    unfold strA
    simp only [eqBytes_dec])
theorem to_neStr {t t2 : TypeId} {x y : Operand} {a b : ByteArray} (hx : evalA e x = .string a) (hy : evalA e y = .string b) : OpTo C eg e ⟨d, .binOp .neq t x y t2, ty, ps, af, g⟩ s (.bool (!decide (a = b))) s :=
  to_bin hx hy (by
    show strA .neq a b = _
    unfold strA
    simp only [eqBytes_dec])
theorem to_eqStrT {t t2 : TypeId} {x y : Operand} {a b : ByteArray} (hx : evalA e x = .string a) (hy : evalA e y = .string b) (h : a = b) : OpTo C eg e ⟨d, .binOp .eql t x y t2, ty, ps, af, g⟩ s (.bool true) s := by
  have := to_eqStr (C := C) (eg := eg) (e := e) (s := s) (d := d) (ty := ty) (ps := ps) (af := af) (g := g) (t := t) (t2 := t2) hx hy
  rwa [decide_eq_true h] at this
theorem to_eqStrF {t t2 : TypeId} {x y : Operand} {a b : ByteArray} (hx : evalA e x = .string a) (hy : evalA e y = .string b) (h : ¬a = b) : OpTo C eg e ⟨d, .binOp .eql t x y t2, ty, ps, af, g⟩ s (.bool false) s := by
  have := to_eqStr (C := C) (eg := eg) (e := e) (s := s) (d := d) (ty := ty) (ps := ps) (af := af) (g := g) (t := t) (t2 := t2) hx hy
  rwa [decide_eq_false h] at this
theorem to_neStrF {t t2 : TypeId} {x y : Operand} {a b : ByteArray} (hx : evalA e x = .string a) (hy : evalA e y = .string b) (h : a = b) : OpTo C eg e ⟨d, .binOp .neq t x y t2, ty, ps, af, g⟩ s (.bool false) s := by
  have := to_neStr (C := C) (eg := eg) (e := e) (s := s) (d := d) (ty := ty) (ps := ps) (af := af) (g := g) (t := t) (t2 := t2) hx hy
  rwa [decide_eq_true h] at this
theorem to_neStrT {t t2 : TypeId} {x y : Operand} {a b : ByteArray} (hx : evalA e x = .string a) (hy : evalA e y = .string b) (h : ¬a = b) : OpTo C eg e ⟨d, .binOp .neq t x y t2, ty, ps, af, g⟩ s (.bool true) s := by
  have := to_neStr (C := C) (eg := eg) (e := e) (s := s) (d := d) (ty := ty) (ps := ps) (af := af) (g := g) (t := t) (t2 := t2) hx hy
  rwa [decide_eq_false h] at this
theorem to_sliceStr {t : TypeId} {x hi : Operand} {b : ByteArray} {k : Nat} {j : IntKind} {z : Int} (ht : strT C t = true) (hx : evalA e x = .string b) (hl : evalA e hi = .int j z) (hz : z = (k : Int)) (hk : k ≤ b.size) :
    OpTo C eg e ⟨d, .slice t x none (some hi) none, ty, ps, af, g⟩ s (.string (b.extract 0 k)) s := ⟨0, by
  show opSlice C t (evalA e x) ((none : Option Operand).map (evalA e)) ((some hi).map (evalA e)) ((none : Option Operand).map (evalA e)) s = _
  subst hz
  simp only [Option.map_some, Option.map_none]
  rw [hx, hl]
  unfold strT at ht
  unfold opSlice
  cases hu : C.und t with
  | none => rw [hu] at ht; cases ht
  | some u =>
    rw [hu] at ht
    cases u <;> first | (cases ht; done) | skip
    simp only
    have hb : boundsA b.size b.size none (some (.int j (k : Int))) none = some (0, k, b.size) := by
      unfold boundsA
      simp only
      show (match boundA none b.size b.size with | none => none | some m => _) = _
      simp only [boundA]
      rw [show natOf (.int j (k : Int)) = some k from rfl]
      simp only [ble_iff.2 hk]
    rw [bind_run (lift_run hb)]
    rfl⟩
theorem to_neBF {t t2 : TypeId} {x y : Operand} {p q : Bool} (ht : undIs C t 3 = true) (hx : evalA e x = .bool p) (hy : evalA e y = .bool q) (h : p = q) : OpTo C eg e ⟨d, .binOp .neq t x y t2, ty, ps, af, g⟩ s (.bool false) s := by
  have := to_neB (C := C) (eg := eg) (e := e) (s := s) (d := d) (ty := ty) (ps := ps) (af := af) (g := g) (t := t) (t2 := t2) ht hx hy
  subst h
  rwa [show (!(p == p)) = false by cases p <;> rfl] at this
theorem to_eqBT {t t2 : TypeId} {x y : Operand} {p q : Bool} (ht : undIs C t 3 = true) (hx : evalA e x = .bool p) (hy : evalA e y = .bool q) (h : p = q) : OpTo C eg e ⟨d, .binOp .eql t x y t2, ty, ps, af, g⟩ s (.bool true) s := by
  have := to_eqB (C := C) (eg := eg) (e := e) (s := s) (d := d) (ty := ty) (ps := ps) (af := af) (g := g) (t := t) (t2 := t2) ht hx hy
  subst h
  rwa [show (p == p) = true by cases p <;> rfl] at this
/-- nothing[0:] -/
theorem to_sliceLoNil {t : TypeId} {x lo : Operand} {n : Nat} {j : IntKind} {z : Int} (ht : elemAt C t = some n) (hx : evalA e x = .slice none 0 0) (hl : evalA e lo = .int j z) (hz : z = 0) :
    OpTo C eg e ⟨d, .slice t x (some lo) none none, ty, ps, af, g⟩ s (.slice none 0 0) s := ⟨0, by
  show opSlice C t (evalA e x) ((some lo).map (evalA e)) ((none : Option Operand).map (evalA e)) ((none : Option Operand).map (evalA e)) s = _
  subst hz
  simp only [Option.map_some, Option.map_none]
  rw [hx, hl]
  unfold elemAt at ht
  unfold opSlice
  cases hu : C.und t with
  | none => rw [hu] at ht; cases ht
  | some u =>
    rw [hu] at ht
    cases u <;> first | (cases ht; done) | skip
    simp only at ht ⊢
    rw [bind_run (lift_run ht)]
    rfl⟩
end ops
end Go.Ab
end
section
/- A closure is called (the abstract machine). -/
namespace Go.Ab
section
variable {C : Ctx} {eg : TypeId → Bool} {e : Env} {s : St}
theorem OpTo.ofCallV {d : Option Nat} {g : Nat} {fo : Operand} {first cap : Array Value} {ar : Array Operand} {ts : Array TypeId} {ty : TypeId} {ps : String} {af : Array Edge} {gd : Option (Nat × Bool)} {args : List Value} {v : Value} {s' : St} (hf : evalA e fo = .func (.func g) first cap) (ha : mapA (evalA e) ar.toList = args)
    (h : FnTo C eg g (app first.toList (app args cap.toList)) s v s') : OpTo C eg e ⟨d, .call ⟨.value fo, ar, ts⟩, ty, ps, af, gd⟩ s v s' := by
  obtain ⟨n, h⟩ := h
  refine ⟨n, ?_⟩
  show callV C (exec C eg n) (evalA e fo) (mapA (evalA e) ar.toList) s = _
  rw [hf, ha]
  exact h
end
section
variable {C : Ctx} {eg : TypeId → Bool} {all os : List Oper} {loc kept : L} {h : T AObj} {c : Nat} {rl wl : List Nat} {Q : Env → St → Prop} {d : Nat} {ty : TypeId} {ps : String} {af : Array Edge} {g : Option (Nat × Bool)}
theorem Wseq.callV {f : Nat} {fo : Operand} {first cap : Array Value} {ar : Array Operand} {ts : Array TypeId} {args : List Value} {P : Value → St → Prop} (hw : wantedA all (.mk loc kept) ⟨some d, .call ⟨.value fo, ar, ts⟩, ty, ps, af, g⟩ = some true) (hf : evalA (.mk loc kept) fo = .func (.func f) first cap) (ha : mapA (evalA (.mk loc kept)) ar.toList = args)
    (hc : ∃ v s', FnTo C eg f (app first.toList (app args cap.toList)) ⟨h, c, rl, wl⟩ v s' ∧ P v s') (k : ∀ v h' c' r1 w1, P v ⟨h', c', r1, w1⟩ → Wseq C eg all os (.mk (.cons d v loc) kept) ⟨h', c', r1, w1⟩ Q) :
    Wseq C eg all (⟨some d, .call ⟨.value fo, ar, ts⟩, ty, ps, af, g⟩ :: os) (.mk loc kept) ⟨h, c, rl, wl⟩ Q := by
  obtain ⟨v, ⟨h', c', r1, w1⟩, h1, h2⟩ := hc
  exact Wseq.op hw (OpTo.ofCallV hf ha h1) (k v h' c' r1 w1 h2)
end
end Go.Ab
end
section
/- More rules over the abstract machine: cap, copy, append(x, make(..)...), functions that are known. -/
namespace Go.Ab

/-- What is written into a row. -/
theorem setMany_row {o n k : Nat} {cs A B B' D : List Value} (h : subN o n cs = some (A ++ B ++ D)) (hA : A.length = k) (hB : B'.length = B.length) (ha : ∀ x ∈ B', atom x = true) :
    ∃ r, setMany B' cs (o + k) = some r ∧ subN o n r = some (A ++ B' ++ D) := by
  obtain ⟨h1, h2, _⟩ := subN_some _ _ _ _ h
  rw [subN_eq o n cs h2] at h
  have h := Option.some.inj h
  have hcs : cs = cs.take o ++ (A ++ B ++ D) ++ cs.drop (o + n) := by
    rw [← h, List.append_assoc, ← List.drop_drop, List.take_append_drop, List.take_append_drop]
  have hP : (cs.take o).length = o := by rw [List.length_take]; omega
  simp only [List.length_append] at h1
  generalize cs.take o = P at hcs hP
  generalize cs.drop (o + n) = S at hcs
  subst hcs
  subst hA
  refine ⟨P ++ (A ++ B' ++ D) ++ S, ?_, ?_⟩
  · rw [setMany_eq _ _ _ (by simp only [List.length_append]; omega) ha]
    congr 1
    have e1 : P ++ (A ++ B ++ D) ++ S = (P ++ A) ++ (B ++ (D ++ S)) := by simp only [List.append_assoc]
    rw [e1, List.take_left' (by rw [List.length_append]; omega), List.drop_append, List.drop_eq_nil_of_le (by rw [List.length_append]; omega), List.nil_append, List.drop_left' (by rw [List.length_append]; omega)]
    simp only [List.append_assoc]
  · rw [subN_eq _ _ _ (by simp only [List.length_append]; omega)]
    congr 1
    rw [List.append_assoc, List.drop_left' hP, List.take_left' (by simp only [List.length_append]; omega)]

section
variable {C : Ctx} {eg : TypeId → Bool} {e : Env} {s : St} {h : T AObj} {c : Nat} {rl wl : List Nat} {d : Option Nat} {ty : TypeId} {ps : String} {af : Array Edge} {g : Option (Nat × Bool)}

theorem FnTo.of_ex {f : Nat} {args : List Value} {v : Value} {s' : St} {q : List Value → M Value} (hsm : C.sm f = none) (hex : C.ex f = some q) (h : q args s = some (v, s')) : FnTo C eg f args s v s' := by
  refine ⟨0, ?_⟩
  unfold callF
  rw [hsm]
  simp only
  rw [hex]
  exact h
theorem FnTo.of_sm {f : Nat} {args : List Value} {v : Value} {s' : St} {q : List Value → M Value} (hsm : C.sm f = some q) (h : q args s = some (v, s')) : FnTo C eg f args s v s' := by
  refine ⟨0, ?_⟩
  unfold callF
  rw [hsm]
  exact h

theorem to_capX {t : TypeId} {x : Operand} {b o n cap : Nat} (ht : sliceT C t = true) (hx : evalA e x = .slice (some ⟨b, o, none⟩) n cap) :
    OpTo C eg e ⟨d, .call ⟨.builtin .cap, #[x], #[t]⟩, ty, ps, af, g⟩ s (.int .i64 (cap : Int)) s := ⟨0, by
  show opBuiltin C .cap #[t] [evalA e x] s = _
  rw [hx]
  show ((M.lift (nth [t] 0)).bind fun t => opCap C t _) s = _
  rw [bind_run (lift_run (show nth [t] 0 = some t from rfl))]
  unfold sliceT at ht
  unfold opCap
  cases hu : C.und t with
  | none => rw [hu] at ht; cases ht
  | some u =>
    rw [hu] at ht
    cases u <;> first | (cases ht; done) | rfl⟩

theorem to_capI {t : TypeId} {x : Operand} {b o n cap k : Nat} (ht : sliceT C t = true) (hx : evalA e x = .slice (some ⟨b, o, some k⟩) n cap) :
    OpTo C eg e ⟨d, .call ⟨.builtin .cap, #[x], #[t]⟩, ty, ps, af, g⟩ s (.chan (some cap)) s := ⟨0, by
  show opBuiltin C .cap #[t] [evalA e x] s = _
  rw [hx]
  show ((M.lift (nth [t] 0)).bind fun t => opCap C t _) s = _
  rw [bind_run (lift_run (show nth [t] 0 = some t from rfl))]
  unfold sliceT at ht
  unfold opCap
  cases hu : C.und t with
  | none => rw [hu] at ht; cases ht
  | some u =>
    rw [hu] at ht
    cases u <;> first | (cases ht; done) | rfl⟩

/-- An int against one that is at least so much. -/
theorem to_gtrLeast {t t2 : TypeId} {x y : Operand} {z : Int} {m k : Nat} (hx : evalA e x = .int .i64 z) (hy : evalA e y = .chan (some k)) (hz : z = (m : Int)) (hk : m ≤ k) :
    OpTo C eg e ⟨d, .binOp .gtr t x y t2, ty, ps, af, g⟩ s (.bool false) s :=
  to_bin hx hy (by
    subst hz
    show leastGtr .gtr .i64 (m : Int) k = _
    unfold leastGtr
    show (match decide (IntKind.i64 = .i64) && Nat.ble m k with | true => some (Value.bool false) | false => none) = _
    rw [ble_iff.2 hk]
    rfl)

/-- copy(a, x), where something is copied. -/
theorem to_copy {t et xt : TypeId} {a x : Operand} {n by_ j dl xl cp cap b0 o0 ob off : Nat} {sp0 sp : Option Nat} {z cs cs0 r r0 : List Value} (ht : C.row t = some (et, n, by_, z)) (ha : evalA e a = .slice (some ⟨b0, o0, sp0⟩) dl cp) (hx : evalA e x = .slice (some ⟨ob, off, sp⟩) xl cap)
    (hj : Nat.min xl dl = j + 1) (hb : Cel h ob cs) (hc : ob < c) (hs : subN off ((j + 1) * n) cs = some r) (hne : r ≠ []) (h0 : Has h b0 (.cells cs0)) (hc0 : b0 < c) (hr : setMany r cs0 o0 = some r0) :
    OpTo C eg e ⟨d, .call ⟨.builtin .copy, #[a, x], #[t, xt]⟩, ty, ps, af, g⟩ ⟨h, c, rl, wl⟩ (.int .i64 ((j + 1 : Nat) : Int)) ⟨h.set b0 (some (.cells r0)), c, b0 :: ob :: rl, b0 :: wl⟩ := ⟨0, by
  show opCopy C #[t, xt] (evalA e a) (evalA e x) _ = _
  rw [ha, hx]
  unfold opCopy
  rw [show nth (#[t, xt] : Array TypeId).toList 0 = some t from rfl, show lenA (.slice (some ⟨ob, off, sp⟩) xl cap) = some xl from rfl]
  simp only
  rw [bind_run (lift_run ht)]
  simp only
  rw [hj]
  have hfirst : firstA n (j + 1) (.slice (some ⟨ob, off, sp⟩) xl cap) ⟨h, c, rl, wl⟩ = some (r, ⟨h, c, ob :: rl, wl⟩) := by
    unfold firstA
    simp only [ble_iff.2 (show j + 1 ≤ xl by have := Nat.min_le_left xl dl; have e : Nat.min xl dl = min xl dl := rfl; omega)]
    exact readCells_run hb hc hs
  rw [bind_run hfirst]
  cases r with
  | nil => exact absurd rfl hne
  | cons y ys =>
    simp only
    rw [bind_run (writeCells_run h0 hc0 hr)]
    rfl⟩

noncomputable def intT (C : Ctx) (t : TypeId) : Bool := match C.und t with | some (.int _) => true | _ => false

theorem appendedN_run {n m : Nat} {z : List Value} {xt : TypeId} {j : IntKind} (hu : intT C xt = true) (hm : m ≤ big) : appended C n z (some xt) (.int j (m : Int)) s = some ((m, rep z m), s) := by
  unfold appended
  unfold intT at hu
  cases hw : C.und xt with
  | none => rw [hw] at hu; cases hu
  | some w =>
    rw [hw] at hu
    cases w <;> first | (cases hu; done) | skip
    simp only [hw]
    rw [bind_run (lift_run (show natOf (.int j (m : Int)) = some m from rfl))]
    simp only [ble_iff.2 hm]
    rfl

/-- append(x, make(.., m)...) onto a slice that is full, where there is no room. -/
theorem to_appMake0 {t et xt : TypeId} {a x : Operand} {n by_ cp m b0 o0 : Nat} {j : IntKind} {y : Int} {z : List Value} (ht : C.row t = some (et, n, by_, z)) (hu : intT C xt = true) (ha : evalA e a = .slice (some ⟨b0, o0, none⟩) 0 cp) (hx : evalA e x = .int j y) (hy : y = (m : Int))
    (hroom : cp < 0 + m) (hbig : 0 + m ≤ big) (hf : Fresh h c) :
    OpTo C eg e ⟨d, .call ⟨.builtin .append, #[a, x], #[t, xt]⟩, ty, ps, af, g⟩ ⟨h, c, rl, wl⟩ (.slice (some ⟨c, 0, some n⟩) (0 + m) (0 + m)) ⟨h.set c (some (.cells ([] ++ rep z m))), c + 1, rl, wl⟩ := ⟨0, by
  subst hy
  show opAppend C #[t, xt] (evalA e a) (evalA e x) _ = _
  rw [ha, hx]
  unfold opAppend
  rw [show nth (#[t, xt] : Array TypeId).toList 0 = some t from rfl]
  simp only
  rw [bind_run (lift_run ht)]
  simp only
  have happ : appended C n z (nth #[t, xt].toList 1) (.int j (m : Int)) ⟨h, c, rl, wl⟩ = _ := appendedN_run (z := z) hu (by omega)
  rw [bind_run happ]
  simp only [show Nat.ble (0 + m) cp = false from ble_false.2 (by omega), show fitsA by_ (0 + m) = true from fitsA_big hbig]
  rw [bind_run (show firstA n 0 _ _ = some ([], ⟨h, c, rl, wl⟩) from rfl), app_eq, bind_run (newCells_run hf)]
  rfl⟩
theorem to_appMake {t et xt : TypeId} {a x : Operand} {n by_ ln cp m b0 o0 : Nat} {j : IntKind} {y : Int} {z cs0 old : List Value} (ht : C.row t = some (et, n, by_, z)) (hu : intT C xt = true) (ha : evalA e a = .slice (some ⟨b0, o0, none⟩) (ln + 1) cp) (hx : evalA e x = .int j y) (hy : y = (m : Int))
    (hroom : cp < ln + 1 + m) (hbig : ln + 1 + m ≤ big) (h0 : Cel h b0 cs0) (hc0 : b0 < c) (hs0 : subN o0 ((ln + 1) * n) cs0 = some old) (hf : Fresh h c) :
    OpTo C eg e ⟨d, .call ⟨.builtin .append, #[a, x], #[t, xt]⟩, ty, ps, af, g⟩ ⟨h, c, rl, wl⟩ (.slice (some ⟨c, 0, some n⟩) (ln + 1 + m) (ln + 1 + m)) ⟨h.set c (some (.cells (old ++ rep z m))), c + 1, b0 :: rl, wl⟩ := ⟨0, by
  subst hy
  show opAppend C #[t, xt] (evalA e a) (evalA e x) _ = _
  rw [ha, hx]
  unfold opAppend
  rw [show nth (#[t, xt] : Array TypeId).toList 0 = some t from rfl]
  simp only
  rw [bind_run (lift_run ht)]
  simp only
  have happ : appended C n z (nth #[t, xt].toList 1) (.int j (m : Int)) ⟨h, c, rl, wl⟩ = _ := appendedN_run (z := z) hu (by omega)
  rw [bind_run happ]
  simp only [show Nat.ble (ln + 1 + m) cp = false from ble_false.2 (by omega), show fitsA by_ (ln + 1 + m) = true from fitsA_big hbig]
  have hfirst : firstA n (ln + 1) (.slice (some ⟨b0, o0, none⟩) (ln + 1) cp) ⟨h, c, rl, wl⟩ = some (old, ⟨h, c, b0 :: rl, wl⟩) := by
    unfold firstA
    simp only [ble_iff.2 (Nat.le_refl (ln + 1))]
    exact readCells_run h0 hc0 hs0
  rw [bind_run hfirst, app_eq, bind_run (newCells_run hf)]
  rfl⟩

/-- append(x, xs...) onto a slice that is full. -/
theorem to_appFull {t et xt : TypeId} {a x : Operand} {n by_ k cap ln cp b0 o0 : Nat} {z cs r cs0 old : List Value} {sp : Option Nat} {ob off : Nat} (ht : C.row t = some (et, n, by_, z)) (hu : sliceT C xt = true) (ha : evalA e a = .slice (some ⟨b0, o0, none⟩) (ln + 1) cp) (hx : evalA e x = .slice (some ⟨ob, off, sp⟩) (k + 1) cap)
    (hb : Cel h ob cs) (hc : ob < c) (hs : subN off ((k + 1) * n) cs = some r) (hroom : cp < ln + 1 + (k + 1)) (hbig : ln + 1 + (k + 1) ≤ big) (h0 : Cel h b0 cs0) (hc0 : b0 < c) (hs0 : subN o0 ((ln + 1) * n) cs0 = some old) (hf : Fresh h c) :
    OpTo C eg e ⟨d, .call ⟨.builtin .append, #[a, x], #[t, xt]⟩, ty, ps, af, g⟩ ⟨h, c, rl, wl⟩ (.slice (some ⟨c, 0, some n⟩) (ln + 1 + (k + 1)) (ln + 1 + (k + 1))) ⟨h.set c (some (.cells (old ++ r))), c + 1, b0 :: ob :: rl, wl⟩ := ⟨0, by
  show opAppend C #[t, xt] (evalA e a) (evalA e x) _ = _
  rw [ha, hx]
  unfold opAppend
  rw [show nth (#[t, xt] : Array TypeId).toList 0 = some t from rfl]
  simp only
  rw [bind_run (lift_run ht)]
  simp only
  have happ : appended C n z (nth #[t, xt].toList 1) (.slice (some ⟨ob, off, sp⟩) (k + 1) cap) ⟨h, c, rl, wl⟩ = _ := appended_run (z := z) hu hb hc hs
  rw [bind_run happ]
  simp only [show Nat.ble (ln + 1 + (k + 1)) cp = false from ble_false.2 (by omega), show fitsA by_ (ln + 1 + (k + 1)) = true from fitsA_big hbig]
  have hfirst : firstA n (ln + 1) (.slice (some ⟨b0, o0, none⟩) (ln + 1) cp) ⟨h, c, ob :: rl, wl⟩ = some (old, ⟨h, c, b0 :: ob :: rl, wl⟩) := by
    unfold firstA
    simp only [ble_iff.2 (Nat.le_refl (ln + 1))]
    exact readCells_run h0 hc0 hs0
  rw [bind_run hfirst, app_eq, bind_run (newCells_run hf)]
  rfl⟩

/-- append(x, xs...), where there is room. -/
theorem to_appRoom {t et xt : TypeId} {a x : Operand} {n by_ k cap ln cp b0 o0 : Nat} {sp0 : Option Nat} {z cs r cs0 r0 : List Value} {sp : Option Nat} {ob off : Nat} (ht : C.row t = some (et, n, by_, z)) (hu : sliceT C xt = true) (ha : evalA e a = .slice (some ⟨b0, o0, sp0⟩) ln cp) (hx : evalA e x = .slice (some ⟨ob, off, sp⟩) (k + 1) cap)
    (hb : Cel h ob cs) (hc : ob < c) (hs : subN off ((k + 1) * n) cs = some r) (hne : r ≠ []) (hroom : ln + (k + 1) ≤ cp) (h0 : Has h b0 (.cells cs0)) (hc0 : b0 < c) (hr : setMany r cs0 (o0 + ln * n) = some r0) :
    OpTo C eg e ⟨d, .call ⟨.builtin .append, #[a, x], #[t, xt]⟩, ty, ps, af, g⟩ ⟨h, c, rl, wl⟩ (.slice (some ⟨b0, o0, sp0⟩) (ln + (k + 1)) cp) ⟨h.set b0 (some (.cells r0)), c, b0 :: ob :: rl, b0 :: wl⟩ := ⟨0, by
  show opAppend C #[t, xt] (evalA e a) (evalA e x) _ = _
  rw [ha, hx]
  unfold opAppend
  rw [show nth (#[t, xt] : Array TypeId).toList 0 = some t from rfl]
  simp only
  rw [bind_run (lift_run ht)]
  simp only
  have happ : appended C n z (nth #[t, xt].toList 1) (.slice (some ⟨ob, off, sp⟩) (k + 1) cap) ⟨h, c, rl, wl⟩ = _ := appended_run (z := z) hu hb hc hs
  rw [bind_run happ]
  simp only [show Nat.ble (ln + (k + 1)) cp = true from ble_iff.2 hroom]
  cases r with
  | nil => exact absurd rfl hne
  | cons y ys =>
    simp only
    rw [bind_run (writeCells_run h0 hc0 hr)]
    rfl⟩
/-- x[len(x):] of a slice that is full. -/
theorem to_sliceEnd {t : TypeId} {x lo : Operand} {b o len n : Nat} {j : IntKind} {z : Int} (ht : elemAt C t = some n) (hx : evalA e x = .slice (some ⟨b, o, none⟩) len len) (hl : evalA e lo = .int j z) (hz : z = (len : Int)) :
    OpTo C eg e ⟨d, .slice t x (some lo) none none, ty, ps, af, g⟩ s (.slice (some ⟨b, o, none⟩) (len - len) (len - len)) s := ⟨0, by
  show opSlice C t (evalA e x) ((some lo).map (evalA e)) ((none : Option Operand).map (evalA e)) ((none : Option Operand).map (evalA e)) s = _
  subst hz
  simp only [Option.map_some, Option.map_none]
  rw [hx, hl]
  unfold elemAt at ht
  unfold opSlice
  cases hu : C.und t with
  | none => rw [hu] at ht; cases ht
  | some u =>
    rw [hu] at ht
    cases u <;> first | (cases ht; done) | skip
    simp only at ht ⊢
    rw [bind_run (lift_run ht)]
    have hb : boundsA len len (some (.int j (len : Int))) none none = some (len, len, len) := by
      unfold boundsA
      simp only
      show (match boundA none len len with | none => none | some m => _) = _
      simp only [boundA]
      rw [show natOf (.int j (len : Int)) = some len from rfl]
      simp only [ble_iff.2 (Nat.le_refl len)]
    rw [bind_run (lift_run hb)]
    simp only [Nat.beq_refl]
    rfl⟩
end
end Go.Ab
end
