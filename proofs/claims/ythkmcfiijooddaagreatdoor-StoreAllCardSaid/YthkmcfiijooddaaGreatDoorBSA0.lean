/- Texts cut; an error's code; both stores side by side (the abstract machine). -/
import Derived.Test.YthkmcfiijooddaaGreatDoorE48
import Derived.Test.YthkmcfiijooddaaGreatDoorBSR2
import Derived.Test.YthkmcfiijooddaaGreatDoorBSR4
import Derived.Test.YthkmcfiijooddaaGreatDoorBSR5
set_option linter.unusedVariables false
set_option linter.unusedSimpArgs false
namespace Go.Ab.Seat
open Go.Extern Go.Proofs
set_option linter.unusedSimpArgs false
set_option linter.unusedVariables false
set_option maxRecDepth 4000
set_option pp.deepTerms false
set_option pp.deepTerms.threshold 6
variable {sm : Nat → Option (List Value → M Value)}

theorem text_spec (H : Std sm) {h : T AObj} {c : Nat} {rl wl : List Nat} (hf : Fresh h c) (s : ByteArray) (n : Nat) :
    ∃ v s', FnTo (Cs sm) eg 31 [.string s, .int .i64 (n : Int)] ⟨h, c, rl, wl⟩ v s' ∧ (v = .string (s.extract 0 (min s.size n)) ∧ s' = ⟨h, c, rl, wl⟩) := by
  refine Fn.go (H 31 rfl) ex31 fn31 km31 rfl rfl ?_
  intro e he
  (simp only [ke, Nat.testBit, Nat.reduceShiftRight, Nat.reduceAnd, Nat.reduceBNe, Nat.reduceEqDiff, Nat.reduceAdd, ↓reduceIte, reduceCtorEq, Bool.false_eq_true] at he; subst he)
  (repeat (first | (with_reducible refine Then.go ?_) | (with_reducible refine Wx.seq ?_) | (with_reducible refine Wx.reg ?_) | ((with_reducible refine Wseq.nil ?_); intro e he; (simp only [ke, Nat.testBit, Nat.reduceShiftRight, Nat.reduceAnd, Nat.reduceBNe, Nat.reduceEqDiff, Nat.reduceAdd, ↓reduceIte, reduceCtorEq, Bool.false_eq_true] at he; subst he)) | ((with_reducible apply Wseq.mv); rfl; (intro v hv; (simp only [kv, Nat.reduceEqDiff, eq_self, ↓reduceIte, reduceCtorEq, List.map_cons, List.map_nil] at hv); subst hv)) | ((with_reducible apply Wseq.as); rfl; (intro v hv; (simp only [kv, Nat.reduceEqDiff, eq_self, ↓reduceIte, reduceCtorEq, List.map_cons, List.map_nil] at hv); subst hv)) | ((with_reducible apply Wseq.stg (op := Op.call ⟨Callee.builtin Builtin.len, _, _⟩)); rfl; exact to_lenStr (sr_ rfl) rfl) | ((with_reducible apply Wseq.stg (op := Op.call ⟨Callee.builtin Builtin.min, _, _⟩)); rfl; exact to_min rfl rfl)))
  ((with_reducible apply Wseq.stg); (focus rfl); (focus (exact to_sliceStr (k := min s.size n) (sr_ rfl) rfl rfl (by omega) (by omega))))
  (repeat (first | (with_reducible refine Then.go ?_) | (with_reducible refine Wx.ret ?_) | ((with_reducible refine Wseq.nil ?_); intro e he; (simp only [ke, Nat.testBit, Nat.reduceShiftRight, Nat.reduceAnd, Nat.reduceBNe, Nat.reduceEqDiff, Nat.reduceAdd, ↓reduceIte, reduceCtorEq, Bool.false_eq_true] at he; subst he)) | ((with_reducible apply Wseq.as); rfl; (intro v hv; (simp only [kv, Nat.reduceEqDiff, eq_self, ↓reduceIte, reduceCtorEq, List.map_cons, List.map_nil] at hv); subst hv))))
  exact ⟨.inr rfl, Wres.one rfl ⟨rfl, rfl⟩⟩

/-- The code of an error, or of none. -/
theorem codeE_spec {h : T AObj} {c a b : Nat} {rl wl : List Nat} (hf : Fresh h c) (hg : Glob h) {r : Value} {z : Int} (hE : ErrIs h a b r z) :
    ∃ v s', FnTo (Cs smQ) eg 15 [r] ⟨h, c, rl, wl⟩ v s' ∧ (v = .int .i64 z ∧ ∃ l, s' = ⟨h, c, l ++ rl, wl⟩) := by
  rcases hE with ⟨rfl, rfl⟩ | ⟨_, hc, b4, w4, rfl, _, _, B⟩
  · obtain ⟨v, s', h1, h2, h3⟩ := code_nil (rl := rl) (wl := wl) hf hg
    exact ⟨v, s', h1, h2, [0, 1], h3⟩
  · obtain ⟨v, s', h1, h2, h3⟩ := code_at (rl := rl) (wl := wl) hf hg B hc
    exact ⟨v, s', h1, h2, [b4, 0, 1], h3⟩

theorem ErrIs.keep {h h' : T AObj} {a b : Nat} {r : Value} {z : Int} (x : ErrIs h a b r z) (k : ∀ y, a ≤ y → y < b → h'.get y = h.get y) : ErrIs h' a b r z := by
  rcases x with x | ⟨h1, h2, b4, w4, h3, h4, h5, h6⟩
  · exact .inl x
  · exact .inr ⟨h1, h2, b4, w4, h3, h4, h5, (k b4 h4 h5).trans h6⟩

/-- What is told: an item or nothing. -/
def rcO (o : Option Rc) : Rc := o.getD rc0
def Tell (h : T AObj) (r : Value) (o : Option Rc) : Prop := ∃ i0 a0 n0 k0 p0 s0 g0 b0, r = .tuple #[itv i0 (.slice a0 n0 k0) p0 s0 g0, .bool b0] ∧ b0 = o.isSome ∧ ItemOf h (itv i0 (.slice a0 n0 k0) p0 s0 g0) (rcO o)

theorem tellS {h : T AObj} {c : Nat} {r : Value} {o : Option Rc} (hx : o = none ∧ r = .tuple #[it0, .bool false] ∨ ∃ x v, o = some x ∧ r = .tuple #[v, .bool true] ∧ Told h c x v) (hz : ∀ x, o = some x → ∃ zs : List Int, x.xs = zs.map (Value.int .i32)) : Tell h r o := by
  rcases hx with ⟨rfl, rfl⟩ | ⟨x, v, rfl, rfl, hT⟩
  · exact ⟨_, _, _, _, _, _, _, _, rfl, rfl, itemOf0 h⟩
  · have hI := hT.item (hz x rfl)
    obtain ⟨w, rfl, ho⟩ := hT
    obtain ⟨a, k, rfl⟩ := ho.val
    exact ⟨_, _, _, _, _, _, _, _, rfl, rfl, hI⟩
theorem tellR {h : T AObj} {r : Value} {o : Option Rc} (hx : o = none ∧ r = .tuple #[it0, .bool false] ∨ ∃ x aw kw, o = some x ∧ r = .tuple #[itv x.id (.slice aw x.xs.length kw) x.pay x.seq x.gone, .bool true] ∧ Row h (.slice aw x.xs.length kw) x.xs.length 1 x.xs) (hz : ∀ x, o = some x → ∃ zs : List Int, x.xs = zs.map (Value.int .i32)) : Tell h r o := by
  rcases hx with ⟨rfl, rfl⟩ | ⟨x, aw, kw, rfl, rfl, hT⟩
  · exact ⟨_, _, _, _, _, _, _, _, rfl, rfl, itemOf0 h⟩
  · exact ⟨_, _, _, _, _, _, _, _, rfl, rfl, _, rfl, hT, hz x rfl⟩

/-- The program's store and the reference's, with the same records. -/
structure SA (h0 : T AObj) (c : Nat) (h : T AObj) (c' : Nat) (M : List Rc) : Prop where
  f : Fresh h c'
  le : c + 3 ≤ c'
  kp : Kp h0 h c (fun _ => False)
  ex : ∃ U V : Nat → Prop, StM h (c + 1) c M U ∧ RefM h (c + 2) M V ∧ (∀ b, U b → c ≤ b ∧ b < c' ∧ ¬V b) ∧ ∀ b, V b → c + 2 ≤ b ∧ b < c'

theorem SA.keep {h0 : T AObj} {c : Nat} {h h2 : T AObj} {c' c2 : Nat} {M : List Rc} (x : SA h0 c h c' M) (hf : Fresh h2 c2) (hc : c' ≤ c2) (K : Kp h h2 c' (fun _ => False)) : SA h0 c h2 c2 M := by
  have l1 := x.le
  obtain ⟨U, V, e1, e2, e3, e4⟩ := x.ex
  exact ⟨hf, by omega, fun b hb q => (K b (by omega) (fun q => q)).trans (x.kp b hb q), U, V, e1.keep x.f fun b hb hl => K b hl (fun q => q), e2.keep x.f fun b hb hl => K b hl (fun q => q), fun b hb => ⟨(e3 b hb).1, by have := (e3 b hb).2.1; omega, (e3 b hb).2.2⟩, fun b hb => ⟨(e4 b hb).1, by have := (e4 b hb).2; omega⟩⟩
theorem SA.call {h0 : T AObj} {c : Nat} {h h3 : T AObj} {c' c3 : Nat} {rl wl rl' wl' : List Nat} {M : List Rc} {R : Nat → Prop} (x : SA h0 c h c' M) (e : Ext ⟨h, c', rl, wl⟩ ⟨h3, c3, rl', wl'⟩ R (fun _ => False)) : SA h0 c h3 c3 M :=
  x.keep e.fresh e.c fun b hb q => e.get hb (fun q => q)
theorem SA.rng {h0 : T AObj} {c : Nat} {h : T AObj} {c' : Nat} {M : List Rc} (x : SA h0 c h c' M) : M.length ≤ 1000 ∧ ∀ r ∈ M, r.xs.length ≤ big ∧ ∃ zs : List Int, r.xs = zs.map (Value.int .i32) := by
  obtain ⟨U, V, e1, _⟩ := x.ex
  exact ⟨e1.len, fun r hr => ⟨(e1.rng r hr).2.2.1, (e1.rng r hr).2.2.2⟩⟩

/-- Both have been turned alike, one behind the other. -/
theorem SA.both {h0 : T AObj} {c : Nat} {h h2 h3 h4 : T AObj} {c' c2 c3 c4 : Nat} {rl wl rl' wl' rl2 wl2 rl3 wl3 : List Nat} {M M' : List Rc} {R R' U V U' V' : Nat → Prop} (x : SA h0 c h c' M) (hU : ∀ b, U b → c ≤ b ∧ b < c' ∧ ¬V b) (hV : ∀ b, V b → c + 2 ≤ b ∧ b < c') (hc : c' ≤ c2) (K : Kp h h2 c' (fun _ => False))
    (x3 : Ext ⟨h2, c2, rl, wl⟩ ⟨h3, c3, rl', wl'⟩ R (fun b => b = c)) (q3 : StM h3 (c + 1) c M' U') (hU' : ∀ b, U' b → U b ∨ c2 ≤ b ∧ b < c3) (x4 : Ext ⟨h3, c3, rl2, wl2⟩ ⟨h4, c4, rl3, wl3⟩ R' V) (q4 : RefM h4 (c + 2) M' V') (hV' : ∀ b, V' b → V b ∨ c3 ≤ b ∧ b < c4) : SA h0 c h4 c4 M' := by
  have l1 := x.le
  have l2 := x3.c
  have l3 := x4.c
  dsimp only at l2 l3
  have f3 : Fresh h3 c3 := x3.fresh
  refine ⟨x4.fresh, by omega, fun b hb q => ?_, U', V', q3.keep f3 fun b hb hl => x4.get hl fun q => ?_, q4, fun b hb => ?_, fun b hb => ?_⟩
  · rw [x4.get (by omega) (fun q => by have := hV b q; omega), x3.get (by omega) (by omega), K b (by omega) (fun q => q)]
    exact x.kp b hb q
  · rcases hU' b hb with h1 | h1
    · exact (hU b h1).2.2 q
    · have := hV b q
      omega
  · rcases hU' b hb with h1 | h1
    · obtain ⟨g1, g2, g3⟩ := hU b h1
      refine ⟨g1, by omega, fun q => ?_⟩
      rcases hV' b q with h2 | h2
      · exact g3 h2
      · omega
    · refine ⟨by omega, by omega, fun q => ?_⟩
      rcases hV' b q with h2 | h2
      · have := hV b h2
        omega
      · omega
  · rcases hV' b hb with h2 | h2
    · have := hV b h2
      omega
    · omega
end Go.Ab.Seat
