import Derived.Test.YtcnfbfiakkjabaaGreatDoorDST5
import Derived.Test.YtcnfbfiakkjabaaGreatDoorE51
set_option linter.unusedVariables false
set_option linter.unusedSimpArgs false
section
/- Hits compared; a vector's score; a metric (the abstract machine). -/
namespace Go.Ab.Seat
open Go.Extern Go.Proofs
set_option linter.unusedSimpArgs false
set_option linter.unusedVariables false
set_option maxRecDepth 4000
set_option pp.deepTerms false
set_option pp.deepTerms.threshold 6
variable {sm : Nat → Option (List Value → M Value)}

/-- A hit. -/
abbrev hitv (id sc : Int) : Value := .agg ⟨[.int .i64 id, .int .i64 sc]⟩
structure Ht where
  id : Int
  sc : Int
def Ht.val (x : Ht) : Value := hitv x.id x.sc
def Ht.cells (x : Ht) : List Value := [.int .i64 x.id, .int .i64 x.sc]
/-- The better one first. -/
def lessH (a b : Ht) : Bool := if a.sc = b.sc then decide (a.id < b.id) else decide (a.sc < b.sc)

theorem less_spec (H : Std sm) {h : T AObj} {c : Nat} {rl wl : List Nat} (hf : Fresh h c) (a b : Ht) :
    ∃ r s', FnTo (Cs sm) eg 93 [hitv a.id a.sc, hitv b.id b.sc] ⟨h, c, rl, wl⟩ r s' ∧ r = .bool (lessH a b) ∧ Ext ⟨h, c, rl, wl⟩ s' (fun _ => False) (fun _ => False) := by
  refine Fn.go (H 93 rfl) ex93 fn93 km93 rfl rfl ?_
  intro e he
  (simp (decide := true) only [kz] at he; subst he)
  by_cases h1 : a.sc = b.sc
  · (repeat (first | (with_reducible refine Then.go ?_) | (with_reducible refine Wx.seq ?_) | (with_reducible refine Wx.skip ?_) | (with_reducible refine Wx.ret ?_) | (with_reducible refine Wx.reg ?_) | (refine Wx.condF rfl (by rfl) ?_) | ((with_reducible refine Wseq.nil ?_); intro e he; (simp (decide := true) only [kz] at he; subst he)) | ((with_reducible apply Wseq.as); rfl; (intro v hv; (simp (decide := true) only [kw] at hv); subst hv)) | ((with_reducible apply Wseq.bx); rfl; exact (by ((repeat (apply Fresh.put; omega)); (first | (assumption) | (exact Fresh.up (by assumption) (by omega))))); (intro v hv; (simp (decide := true) only [kw] at hv); subst hv); refine ⟨_, (by ((exact cellsA_agg _))), ?_⟩) | ((with_reducible apply Wseq.stg (op := Op.fieldAddr _ _ _)); rfl; exact to_fieldAddr (fa_ rfl) rfl) | ((with_reducible apply Wseq.stg (op := Op.load _ _)); rfl; exact to_load (pl_ rfl) rfl (by (repeat (first | (exact Has.same.cel) | (apply Cel.other; omega)))) (by omega) (by rfl)) | ((with_reducible apply Wseq.stg (op := Op.binOp BinOp.lss _ _ _ _)); rfl; exact to_lss rfl rfl) | ((with_reducible apply Wseq.stg (op := Op.binOp BinOp.neq _ _ _ _)); rfl; exact to_neIF rfl rfl (by omega))))
    refine ⟨.inr rfl, Wres.one rfl ⟨?_, ?_⟩⟩
    · unfold lessH
      rw [if_pos h1]
      rfl
    · (dsimp only; exact Ext.of (by omega) (by ((repeat (apply Fresh.put; omega)); ((exact Fresh.up (by assumption) (by omega))))) (by (repeat (first | (exact Kp.refl) | (apply Kp.set; (focus (left; omega)))))) (by (repeat (first | (exact Lg.nil) | (apply Lg.cons; (focus (left; omega)))))) (by (repeat ((exact Lg.nil)))))
  · (repeat (first | (with_reducible refine Then.go ?_) | (with_reducible refine Then.rt ?_) | (with_reducible refine Wx.seq ?_) | (with_reducible refine Wx.ret ?_) | (with_reducible refine Wx.reg ?_) | (refine Wx.condT rfl (by rfl) ?_) | ((with_reducible refine Wseq.nil ?_); intro e he; (simp (decide := true) only [kz] at he; subst he)) | ((with_reducible apply Wseq.as); rfl; (intro v hv; (simp (decide := true) only [kw] at hv); subst hv)) | ((with_reducible apply Wseq.bx); rfl; exact (by ((repeat (apply Fresh.put; omega)); (first | (assumption) | (exact Fresh.up (by assumption) (by omega))))); (intro v hv; (simp (decide := true) only [kw] at hv); subst hv); refine ⟨_, (by ((exact cellsA_agg _))), ?_⟩) | ((with_reducible apply Wseq.stg (op := Op.fieldAddr _ _ _)); rfl; exact to_fieldAddr (fa_ rfl) rfl) | ((with_reducible apply Wseq.stg (op := Op.load _ _)); rfl; exact to_load (pl_ rfl) rfl (by (repeat (first | (exact Has.same.cel) | (apply Cel.other; omega)))) (by omega) (by rfl)) | ((with_reducible apply Wseq.stg (op := Op.binOp BinOp.lss _ _ _ _)); rfl; exact to_lss rfl rfl) | ((with_reducible apply Wseq.stg (op := Op.binOp BinOp.neq _ _ _ _)); rfl; exact to_neIT rfl rfl (by omega))))
    refine ⟨.inr rfl, Wres.one rfl ⟨?_, ?_⟩⟩
    · unfold lessH
      rw [if_neg h1]
      rfl
    · (dsimp only; exact Ext.of (by omega) (by ((repeat (apply Fresh.put; omega)); ((exact Fresh.up (by assumption) (by omega))))) (by (repeat (first | (exact Kp.refl) | (apply Kp.set; (focus (left; omega)))))) (by (repeat (first | (exact Lg.nil) | (apply Lg.cons; (focus (left; omega)))))) (by (repeat ((exact Lg.nil)))))

theorem known_spec (H : Std sm) {h : T AObj} {c : Nat} {rl wl : List Nat} (hf : Fresh h c) (m : Int) (hm : m = 1 ∨ m = 2) :
    ∃ r s', FnTo (Cs sm) eg 45 [.int .i64 m] ⟨h, c, rl, wl⟩ r s' ∧ (r = .bool true ∧ s' = ⟨h, c, rl, wl⟩) := by
  refine Fn.go (H 45 rfl) ex45 fn45 km45 rfl rfl ?_
  intro e he
  (simp (decide := true) only [kz] at he; subst he)
  rcases hm with rfl | rfl
  · (repeat (first | (with_reducible refine Then.go ?_) | (with_reducible refine Wx.seq ?_) | (with_reducible refine Wx.ret ?_) | (with_reducible refine Wx.reg ?_) | ((with_reducible refine Wseq.nil ?_); intro e he; (simp (decide := true) only [kz] at he; subst he)) | ((with_reducible apply Wseq.mv); rfl; (intro v hv; (simp (decide := true) only [kw] at hv); subst hv)) | ((with_reducible apply Wseq.as); rfl; (intro v hv; (simp (decide := true) only [kw] at hv); subst hv)) | ((with_reducible apply Wseq.pkT); rfl; rfl; (intro v hv; (simp (decide := true) only [kw] at hv); subst hv)) | ((with_reducible apply Wseq.stg (op := Op.binOp BinOp.eql _ _ _ _)); rfl; exact to_eqIT rfl rfl (by omega)) | (refine Wseq.no rfl ?_)))
    exact ⟨.inr rfl, Wres.one rfl ⟨rfl, rfl⟩⟩
  · (repeat (first | (with_reducible refine Then.go ?_) | (with_reducible refine Wx.seq ?_) | (with_reducible refine Wx.ret ?_) | (with_reducible refine Wx.reg ?_) | ((with_reducible refine Wseq.nil ?_); intro e he; (simp (decide := true) only [kz] at he; subst he)) | ((with_reducible apply Wseq.mv); rfl; (intro v hv; (simp (decide := true) only [kw] at hv); subst hv)) | ((with_reducible apply Wseq.as); rfl; (intro v hv; (simp (decide := true) only [kw] at hv); subst hv)) | ((with_reducible apply Wseq.pkF); rfl; rfl; (intro v hv; (simp (decide := true) only [kw] at hv); subst hv)) | ((with_reducible apply Wseq.stg (op := Op.binOp BinOp.eql _ _ _ _)); rfl; exact to_eqIT rfl rfl (by omega)) | ((with_reducible apply Wseq.stg (op := Op.binOp BinOp.eql _ _ _ _)); rfl; exact to_eqIF rfl rfl (by omega))))
    exact ⟨.inr rfl, Wres.one rfl ⟨rfl, rfl⟩⟩

/-- A flat index, made. -/
theorem fnew_spec (H : Std sm) {h : T AObj} {c : Nat} {rl wl : List Nat} (hf : Fresh h c) (m : Int) (hm : m = 1 ∨ m = 2) :
    ∃ r s', FnTo (Cs sm) eg 11 [.int .i64 m] ⟨h, c, rl, wl⟩ r s' ∧ (r = .pointer (some ⟨c + 1, 0, none⟩) ∧ Has s'.h c (.map [] 0) ∧ Has s'.h (c + 1) (.cells [.int .i64 m, .map (some c)]) ∧ s'.c = c + 2) ∧ Ext ⟨h, c, rl, wl⟩ s' (fun _ => False) (fun _ => False) := by
  refine Fn.go (H 11 rfl) ex11 fn11 km11 rfl rfl ?_
  intro e he
  (simp (decide := true) only [kz] at he; subst he)
  (repeat (first | (with_reducible refine Then.go ?_) | (with_reducible refine Wx.seq ?_) | (with_reducible refine Wx.reg ?_) | ((with_reducible refine Wseq.nil ?_); intro e he; (simp (decide := true) only [kz] at he; subst he)) | ((with_reducible apply Wseq.mv); rfl; (intro v hv; (simp (decide := true) only [kw] at hv); subst hv)) | ((with_reducible apply Wseq.as); rfl; (intro v hv; (simp (decide := true) only [kw] at hv); subst hv))))
  refine Wseq.call rfl rfl (known_spec H (by ((repeat (apply Fresh.put; omega)); ((assumption)))) m hm) ?_
  rintro v h1 c1 r1 w1 ⟨rfl, e1⟩
  cases e1
  (repeat (first | (with_reducible refine Then.go ?_) | (with_reducible refine Wx.seq ?_) | (with_reducible refine Wx.skip ?_) | (with_reducible refine Wx.ret ?_) | (with_reducible refine Wx.reg ?_) | (refine Wx.condF rfl (by rfl) ?_) | ((with_reducible refine Wseq.nil ?_); intro e he; (simp (decide := true) only [kz] at he; subst he)) | ((with_reducible apply Wseq.mv); rfl; (intro v hv; (simp (decide := true) only [kw] at hv); subst hv)) | ((with_reducible apply Wseq.as); rfl; (intro v hv; (simp (decide := true) only [kw] at hv); subst hv)) | ((with_reducible apply Wseq.bx); rfl; exact (by ((repeat (apply Fresh.put; omega)); ((exact Fresh.up (by assumption) (by omega))))); (intro v hv; (simp (decide := true) only [kw] at hv); subst hv); refine ⟨_, (by ((exact cellsA_agg _))), ?_⟩) | ((with_reducible apply Wseq.bd); rfl; exact (bt_ rfl); (intro v hv; (simp (decide := true) only [kw] at hv); subst hv); refine ⟨_, rfl, ?_⟩) | ((with_reducible apply Wseq.stg (op := Op.unOp UnOp.not _ _)); rfl; exact to_notT rfl) | ((with_reducible apply Wseq.stg (op := Op.makeMap _ _)); rfl; exact to_makeMap (by ((repeat (apply Fresh.put; omega)); ((assumption)))))))
  refine ⟨.inr rfl, Wres.one rfl ⟨⟨rfl, Has.other (by omega) Has.same, Has.same, rfl⟩, ?_⟩⟩
  (dsimp only; exact Ext.of (by omega) (by ((repeat (apply Fresh.put; omega)); ((exact Fresh.up (by assumption) (by omega))))) (by (repeat (first | (exact Kp.refl) | (apply Kp.set; (focus (left; omega)))))) (by (repeat ((exact Lg.nil)))) (by (repeat ((exact Lg.nil)))))

theorem bnew_spec (H : Std sm) {h : T AObj} {c : Nat} {rl wl : List Nat} (hf : Fresh h c) (k : Int) :
    ∃ r s', FnTo (Cs sm) eg 85 [.int .i64 k] ⟨h, c, rl, wl⟩ r s' ∧ (r = .pointer (some ⟨c, 0, none⟩) ∧ Has s'.h c (.cells [.slice none 0 0, .int .i64 (max k 0)]) ∧ s'.c = c + 1) ∧ Ext ⟨h, c, rl, wl⟩ s' (fun _ => False) (fun _ => False) := by
  refine Fn.go (H 85 rfl) ex85 fn85 km85 rfl rfl ?_
  intro e he
  (simp (decide := true) only [kz] at he; subst he)
  (repeat (first | (with_reducible refine Then.go ?_) | (with_reducible refine Wx.seq ?_) | (with_reducible refine Wx.ret ?_) | (with_reducible refine Wx.reg ?_) | ((with_reducible refine Wseq.nil ?_); intro e he; (simp (decide := true) only [kz] at he; subst he)) | ((with_reducible apply Wseq.mv); rfl; (intro v hv; (simp (decide := true) only [kw] at hv); subst hv)) | ((with_reducible apply Wseq.as); rfl; (intro v hv; (simp (decide := true) only [kw] at hv); subst hv)) | ((with_reducible apply Wseq.bx); rfl; exact (by ((repeat (apply Fresh.put; omega)); ((assumption)))); (intro v hv; (simp (decide := true) only [kw] at hv); subst hv); refine ⟨_, (by ((exact cellsA_agg _))), ?_⟩) | ((with_reducible apply Wseq.bd); rfl; exact (bt_ rfl); (intro v hv; (simp (decide := true) only [kw] at hv); subst hv); refine ⟨_, rfl, ?_⟩) | ((with_reducible apply Wseq.stg (op := Op.call ⟨Callee.builtin Builtin.max, _, _⟩)); rfl; exact to_max rfl rfl)))
  refine ⟨.inr rfl, Wres.one rfl ⟨⟨rfl, ?_, rfl⟩, ?_⟩⟩
  · exact Has.same
  · (dsimp only; exact Ext.of (by omega) (by ((repeat (apply Fresh.put; omega)); ((exact Fresh.up (by assumption) (by omega))))) (by (repeat (first | (exact Kp.refl) | (apply Kp.set; (focus (left; omega)))))) (by (repeat ((exact Lg.nil)))) (by (repeat ((exact Lg.nil)))))

/-- The closure that best.Put hands over: has a hit that id? -/
theorem clo_spec (H : Std sm) {h : T AObj} {c b : Nat} {rl wl : List Nat} (hf : Fresh h c) (x y : Ht) (hb : Has h b (.cells [.int .i64 y.id, .int .i64 y.sc])) :
    ∃ r s', FnTo (Cs sm) eg 154 [hitv x.id x.sc, .pointer (some ⟨b, 0, none⟩)] ⟨h, c, rl, wl⟩ r s' ∧ r = .bool (decide (x.id = y.id)) ∧ Ext ⟨h, c, rl, wl⟩ s' (fun z => z = b) (fun _ => False) := by
  have l1 := hb.lt hf
  refine Fn.go (H 154 rfl) ex154 fn154 km154 rfl rfl ?_
  intro e he
  (simp (decide := true) only [kz] at he; subst he)
  (repeat (first | (with_reducible refine Then.go ?_) | (with_reducible refine Wx.seq ?_) | (with_reducible refine Wx.ret ?_) | (with_reducible refine Wx.reg ?_) | ((with_reducible refine Wseq.nil ?_); intro e he; (simp (decide := true) only [kz] at he; subst he)) | ((with_reducible apply Wseq.as); rfl; (intro v hv; (simp (decide := true) only [kw] at hv); subst hv)) | ((with_reducible apply Wseq.bx); rfl; exact (by ((repeat (apply Fresh.put; omega)); ((assumption)))); (intro v hv; (simp (decide := true) only [kw] at hv); subst hv); refine ⟨_, (by ((exact cellsA_agg _))), ?_⟩) | ((with_reducible apply Wseq.stg (op := Op.fieldAddr _ _ _)); rfl; exact to_fieldAddr (fa_ rfl) rfl) | ((with_reducible apply Wseq.stg (op := Op.load _ _)); rfl; exact to_load (pl_ rfl) rfl (by (repeat (first | (exact Has.same.cel) | (apply Has.cel; assumption) | (apply Cel.other; omega)))) (by omega) (by rfl)) | ((with_reducible apply Wseq.stg (op := Op.binOp BinOp.eql _ _ _ _)); rfl; exact to_eqI rfl rfl)))
  refine ⟨.inr rfl, Wres.one rfl ⟨rfl, ?_⟩⟩
  (dsimp only; exact Ext.of (by omega) (by ((repeat (apply Fresh.put; omega)); ((exact Fresh.up (by assumption) (by omega))))) (by (repeat (first | (exact Kp.refl) | (apply Kp.set; (focus (left; omega)))))) (by (repeat (first | (exact Lg.nil) | (apply Lg.cons; (focus (first | (left; omega) | (right; (exact rfl)))))))) (by (repeat ((exact Lg.nil)))))
end Go.Ab.Seat
end
section
/- A score; an id among hits (the abstract machine). -/
namespace Go.Ab.Seat
open Go.Extern Go.Proofs
set_option linter.unusedSimpArgs false
set_option linter.unusedVariables false
set_option maxRecDepth 4000
set_option pp.deepTerms false
set_option pp.deepTerms.threshold 6
variable {sm : Nat → Option (List Value → M Value)}

def termZ (m x y : Int) : Int := if m = 1 then (x - y) * (x - y) else -(x * y)
def scoreN (m : Int) (zs ys : List Int) : Nat → Int
  | 0 => 0
  | i + 1 => scoreN m zs ys i + termZ m (zs.getD i 0) (ys.getD i 0)
def scoreZ (m : Int) (zs ys : List Int) : Int := scoreN m zs ys zs.length
def Bnd (zs : List Int) : Prop := ∀ i, -1048576 ≤ zs.getD i 0 ∧ zs.getD i 0 ≤ 1048576

theorem mul_bnd {a b : Int} {k : Int} (hk : 0 ≤ k) (ha : -k ≤ a ∧ a ≤ k) (hb : -k ≤ b ∧ b ≤ k) : -(k * k) ≤ a * b ∧ a * b ≤ k * k := by
  have h1 : (a * b).natAbs ≤ (k * k).natAbs := by
    rw [Int.natAbs_mul, Int.natAbs_mul]
    exact Nat.mul_le_mul (by omega) (by omega)
  have h2 : 0 ≤ k * k := Int.mul_nonneg hk hk
  omega

theorem term_bnd {m x y : Int} (hx : -1048576 ≤ x ∧ x ≤ 1048576) (hy : -1048576 ≤ y ∧ y ≤ 1048576) : (-4398046511104 ≤ (x - y) * (x - y) ∧ (x - y) * (x - y) ≤ 4398046511104) ∧ (-4398046511104 ≤ x * y ∧ x * y ≤ 4398046511104) ∧ -4398046511104 ≤ termZ m x y ∧ termZ m x y ≤ 4398046511104 := by
  have h1 := mul_bnd (a := x - y) (b := x - y) (k := 2097152) (by omega) (by omega) (by omega)
  have h2 := mul_bnd (a := x) (b := y) (k := 1048576) (by omega) hx hy
  refine ⟨by omega, by omega, ?_⟩
  unfold termZ
  split <;> omega

theorem score_bnd {m : Int} {zs ys : List Int} (hx : Bnd zs) (hy : Bnd ys) : ∀ i : Nat, -(4398046511104 * (i : Int)) ≤ scoreN m zs ys i ∧ scoreN m zs ys i ≤ 4398046511104 * (i : Int) := by
  intro i
  induction i with
  | zero => exact ⟨by simp [scoreN], by simp [scoreN]⟩
  | succ i ih =>
    have := (term_bnd (m := m) (hx i) (hy i)).2.2
    unfold scoreN
    omega

def ESc (m : Int) (a : Option Addr) (n k : Nat) (b : Option Addr) (k' : Nat) (s z : Int) (j8 j9 j10 j17 j29 j30 j41 : Value) : L :=
  .cons 0 (.int .i64 m) (.cons 1 (.slice a n k) (.cons 2 (.slice b n k') (.cons 6 (.int .i64 0) (.cons 7 (.int .i64 s) (.cons 15 (.int .i64 (n : Int)) (.cons 16 (.int .i64 z) (.cons 8 j8 (.cons 9 j9 (.cons 10 j10 (.cons 17 j17 (.cons 29 j29 (.cons 30 j30 (.cons 41 j41 .nil)))))))))))))

set_option maxHeartbeats 4000000 in
theorem score_spec (H : Std sm) {h : T AObj} {c : Nat} {rl wl : List Nat} (hf : Fresh h c) {m : Int} (hm : m = 1 ∨ m = 2) {a b : Option Addr} {n k k' : Nat} {zs ys : List Int} (hn : zs.length = n) (hn' : ys.length = n) (hx : Row h (.slice a n k) n 1 (zs.map (Value.int .i32))) (hy : Row h (.slice b n k') n 1 (ys.map (Value.int .i32))) (bx : Bnd zs) (by_ : Bnd ys) (hb : n ≤ 1000) (R : Nat → Prop) (hR : ∀ x, blkOf (.slice a n k) = some x ∨ blkOf (.slice b n k') = some x → R x) :
    ∃ r s', FnTo (Cs sm) eg 47 [.int .i64 m, .slice a n k, .slice b n k'] ⟨h, c, rl, wl⟩ r s' ∧ (r = .int .i64 (scoreZ m zs ys) ∧ s'.h = h ∧ s'.c = c) ∧ Ext ⟨h, c, rl, wl⟩ s' R (fun _ => False) := by
  refine Fn.go (H 47 rfl) ex47 fn47 km47 rfl rfl ?_
  intro e he
  (simp (decide := true) only [kz] at he; subst he)
  (repeat (first | (with_reducible refine Then.go ?_) | (with_reducible refine Wx.seq ?_) | (with_reducible refine Wx.block ?_) | (with_reducible refine Wx.reg ?_) | ((with_reducible refine Wseq.nil ?_); intro e he; (simp (decide := true) only [kz] at he; subst he)) | ((with_reducible apply Wseq.mv); rfl; (intro v hv; (simp (decide := true) only [kw] at hv); subst hv)) | ((with_reducible apply Wseq.as); rfl; (intro v hv; (simp (decide := true) only [kw] at hv); subst hv)) | ((with_reducible apply Wseq.stg (op := Op.call ⟨Callee.builtin Builtin.len, _, _⟩)); rfl; exact to_lenS (sl_ rfl) rfl) | ((with_reducible apply Wseq.stg (op := Op.call ⟨Callee.builtin Builtin.min, _, _⟩)); rfl; exact to_min rfl rfl)))
  simp only [Int.min_self]
  refine Wx.cutO (fun e s => ∃ (j8 j9 j10 j17 j29 j30 j41 : Value) (rl' : List Nat), e = ESc m a n k b k' (scoreZ m zs ys) n j8 j9 j10 j17 j29 j30 j41 ∧ s = ⟨h, c, rl', []⟩ ∧ Lg c R rl') (by (repeat ((exact Resp.fn)))) ?_ ?_
  · refine Wx.loopE (fun k1 e s => ∃ (i : Nat) (z : Int) (j8 j9 j10 j17 j29 j30 j41 : Value) (rl' : List Nat), e = ESc m a n k b k' (scoreN m zs ys i) z j8 j9 j10 j17 j29 j30 j41 ∧ z = i ∧ s = ⟨h, c, rl', []⟩ ∧ Lg c R rl' ∧ i ≤ n ∧ k1 = n - i) n (ESc m a n k b k' 0 0 top top top top top top top) (by (repeat (first | (exact Resp.fn) | (apply Resp.out) | (apply Resp.cut)))) ?_ ?_ ?_
    · unfold ESc
      (refine EqK.of ?_ ?_ <;> (repeat (first | (exact all_nil) | (apply all_cons; rfl))))
    · exact ⟨0, 0, _, _, _, _, _, _, _, _, rfl, rfl, rfl, (by (repeat ((exact Lg.nil)))), by omega, rfl⟩
    · rintro k1 e s ⟨i, z, j8, j9, j10, j17, j29, j30, j41, rl', rfl, hz, rfl, hlr, hid, rfl⟩
      unfold ESc
      by_cases hi : i < n
      · have hzs : (zs.map (Value.int .i32))[i]? = some (.int .i32 (zs.getD i 0)) := by
          rw [List.getElem?_map, List.getD_eq_getElem?_getD, List.getElem?_eq_getElem (by omega : i < zs.length)]; rfl
        have hys : (ys.map (Value.int .i32))[i]? = some (.int .i32 (ys.getD i 0)) := by
          rw [List.getElem?_map, List.getD_eq_getElem?_getD, List.getElem?_eq_getElem (by omega : i < ys.length)]; rfl
        obtain ⟨b1, o1, sp1, cs1, rfl, hc1, hn1⟩ := rowCell hx (j := i * 1) (by omega) (by rw [Nat.mul_one]; exact hzs)
        obtain ⟨b2, o2, sp2, cs2, rfl, hc2, hn2⟩ := rowCell hy (j := i * 1) (by omega) (by rw [Nat.mul_one]; exact hys)
        have hR1 := hR b1 (.inl rfl)
        have hR2 := hR b2 (.inr rfl)
        have l1 := hc1.lt hf
        have l2 := hc2.lt hf
        have q1 := bx i
        have q2 := by_ i
        have q3 := score_bnd (m := m) bx by_ i
        obtain ⟨t1, t2, _⟩ := term_bnd (m := m) q1 q2
        (repeat (first | (with_reducible refine Then.go ?_) | (with_reducible refine Wx.seq ?_) | (with_reducible refine Wx.skip ?_) | (with_reducible refine Wx.block ?_) | (with_reducible refine Wx.reg ?_) | (refine Wx.dreg rfl ?_) | (refine Wx.condT rfl (by rfl) ?_) | ((with_reducible refine Wseq.nil ?_); intro e he; (simp (decide := true) only [kz] at he; subst he)) | ((with_reducible apply Wseq.mv); rfl; (intro v hv; (simp (decide := true) only [kw] at hv); subst hv)) | ((with_reducible apply Wseq.as); rfl; (intro v hv; (simp (decide := true) only [kw] at hv); subst hv)) | ((with_reducible apply Wseq.stg (op := Op.binOp BinOp.lss _ _ _ _)); rfl; exact to_lssT rfl rfl (by omega)) | ((with_reducible apply Wtr.mv); rfl; (intro v hv; (simp (decide := true) only [kw] at hv); subst hv))))
        ((with_reducible apply Wtr.stq); (focus rfl); (focus (exact to_indexAddr (k := i) el24 rfl rfl hz (by omega))))
        ((with_reducible apply Wtr.stx); (focus rfl); (focus (exact to_load (pl_ rfl) rfl hc1 (by omega) hn1)); repeat ((exact all_nil)))
        (repeat (first | ((with_reducible apply Wtr.mv); rfl; (intro v hv; (simp (decide := true) only [kw] at hv); subst hv)) | ((with_reducible apply Wtr.stq (op := Op.convert _ _ _)); rfl; exact to_convert (cv_ rfl) rfl)))
        ((with_reducible apply Wtr.stq); (focus rfl); (focus (exact to_indexAddr (k := i) el24 rfl rfl hz (by omega))))
        ((with_reducible apply Wtr.stx); (focus rfl); (focus (exact to_load (pl_ rfl) rfl hc2 (by omega) hn2)); (focus (repeat (first | (exact all_nil) | (apply all_cons; (focus ((right; exact ApartP.rr))))))))
        (repeat (first | (with_reducible refine Then.go ?_) | (with_reducible refine Wx.seq ?_) | (with_reducible refine Wx.block ?_) | (with_reducible refine Wx.reg ?_) | ((with_reducible refine Wseq.nil ?_); intro e he; (simp (decide := true) only [kz] at he; subst he)) | ((with_reducible apply Wseq.mv); rfl; (intro v hv; (simp (decide := true) only [kw] at hv); subst hv)) | ((with_reducible apply Wseq.as); rfl; (intro v hv; (simp (decide := true) only [kw] at hv); subst hv)) | ((with_reducible apply Wseq.stg (op := Op.binOp BinOp.eql _ _ _ _)); rfl; exact to_eqI rfl rfl) | ((with_reducible refine Wtr.nil ?_); intro e he; (simp (decide := true) only [kz] at he; subst he)) | ((with_reducible apply Wtr.as); rfl; (intro v hv; (simp (decide := true) only [kw] at hv); subst hv)) | ((with_reducible apply Wtr.stq (op := Op.convert _ _ _)); rfl; exact to_convert (cv_ rfl) rfl)))
        simp only [wrapA_i64 (show (-9223372036854775808 : Int) ≤ zs.getD i 0 by omega) (by omega), wrapA_i64 (show (-9223372036854775808 : Int) ≤ ys.getD i 0 by omega) (by omega)]
        rcases hm with rfl | rfl
        · (repeat (first | (with_reducible refine Then.go ?_) | (with_reducible refine Out.go ?_) | (with_reducible refine Wx.reg ?_) | (refine Wx.condT rfl (by rfl) ?_) | ((with_reducible refine Wseq.nil ?_); intro e he; (simp (decide := true) only [kz] at he; subst he)) | ((with_reducible apply Wseq.mv); rfl; (intro v hv; (simp (decide := true) only [kw] at hv); subst hv)) | ((with_reducible apply Wseq.as); rfl; (intro v hv; (simp (decide := true) only [kw] at hv); subst hv)) | ((with_reducible apply Wseq.stg (op := Op.binOp BinOp.add _ _ _ _)); rfl; exact to_add rfl rfl (by omega) (by omega)) | ((with_reducible apply Wseq.stg (op := Op.binOp BinOp.sub _ _ _ _)); rfl; exact to_sub rfl rfl (by omega) (by omega)) | ((with_reducible apply Wseq.stg (op := Op.binOp BinOp.mul _ _ _ _)); rfl; exact to_mul rfl rfl (by omega) (by omega))))
          refine RoundE.go (n - (i + 1)) (ESc 1 _ n k _ k' (scoreN 1 zs ys (i + 1)) (z + 1) _ _ _ _ _ _ _) (by omega) (by (refine EqK.of ?_ ?_ <;> (repeat (first | (exact all_nil) | (apply all_cons; rfl))))) ⟨i + 1, z + 1, _, _, _, _, _, _, _, _, rfl, by omega, rfl, (by (repeat (first | (exact Lg.nil) | (assumption) | (apply Lg.cons; (focus ((right; (assumption))))) | (apply Lg.app)))), by omega, rfl⟩
        · (repeat (first | (with_reducible refine Then.go ?_) | (with_reducible refine Out.go ?_) | (with_reducible refine Wx.seq ?_) | (with_reducible refine Wx.reg ?_) | (refine Wx.condT rfl (by rfl) ?_) | (refine Wx.condF rfl (by rfl) ?_) | ((with_reducible refine Wseq.nil ?_); intro e he; (simp (decide := true) only [kz] at he; subst he)) | ((with_reducible apply Wseq.mv); rfl; (intro v hv; (simp (decide := true) only [kw] at hv); subst hv)) | ((with_reducible apply Wseq.as); rfl; (intro v hv; (simp (decide := true) only [kw] at hv); subst hv)) | ((with_reducible apply Wseq.stg (op := Op.binOp BinOp.add _ _ _ _)); rfl; exact to_add rfl rfl (by omega) (by omega)) | ((with_reducible apply Wseq.stg (op := Op.binOp BinOp.sub _ _ _ _)); rfl; exact to_sub rfl rfl (by omega) (by omega)) | ((with_reducible apply Wseq.stg (op := Op.binOp BinOp.mul _ _ _ _)); rfl; exact to_mul rfl rfl (by omega) (by omega)) | ((with_reducible apply Wseq.stg (op := Op.binOp BinOp.eql _ _ _ _)); rfl; exact to_eqIT rfl rfl (by omega))))
          have e : scoreN 2 zs ys (i + 1) = scoreN 2 zs ys i - zs.getD i 0 * ys.getD i 0 := by
            show _ + termZ 2 _ _ = _
            unfold termZ
            rw [if_neg (by decide)]; omega
          refine RoundE.go (n - (i + 1)) (ESc 2 _ n k _ k' (scoreN 2 zs ys i - zs.getD i 0 * ys.getD i 0) (z + 1) _ _ _ _ _ _ _) (by omega) (by (refine EqK.of ?_ ?_ <;> (repeat (first | (exact all_nil) | (apply all_cons; rfl))))) ⟨i + 1, z + 1, _, _, _, _, _, _, _, _, (by rw [e]; rfl), by omega, rfl, (by (repeat (first | (exact Lg.nil) | (assumption) | (apply Lg.cons; (focus ((right; (assumption))))) | (apply Lg.app)))), by omega, rfl⟩
      · (repeat (first | (with_reducible refine Then.go ?_) | (with_reducible refine Then.ex ?_) | (with_reducible refine Out.hit ?_) | (with_reducible refine Wx.seq ?_) | (with_reducible refine Wx.exit ?_) | (with_reducible refine Wx.reg ?_) | (with_reducible refine RoundE.ex ?_) | (refine Wx.condF rfl (by rfl) ?_) | ((with_reducible refine Wseq.nil ?_); intro e he; (simp (decide := true) only [kz] at he; subst he)) | ((with_reducible apply Wseq.stg (op := Op.binOp BinOp.lss _ _ _ _)); rfl; exact to_lssF rfl rfl (by omega))))
        obtain rfl : i = n := by omega
        subst hz
        have e : scoreZ m zs ys = scoreN m zs ys i := by unfold scoreZ; rw [hn]
        exact CutQ.go (ESc m a i k b k' (scoreN m zs ys i) i _ _ _ _ _ _ _) (by (refine EqK.of ?_ ?_ <;> (repeat (first | (exact all_nil) | (apply all_cons; rfl))))) ⟨_, _, _, _, _, _, _, _, (by rw [e]; rfl), rfl, (by (repeat ((assumption))))⟩
  · rintro e s ⟨j8, j9, j10, j17, j29, j30, j41, rl', rfl, rfl, hlr⟩
    unfold ESc
    (repeat (first | (with_reducible refine Then.go ?_) | (with_reducible refine Wx.seq ?_) | (with_reducible refine Wx.ret ?_) | (with_reducible refine Wx.reg ?_) | ((with_reducible refine Wseq.nil ?_); intro e he; (simp (decide := true) only [kz] at he; subst he)) | ((with_reducible apply Wseq.mv); rfl; (intro v hv; (simp (decide := true) only [kw] at hv); subst hv)) | ((with_reducible apply Wseq.as); rfl; (intro v hv; (simp (decide := true) only [kw] at hv); subst hv))))
    refine ⟨.inr rfl, Wres.one rfl ⟨⟨rfl, rfl, rfl⟩, ?_⟩⟩
    (dsimp only; exact Ext.of (by omega) (by ((repeat (apply Fresh.put; omega)); ((assumption)))) (by (repeat ((exact Kp.refl)))) (by (repeat ((assumption)))) (by (repeat ((exact Lg.nil)))))
end Go.Ab.Seat
end
