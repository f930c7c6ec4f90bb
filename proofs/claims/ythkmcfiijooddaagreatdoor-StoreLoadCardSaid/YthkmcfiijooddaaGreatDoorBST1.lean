/- Stores: one anew, put, get (the abstract machine). -/
import Derived.Test.YthkmcfiijooddaaGreatDoorBQ4
import Derived.Test.YthkmcfiijooddaaGreatDoorE44
set_option linter.unusedVariables false
set_option linter.unusedSimpArgs false
namespace Go.Ab.Seat
open Go.Extern Go.Proofs
set_option linter.unusedSimpArgs false
set_option linter.unusedVariables false
set_option maxRecDepth 4000
set_option pp.deepTerms false
set_option pp.deepTerms.threshold 6
variable {sm : Nat → Option (List Value → M Value)}

abbrev itv (id : Int) (v : Value) (pay : ByteArray) (seq : Int) (g : Bool) : Value := .agg ⟨[.int .i64 id, v, .string pay, .int .i64 seq, .bool g]⟩
abbrev it0 : Value := itv 0 (.slice none 0 0) .empty 0 false
structure It where
  id : Int
  vec : Value
  xs : List Value
  pay : ByteArray
  seq : Int
  gone : Bool
abbrev It.val (x : It) : Value := itv x.id x.vec x.pay x.seq x.gone

/-- An entry of a store's map. -/
def Ent (h : T AObj) (p m : Nat) (U : Nat → Prop) (e : Value × Value × Nat) : Prop :=
  ∃ it : It, e.1 = .int .i64 it.id ∧ e.2.1 = it.val ∧ Own h 0 it.vec it.xs.length it.xs ∧ ∀ b, blkOf it.vec = some b → U b ∧ b ≠ p ∧ b ≠ m

structure StoreR (h : T AObj) (p m : Nat) (es : List (Value × Value × Nat)) (n : Nat) (U : Nat → Prop) : Prop where
  ptr : Has h p (.cells [.map (some m)])
  map : Has h m (.map es n)
  pU : U p
  mU : U m
  ents : ∀ e ∈ es, Ent h p m U e

theorem StoreR.ne {h : T AObj} {p m : Nat} {es : List (Value × Value × Nat)} {n : Nat} {U : Nat → Prop} (q : StoreR h p m es n U) : p ≠ m := by
  rintro rfl
  have h1 := q.ptr
  have h2 := q.map
  unfold Has at h1 h2
  rw [h1] at h2
  cases h2

theorem StoreR.keys {h : T AObj} {p m : Nat} {es : List (Value × Value × Nat)} {n : Nat} {U : Nat → Prop} (q : StoreR h p m es n U) : KeysI .i64 es := fun e he => by
  obtain ⟨it, h1, _⟩ := q.ents e he
  exact ⟨it.id, h1⟩

theorem Ent.keep {h h' : T AObj} {p m c : Nat} {U : Nat → Prop} {e : Value × Value × Nat} (x : Ent h p m U e) (hf : Fresh h c) (k : ∀ b, U b → b < c → b ≠ p → b ≠ m → h'.get b = h.get b) : Ent h' p m U e := by
  obtain ⟨it, h1, h2, h3, h4⟩ := x
  exact ⟨it, h1, h2, h3.keep fun b hb => k b (h4 b hb).1 ((h3.blk hb).2.lt hf) (h4 b hb).2.1 (h4 b hb).2.2, h4⟩

theorem Ent.wide {h : T AObj} {p m : Nat} {U U' : Nat → Prop} {e : Value × Value × Nat} (x : Ent h p m U e) (k : ∀ b, U b → U' b) : Ent h p m U' e := by
  obtain ⟨it, h1, h2, h3, h4⟩ := x
  exact ⟨it, h1, h2, h3, fun b hb => ⟨k b (h4 b hb).1, (h4 b hb).2⟩⟩

theorem StoreR.keep {h h' : T AObj} {c p m : Nat} {es : List (Value × Value × Nat)} {n : Nat} {U : Nat → Prop} (q : StoreR h p m es n U) (hf : Fresh h c) (k : ∀ b, U b → b < c → h'.get b = h.get b) : StoreR h' p m es n U :=
  ⟨(k p q.pU (q.ptr.lt hf)).trans q.ptr, (k m q.mU (q.map.lt hf)).trans q.map, q.pU, q.mU, fun e he => (q.ents e he).keep hf fun b hb hc _ _ => k b hb hc⟩

theorem StoreR.wide {h : T AObj} {p m : Nat} {es : List (Value × Value × Nat)} {n : Nat} {U U' : Nat → Prop} (q : StoreR h p m es n U) (k : ∀ b, U b → U' b) : StoreR h p m es n U' :=
  ⟨q.ptr, q.map, k _ q.pU, k _ q.mU, fun e he => (q.ents e he).wide k⟩

theorem mem_modA (k v : Value) : ∀ (es : List (Value × Value × Nat)) (i : Nat) e, e ∈ modA k v es i → e ∈ es ∨ (e.1 = k ∧ e.2.1 = v) := by
  intro es
  induction es with
  | nil => intro i e h; simp [modA] at h
  | cons x es ih =>
    intro i e h
    obtain ⟨a, b, d⟩ := x
    cases i with
    | zero =>
      simp only [modA, List.mem_cons] at h
      rcases h with rfl | h
      · exact .inr ⟨rfl, rfl⟩
      · exact .inl (List.mem_cons_of_mem _ h)
    | succ i =>
      simp only [modA, List.mem_cons] at h
      rcases h with rfl | h
      · exact .inl (List.mem_cons_self ..)
      · exact (ih i e h).imp (List.mem_cons_of_mem _) id

theorem mem_putI {x : Int} {v : Value} {n : Nat} {es : List (Value × Value × Nat)} {e : Value × Value × Nat} (h : e ∈ (putI .i64 x v n es).1) : e ∈ es ∨ (e.1 = .int .i64 x ∧ e.2.1 = v) := by
  unfold putI at h
  split at h
  · exact mem_modA _ _ _ _ _ h
  · rcases List.mem_append.1 h with h | h
    · exact .inl h
    · obtain rfl := List.mem_singleton.1 h
      exact .inr ⟨rfl, rfl⟩

theorem snew_spec (H : Std sm) {h : T AObj} {c : Nat} {rl wl : List Nat} (hf : Fresh h c) :
    ∃ r s', FnTo (Cs sm) eg 11 [] ⟨h, c, rl, wl⟩ r s' ∧ r = .pointer (some ⟨c + 1, 0, none⟩) ∧ StoreR s'.h (c + 1) c [] 0 (fun b => c ≤ b ∧ b < c + 2) ∧ s'.c = c + 2 ∧ Ext ⟨h, c, rl, wl⟩ s' (fun _ => False) (fun _ => False) := by
  refine Fn.go (H 11 rfl) ex11 fn11 km11 rfl rfl ?_
  intro e he
  (simp only [ke, Nat.testBit, Nat.reduceShiftRight, Nat.reduceAnd, Nat.reduceBNe, Nat.reduceEqDiff, Nat.reduceAdd, ↓reduceIte, reduceCtorEq, Bool.false_eq_true] at he; subst he)
  (repeat (first | (with_reducible refine Then.go ?_) | (with_reducible refine Wx.seq ?_) | (with_reducible refine Wx.ret ?_) | (with_reducible refine Wx.reg ?_) | ((with_reducible refine Wseq.nil ?_); intro e he; (simp only [ke, Nat.testBit, Nat.reduceShiftRight, Nat.reduceAnd, Nat.reduceBNe, Nat.reduceEqDiff, Nat.reduceAdd, ↓reduceIte, reduceCtorEq, Bool.false_eq_true] at he; subst he)) | ((with_reducible apply Wseq.as); rfl; (intro v hv; (simp only [kv, Nat.reduceEqDiff, eq_self, ↓reduceIte, reduceCtorEq, List.map_cons, List.map_nil] at hv); subst hv)) | ((with_reducible apply Wseq.bx); rfl; exact (by ((repeat (apply Fresh.put; omega)); ((exact Fresh.up (by assumption) (by omega))))); (intro v hv; (simp only [kv, Nat.reduceEqDiff, eq_self, ↓reduceIte, reduceCtorEq, List.map_cons, List.map_nil] at hv); subst hv); refine ⟨_, (by ((exact cellsA_agg _))), ?_⟩) | ((with_reducible apply Wseq.bd); rfl; exact (bt_ rfl); (intro v hv; (simp only [kv, Nat.reduceEqDiff, eq_self, ↓reduceIte, reduceCtorEq, List.map_cons, List.map_nil] at hv); subst hv); refine ⟨_, rfl, ?_⟩) | ((with_reducible apply Wseq.stg (op := Op.makeMap _ _)); rfl; exact to_makeMap (by ((repeat (apply Fresh.put; omega)); ((assumption)))))))
  refine ⟨.inr rfl, Wres.one rfl ⟨rfl, ⟨Has.same, Has.other (by omega) Has.same, (by omega), (by omega), fun e he => by cases he⟩, rfl, ?_⟩⟩
  (dsimp only; exact Ext.of (by omega) (by ((repeat (apply Fresh.put; omega)); ((exact Fresh.up (by assumption) (by omega))))) (by (repeat (first | (exact Kp.refl) | (apply Kp.set; (focus (left; omega)))))) (by (repeat ((exact Lg.nil)))) (by (repeat ((exact Lg.nil)))))

theorem sat_spec (H : Std sm) {h : T AObj} {c : Nat} {rl wl : List Nat} (hf : Fresh h c) (z : Int) (hz : z ≠ 0) :
    ∃ v s', FnTo (Cs sm) eg 53 [.int .i64 z] ⟨h, c, rl, wl⟩ v s' ∧ (∃ w, v = .iface 122 (.pointer (some ⟨c, 0, none⟩)) ∧ s' = ⟨h.set c (some (.cells [.string w, .iface 35 (.int .i64 z)])), c + 1, rl, wl⟩) := by
  refine Fn.go (H 53 rfl) ex53 fn53 km53 rfl rfl ?_
  intro e he
  (simp only [ke, Nat.testBit, Nat.reduceShiftRight, Nat.reduceAnd, Nat.reduceBNe, Nat.reduceEqDiff, Nat.reduceAdd, ↓reduceIte, reduceCtorEq, Bool.false_eq_true] at he; subst he)
  (repeat (first | (with_reducible refine Then.go ?_) | (with_reducible refine Wx.seq ?_) | (with_reducible refine Wx.reg ?_) | ((with_reducible refine Wseq.nil ?_); intro e he; (simp only [ke, Nat.testBit, Nat.reduceShiftRight, Nat.reduceAnd, Nat.reduceBNe, Nat.reduceEqDiff, Nat.reduceAdd, ↓reduceIte, reduceCtorEq, Bool.false_eq_true] at he; subst he)) | ((with_reducible apply Wseq.mv); rfl; (intro v hv; (simp only [kv, Nat.reduceEqDiff, eq_self, ↓reduceIte, reduceCtorEq, List.map_cons, List.map_nil] at hv); subst hv)) | ((with_reducible apply Wseq.as); rfl; (intro v hv; (simp only [kv, Nat.reduceEqDiff, eq_self, ↓reduceIte, reduceCtorEq, List.map_cons, List.map_nil] at hv); subst hv)) | ((with_reducible apply Wseq.mi); rfl; exact (if_ rfl); (intro v hv; (simp only [kv, Nat.reduceEqDiff, eq_self, ↓reduceIte, reduceCtorEq, List.map_cons, List.map_nil] at hv); subst hv))))
  refine Wseq.call rfl rfl (at_spec H (by ((repeat (apply Fresh.put; omega)); ((assumption)))) _ z hz) ?_
  rintro v' h1 c1 r1 w1 ⟨rfl, e1⟩
  cases e1
  (repeat (first | (with_reducible refine Then.go ?_) | (with_reducible refine Wx.ret ?_) | ((with_reducible refine Wseq.nil ?_); intro e he; (simp only [ke, Nat.testBit, Nat.reduceShiftRight, Nat.reduceAnd, Nat.reduceBNe, Nat.reduceEqDiff, Nat.reduceAdd, ↓reduceIte, reduceCtorEq, Bool.false_eq_true] at he; subst he)) | ((with_reducible apply Wseq.as); rfl; (intro v hv; (simp only [kv, Nat.reduceEqDiff, eq_self, ↓reduceIte, reduceCtorEq, List.map_cons, List.map_nil] at hv); subst hv))))
  exact ⟨.inr rfl, Wres.one rfl ⟨_, rfl, rfl⟩⟩

theorem scopied_spec (H : Std sm) {h : T AObj} {c : Nat} {rl wl : List Nat} (hf : Fresh h c) (id : Int) (pay : ByteArray) (seq : Int) (g : Bool) {a : Option Addr} {n cap : Nat} {xs : List Value} (hv : Row h (.slice a n cap) n 1 xs) (hn : n ≤ bigV) (hz : n = 0 → a = none → cap = 0) (bs : Nat → Prop) (hbs : ∀ b o sp, a = some ⟨b, o, sp⟩ → bs b) :
    ∃ r s', FnTo (Cs sm) eg 54 [itv id (.slice a n cap) pay seq g] ⟨h, c, rl, wl⟩ r s' ∧ ∃ v', r = itv id v' pay seq g ∧ Own s'.h c v' n xs ∧ Ext ⟨h, c, rl, wl⟩ s' bs (fun _ => False) := by
  refine Fn.go (H 54 rfl) ex54 fn54 km54 rfl rfl ?_
  intro e he
  (simp only [ke, Nat.testBit, Nat.reduceShiftRight, Nat.reduceAnd, Nat.reduceBNe, Nat.reduceEqDiff, Nat.reduceAdd, ↓reduceIte, reduceCtorEq, Bool.false_eq_true] at he; subst he)
  (repeat (first | (with_reducible refine Then.go ?_) | (with_reducible refine Wx.seq ?_) | (with_reducible refine Wx.reg ?_) | ((with_reducible refine Wseq.nil ?_); intro e he; (simp only [ke, Nat.testBit, Nat.reduceShiftRight, Nat.reduceAnd, Nat.reduceBNe, Nat.reduceEqDiff, Nat.reduceAdd, ↓reduceIte, reduceCtorEq, Bool.false_eq_true] at he; subst he)) | ((with_reducible apply Wseq.bx); rfl; exact (by ((repeat (apply Fresh.put; omega)); ((assumption)))); (intro v hv; (simp only [kv, Nat.reduceEqDiff, eq_self, ↓reduceIte, reduceCtorEq, List.map_cons, List.map_nil] at hv); subst hv); refine ⟨_, (by ((exact cellsA_agg _))), ?_⟩) | ((with_reducible apply Wseq.stg (op := Op.fieldAddr _ _ _)); rfl; exact to_fieldAddr (fa_ rfl) rfl) | ((with_reducible apply Wseq.stg (op := Op.load _ _)); rfl; exact to_load (pl_ rfl) rfl (by (repeat (first | (exact Has.same.cel) | (apply Cel.other; omega)))) (by omega) (by rfl)) | ((with_reducible apply Wseq.stg (op := Op.alloc _)); rfl; exact to_alloc (ze_ rfl) (by ((exact cellsA_agg _))) (by ((repeat (apply Fresh.put; omega)); ((exact Fresh.up (by assumption) (by omega))))))))
  refine Wseq.call rfl rfl (copy_spec H (v := .slice a n cap) (n := n) (xs := xs) (by ((repeat (apply Fresh.put; omega)); ((exact Fresh.up (by assumption) (by omega))))) ?_ hn ?_ bs ?_) ?_
  · exact (hv.new hf).new hf.new
  · exact fun h0 => ⟨a, cap, by rw [h0], hz h0⟩
  · rintro b o sp n' cap' ⟨⟩
    exact hbs _ _ _ rfl
  rintro v' h1 c1 rl1 wl1 ⟨hown, hext⟩
  obtain ⟨a', k', rfl⟩ := hown.val
  have q1 := hext.c
  dsimp only at q1
  have g1 := hext.hs (b := c) (Has.other (by omega) Has.same) (by omega) (fun q => q)
  have g2 := hext.hs (b := c + 1) Has.same (by omega) (fun q => q)
  have hf1 : Fresh h1 c1 := hext.fresh
  have kp := Kp.ext (W := fun _ => False) (h := h) (c := c) (by (repeat (first | (exact Kp.refl) | (apply Kp.set; (focus (left; omega)))))) hext (by omega) (fun _ _ q => q)
  have lr := Lg.extR (R := bs) (c := c) (by (repeat (first | (exact Lg.nil) | (apply Lg.cons; (focus (left; omega)))))) hext (fun _ _ q => q)
  have lw := Lg.extW (W := fun _ => False) (c := c) (by (repeat ((exact Lg.nil)))) hext (fun _ _ q => q)
  (repeat (first | (with_reducible refine Then.go ?_) | (with_reducible refine Wx.seq ?_) | (with_reducible refine Wx.ret ?_) | (with_reducible refine Wx.reg ?_) | ((with_reducible refine Wseq.nil ?_); intro e he; (simp only [ke, Nat.testBit, Nat.reduceShiftRight, Nat.reduceAnd, Nat.reduceBNe, Nat.reduceEqDiff, Nat.reduceAdd, ↓reduceIte, reduceCtorEq, Bool.false_eq_true] at he; subst he)) | ((with_reducible apply Wseq.so); rfl; exact (sz_ rfl); rfl; exact (by (repeat (first | (assumption) | (apply Has.other; omega)))); omega; (intro v hv; (simp only [kv, Nat.reduceEqDiff, eq_self, ↓reduceIte, reduceCtorEq, List.map_cons, List.map_nil] at hv); subst hv); refine ⟨_, _, (by ((exact cellsA_agg _))), rfl, rfl, ?_⟩) | ((with_reducible apply Wseq.stg (op := Op.fieldAddr _ _ _)); rfl; exact to_fieldAddr (fa_ rfl) rfl) | ((with_reducible apply Wseq.stg (op := Op.load _ _)); rfl; exact to_loadS (ag_ rfl) rfl (by (repeat ((exact Has.same.cel)))) (by omega) (by rfl))))
  refine ⟨.inr rfl, Wres.cell rfl ag59 (by (repeat ((exact Has.same.cel)))) (by omega) (by rfl) ⟨_, rfl, ?_, ?_⟩⟩
  · exact (((hown.set (by omega)).set (by omega))).low (by omega)
  · (dsimp only; exact Ext.of (by omega) (by ((repeat (apply Fresh.put; omega)); ((assumption)))) (by (repeat (first | (assumption) | (apply Kp.set; (focus (left; omega)))))) (by (repeat (first | (assumption) | (apply Lg.cons; (focus (left; omega)))))) (by (repeat (first | (assumption) | (apply Lg.cons; (focus (left; omega)))))))

/-- What there is of an id; nothing: nought. -/
noncomputable def curV (id : Int) (es : List (Value × Value × Nat)) : Value := match findI id es with | some p => p.2 | none => it0

theorem sput_form (H : Std sm) {h : T AObj} {c : Nat} {rl wl : List Nat} (hf : Fresh h c) {p m n : Nat} {es : List (Value × Value × Nat)} {U : Nat → Prop} (q : StoreR h p m es n U) (id seq : Int) (pay : ByteArray) (h1 : 1 ≤ id) (h2 : id ≤ 1000) (hp : pay.size ≤ 40) (a : Option Addr) (k cap : Nat)
    {i0 : Int} {v0 : Value} {p0 : ByteArray} {s0 : Int} {g0 : Bool} (hcur : curV id es = itv i0 v0 p0 s0 g0) (hs : seq ≤ s0) :
    ∃ r s', FnTo (Cs sm) eg 12 [.pointer (some ⟨p, 0, none⟩), .int .i64 id, .slice a k cap, .string pay, .int .i64 seq] ⟨h, c, rl, wl⟩ r s' ∧ (∃ b, r = .iface 122 (.pointer (some ⟨b, 0, none⟩)) ∧ c ≤ b ∧ b < s'.c ∧ ∃ w, Has s'.h b (.cells [.string w, .iface 35 (.int .i64 1)])) ∧ Ext ⟨h, c, rl, wl⟩ s' U (fun _ => False) := by
  have hp1 := q.ptr
  have hm1 := q.map
  have hU := q.pU
  have hU' := q.mU
  have hpc := hp1.lt hf
  have hmc := hm1.lt hf
  refine Fn.go (H 12 rfl) ex12 fn12 km12 rfl rfl ?_
  intro e he
  (simp only [ke, Nat.testBit, Nat.reduceShiftRight, Nat.reduceAnd, Nat.reduceBNe, Nat.reduceEqDiff, Nat.reduceAdd, ↓reduceIte, reduceCtorEq, Bool.false_eq_true] at he; subst he)
  (repeat (first | (with_reducible refine Then.go ?_) | (with_reducible refine Wx.seq ?_) | (with_reducible refine Wx.block ?_) | (with_reducible refine Wx.reg ?_) | (refine Wx.condF rfl (by rfl) ?_) | ((with_reducible refine Wseq.nil ?_); intro e he; (simp only [ke, Nat.testBit, Nat.reduceShiftRight, Nat.reduceAnd, Nat.reduceBNe, Nat.reduceEqDiff, Nat.reduceAdd, ↓reduceIte, reduceCtorEq, Bool.false_eq_true] at he; subst he)) | ((with_reducible apply Wseq.mv); rfl; (intro v hv; (simp only [kv, Nat.reduceEqDiff, eq_self, ↓reduceIte, reduceCtorEq, List.map_cons, List.map_nil] at hv); subst hv)) | ((with_reducible apply Wseq.as); rfl; (intro v hv; (simp only [kv, Nat.reduceEqDiff, eq_self, ↓reduceIte, reduceCtorEq, List.map_cons, List.map_nil] at hv); subst hv)) | ((with_reducible apply Wseq.pkF); rfl; rfl; (intro v hv; (simp only [kv, Nat.reduceEqDiff, eq_self, ↓reduceIte, reduceCtorEq, List.map_cons, List.map_nil] at hv); subst hv)) | ((with_reducible apply Wseq.stg (op := Op.fieldAddr _ _ _)); rfl; exact to_fieldAddr (fa_ rfl) rfl) | ((with_reducible apply Wseq.stg (op := Op.load _ _)); rfl; exact to_load (pl_ rfl) rfl (by (repeat ((apply Has.cel; assumption)))) (by omega) (by rfl)) | ((with_reducible apply Wseq.stg (op := Op.nilCheck _)); rfl; exact to_nilCheck rfl) | ((with_reducible apply Wseq.stg (op := Op.call ⟨Callee.builtin Builtin.len, _, _⟩)); rfl; exact to_lenStr (sr_ rfl) rfl) | ((with_reducible apply Wseq.stg (op := Op.binOp BinOp.lss _ _ _ _)); rfl; exact to_lssF rfl rfl (by omega)) | ((with_reducible apply Wseq.stg (op := Op.binOp BinOp.gtr _ _ _ _)); rfl; exact to_gtrF rfl rfl (by omega)) | ((with_reducible apply Wseq.stg (op := Op.binOp BinOp.eql _ _ _ _)); rfl; exact to_eqP (un_ rfl) rfl rfl)))
  ((with_reducible apply Wseq.stg); rfl; exact to_lookup mi113 ze59 rfl rfl hm1 (by omega) q.keys hcur)
  (repeat (first | (with_reducible refine Then.go ?_) | (with_reducible refine Wx.seq ?_) | (with_reducible refine Wx.reg ?_) | (refine Wx.condT rfl (by rfl) ?_) | ((with_reducible refine Wseq.nil ?_); intro e he; (simp only [ke, Nat.testBit, Nat.reduceShiftRight, Nat.reduceAnd, Nat.reduceBNe, Nat.reduceEqDiff, Nat.reduceAdd, ↓reduceIte, reduceCtorEq, Bool.false_eq_true] at he; subst he)) | ((with_reducible apply Wseq.as); rfl; (intro v hv; (simp only [kv, Nat.reduceEqDiff, eq_self, ↓reduceIte, reduceCtorEq, List.map_cons, List.map_nil] at hv); subst hv)) | ((with_reducible apply Wseq.stg (op := Op.field _ _ _)); rfl; exact to_field (fa_ rfl) (pl_ rfl) rfl rfl) | ((with_reducible apply Wseq.stg (op := Op.binOp BinOp.leq _ _ _ _)); rfl; exact to_leqT rfl rfl (by omega))))
  refine Wseq.call rfl rfl (sat_spec H (by ((repeat (apply Fresh.put; omega)); ((assumption)))) 1 (by decide)) ?_
  rintro v' h1 c1 r1 w1 ⟨w, rfl, e1⟩
  cases e1
  (repeat (first | (with_reducible refine Then.go ?_) | (with_reducible refine Then.rt ?_) | (with_reducible refine Out.rt ?_) | (with_reducible refine Wx.ret ?_) | ((with_reducible refine Wseq.nil ?_); intro e he; (simp only [ke, Nat.testBit, Nat.reduceShiftRight, Nat.reduceAnd, Nat.reduceBNe, Nat.reduceEqDiff, Nat.reduceAdd, ↓reduceIte, reduceCtorEq, Bool.false_eq_true] at he; subst he)) | ((with_reducible apply Wseq.as); rfl; (intro v hv; (simp only [kv, Nat.reduceEqDiff, eq_self, ↓reduceIte, reduceCtorEq, List.map_cons, List.map_nil] at hv); subst hv))))
  refine ⟨.inr rfl, Wres.one rfl ⟨⟨_, rfl, by omega, by dsimp only; omega, _, Has.same⟩, ?_⟩⟩
  (dsimp only; exact Ext.of (by omega) (by ((repeat (apply Fresh.put; omega)); ((exact Fresh.up (by assumption) (by omega))))) (by (repeat (first | (exact Kp.refl) | (apply Kp.set; (focus (left; omega)))))) (by (repeat (first | (exact Lg.nil) | (apply Lg.cons; (focus ((right; (assumption)))))))) (by (repeat ((exact Lg.nil)))))
end Go.Ab.Seat
