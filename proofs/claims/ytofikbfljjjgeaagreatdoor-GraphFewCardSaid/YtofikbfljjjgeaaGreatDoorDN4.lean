import Derived.Test.YtofikbfljjjgeaaGreatDoorDF7
import Derived.Test.YtofikbfljjjgeaaGreatDoorDJ7
import Derived.Test.YtofikbfljjjgeaaGreatDoorE48
import Derived.Test.YtofikbfljjjgeaaGreatDoorE50
import Derived.Test.YtofikbfljjjgeaaGreatDoorDI1
import Derived.Test.YtofikbfljjjgeaaGreatDoorDK4
import Derived.Test.YtofikbfljjjgeaaGreatDoorDK6
import Derived.Test.YtofikbfljjjgeaaGreatDoorDM1
import Derived.Test.YtofikbfljjjgeaaGreatDoorDW2
set_option linter.unusedVariables false
set_option linter.unusedSimpArgs false
section
/- flat.Vec; the five ways of a Face that has a flat index (the abstract machine). -/
namespace Go.Ab.Seat
open Go.Extern Go.Proofs
set_option maxRecDepth 4000
end Go.Ab.Seat
end
section
/- The reference's index is written: one is laid between (the abstract machine). -/
namespace Go.Ab.Seat
open Go.Extern Go.Proofs
set_option maxRecDepth 4000
end Go.Ab.Seat
end
section
/- Numbers held against each other, where they are one (the abstract machine). -/
namespace Go.Ab.Seat
open Go.Extern Go.Proofs
set_option maxRecDepth 4000
variable {sm : Nat → Option (List Value → M Value)}
def EHs (a : Option Addr) (n k : Nat) (b : Option Addr) (k' : Nat) (z : Int) (j5 j14 j24 : Value) : L :=
 .cons 0 (.slice a n k) (.cons 1 (.slice b n k') (.cons 4 (.bool false) (.cons 10 (.bool false) (.cons 12 (.int .i64 (n : Int)) (.cons 13 (.int .i64 z) (.cons 5 j5 (.cons 14 j14 (.cons 24 j24 .nil))))))))
end Go.Ab.Seat
end
section
/- Hits, ids held against each other, where they are the same (the abstract machine). -/
namespace Go.Ab.Seat
open Go.Extern Go.Proofs
set_option maxRecDepth 4000
variable {sm : Nat → Option (List Value → M Value)}
theorem eqH (a b : Int) : eqA (Cs sm) eg 100 52 (hitv a b) (hitv a b) = some true := by
 have h : eqA (Cs sm) eg 100 52 (hitv a b) (hitv a b) = (match decide (a = a) with | true => (match decide (b = b) with | true => some true | false => some false) | false => some false) := by kernel_rfl
 rw [h, decide_eq_true rfl, decide_eq_true rfl]
theorem eg52 : eg 52 = false := by kernel_rfl
theorem to_neH {e : Env} {s : St} {d : Option Nat} {ty t2 : TypeId} {ps : String} {af : Array Edge} {g : Option (Nat × Bool)} {x y : Operand} {a b : Int} (hx : evalA e x = hitv a b) (hy : evalA e y = hitv a b) :
  OpTo (Cs sm) eg e ⟨d, .binOp .neq 52 x y t2, ty, ps, af, g⟩ s (.bool false) s :=
 to_bin hx hy (by
  show (match guardA eg 52 x y (hitv a b) (hitv a b) with | true => (match eqA (Cs sm) eg 100 52 (hitv a b) (hitv a b) with | some r => some (Value.bool (!r)) | none => none) | false => none) = _
  rw [eqH, show guardA eg 52 x y (hitv a b) (hitv a b) = !eg 52 from rfl, eg52]
  rfl)
set_option maxHeartbeats 4000000 in
theorem hits_spec (H : Std sm) {h : T AObj} {c : Nat} {rl wl : List Nat} (hf : Fresh h c) {a b : Option Addr} {k k' : Nat} {l : List Ht} (hx : Row h (.slice a l.length k) l.length 2 (flatH l)) (hy : Row h (.slice b l.length k') l.length 2 (flatH l)) (hn : l.length ≤ 1000) :
  ∃ r s', FnTo (Cs sm) eg 22 [.slice a l.length k, .slice b l.length k'] ⟨h, c, rl, wl⟩ r s' ∧ r = .bool true ∧ s'.h = h ∧ s'.c = c ∧ Ext ⟨h, c, rl, wl⟩ s' (fun _ => True) (fun _ => False) := by
 refine Fn.go (H 22 rfl) ex22 fn22 km22 rfl rfl ?_
 refine Zev ?_
 have lgR : ∀ l : List Nat, Lg c (fun _ => True) l := fun l b hb => .inr trivial
 refine Zgo ?_
 refine Wx.loopE (fun k1 e s => ∃ (i : Nat) (z : Int) (j5 j14 j24 : Value) (rl' : List Nat), e = EHs a l.length k b k' z j5 j14 j24 ∧ z = i ∧ s = ⟨h, c, rl', []⟩ ∧ i ≤ l.length ∧ k1 = l.length - i) l.length (EHs a l.length k b k' 0 top top top) Zrs ?_ ?_ ?_
 ·unfold EHs
  exact Zek
 ·exact ⟨0, 0, _, _, _, _, rfl, rfl, rfl, by omega, rfl⟩
 ·rintro k1 e s ⟨i, z, j5, j14, j24, rl', rfl, hz, rfl, hid, rfl⟩
  unfold EHs
  by_cases hi : i < l.length
  ·obtain ⟨b1, o1, sp1, cs1, rfl, hc1, hs1⟩ := rowB hx (by omega)
   obtain ⟨b2, o2, sp2, cs2, rfl, hc2, hs2⟩ := rowB hy (by omega)
   have l1 := hc1.lt hf
   have l2 := hc2.lt hf
   have hg1 := sub_hit hs1 (List.getElem?_eq_getElem hi)
   have hg2 := sub_hit hs2 (List.getElem?_eq_getElem hi)
   refine Zgo ?_
   refine Zq (to_indexAddr (k := i) el37 rfl rfl hz (by omega)) ?_
   refine Zd (to_loadS ag52 rfl hc1 (by omega) hg1) ?_
   refine Zgo ?_
   refine Zq (to_indexAddr (k := i) el37 rfl rfl hz (by omega)) ?_
   refine Zd (to_loadS ag52 rfl hc2 (by omega) hg2) ?_
   refine Zq (to_neH rfl rfl) ?_
   refine Zgo ?_
   exact RoundE.go (l.length - (i + 1)) (EHs _ l.length k _ k' (z + 1) _ _ _) (by omega) Zek ⟨i + 1, z + 1, _, _, _, _, rfl, by omega, rfl, by omega, rfl⟩
  ·refine Zgo ?_
   refine ⟨.inr rfl, Wres.one rfl ⟨rfl, rfl, rfl, ?_⟩⟩
   exact Ext.of (Nat.le_refl _) hf Kp.refl (lgR _) Zlg
end Go.Ab.Seat
end
section
/- FlatOrder: the run answers true (the abstract machine). -/
namespace Go.Ab.Seat
open Go.Extern Go.Proofs
set_option maxRecDepth 4000
def and1 (z : Int) : Int := (((BitVec.ofInt 64 z).toNat % 2 : Nat) : Int)
theorem and1_or (z : Int) : and1 z = 0 ∨ and1 z = 1 := by unfold and1; omega
theorem to_and1 {C : Ctx} {e : Env} {s : St} {d : Option Nat} {ty t t2 : TypeId} {ps : String} {af : Array Edge} {g : Option (Nat × Bool)} {x y : Operand} {z : Int} (hx : evalA e x = .int .i64 z) (hy : evalA e y = .int .i64 1) :
  OpTo C eg e ⟨d, .binOp .and t x y t2, ty, ps, af, g⟩ s (.int .i64 (and1 z)) s :=
 to_bin hx hy (by
  have h : ((BitVec.ofInt 64 z &&& BitVec.ofInt 64 1).toNat : Int) = and1 z := by
   unfold and1
   rw [BitVec.toNat_and, show (BitVec.ofInt 64 1).toNat = 1 by decide, Nat.and_one_is_mod]
  show some (Value.int .i64 (wrapA .i64 ((BitVec.ofInt 64 z &&& BitVec.ofInt 64 1).toNat : Int))) = _
  rw [h, wrapA_i64 (by have := and1_or z; omega) (by have := and1_or z; omega)])
structure Two (h : T AObj) (c : Nat) (pa ma pb mb : Nat) (mt : Int) (dim : Nat) (A B : List Rc) : Prop where
 ex : ∃ Ua Ub : Nat → Prop, FlatM h pa ma mt dim A Ua ∧ FlatM h pb mb mt dim B Ub ∧ ¬Ua mb ∧ ¬Ub ma ∧ ma < c ∧ mb < c
theorem FlatM.hm {h : T AObj} {p m dim : Nat} {mt : Int} {M : List Rc} {U : Nat → Prop} (q : FlatM h p m mt dim M U) : ∃ es n, Has h m (.map es n) := by
 obtain ⟨es, n, h1, _⟩ := q.ex
 exact ⟨es, n, h1⟩
theorem Two.keep {h h' : T AObj} {c c' : Nat} {pa ma pb mb dim : Nat} {mt : Int} {A B : List Rc} (t : Two h c pa ma pb mb mt dim A B) (hf : Fresh h c) (hc : c ≤ c') (k : ∀ b, b < c → h'.get b = h.get b) : Two h' c' pa ma pb mb mt dim A B := by
 obtain ⟨Ua, Ub, qa, qb, u1, u2, l1, l2⟩ := t.ex
 exact ⟨Ua, Ub, qa.keep hf fun b _ hb => k b hb, qb.keep hf fun b _ hb => k b hb, u1, u2, by omega, by omega⟩
end Go.Ab.Seat
end
section
/- The reference's index is written: one is taken out, let go, put (the abstract machine). -/
namespace Go.Ab.Seat
open Go.Extern Go.Proofs
set_option maxRecDepth 4000
theorem Row.keepBT {h h' : T AObj} {v : Value} {n k : Nat} {xs : List Value} (hr : Row h v n k xs) (hk : ∀ b, blkOf v = some b → h'.get b = h.get b) : Row h' v n k xs := by
 rcases hr with g | ⟨b, o, sp, cap, cs, e, g6, g7⟩
 ·exact .inl g
 ·refine .inr ⟨b, o, sp, cap, cs, e, ?_, g7⟩
  have q := hk b (by rw [e]; rfl)
  unfold Cel Has at g6 ⊢
  rw [q]; exact g6
end Go.Ab.Seat
end
section
/- Face's put; the law's Dim; the reference's New, made (the abstract machine). -/
namespace Go.Ab.Seat
open Go.Extern Go.Proofs
set_option maxRecDepth 4000
def opF (kd id k : Int) (oa : Option Addr) (on oc : Nat) (dw : Int) : Value := .agg ⟨[.int .i64 kd, .int .i64 id, .int .i64 k, .slice oa on oc, .int .u32 dw]⟩
end Go.Ab.Seat
end
section
/- Duet indexes side by side, whatever kind they are of; operations that come in (the abstract machine). -/
namespace Go.Ab.Seat
open Go.Extern Go.Proofs
def OpsD (h : T AObj) (c0 : Nat) (oa : Option Addr) (n : Nat) : Prop := ∀ i, i < n → ∃ b o sp cs kd id k va nv kv, ∃ zs : List Int, ∃ dw, oa = some ⟨b, o, sp⟩ ∧ b < c0 ∧ Cel h b cs ∧ subN (o + i * 5) 5 cs = some [.int .i64 kd, .int .i64 id, .int .i64 k, .slice va nv kv, .int .u32 dw] ∧
 Row h (.slice va nv kv) nv 1 (zs.map (Value.int .i32)) ∧ zs.length = nv ∧ (0 ≤ dw ∧ dw < 4294967296) ∧ ∀ b, blkOf (.slice va nv kv) = some b → b < c0
theorem OpsD.keep {h h' : T AObj} {c0 n : Nat} {oa : Option Addr} (x : OpsD h c0 oa n) (k : ∀ b, b < c0 → h'.get b = h.get b) : OpsD h' c0 oa n := fun i hi => by
 obtain ⟨b, o, sp, cs, kd, id, k1, va, nv, kv, zs, dw, h1, h2, h3, h4, h5, h6, h8, h7⟩ := x i hi
 exact ⟨b, o, sp, cs, kd, id, k1, va, nv, kv, zs, dw, h1, h2, by unfold Cel Has at h3 ⊢; rw [k b h2]; exact h3, h4, Row.keepBT h5 (fun b hb => k b (h7 b hb)), h6, h8, h7⟩
def Tells (h : T AObj) (v : Value) (dim : Nat) (o : Option Rc) : Prop := (o = none ∧ ∃ a k, v = .slice a 0 k ∧ Row h (.slice a 0 k) 0 1 []) ∨ ∃ (r0 : Rc) (zs : List Int) (a : Option Addr) (k : Nat), o = some r0 ∧ r0.xs = zs.map (Value.int .i32) ∧ zs.length = dim ∧ v = .slice a dim k ∧ Row h (.slice a dim k) dim 1 r0.xs
theorem Tells.keep {h h' : T AObj} {c : Nat} {v : Value} {dim : Nat} {o : Option Rc} (x : Tells h v dim o) (hf : Fresh h c) (k : ∀ b, b < c → h'.get b = h.get b) : Tells h' v dim o := by
 rcases x with ⟨h1, a, k1, h2, h3⟩ | ⟨r0, zs, a, k1, h1, h2, h3, h4, h5⟩
 ·exact .inl ⟨h1, a, k1, h2, Row.keepF h3 hf (fun b hb => k b hb)⟩
 ·exact .inr ⟨r0, zs, a, k1, h1, h2, h3, h4, Row.keepF h5 hf (fun b hb => k b hb)⟩
theorem mem_delM {id : Int} {x : Rc} {M : List Rc} (h : x ∈ delM id M) : x ∈ M := by
 unfold delM at h
 exact (List.mem_filter.1 h).1
structure Duet {σ : Type} (fv : List Value) (r c0 dim : Nat) (mem : σ → List Rc) (put : σ → Int → List Int → Int → σ) (del : σ → Int → σ) (look : σ → List Int → Nat → List Ht) (J : T AObj → Nat → (Nat → Prop) → σ → σ → Prop) : Prop where
 f : ∀ {h c U A B}, J h c U A B → Fresh h c
 bd : ∀ {h c U A B}, J h c U A B → ∀ b, U b → c0 ≤ b ∧ b < c
 keep : ∀ {h c U A B h' c'}, J h c U A B → Fresh h' c' → c ≤ c' → (∀ b, U b → h'.get b = h.get b) → J h' c' U A B
 rises : ∀ {h c U A B}, J h c U A B → Rises (mem A)
 looks : ∀ A zs k, (look A zs k).length ≤ k
 mput : ∀ {A id zs dw x}, x ∈ mem (put A id zs dw) → x.id = id ∨ x ∈ mem A
 mdel : ∀ {A id x}, x ∈ mem (del A id) → x ∈ mem A
 putF : ∀ {h c U A B} {rl wl : List Nat} (d : J h c U A B) (id : Int) (hid : 0 ≤ id ∧ id ≤ 39) {bv : Nat} {zs : List Int} (hv : Has h bv (.cells (zs.map (Value.int .i32)))) (hz : zs.length = dim) (hb : Bnd zs) (kd k dw : Int) (hdw : 0 ≤ dw ∧ dw < 4294967296) (oa : Option Addr) (on oc : Nat) (hn : (mem A).length ≤ 40), ¬U bv → c0 ≤ c →
  ∃ v s', FnTo (Cs smQ) eg 119 [.agg ⟨fv⟩, opF kd id k oa on oc dw, .slice (some ⟨bv, 0, none⟩) dim dim] ⟨h, c, rl, wl⟩ v s' ∧ J s'.h s'.c (fun b => U b ∨ c ≤ b ∧ b < s'.c) (put A id zs dw) B ∧ Ext ⟨h, c, rl, wl⟩ s' (fun _ => True) U
 putR : ∀ {h c U A B} {rl wl : List Nat} (d : J h c U A B) (id : Int) (hid : 0 ≤ id ∧ id ≤ 39) {bv : Nat} {zs : List Int} (hv : Has h bv (.cells (zs.map (Value.int .i32)))) (hz : zs.length = dim) (hb : Bnd zs) (dw : Int) (hdw : 0 ≤ dw ∧ dw < 4294967296) (hn : (mem B).length ≤ 40), ¬U bv → c0 ≤ c →
  ∃ v s', FnTo (Cs smQ) eg 50 [.pointer (some ⟨r, 0, none⟩), .int .i64 id, .slice (some ⟨bv, 0, none⟩) dim dim, .int .u32 dw] ⟨h, c, rl, wl⟩ v s' ∧ J s'.h s'.c (fun b => U b ∨ c ≤ b ∧ b < s'.c) A (put B id zs dw) ∧ Ext ⟨h, c, rl, wl⟩ s' (fun _ => True) U
 delF : ∀ {h c U A B} {rl wl : List Nat} (d : J h c U A B) (id : Int) (hn : (mem A).length ≤ 40), c0 ≤ c →
  ∃ v s', FnTo (Cs smQ) eg 120 [.agg ⟨fv⟩, .int .i64 id] ⟨h, c, rl, wl⟩ v s' ∧ (v = .bool (getM id (mem A)).isSome ∧ J s'.h s'.c (fun b => U b ∨ c ≤ b ∧ b < s'.c) (del A id) B) ∧ Ext ⟨h, c, rl, wl⟩ s' (fun _ => True) U
 delR : ∀ {h c U A B} {rl wl : List Nat} (d : J h c U A B) (id : Int) (hn : (mem B).length ≤ 40), c0 ≤ c →
  ∃ v s', FnTo (Cs smQ) eg 52 [.pointer (some ⟨r, 0, none⟩), .int .i64 id] ⟨h, c, rl, wl⟩ v s' ∧ (v = .bool (getM id (mem B)).isSome ∧ J s'.h s'.c (fun b => U b ∨ c ≤ b ∧ b < s'.c) A (del B id)) ∧ Ext ⟨h, c, rl, wl⟩ s' (fun _ => True) U
 searchF : ∀ {h c U A B} {rl wl : List Nat} (d : J h c U A B) {bv : Nat} {zs : List Int} (hv : Has h bv (.cells (zs.map (Value.int .i32)))) (hz : zs.length = dim) (hb : Bnd zs) (k : Int) {kk : Nat} (hk : max k 0 = (kk : Int)) (hkk : kk ≤ 30) (hn : (mem A).length ≤ 40), c0 ≤ c →
  ∃ v s', FnTo (Cs smQ) eg 121 [.agg ⟨fv⟩, .slice (some ⟨bv, 0, none⟩) dim dim, .int .i64 k] ⟨h, c, rl, wl⟩ v s' ∧ (Best s'.h v (look A zs kk).length (flatH (look A zs kk)) ∧ ∀ b, blkOf v = some b → c ≤ b) ∧ Ext ⟨h, c, rl, wl⟩ s' (fun _ => True) (fun _ => False)
 searchR : ∀ {h c U A B} {rl wl : List Nat} (d : J h c U A B) {bv : Nat} {zs : List Int} (hv : Has h bv (.cells (zs.map (Value.int .i32)))) (hz : zs.length = dim) (hb : Bnd zs) (k : Int) {kk : Nat} (hk : max k 0 = (kk : Int)) (hkk : kk ≤ 30) (hn : (mem B).length ≤ 40), c0 ≤ c →
  ∃ v s', FnTo (Cs smQ) eg 53 [.pointer (some ⟨r, 0, none⟩), .slice (some ⟨bv, 0, none⟩) dim dim, .int .i64 k] ⟨h, c, rl, wl⟩ v s' ∧ (Best s'.h v (look B zs kk).length (flatH (look B zs kk)) ∧ ∀ b, blkOf v = some b → c ≤ b) ∧ Ext ⟨h, c, rl, wl⟩ s' (fun _ => True) (fun _ => False)
 idsF : ∀ {h c U A B} {rl wl : List Nat} (d : J h c U A B) (hn : (mem A).length ≤ 40),
  ∃ v s', FnTo (Cs smQ) eg 124 [.agg ⟨fv⟩] ⟨h, c, rl, wl⟩ v s' ∧ Own s'.h c v (mem A).length (((mem A).map Rc.id).map (Value.int .i64)) ∧ Ext ⟨h, c, rl, wl⟩ s' (fun _ => True) (fun _ => False)
 idsR : ∀ {h c U A B} {rl wl : List Nat} (d : J h c U A B) (hn : (mem B).length ≤ 40),
  ∃ v s', FnTo (Cs smQ) eg 56 [.pointer (some ⟨r, 0, none⟩)] ⟨h, c, rl, wl⟩ v s' ∧ HJ s'.h c v ((mem B).map Rc.id) ∧ Ext ⟨h, c, rl, wl⟩ s' (fun _ => True) (fun _ => False)
 vecF : ∀ {h c U A B} {rl wl : List Nat} (d : J h c U A B) (id : Int) (hn : (mem A).length ≤ 40),
  ∃ v s', FnTo (Cs smQ) eg 122 [.agg ⟨fv⟩, .int .i64 id] ⟨h, c, rl, wl⟩ v s' ∧ (∃ w, v = .tuple #[w, .bool (getM id (mem A)).isSome] ∧ Tells s'.h w dim (getM id (mem A))) ∧ Ext ⟨h, c, rl, wl⟩ s' (fun _ => True) (fun _ => False)
 vecR : ∀ {h c U A B} {rl wl : List Nat} (d : J h c U A B) (id : Int) (hn : (mem B).length ≤ 40),
  ∃ v s', FnTo (Cs smQ) eg 123 [.pointer (some ⟨r, 0, none⟩), .int .i64 id] ⟨h, c, rl, wl⟩ v s' ∧ (∃ w, v = .tuple #[w, .bool (getM id (mem B)).isSome] ∧ Tells s'.h w dim (getM id (mem B))) ∧ Ext ⟨h, c, rl, wl⟩ s' (fun _ => True) (fun _ => False)
end Go.Ab.Seat
end
section
/- The law's 'alike' with any two indexes that go together answers true (the abstract machine). -/
namespace Go.Ab.Seat
open Go.Extern Go.Proofs
set_option maxRecDepth 4000
end Go.Ab.Seat
end
section
/- GraphWide: the run answers true (the abstract machine). -/
namespace Go.Ab.Seat
open Go.Extern Go.Proofs
set_option maxRecDepth 4000
theorem Glob.keep {h h' : T AObj} {c : Nat} (g : Glob h) (hc : 2 ≤ c) (k : ∀ b, b < c → h'.get b = h.get b) : Glob h' := ⟨(k 0 (by omega)).trans g.g0, (k 1 (by omega)).trans g.g1⟩
end Go.Ab.Seat
end
section
/- A graph of few: all are linked on the lowest level, all are found (plain lists). -/
namespace Go.Ab.Seat
open Go.Extern Go.Proofs
structure FAll (P : List Int) (st : List Ht × List Int) : Prop where
 sub : ∀ x ∈ st.1, x.id ∈ P
 had : ∀ y ∈ st.2, y ∈ st.1.map Ht.id
section
variable {mt : Int} {M : List Rc} {q : List Int} {n : Nat} {st : List Ht × List Int} {P : List Int}
theorem putB_ids {f : List Ht} {x : Ht} (hnd : (f.map Ht.id).Nodup) (hsub : ∀ y ∈ f, y.id ∈ P) (hx : x.id ∈ P) (hn : P.length ≤ n) : ∀ z, z ∈ (putB n f x).map Ht.id ↔ z = x.id ∨ z ∈ f.map Ht.id := by
 intro z
 by_cases h : x.id ∈ f.map Ht.id
 ·have e : putB n f x = f := by
   unfold putB
   rw [if_pos]
   obtain ⟨y, hy, e⟩ := List.mem_map.1 h
   exact List.any_eq_true.2 ⟨y, hy, decide_eq_true e⟩
  rw [e]
  exact ⟨.inr, fun q => q.elim (fun q => q ▸ h) id⟩
 ·have hlt : f.length < n := by
   have := nodup_len (a := x.id :: f.map Ht.id) (b := P) (List.nodup_cons.2 ⟨h, hnd⟩) fun y hy => by
    rcases List.mem_cons.1 hy with rfl | hy
    ·exact hx
    ·obtain ⟨w, hw, rfl⟩ := List.mem_map.1 hy
     exact hsub w hw
   rw [List.length_cons, List.length_map] at this
   omega
  rw [putB_ins (fun y hy e => h (List.mem_map.2 ⟨y, hy, e⟩)) hlt, ((insB_perm x f).map Ht.id).mem_iff, List.map_cons, List.mem_cons]
theorem FAll.from_ (g : FGood mt M q n st) (a : FAll P st) (hn : P.length ≤ n) {y : Int} (hy : y ∈ P) : FAll P (fromG mt M q n st y) ∧ ∀ z, z ∈ (fromG mt M q n st y).1.map Ht.id ↔ z = y ∨ z ∈ st.1.map Ht.id := by
 have h := putB_ids (n := n) (x := hitG mt M q y) g.nd a.sub hy hn
 refine ⟨⟨fun x hx => ?_, fun z hz => ?_⟩, h⟩
 ·rcases mem_putB hx with rfl | hx
  ·exact hy
  ·exact a.sub x hx
 ·refine (h z).2 ?_
  rcases List.mem_cons.1 hz with e | hz
  ·exact .inl e
  ·exact .inr (a.had z hz)
theorem FAll.see (g : FGood mt M q n st) (a : FAll P st) (hn : P.length ≤ n) {y : Int} (hy : y ∈ P) : FAll P (seeG mt M q n st y) ∧ ∀ z, z ∈ (seeG mt M q n st y).1.map Ht.id ↔ z = y ∨ z ∈ st.1.map Ht.id := by
 unfold seeG
 by_cases h : y ∈ st.2
 ·rw [if_pos h]
  exact ⟨a, fun z => ⟨.inr, fun e => e.elim (fun e => by rw [e]; exact a.had y h) id⟩⟩
 ·rw [if_neg h]
  exact a.from_ g hn hy
theorem FAll.fromAll (hM : ∀ y ∈ P, ∃ r, getM y M = some r) (hn : P.length ≤ n) : ∀ {l : List Int} {st : List Ht × List Int}, FGood mt M q n st → FAll P st → (∀ y ∈ l, y ∈ P) → FAll P (l.foldl (fromG mt M q n) st) ∧ ∀ z, z ∈ (l.foldl (fromG mt M q n) st).1.map Ht.id ↔ z ∈ l ∨ z ∈ st.1.map Ht.id
 | [], st, g, a, _ => ⟨a, fun z => by simp⟩
 | y :: l, st, g, a, h => by
  obtain ⟨a1, h1⟩ := a.from_ g hn (h y (List.mem_cons_self ..))
  obtain ⟨a2, h2⟩ := FAll.fromAll hM hn (l := l) (g.from_ (hM y (h y (List.mem_cons_self ..)))) a1 fun z hz => h z (List.mem_cons_of_mem _ hz)
  refine ⟨a2, fun z => ?_⟩
  rw [List.foldl_cons, h2, h1, List.mem_cons]
  constructor
  ·rintro (e | e | e)
   ·exact .inl (.inr e)
   ·exact .inl (.inl e)
   ·exact .inr e
  ·rintro ((e | e) | e)
   ·exact .inr (.inl e)
   ·exact .inl e
   ·exact .inr (.inr e)
theorem FAll.seeAll (hM : ∀ y ∈ P, ∃ r, getM y M = some r) (hn : P.length ≤ n) : ∀ {l : List Int} {st : List Ht × List Int}, FGood mt M q n st → FAll P st → (∀ y ∈ l, y ∈ P) → FAll P (l.foldl (seeG mt M q n) st) ∧ ∀ z, z ∈ (l.foldl (seeG mt M q n) st).1.map Ht.id ↔ z ∈ l ∨ z ∈ st.1.map Ht.id
 | [], st, g, a, _ => ⟨a, fun z => by simp⟩
 | y :: l, st, g, a, h => by
  obtain ⟨a1, h1⟩ := a.see g hn (h y (List.mem_cons_self ..))
  obtain ⟨a2, h2⟩ := FAll.seeAll hM hn (l := l) (g.see (hM y (h y (List.mem_cons_self ..)))) a1 fun z hz => h z (List.mem_cons_of_mem _ hz)
  refine ⟨a2, fun z => ?_⟩
  rw [List.foldl_cons, h2, h1, List.mem_cons]
  constructor
  ·rintro (e | e | e)
   ·exact .inl (.inr e)
   ·exact .inl (.inl e)
   ·exact .inr e
  ·rintro ((e | e) | e)
   ·exact .inr (.inl e)
   ·exact .inl e
   ·exact .inr (.inr e)
end
section
variable {mt : Int} {G : Gr} {q : List Int} {n l : Nat} {P : List Int}
theorem lookN_all (hM : ∀ y ∈ P, ∃ r, getM y G.M = some r) (hn : P.length ≤ n) (hc : ∀ x ∈ P, ∀ y ∈ G.L x l, y ∈ P) : ∀ (k : Nat) {st : LS}, LGood mt G q n st → FAll P (st.f, st.s) → (∀ y ∈ P, y ∈ st.f.map Ht.id) → (∀ y ∈ P, y ∈ (lookN mt G q l n k st).map Ht.id) ∧ ∀ x ∈ lookN mt G q l n k st, x.id ∈ P := by
 intro k
 induction k with
 | zero => intro st g a h; exact ⟨h, a.sub⟩
 | succ k ih =>
  intro st g a h
  cases hx : nextG st with
  | none => rw [lookN_end hx]; exact ⟨h, a.sub⟩
  | some x =>
   rw [lookN_step hx]
   obtain ⟨h1, h2⟩ := nextG_some hx
   have hxP := a.sub x h1
   obtain ⟨a1, h3⟩ := FAll.seeAll (P := P) (n := n) hM hn (l := G.L x.id l) g.f a (hc x.id hxP)
   exact ih (g.step hx fun y hy => hM y (hc x.id hxP y hy)) a1 fun y hy => (h3 y).2 (.inr (h y hy))
theorem lookH_full (hP : P.Nodup) (hM : ∀ y ∈ P, ∃ r, getM y G.M = some r) (hn : P.length ≤ n) (hc : ∀ x ∈ P, ∀ y ∈ G.L x l, y ∈ P) (hl : ∀ x ∈ P, ∀ y ∈ P, x ≠ y → y ∈ G.L x l) {fs : List Int} (hne : fs ≠ []) (hfs : ∀ y ∈ fs, y ∈ P) : lookH mt G q l fs n = bestOf n (P.map (hitG mt G.M q)) := by
 have g0 := LGood.start (mt := mt) (G := G) (q := q) (n := n) (l := fs) fun y hy => hM y (hfs y hy)
 obtain ⟨a0, h0⟩ := FAll.fromAll (mt := mt) (q := q) (n := n) (M := G.M) (P := P) hM hn (l := fs) (st := ([], [])) FGood.nil ⟨(fun x hx => by cases hx), (fun x hx => by cases hx)⟩ hfs
 obtain ⟨x0, fs', rfl⟩ := List.exists_cons_of_ne_nil hne
 have hx0 : x0 ∈ (startG mt G.M q n (x0 :: fs')).f.map Ht.id := (h0 x0).2 (.inl (List.mem_cons_self ..))
 have hall : (∀ y ∈ P, y ∈ (lookH mt G q l (x0 :: fs') n).map Ht.id) ∧ ∀ x ∈ lookH mt G q l (x0 :: fs') n, x.id ∈ P := by
  unfold lookH
  cases hf : (startG mt G.M q n (x0 :: fs')).f.map Ht.id with
  | nil => rw [hf] at hx0; cases hx0
  | cons z zs =>
   obtain ⟨w, hw, e, _⟩ := nextG_at (st := startG mt G.M q n (x0 :: fs')) (i := 0) (x := z) (by rw [hf]; rfl) (fun q => by cases q) (fun y hy => by cases hy)
   obtain ⟨h1, h2⟩ := nextG_some hw
   have hwP := a0.sub w h1
   rw [lookN_step hw]
   obtain ⟨a1, h3⟩ := FAll.seeAll (P := P) (n := n) hM hn (l := G.L w.id l) g0.f a0 (hc w.id hwP)
   refine lookN_all hM hn hc _ (g0.step hw fun y hy => hM y (hc w.id hwP y hy)) a1 fun y hy => (h3 y).2 ?_
   by_cases e : w.id = y
   ·exact .inr (e ▸ List.mem_map_of_mem h1)
   ·exact .inl (hl w.id hwP y hy e)
 obtain ⟨s, g⟩ : ∃ s, FGood mt G.M q n (lookH mt G q l (x0 :: fs') n, s) := by
  -- links of others do not matter: the look stays in P
  have gen : ∀ (k : Nat) {st : LS}, LGood mt G q n st → FAll P (st.f, st.s) → ∃ s, FGood mt G.M q n (lookN mt G q l n k st, s) := by
   intro k
   induction k with
   | zero => intro st g a; exact ⟨st.s, g.f⟩
   | succ k ih =>
    intro st g a
    cases hx : nextG st with
    | none => rw [lookN_end hx]; exact ⟨st.s, g.f⟩
    | some x =>
     rw [lookN_step hx]
     obtain ⟨h1, h2⟩ := nextG_some hx
     have hxP := a.sub x h1
     exact ih (g.step hx fun y hy => hM y (hc x.id hxP y hy)) (FAll.seeAll (P := P) (n := n) hM hn (l := G.L x.id l) g.f a (hc x.id hxP)).1
  exact gen _ g0 a0
 generalize lookH mt G q l (x0 :: fs') n = f at hall g
 have e1 : f = (f.map Ht.id).map (hitG mt G.M q) := by
  rw [List.map_map]
  conv => lhs; rw [← List.map_id f]
  exact List.map_congr_left fun x hx => g.hit x hx
 have p1 : (f.map Ht.id).Perm P := (List.perm_ext_iff_of_nodup g.nd hP).2 fun a => ⟨fun h => by
  obtain ⟨x, hx, rfl⟩ := List.mem_map.1 h
  exact hall.2 x hx, hall.1 a⟩
 have e2 : (P.map (hitG mt G.M q)).map Ht.id = P := by rw [List.map_map]; exact List.map_id P
 obtain ⟨p2, o2⟩ := bestOf_ord (k := n) (l := P.map (hitG mt G.M q)) (by rw [e2]; exact hP) (P.map (hitG mt G.M q)).length (Nat.le_refl _) (by rw [List.length_map]; exact hn)
 rw [List.take_length] at p2 o2
 refine ord_unique g.ord o2 (List.Perm.trans ?_ p2.symm)
 rw [e1]
 exact p1.map _
theorem lookH_ne {fs : List Int} (hn : 1 ≤ n) (h : fs ≠ []) : lookH mt G q l fs n ≠ [] := by
 have froms : ∀ (ys : List Int) (st : List Ht × List Int), st.1 ≠ [] → (ys.foldl (fromG mt G.M q n) st).1 ≠ [] := by
  intro ys
  induction ys with
  | nil => intro st h; exact h
  | cons y ys ih => intro st h; exact ih _ (putB_ne hn (.inr trivial))
 have sees : ∀ (ys : List Int) (st : List Ht × List Int), st.1 ≠ [] → (ys.foldl (seeG mt G.M q n) st).1 ≠ [] := by
  intro ys
  induction ys with
  | nil => intro st h; exact h
  | cons y ys ih =>
   intro st h
   refine ih _ ?_
   unfold seeG
   split
   ·exact h
   ·exact putB_ne hn (.inr trivial)
 have main : ∀ (k : Nat) (st : LS), st.f ≠ [] → lookN mt G q l n k st ≠ [] := by
  intro k
  induction k with
  | zero => intro st h; exact h
  | succ k ih =>
   intro st h
   cases hx : nextG st with
   | none => rw [lookN_end hx]; exact h
   | some x => rw [lookN_step hx]; exact ih _ (sees _ _ h)
 obtain ⟨x0, fs', rfl⟩ := List.exists_cons_of_ne_nil h
 exact main _ _ (froms fs' _ (show putB n [] (hitG mt G.M q x0) ≠ [] from putB_ne hn (.inr trivial)))
theorem lookG_ne {fs : List Int} (hn : 1 ≤ n) (h : fs ≠ []) : lookG mt G q l fs n ≠ [] := fun e => lookH_ne hn h (List.map_eq_nil_iff.1 e)
theorem downG_ne : ∀ (u : Nat) {at_ : List Int}, at_ ≠ [] → downG mt G q l u at_ ≠ [] := by
 intro u
 induction u with
 | zero => intro at_ h; exact h
 | succ u ih =>
  intro at_ h
  by_cases hl : l < u + 1
  ·rw [downG_step hl]; exact ih (lookG_ne (Nat.le_refl 1) h)
  ·rw [downG_stop (by omega)]; exact h
theorem downG_all {Q : Int → Prop} (hL : ∀ x k y, y ∈ G.L x k → Q y) : ∀ (u : Nat) {at_ : List Int}, (∀ y ∈ at_, Q y) → ∀ y ∈ downG mt G q l u at_, Q y := by
 intro u
 induction u with
 | zero => intro at_ h; exact h
 | succ u ih =>
  intro at_ h
  by_cases hl : l < u + 1
  ·rw [downG_step hl]; exact ih (look_all h fun x y hy => hL x _ y hy)
  ·rw [downG_stop (by omega)]; exact h
end
def Full (M : List Rc) (L : Lk) : Prop := ∀ a ∈ M, ∀ b ∈ M, a.id ≠ b.id → b.id ∈ L a.id 0
theorem rises_nd {M : List Rc} (h : Rises M) : (M.map Rc.id).Nodup := h.ids.imp fun q => Int.ne_of_lt q
theorem hits_ids {mt : Int} {q : List Int} {M : List Rc} (h : Rises M) : (M.map Rc.id).map (hitG mt M q) = hitsM mt q M := by
 unfold hitsM
 rw [List.map_map]
 refine List.map_congr_left fun r hr => ?_
 show Ht.mk r.id (scoreZ mt q (zsM M r.id)) = _
 unfold zsM
 rw [getM_some h hr rfl]
 rfl
theorem searchG_full {mt : Int} {G : Gr} {q : List Int} {k : Nat} (w : GWf G) (hf : Full G.M G.L) (hn : G.M.length ≤ max 8 k) : searchG mt G q k = bestOf k (hitsM mt q G.M) := by
 obtain ⟨g1, _⟩ := entry_spec w.lev
 unfold searchG
 by_cases h : (entryG G.M).2 < 0
 ·rw [if_pos h, g1 h]; rfl
 ·rw [if_neg h]
  obtain ⟨r, hr, _⟩ := entry_at w (by omega)
  have hmem : ∀ {y}, (∃ r, getM y G.M = some r) → y ∈ G.M.map Rc.id := fun ⟨r, hr⟩ => by
   obtain ⟨h1, h2⟩ := getM_mem hr
   exact List.mem_map.2 ⟨r, h1, h2⟩
  rw [lookH_full (P := G.M.map Rc.id) (rises_nd w.rises) (fun y hy => by
   obtain ⟨r, h1, rfl⟩ := List.mem_map.1 hy
   exact ⟨r, getM_some w.rises h1 rfl⟩) (by rw [List.length_map]; exact hn) (fun x _ y hy => by
   obtain ⟨r, h1, _⟩ := w.lw.mem x 0 y hy
   exact hmem ⟨r, h1⟩) (fun x hx y hy hne => by
   obtain ⟨a, ha, rfl⟩ := List.mem_map.1 hx
   obtain ⟨b, hb, rfl⟩ := List.mem_map.1 hy
   exact hf a ha b hb hne) (downG_ne (at_ := [(entryG G.M).1]) _ (by simp)) (downG_all (Q := fun y => y ∈ G.M.map Rc.id) (fun x k y hy => by
   obtain ⟨r, h1, _⟩ := w.lw.mem x k y hy
   exact hmem ⟨r, h1⟩) _ (fun y hy => by rw [List.mem_singleton.1 hy]; exact hmem ⟨r, hr⟩)), hits_ids w.rises]
  have hd : ((hitsM mt q G.M).map Ht.id).Nodup := by
   unfold hitsM
   rw [List.map_map]
   exact (rises_nd w.rises)
  have c1 := fun k => bestOf_cut (k := k) hd (hitsM mt q G.M).length (Nat.le_refl _)
  simp only [List.take_length] at c1
  rw [c1, c1 k, List.take_take]
  congr 1
  omega
theorem mem_joinL_ne {mt : Int} {M : List Rc} {l k : Nat} (h : k ≠ l) {L : Lk} {id x y : Int} {near : List Int} : y ∈ joinL mt M l L id near x k ↔ y ∈ L x k := by
 have prs : ∀ (zs : List Int) (L : Lk), y ∈ zs.foldl (pruneL mt M l) L x k ↔ y ∈ L x k := by
  intro zs
  induction zs with
  | nil => intro L; exact Iff.rfl
  | cons z zs ih =>
   intro L
   rw [List.foldl_cons, ih]
   unfold pruneL
   rw [mem_parts]
   exact ⟨fun e => e.1, fun e => ⟨e, fun q => h q.1⟩⟩
 unfold joinL
 rw [prs, mem_links]
 exact ⟨fun e => e.elim (fun e => e) fun e => absurd e.1 h, .inl⟩
theorem prune_few {mt : Int} {M : List Rc} {l : Nat} {L : Lk} {id : Int} (h : (L id l).length ≤ mostG l) (hu : (L id l).Nodup) : pruneL mt M l L id = L := by
 unfold pruneL
 have : (rankG mt M id (L id l)).length ≤ mostG l := by rw [(rank_perm hu).length_eq]; exact h
 rw [List.drop_eq_nil_of_le this]
 rfl
theorem prunes_few {mt : Int} {M : List Rc} {l : Nat} {L : Lk} (h : ∀ x, (L x l).length ≤ mostG l) (hu : ∀ x, (L x l).Nodup) : ∀ zs : List Int, zs.foldl (pruneL mt M l) L = L
 | [] => rfl
 | z :: zs => by rw [List.foldl_cons, prune_few (h z) (hu z)]; exact prunes_few h hu zs
theorem grow_full {mt id : Int} {q : List Int} {P : List Int} (hP : P.Nodup) (h4 : P.length ≤ 4) : ∀ (l : Nat) {G : Gr} {at_ : List Int}, (∀ r ∈ G.M, 0 ≤ r.seq) → LC G.M G.L → (∃ r, getM id G.M = some r ∧ (l : Int) ≤ r.seq) → (∀ k, k ≤ l → G.L id k = []) → (∀ y ∈ at_, y ≠ id ∧ ∃ r, getM y G.M = some r ∧ (l : Int) ≤ r.seq) → at_ ≠ [] → (∀ y, y ∈ P ↔ y ≠ id ∧ ∃ r, getM y G.M = some r) → (∀ x ∈ P, ∀ y ∈ P, x ≠ y → y ∈ G.L x 0) → (∀ x ∈ P, ∀ y ∈ P, x ≠ y → y ∈ (growG mt id q l G at_).L x 0) ∧ ∀ x ∈ P, x ∈ (growG mt id q l G at_).L id 0 ∧ id ∈ (growG mt id q l G at_).L x 0 := by
 intro l
 induction l with
 | zero =>
  intro G at_ hlev w hid h0 hat hne hPm hfull
  have hc : ∀ x ∈ P, ∀ y ∈ G.L x 0, y ∈ P := fun x _ y hy => (hPm y).2 ⟨(fun e => by
   have := w.lw.sym x 0 y hy
   rw [e, h0 0 (Nat.le_refl 0)] at this
   cases this), (w.lw.mem x 0 y hy).imp fun _ h => h.1⟩
  have hnear : ∀ y, y ∈ (lookG mt G q 0 at_ 8).take 4 ↔ y ∈ P := by
   have e : lookG mt G q 0 at_ 8 = (bestOf 8 (P.map (hitG mt G.M q))).map Ht.id := by
    unfold lookG
    rw [lookH_full hP (fun y hy => ((hPm y).1 hy).2) (by omega) hc hfull hne fun y hy => (hPm y).2 ⟨(hat y hy).1, (hat y hy).2.imp fun _ h => h.1⟩]
   have e2 : (P.map (hitG mt G.M q)).map Ht.id = P := by rw [List.map_map]; exact List.map_id P
   obtain ⟨p2, _⟩ := bestOf_ord (k := 8) (l := P.map (hitG mt G.M q)) (by rw [e2]; exact hP) (P.map (hitG mt G.M q)).length (Nat.le_refl _) (by rw [List.length_map]; omega)
   rw [List.take_length] at p2
   have p3 := p2.map Ht.id
   rw [e2] at p3
   intro y
   rw [e, List.take_of_length_le (by rw [p3.length_eq]; exact h4), p3.mem_iff]
  show (∀ x ∈ P, ∀ y ∈ P, x ≠ y → y ∈ joinL mt G.M 0 G.L id ((lookG mt G q 0 at_ 8).take 4) x 0) ∧ ∀ x ∈ P, x ∈ joinL mt G.M 0 G.L id ((lookG mt G q 0 at_ 8).take 4) id 0 ∧ id ∈ joinL mt G.M 0 G.L id ((lookG mt G q 0 at_ 8).take 4) x 0
  generalize (lookG mt G q 0 at_ 8).take 4 = near at hnear
  have w1 : LW G.M (near.foldl (fun L y => linkL 0 L id y) G.L) := LW.links (l := 0) w.lw hid fun y hy => by
   obtain ⟨h1, h2⟩ := (hPm y).1 ((hnear y).1 hy)
   exact ⟨h1, h2.imp fun r h => ⟨h, hlev r (getM_mem h).1⟩⟩
  have hlen : ∀ x, (near.foldl (fun L y => linkL 0 L id y) G.L x 0).length ≤ mostG 0 := fun x => by
   have h8 : mostG 0 = 8 := rfl
   refine Nat.le_trans (sub_len (q := id :: P) (w1.up x 0) fun y hy => ?_) (by rw [List.length_cons]; omega)
   by_cases e : y = id
   ·rw [e]; exact List.mem_cons_self ..
   ·obtain ⟨r, h1, _⟩ := w1.mem x 0 y hy
    exact List.mem_cons_of_mem _ ((hPm y).2 ⟨e, r, h1⟩)
  have hj : joinL mt G.M 0 G.L id near = near.foldl (fun L y => linkL 0 L id y) G.L := by
   unfold joinL
   exact prunes_few hlen (fun x => (w1.up x 0).nodup) _
  rw [hj]
  refine ⟨fun x hx y hy hne => mem_links.2 (.inl (hfull x hx y hy hne)), fun x hx => ⟨mem_links.2 (.inr ⟨rfl, .inl ⟨rfl, (hnear x).2 hx⟩⟩), mem_links.2 (.inr ⟨rfl, .inr ⟨rfl, (hnear x).2 hx⟩⟩)⟩⟩
 | succ l ih =>
  intro G at_ hlev w hid h0 hat hne hPm hfull
  have hP2 : ∀ y ∈ lookG mt G q (l + 1) at_ 8, y ≠ id ∧ ∃ r, getM y G.M = some r ∧ ((l + 1 : Nat) : Int) ≤ r.seq := look_all hat fun x y hy => ⟨(fun e => by
   have := w.lw.sym x (l + 1) y hy
   rw [e, h0 (l + 1) (Nat.le_refl _)] at this
   cases this), w.lw.mem x (l + 1) y hy⟩
  obtain ⟨g1, g2⟩ := join_good (mt := mt) w hid (near := (lookG mt G q (l + 1) at_ 8).take 4) (fun y hy => hP2 y (List.mem_of_mem_take hy)) (by rw [List.length_take]; omega) (h0 (l + 1) (Nat.le_refl _))
  have hid' : ∃ r, getM id G.M = some r ∧ (l : Int) ≤ r.seq := by
   obtain ⟨r, h1, h2⟩ := hid; exact ⟨r, h1, by omega⟩
  refine ih (G := ⟨G.M, joinL mt G.M (l + 1) G.L id ((lookG mt G q (l + 1) at_ 8).take 4)⟩) hlev g1 hid' (fun k hk => ?_) (fun y hy => ?_) (lookG_ne (by omega) hne) hPm fun x hx y hy hxy => (mem_joinL_ne (by omega)).2 (hfull x hx y hy hxy)
  ·show joinL mt G.M (l + 1) G.L id ((lookG mt G q (l + 1) at_ 8).take 4) id k = []
   cases hl : joinL mt G.M (l + 1) G.L id ((lookG mt G q (l + 1) at_ 8).take 4) id k with
   | nil => rfl
   | cons y ys =>
    have := g2 id k (by omega) y (by rw [hl]; exact List.mem_cons_self ..)
    rw [h0 k (by omega)] at this
    cases this
  ·obtain ⟨h1, r, h2, h3⟩ := hP2 y hy
   exact ⟨h1, r, h2, by omega⟩
theorem putG_full {mt : Int} {G : Gr} {id : Int} {zs : List Int} {dw : Int} (w : GWf G) (hf : Full G.M G.L) (hn : getM id G.M = none) (h4 : G.M.length ≤ 4) : Full (putG mt G id zs dw).M (putG mt G id zs dw).L := by
 have hM := (putG_M (mt := mt) w id zs dw).1
 have hdel : delG mt G id = G := by unfold delG; rw [hn]
 rw [hdel] at hM
 rw [hM]
 have hlv := levelG_le dw
 have w2 := put_base w hn zs (lv := (levelG dw : Int)) ⟨by omega, by omega⟩
 unfold putG
 rw [hdel]
 by_cases hu : (entryG G.M).2 < 0
 ·have e0 := (entry_spec w.lev).1 hu
  rw [e0]
  intro a ha b hb hab
  rcases mem_putM ha with rfl | ha
  ·rcases mem_putM hb with rfl | hb
   ·exact absurd rfl hab
   ·cases hb
  ·cases ha
 ·rw [if_neg hu]
  obtain ⟨r, hr, hrs⟩ := entry_at w (by omega)
  have hne : (entryG G.M).1 ≠ id := fun e => by rw [e, hn] at hr; cases hr
  have hout := w.lw.out hn
  have hid : getM id (putM (mbG id zs (levelG dw : Int)) G.M) = some (mbG id zs (levelG dw : Int)) := by rw [getM_put]; exact if_pos rfl
  have hget : ∀ y, y ≠ id → getM y (putM (mbG id zs (levelG dw : Int)) G.M) = getM y G.M := fun y hy => by
   rw [getM_put, if_neg fun e => hy e.symm]
  have hd := down_good (mt := mt) (id := id) (q := zs) (l := levelG dw) (G := ⟨putM (mbG id zs (levelG dw : Int)) G.M, G.L⟩) w2.lw hout (entryG G.M).2.toNat (at_ := [(entryG G.M).1]) fun y hy => by
   rw [List.mem_singleton.1 hy]
   refine ⟨hne, r, ?_, by omega⟩
   show getM _ (putM (mbG id zs (levelG dw : Int)) G.M) = some r
   rw [hget _ hne]
   exact hr
  obtain ⟨f1, f2⟩ := grow_full (mt := mt) (id := id) (q := zs) (P := G.M.map Rc.id) (rises_nd w.rises) (by rw [List.length_map]; exact h4) (min (levelG dw) (entryG G.M).2.toNat) (G := ⟨putM (mbG id zs (levelG dw : Int)) G.M, G.L⟩) (fun r hr => (w2.lev r hr).1) ⟨w2.lw, w2.cap⟩ ⟨_, hid, by show ((min (levelG dw) (entryG G.M).2.toNat : Nat) : Int) ≤ (levelG dw : Int); omega⟩ (fun k _ => hout k) hd (downG_ne (at_ := [(entryG G.M).1]) _ (by simp)) (fun y => by
   show y ∈ G.M.map Rc.id ↔ y ≠ id ∧ ∃ r, getM y (putM (mbG id zs (levelG dw : Int)) G.M) = some r
   constructor
   ·intro hy
    obtain ⟨a, ha, rfl⟩ := List.mem_map.1 hy
    have hya : a.id ≠ id := fun e => by
     have := getM_some w.rises ha e
     rw [hn] at this; cases this
    exact ⟨hya, a, by rw [hget _ hya]; exact getM_some w.rises ha rfl⟩
   ·rintro ⟨h1, a, h2⟩
    rw [hget _ h1] at h2
    obtain ⟨h3, h4⟩ := getM_mem h2
    exact List.mem_map.2 ⟨a, h3, h4⟩) (fun x hx y hy hxy => by
   obtain ⟨a, ha, rfl⟩ := List.mem_map.1 hx
   obtain ⟨b, hb, rfl⟩ := List.mem_map.1 hy
   exact hf a ha b hb hxy)
  intro a ha b hb hab
  rcases mem_putM ha with rfl | ha
  ·rcases mem_putM hb with rfl | hb
   ·exact absurd rfl hab
   ·exact (f2 b.id (List.mem_map_of_mem hb)).1
  ·rcases mem_putM hb with rfl | hb
   ·exact (f2 a.id (List.mem_map_of_mem ha)).2
   ·exact f1 a.id (List.mem_map_of_mem ha) b.id (List.mem_map_of_mem hb) hab
end Go.Ab.Seat
end
