import Derived.Test.YtofikbfljjjgeaaGreatDoorE52
import Derived.Test.YtofikbfljjjgeaaGreatDoorDJ7
import Derived.Test.YtofikbfljjjgeaaGreatDoorE48
import Derived.Test.YtofikbfljjjgeaaGreatDoorDF2
import Derived.Test.YtofikbfljjjgeaaGreatDoorDI1
import Derived.Test.YtofikbfljjjgeaaGreatDoorDK4
import Derived.Test.YtofikbfljjjgeaaGreatDoorDK6
import Derived.Test.YtofikbfljjjgeaaGreatDoorDP0
set_option linter.unusedVariables false
set_option linter.unusedSimpArgs false
section
/- flat.Vec; the five ways of a Face that has a flat index (the abstract machine). -/
namespace Go.Ab.Seat
open Go.Extern Go.Proofs
set_option maxRecDepth 4000
end Go.Ab.Seat
end
section
/- The reference's index is written: one is laid between (the abstract machine). -/
namespace Go.Ab.Seat
open Go.Extern Go.Proofs
set_option maxRecDepth 4000
end Go.Ab.Seat
end
section
/- Numbers held against each other, where they are one (the abstract machine). -/
namespace Go.Ab.Seat
open Go.Extern Go.Proofs
set_option maxRecDepth 4000
variable {sm : Nat → Option (List Value → M Value)}
end Go.Ab.Seat
end
section
/- Hits, ids held against each other, where they are the same (the abstract machine). -/
namespace Go.Ab.Seat
open Go.Extern Go.Proofs
set_option maxRecDepth 4000
variable {sm : Nat → Option (List Value → M Value)}
theorem eqH (a b : Int) : eqA (Cs sm) eg 100 52 (hitv a b) (hitv a b) = some true := by
 have h : eqA (Cs sm) eg 100 52 (hitv a b) (hitv a b) = (match decide (a = a) with | true => (match decide (b = b) with | true => some true | false => some false) | false => some false) := by kernel_rfl
 rw [h, decide_eq_true rfl, decide_eq_true rfl]
theorem eg52 : eg 52 = false := by kernel_rfl
theorem to_neH {e : Env} {s : St} {d : Option Nat} {ty t2 : TypeId} {ps : String} {af : Array Edge} {g : Option (Nat × Bool)} {x y : Operand} {a b : Int} (hx : evalA e x = hitv a b) (hy : evalA e y = hitv a b) :
  OpTo (Cs sm) eg e ⟨d, .binOp .neq 52 x y t2, ty, ps, af, g⟩ s (.bool false) s :=
 to_bin hx hy (by
  show (match guardA eg 52 x y (hitv a b) (hitv a b) with | true => (match eqA (Cs sm) eg 100 52 (hitv a b) (hitv a b) with | some r => some (Value.bool (!r)) | none => none) | false => none) = _
  rw [eqH, show guardA eg 52 x y (hitv a b) (hitv a b) = !eg 52 from rfl, eg52]
  rfl)
end Go.Ab.Seat
end
section
/- FlatOrder: the run answers true (the abstract machine). -/
namespace Go.Ab.Seat
open Go.Extern Go.Proofs
set_option maxRecDepth 4000
def and1 (z : Int) : Int := (((BitVec.ofInt 64 z).toNat % 2 : Nat) : Int)
theorem and1_or (z : Int) : and1 z = 0 ∨ and1 z = 1 := by unfold and1; omega
theorem to_and1 {C : Ctx} {e : Env} {s : St} {d : Option Nat} {ty t t2 : TypeId} {ps : String} {af : Array Edge} {g : Option (Nat × Bool)} {x y : Operand} {z : Int} (hx : evalA e x = .int .i64 z) (hy : evalA e y = .int .i64 1) :
  OpTo C eg e ⟨d, .binOp .and t x y t2, ty, ps, af, g⟩ s (.int .i64 (and1 z)) s :=
 to_bin hx hy (by
  have h : ((BitVec.ofInt 64 z &&& BitVec.ofInt 64 1).toNat : Int) = and1 z := by
   unfold and1
   rw [BitVec.toNat_and, show (BitVec.ofInt 64 1).toNat = 1 by decide, Nat.and_one_is_mod]
  show some (Value.int .i64 (wrapA .i64 ((BitVec.ofInt 64 z &&& BitVec.ofInt 64 1).toNat : Int))) = _
  rw [h, wrapA_i64 (by have := and1_or z; omega) (by have := and1_or z; omega)])
structure Two (h : T AObj) (c : Nat) (pa ma pb mb : Nat) (mt : Int) (dim : Nat) (A B : List Rc) : Prop where
 ex : ∃ Ua Ub : Nat → Prop, FlatM h pa ma mt dim A Ua ∧ FlatM h pb mb mt dim B Ub ∧ ¬Ua mb ∧ ¬Ub ma ∧ ma < c ∧ mb < c
theorem FlatM.hm {h : T AObj} {p m dim : Nat} {mt : Int} {M : List Rc} {U : Nat → Prop} (q : FlatM h p m mt dim M U) : ∃ es n, Has h m (.map es n) := by
 obtain ⟨es, n, h1, _⟩ := q.ex
 exact ⟨es, n, h1⟩
theorem Two.keep {h h' : T AObj} {c c' : Nat} {pa ma pb mb dim : Nat} {mt : Int} {A B : List Rc} (t : Two h c pa ma pb mb mt dim A B) (hf : Fresh h c) (hc : c ≤ c') (k : ∀ b, b < c → h'.get b = h.get b) : Two h' c' pa ma pb mb mt dim A B := by
 obtain ⟨Ua, Ub, qa, qb, u1, u2, l1, l2⟩ := t.ex
 exact ⟨Ua, Ub, qa.keep hf fun b _ hb => k b hb, qb.keep hf fun b _ hb => k b hb, u1, u2, by omega, by omega⟩
end Go.Ab.Seat
end
section
/- The reference's index is written: one is taken out, let go, put (the abstract machine). -/
namespace Go.Ab.Seat
open Go.Extern Go.Proofs
set_option maxRecDepth 4000
theorem Row.keepBT {h h' : T AObj} {v : Value} {n k : Nat} {xs : List Value} (hr : Row h v n k xs) (hk : ∀ b, blkOf v = some b → h'.get b = h.get b) : Row h' v n k xs := by
 rcases hr with g | ⟨b, o, sp, cap, cs, e, g6, g7⟩
 ·exact .inl g
 ·refine .inr ⟨b, o, sp, cap, cs, e, ?_, g7⟩
  have q := hk b (by rw [e]; rfl)
  unfold Cel Has at g6 ⊢
  rw [q]; exact g6
end Go.Ab.Seat
end
section
/- Face's put; the law's Dim; the reference's New, made (the abstract machine). -/
namespace Go.Ab.Seat
open Go.Extern Go.Proofs
set_option maxRecDepth 4000
def opF (kd id k : Int) (oa : Option Addr) (on oc : Nat) (dw : Int) : Value := .agg ⟨[.int .i64 kd, .int .i64 id, .int .i64 k, .slice oa on oc, .int .u32 dw]⟩
end Go.Ab.Seat
end
section
/- Duet indexes side by side, whatever kind they are of; operations that come in (the abstract machine). -/
namespace Go.Ab.Seat
open Go.Extern Go.Proofs
def OpsD (h : T AObj) (c0 : Nat) (oa : Option Addr) (n : Nat) : Prop := ∀ i, i < n → ∃ b o sp cs kd id k va nv kv, ∃ zs : List Int, ∃ dw, oa = some ⟨b, o, sp⟩ ∧ b < c0 ∧ Cel h b cs ∧ subN (o + i * 5) 5 cs = some [.int .i64 kd, .int .i64 id, .int .i64 k, .slice va nv kv, .int .u32 dw] ∧
 Row h (.slice va nv kv) nv 1 (zs.map (Value.int .i32)) ∧ zs.length = nv ∧ (0 ≤ dw ∧ dw < 4294967296) ∧ ∀ b, blkOf (.slice va nv kv) = some b → b < c0
theorem OpsD.keep {h h' : T AObj} {c0 n : Nat} {oa : Option Addr} (x : OpsD h c0 oa n) (k : ∀ b, b < c0 → h'.get b = h.get b) : OpsD h' c0 oa n := fun i hi => by
 obtain ⟨b, o, sp, cs, kd, id, k1, va, nv, kv, zs, dw, h1, h2, h3, h4, h5, h6, h8, h7⟩ := x i hi
 exact ⟨b, o, sp, cs, kd, id, k1, va, nv, kv, zs, dw, h1, h2, by unfold Cel Has at h3 ⊢; rw [k b h2]; exact h3, h4, Row.keepBT h5 (fun b hb => k b (h7 b hb)), h6, h8, h7⟩
def Tells (h : T AObj) (v : Value) (dim : Nat) (o : Option Rc) : Prop := (o = none ∧ ∃ a k, v = .slice a 0 k ∧ Row h (.slice a 0 k) 0 1 []) ∨ ∃ (r0 : Rc) (zs : List Int) (a : Option Addr) (k : Nat), o = some r0 ∧ r0.xs = zs.map (Value.int .i32) ∧ zs.length = dim ∧ v = .slice a dim k ∧ Row h (.slice a dim k) dim 1 r0.xs
theorem Tells.keep {h h' : T AObj} {c : Nat} {v : Value} {dim : Nat} {o : Option Rc} (x : Tells h v dim o) (hf : Fresh h c) (k : ∀ b, b < c → h'.get b = h.get b) : Tells h' v dim o := by
 rcases x with ⟨h1, a, k1, h2, h3⟩ | ⟨r0, zs, a, k1, h1, h2, h3, h4, h5⟩
 ·exact .inl ⟨h1, a, k1, h2, Row.keepF h3 hf (fun b hb => k b hb)⟩
 ·exact .inr ⟨r0, zs, a, k1, h1, h2, h3, h4, Row.keepF h5 hf (fun b hb => k b hb)⟩
theorem mem_delM {id : Int} {x : Rc} {M : List Rc} (h : x ∈ delM id M) : x ∈ M := by
 unfold delM at h
 exact (List.mem_filter.1 h).1
theorem ids_len {M : List Rc} (hr : Rises M) (h : ∀ x ∈ M, 0 ≤ x.id ∧ x.id ≤ 39) : M.length ≤ 40 := by
 have := rises_len (n := 39) (lo := 0) hr.ids (fun x hx => by
  obtain ⟨y, hy, rfl⟩ := List.mem_map.1 hx
  exact h y hy) (by omega)
 rw [List.length_map] at this
 omega
structure Duet {σ : Type} (fv : List Value) (r c0 dim : Nat) (mem : σ → List Rc) (put : σ → Int → List Int → Int → σ) (del : σ → Int → σ) (look : σ → List Int → Nat → List Ht) (J : T AObj → Nat → (Nat → Prop) → σ → σ → Prop) : Prop where
 f : ∀ {h c U A B}, J h c U A B → Fresh h c
 bd : ∀ {h c U A B}, J h c U A B → ∀ b, U b → c0 ≤ b ∧ b < c
 keep : ∀ {h c U A B h' c'}, J h c U A B → Fresh h' c' → c ≤ c' → (∀ b, U b → h'.get b = h.get b) → J h' c' U A B
 rises : ∀ {h c U A B}, J h c U A B → Rises (mem A)
 looks : ∀ A zs k, (look A zs k).length ≤ k
 mput : ∀ {A id zs dw x}, x ∈ mem (put A id zs dw) → x.id = id ∨ x ∈ mem A
 mdel : ∀ {A id x}, x ∈ mem (del A id) → x ∈ mem A
 putF : ∀ {h c U A B} {rl wl : List Nat} (d : J h c U A B) (id : Int) (hid : 0 ≤ id ∧ id ≤ 39) {bv : Nat} {zs : List Int} (hv : Has h bv (.cells (zs.map (Value.int .i32)))) (hz : zs.length = dim) (hb : Bnd zs) (kd k dw : Int) (hdw : 0 ≤ dw ∧ dw < 4294967296) (oa : Option Addr) (on oc : Nat) (hn : (mem A).length ≤ 40), ¬U bv → c0 ≤ c →
  ∃ v s', FnTo (Cs smQ) eg 119 [.agg ⟨fv⟩, opF kd id k oa on oc dw, .slice (some ⟨bv, 0, none⟩) dim dim] ⟨h, c, rl, wl⟩ v s' ∧ J s'.h s'.c (fun b => U b ∨ c ≤ b ∧ b < s'.c) (put A id zs dw) B ∧ Ext ⟨h, c, rl, wl⟩ s' (fun _ => True) U
 putR : ∀ {h c U A B} {rl wl : List Nat} (d : J h c U A B) (id : Int) (hid : 0 ≤ id ∧ id ≤ 39) {bv : Nat} {zs : List Int} (hv : Has h bv (.cells (zs.map (Value.int .i32)))) (hz : zs.length = dim) (hb : Bnd zs) (dw : Int) (hdw : 0 ≤ dw ∧ dw < 4294967296) (hn : (mem B).length ≤ 40), ¬U bv → c0 ≤ c →
  ∃ v s', FnTo (Cs smQ) eg 50 [.pointer (some ⟨r, 0, none⟩), .int .i64 id, .slice (some ⟨bv, 0, none⟩) dim dim, .int .u32 dw] ⟨h, c, rl, wl⟩ v s' ∧ J s'.h s'.c (fun b => U b ∨ c ≤ b ∧ b < s'.c) A (put B id zs dw) ∧ Ext ⟨h, c, rl, wl⟩ s' (fun _ => True) U
 delF : ∀ {h c U A B} {rl wl : List Nat} (d : J h c U A B) (id : Int) (hn : (mem A).length ≤ 40), c0 ≤ c →
  ∃ v s', FnTo (Cs smQ) eg 120 [.agg ⟨fv⟩, .int .i64 id] ⟨h, c, rl, wl⟩ v s' ∧ (v = .bool (getM id (mem A)).isSome ∧ J s'.h s'.c (fun b => U b ∨ c ≤ b ∧ b < s'.c) (del A id) B) ∧ Ext ⟨h, c, rl, wl⟩ s' (fun _ => True) U
 delR : ∀ {h c U A B} {rl wl : List Nat} (d : J h c U A B) (id : Int) (hn : (mem B).length ≤ 40), c0 ≤ c →
  ∃ v s', FnTo (Cs smQ) eg 52 [.pointer (some ⟨r, 0, none⟩), .int .i64 id] ⟨h, c, rl, wl⟩ v s' ∧ (v = .bool (getM id (mem B)).isSome ∧ J s'.h s'.c (fun b => U b ∨ c ≤ b ∧ b < s'.c) A (del B id)) ∧ Ext ⟨h, c, rl, wl⟩ s' (fun _ => True) U
 searchF : ∀ {h c U A B} {rl wl : List Nat} (d : J h c U A B) {bv : Nat} {zs : List Int} (hv : Has h bv (.cells (zs.map (Value.int .i32)))) (hz : zs.length = dim) (hb : Bnd zs) (k : Int) {kk : Nat} (hk : max k 0 = (kk : Int)) (hkk : kk ≤ 30) (hn : (mem A).length ≤ 40), c0 ≤ c →
  ∃ v s', FnTo (Cs smQ) eg 121 [.agg ⟨fv⟩, .slice (some ⟨bv, 0, none⟩) dim dim, .int .i64 k] ⟨h, c, rl, wl⟩ v s' ∧ (Best s'.h v (look A zs kk).length (flatH (look A zs kk)) ∧ ∀ b, blkOf v = some b → c ≤ b) ∧ Ext ⟨h, c, rl, wl⟩ s' (fun _ => True) (fun _ => False)
 searchR : ∀ {h c U A B} {rl wl : List Nat} (d : J h c U A B) {bv : Nat} {zs : List Int} (hv : Has h bv (.cells (zs.map (Value.int .i32)))) (hz : zs.length = dim) (hb : Bnd zs) (k : Int) {kk : Nat} (hk : max k 0 = (kk : Int)) (hkk : kk ≤ 30) (hn : (mem B).length ≤ 40), c0 ≤ c →
  ∃ v s', FnTo (Cs smQ) eg 53 [.pointer (some ⟨r, 0, none⟩), .slice (some ⟨bv, 0, none⟩) dim dim, .int .i64 k] ⟨h, c, rl, wl⟩ v s' ∧ (Best s'.h v (look B zs kk).length (flatH (look B zs kk)) ∧ ∀ b, blkOf v = some b → c ≤ b) ∧ Ext ⟨h, c, rl, wl⟩ s' (fun _ => True) (fun _ => False)
 idsF : ∀ {h c U A B} {rl wl : List Nat} (d : J h c U A B) (hn : (mem A).length ≤ 40),
  ∃ v s', FnTo (Cs smQ) eg 124 [.agg ⟨fv⟩] ⟨h, c, rl, wl⟩ v s' ∧ Own s'.h c v (mem A).length (((mem A).map Rc.id).map (Value.int .i64)) ∧ Ext ⟨h, c, rl, wl⟩ s' (fun _ => True) (fun _ => False)
 idsR : ∀ {h c U A B} {rl wl : List Nat} (d : J h c U A B) (hn : (mem B).length ≤ 40),
  ∃ v s', FnTo (Cs smQ) eg 56 [.pointer (some ⟨r, 0, none⟩)] ⟨h, c, rl, wl⟩ v s' ∧ HJ s'.h c v ((mem B).map Rc.id) ∧ Ext ⟨h, c, rl, wl⟩ s' (fun _ => True) (fun _ => False)
 vecF : ∀ {h c U A B} {rl wl : List Nat} (d : J h c U A B) (id : Int) (hn : (mem A).length ≤ 40),
  ∃ v s', FnTo (Cs smQ) eg 122 [.agg ⟨fv⟩, .int .i64 id] ⟨h, c, rl, wl⟩ v s' ∧ (∃ w, v = .tuple #[w, .bool (getM id (mem A)).isSome] ∧ Tells s'.h w dim (getM id (mem A))) ∧ Ext ⟨h, c, rl, wl⟩ s' (fun _ => True) (fun _ => False)
 vecR : ∀ {h c U A B} {rl wl : List Nat} (d : J h c U A B) (id : Int) (hn : (mem B).length ≤ 40),
  ∃ v s', FnTo (Cs smQ) eg 123 [.pointer (some ⟨r, 0, none⟩), .int .i64 id] ⟨h, c, rl, wl⟩ v s' ∧ (∃ w, v = .tuple #[w, .bool (getM id (mem B)).isSome] ∧ Tells s'.h w dim (getM id (mem B))) ∧ Ext ⟨h, c, rl, wl⟩ s' (fun _ => True) (fun _ => False)
end Go.Ab.Seat
end
section
/- The law's 'alike' with any two indexes that go together answers true (the abstract machine). -/
namespace Go.Ab.Seat
open Go.Extern Go.Proofs
set_option maxRecDepth 4000
theorem tmod40 (z : Int) : 0 ≤ (z.tmod 40 + 40).tmod 40 ∧ (z.tmod 40 + 40).tmod 40 ≤ 39 ∧ -40 < z.tmod 40 ∧ z.tmod 40 < 40 := by
 have h1 := tmod_lt z 40 (by omega)
 have h2 := Int.tmod_lt_of_pos (z.tmod 40 + 40) (show (0 : Int) < 40 by omega)
 have h3 := Int.tmod_nonneg (a := z.tmod 40 + 40) 40 (by omega)
 omega
def Low (M : List Rc) : Prop := ∀ x ∈ M, 0 ≤ x.id ∧ x.id ≤ 39
end Go.Ab.Seat
end
section
/- GraphWide: the run answers true (the abstract machine). -/
namespace Go.Ab.Seat
open Go.Extern Go.Proofs
set_option maxRecDepth 4000
theorem searchG_take {mt : Int} {G : Gr} {q : List Int} {k : Nat} (hk : k ≤ 8) : searchG mt G q k = (searchG mt G q 8).take k := by
 unfold searchG
 split
 ·rw [List.take_nil]
 ·rw [List.take_take, Nat.min_eq_left hk, Nat.max_eq_left hk, Nat.max_self]
theorem tmod_rng8 (z : Int) : ∃ n : Nat, 1 + (z.tmod 8 + 8).tmod 8 = (n : Int) ∧ 1 ≤ n ∧ n ≤ 8 ∧ -8 < z.tmod 8 ∧ z.tmod 8 < 8 := by
 have h1 := tmod_lt z 8 (by omega)
 have h2 := Int.tmod_lt_of_pos (z.tmod 8 + 8) (show (0 : Int) < 8 by omega)
 have h3 := Int.tmod_nonneg (a := z.tmod 8 + 8) 8 (by omega)
 exact ⟨(1 + (z.tmod 8 + 8).tmod 8).toNat, by omega, by omega, by omega, by omega, by omega⟩
theorem delG_low {mt : Int} {G : Gr} {id : Int} (h : Low G.M) : Low (delG mt G id).M := by
 unfold delG
 split
 ·exact h
 ·exact fun x hx => h x (mem_delM hx)
theorem putG_low {mt : Int} {G : Gr} {id : Int} {zs : List Int} {dw : Int} (w : GWf G) (h : Low G.M) (hid : 0 ≤ id ∧ id ≤ 39) : Low (putG mt G id zs dw).M := by
 rw [(putG_M w id zs dw).1]
 intro x hx
 rcases mem_putM hx with rfl | hx
 ·exact hid
 ·exact delG_low h x hx
theorem Glob.keep {h h' : T AObj} {c : Nat} (g : Glob h) (hc : 2 ≤ c) (k : ∀ b, b < c → h'.get b = h.get b) : Glob h' := ⟨(k 0 (by omega)).trans g.g0, (k 1 (by omega)).trans g.g1⟩
def K5 : List Nat := [0, 1, 2, 3, 8, 9, 10, 11, 12, 13, 14, 15, 18, 36, 52, 80, 81, 82, 98]
set_option maxHeartbeats 16000000 in
theorem graphWide_run {h : T AObj} {c : Nat} (hf : Fresh h c) (hg : Glob h) (m k : Int) {oa : Option Addr} {n cap : Nat} (hx : OpsD h c oa n) {qa : Option Addr} {qn qc : Nat} {zq : List Int} (hq : Row h (.slice qa qn qc) qn 1 (zq.map (Value.int .i32))) (hqn : zq.length = qn) :
  ∃ r s', FnTo (Cs smQ) eg 5 [.int .i64 m, .slice oa n cap, .slice qa qn qc, .int .i64 k] ⟨h, c, [], []⟩ r s' ∧ r = .bool true := by
 obtain ⟨kk, hkk, hk1, hk2, hk3, hk4⟩ := tmod_rng8 k
 have hm2 := and1_or m
 have lg1 := hg.g1.lt hf
 refine Fn.go (stdQ 5 rfl) ex5 fn5 km5 rfl rfl ?_
 refine Zev ?_
 refine Zgo ?_
 refine Wseq.call rfl rfl (begunQ Zfr hg) ?_
 rintro v1 h1 c1 r1 w1 ⟨rfl, e1⟩
 cases e1
 refine Zgo ?_
 refine Zu (to_and1 rfl rfl) ?_
 refine Zgo ?_
 rw [hkk]
 have hmm : 1 + and1 m = 1 ∨ 1 + and1 m = 2 := by omega
 generalize hmt : 1 + and1 m = mt at hmm
 refine Wseq.call rfl rfl (gnew_spec (dim := 2) Zfr mt hmm) ?_
 rintro v4 h4 c4 r4 w4 ⟨⟨rfl, e4, hG4⟩, hext4⟩
 simp only at e4
 subst e4
 have fr4 := hext4.fresh
 have kp4 : ∀ b, b < c → h4.get b = h.get b := fun b hb => hext4.get hb (fun q => q)
 simp only at fr4 hG4
 refine Zgo ?_
 refine Wx.cutO (fun e s => ∃ (g : Nat → Value) (h' : T AObj) (c' : Nat) (rl' wl' : List Nat) (G : Gr) (U : Nat → Prop), e = fr g [(2, .slice qa qn qc), (3, .int .i64 (kk : Int)), (10, .pointer (some ⟨c + 1, 0, none⟩))] K5 ∧ s = ⟨h', c', rl', wl'⟩ ∧ c ≤ c' ∧ Fresh h' c' ∧ (∀ b, b < c → h'.get b = h.get b) ∧ GrM h' (c + 1) c mt 2 G U ∧ GWf G ∧ Low G.M ∧ (∀ b, U b → c ≤ b ∧ b < c')) Zrs ?_ ?_
 ·refine Wx.loopF (fun k1 e s => ∃ (g : Nat → Value) (i : Nat) (z : Int) (h' : T AObj) (c' : Nat) (rl' wl' : List Nat) (G : Gr) (U : Nat → Prop), e = fr g [(1, .slice oa n cap), (2, .slice qa qn qc), (3, .int .i64 (kk : Int)), (10, .pointer (some ⟨c + 1, 0, none⟩)), (11, .int .i64 z)] K5 ∧ z = i ∧ s = ⟨h', c', rl', wl'⟩ ∧ c ≤ c' ∧ Fresh h' c' ∧ (∀ b, b < c → h'.get b = h.get b) ∧ GrM h' (c + 1) c mt 2 G U ∧ GWf G ∧ Low G.M ∧ (∀ b, U b → c ≤ b ∧ b < c') ∧ i ≤ 60 ∧ k1 = 60 - i) 60 K5 [(1, _), (2, _), (3, _), (10, _), (11, .int .i64 0)] ⟨_, 0, 0, _, _, _, _, _, _, rfl, rfl, rfl, by omega, fr4, kp4, hG4, GWf.nil, (fun x hx => by cases hx), (fun b hb => by omega), by omega, rfl⟩ ?_
  rintro k1 e s ⟨g, i, z, h', c', rl', wl', G, U, rfl, hz, rfl, hcc, hf', hkp, hG, hW, hL, hU, hi, rfl⟩
  (refine Wx.sw (by simp only [K5, frN, frC, updN, updC, Nat.reduceEqDiff, ↓reduceIte]; rfl) ?_)
  by_cases hi1 : n ≤ i
  ·refine Zgo ?_
   exact CutQ.goF K5 [(2, _), (3, _), (10, _)] ⟨_, _, _, _, _, G, U, rfl, rfl, hcc, hf', hkp, hG, hW, hL, hU⟩
  by_cases hi2 : 60 ≤ i
  ·refine Zgo ?_
   exact CutQ.goF K5 [(2, _), (3, _), (10, _)] ⟨_, _, _, _, _, G, U, rfl, rfl, hcc, hf', hkp, hG, hW, hL, hU⟩
  obtain ⟨b1, o1, sp1, cs1, kd, id, k1, va, nv, kv, zs, dw, rfl, lb1, hc1, hsub, hrow, hzl, hdw, hvb⟩ := hx i (by omega)
  have D1 : Cel h' b1 cs1 := by unfold Cel Has at hc1 ⊢; rw [hkp b1 lb1]; exact hc1
  have hrow' : Row h' (.slice va nv kv) nv 1 (zs.map (Value.int .i32)) := Row.keepBT hrow fun b hb => hkp b (hvb b hb)
  have cell : ∀ j v, j < 5 → ([.int .i64 kd, .int .i64 id, .int .i64 k1, .slice va nv kv, .int .u32 dw] : List Value)[j]? = some v → nth cs1 (o1 + i * 5 + j) = some v := fun j v hj e => by
   rw [nth_eq, ← e]; exact ((subN_some _ _ _ _ hsub).2.2 j hj).symm
  have d0 := cell 0 _ (by omega) rfl
  have d1 := cell 1 _ (by omega) rfl
  have d3 := cell 3 _ (by omega) rfl
  have d4 := cell 4 _ (by omega) rfl
  clear cell
  have h40 := tmod40 id
  have hML := ids_len hW.rises hL
  have hg' := hg.keep (by omega) hkp
  refine Zgo ?_
  refine Zu (to_indexAddr (k := i) el48 rfl rfl hz (by omega)) ?_
  refine Zgo ?_
  refine Zu (to_load (pl_ rfl) rfl D1 (by omega) d1) ?_
  refine Zgo ?_
  refine Zu (to_indexAddr (k := i) el48 rfl rfl hz (by omega)) ?_
  refine Zgo ?_
  refine Zu (to_load (pl_ rfl) rfl D1 (by omega) d0) ?_
  generalize hid' : (id.tmod 40 + 40).tmod 40 = id' at h40
  by_cases k1 : kd = 1
  ·refine Zgo ?_
   refine Wseq.call rfl rfl (gdel_spec Zfr hG hW hmm (by omega) (by omega) id' (fun _ => True) (fun _ _ => trivial)) ?_
   rintro v5 h5 c5 r5 w5 ⟨⟨rfl, hG5⟩, hext5⟩
   have fr5 := hext5.fresh
   have le5 := hext5.c
   simp only at fr5 le5 hG5
   have kp5 : ∀ b, b < c → h5.get b = h.get b := fun b hb => (hext5.get (by omega) (fun q => by have := hU b q; omega)).trans (hkp b hb)
   refine Zgo ?_
   exact RoundE.goF (60 - (i + 1)) K5 [(1, _), (2, _), (3, _), (10, _), (11, .int .i64 (z + 1))] (by omega) ⟨_, i + 1, z + 1, _, _, _, _, _, _, rfl, by omega, rfl, by omega, fr5, kp5, hG5, hW.del id', delG_low hL, (fun b hb => hb.elim (fun q => by have := hU b q; omega) (fun q => by omega)), by omega, rfl⟩
  ·refine Zgo ?_
   refine Zq (to_indexAddr (k := i) el48 rfl rfl hz (by omega)) ?_
   refine Zgo ?_
   refine Zd (to_load (pl_ rfl) rfl D1 (by omega) d3) ?_
   refine Wtr.call rfl rfl (vec_spec stdQ Zfr hzl hrow' 2 (by omega) (fun _ => True) (fun _ _ => trivial)) ?_
   rintro v5 h5 c5 r5 w5 ⟨⟨rfl, hv5⟩, hext5⟩
   have fr5 := hext5.fresh
   have le5 := hext5.c
   simp only at fr5 le5 hv5
   have kp5 : ∀ b, b < c' → h5.get b = h'.get b := fun b hb => hext5.get hb (fun q => q)
   have hqt := hext5.quiet (fun _ _ q => q)
   have hap : ApartP ⟨r5, w5, c', c5⟩ ⟨[b1], [], c5, c5⟩ := ApartP.wr (fun y hy e => hqt y hy) (by omega)
   have D5 : Cel h5 b1 cs1 := by unfold Cel Has at D1 ⊢; rw [kp5 b1 (by omega)]; exact D1
   refine ⟨Zap, ?_⟩
   refine Zgo ?_
   refine Zq (to_indexAddr (k := i) el48 rfl rfl hz (by omega)) ?_
   refine Zgo ?_
   refine Zd (to_load (pl_ rfl) rfl D5 (by omega) d4) ?_
   have lv5 := hv5.lt fr5
   have hvr : Row h5 (.slice (some ⟨c', 0, none⟩) 2 2) 2 1 ((vecZ zs 2).map (Value.int .i32)) := .inr ⟨c', 0, none, 2, _, rfl, hv5.cel, subN_all _ _ (by rw [List.length_map, vecZ_len])⟩
   refine Wtr.call rfl rfl (gput_spec Zfr (hG.keep hf' (fun b _ hb => kp5 b hb)) hW (hg'.keep (by omega) kp5) (fun b hb => by have := hU b hb; omega) hmm (by omega) (by omega) (by omega) id' (by omega) hvr (vecZ_len _ _) (Bnd_vecZ _ _) (fun b e => by cases e; intro q; have := hU c' q; omega) hdw (fun _ => True) (fun _ _ => trivial) trivial (fun _ _ => trivial)) ?_
   rintro v6 h6 c6 r6 w6 ⟨hG6, hext6⟩
   have fr6 := hext6.fresh
   have le6 := hext6.c
   simp only at fr6 le6 hG6
   have kp6 : ∀ b, b < c → h6.get b = h.get b := fun b hb => (hext6.get (by omega) (fun q => by have := hU b q; omega)).trans ((kp5 b (by omega)).trans (hkp b hb))
   refine ⟨Zap, ?_⟩
   refine Zgo ?_
   exact RoundE.goF (60 - (i + 1)) K5 [(1, _), (2, _), (3, _), (10, _), (11, .int .i64 (z + 1))] (by omega) ⟨_, i + 1, z + 1, _, _, _, _, _, _, rfl, by omega, rfl, by omega, fr6, kp6, hG6, hW.put id' _ _, putG_low hW hL (by omega), (fun b hb => hb.elim (fun q => by have := hU b q; omega) (fun q => by omega)), by omega, rfl⟩
 ·rintro e s ⟨g, h5, c5, rl5, wl5, G, U, rfl, rfl, hcc5, hf5, hkp5, hG5, hW, hL, hU⟩
  (refine Wx.sw (by simp only [K5, frN, frC, updN, updC, Nat.reduceEqDiff, ↓reduceIte]; rfl) ?_)
  have hq5 := Row.keepF hq hf hkp5
  have hML := ids_len hW.rises hL
  refine Zgo ?_
  refine Wseq.call rfl rfl (vec_spec stdQ Zfr hqn hq5 2 (by omega) (fun _ => True) (fun _ _ => trivial)) ?_
  rintro w h6 c6 r6 w6 ⟨⟨rfl, hq6⟩, hext6⟩
  have fr6 := hext6.fresh
  have le6 := hext6.c
  simp only at le6 fr6
  have lq6 := hq6.lt fr6
  have hqr : Row h6 (.slice (some ⟨c5, 0, none⟩) 2 2) 2 1 ((vecZ zq 2).map (Value.int .i32)) := .inr ⟨c5, 0, none, 2, _, rfl, hq6.cel, subN_all _ _ (by rw [List.length_map, vecZ_len])⟩
  have G6 := hG5.keep hf5 (fun b _ hb => hext6.get hb (fun q => q))
  have hkx : max (kk : Int) 0 = (kk : Int) := by omega
  refine Zgo ?_
  refine Wseq.call rfl rfl (gsearch_spec Zfr G6 hW hmm (by omega) (by omega) (by omega) hqr (vecZ_len _ _) (Bnd_vecZ _ _) _ hkx (by omega) (fun _ => True) (fun _ _ => trivial) (fun _ _ => trivial)) ?_
  rintro w7 h7 c7 r7 w7' ⟨⟨gA1, gA2⟩, hext7⟩
  have fr7 := hext7.fresh
  have le7 := hext7.c
  simp only at le7 fr7
  have G7 := G6.keep fr6 (fun b _ hb => hext7.get hb (fun q => q))
  have hqr7 := Row.keepF hqr fr6 (fun b hb => hext7.get hb (fun q => q))
  refine Zgo ?_
  refine Wseq.call rfl rfl (gsearch_spec Zfr G7 hW hmm (by omega) (by omega) (by omega) hqr7 (vecZ_len _ _) (Bnd_vecZ _ _) 8 (kk := 8) rfl (by omega) (fun _ => True) (fun _ _ => trivial) (fun _ _ => trivial)) ?_
  rintro w8 h8 c8 r8 w8' ⟨⟨gB1, gB2⟩, hext8⟩
  have fr8 := hext8.fresh
  have le8 := hext8.c
  simp only at le8 fr8
  rw [searchG_take (mt := mt) (q := vecZ zq 2) (G := G) hk2] at gA1
  have hlen8 : (searchG mt G (vecZ zq 2) 8).length ≤ 8 := by
   unfold searchG
   split
   ·exact Nat.zero_le _
   ·rw [List.length_take]; omega
  generalize searchG mt G (vecZ zq 2) 8 = lb at gA1 gB1 hlen8
  have hlt : (lb.take kk).length = min kk lb.length := List.length_take
  have hlt2 : ((lb.take kk).length : Int) = min (kk : Int) (lb.length : Int) := by omega
  have hget : ∀ i, i < (lb.take kk).length → (lb.take kk)[i]? = lb[i]? := fun i hi => by
   rw [List.getElem?_take, if_pos (by omega)]
  generalize lb.take kk = la at gA1 hlt hlt2 hget
  obtain ⟨oA, cA, rfl, _, rowA⟩ := gA1.row
  obtain ⟨oB, cB, rfl, _, hy⟩ := gB1.row
  have hx8 := Row.keepF rowA fr7 (fun b hb => hext8.get hb (fun q => q))
  refine Zgo ?_
  refine Wx.loopF (fun k1 e s => ∃ (g : Nat → Value) (i : Nat) (z : Int) (rl' wl' : List Nat), e = fr g [(3, .int .i64 (kk : Int)), (13, .slice oA la.length cA), (14, .slice oB lb.length cB), (80, .int .i64 (la.length : Int)), (81, .int .i64 z)] K5 ∧ z = i ∧ s = ⟨h8, c8, rl', wl'⟩ ∧ i ≤ la.length ∧ k1 = la.length - i) la.length K5 [(3, _), (13, _), (14, _), (80, _), (81, .int .i64 0)] ⟨_, 0, 0, _, _, rfl, rfl, rfl, by omega, rfl⟩ ?_
  rintro k1 e s ⟨g, i, z, rl', wl', rfl, hz, rfl, hid, rfl⟩
  (refine Wx.sw (by simp only [K5, frN, frC, updN, updC, Nat.reduceEqDiff, ↓reduceIte]; rfl) ?_)
  by_cases hi : i < la.length
  ·have hi2 : i < lb.length := by omega
   obtain ⟨b1, o1, sp1, cs1, rfl, hc1, hs1⟩ := rowB hx8 (by omega)
   obtain ⟨b2, o2, sp2, cs2, rfl, hc2, hs2⟩ := rowB hy (by omega)
   have l1 := hc1.lt fr8
   have l2 := hc2.lt fr8
   have e12 := hget i hi
   rw [List.getElem?_eq_getElem hi2] at e12
   have hg1 := sub_hit hs1 e12
   have hg2 := sub_hit hs2 (List.getElem?_eq_getElem hi2)
   refine Zgo ?_
   refine Zq (to_indexAddr (k := i) el37 rfl rfl hz (by omega)) ?_
   refine Zd (to_loadS ag52 rfl hc1 (by omega) hg1) ?_
   refine Zgo ?_
   refine Zq (to_indexAddr (k := i) el37 rfl rfl hz (by omega)) ?_
   refine Zd (to_loadS ag52 rfl hc2 (by omega) hg2) ?_
   refine Zq (to_neH rfl rfl) ?_
   refine Zgo ?_
   exact RoundE.goF (la.length - (i + 1)) K5 [(3, _), (13, _), (14, _), (80, _), (81, .int .i64 (z + 1))] (by omega) ⟨_, i + 1, z + 1, _, _, rfl, by omega, rfl, by omega, rfl⟩
  ·refine Zgo ?_
   exact ⟨.inr rfl, Wres.one rfl rfl⟩
end Go.Ab.Seat
end
