import Derived.Test.YtofikbfljjjgeaaGreatDoorDF3
import Derived.Test.YtofikbfljjjgeaaGreatDoorDF4
import Derived.Test.YtofikbfljjjgeaaGreatDoorDO1
import Derived.Test.YtofikbfljjjgeaaGreatDoorE48
import Derived.Test.YtofikbfljjjgeaaGreatDoorDP0
import Derived.Test.YtofikbfljjjgeaaGreatDoorE50
import Derived.Test.YtofikbfljjjgeaaGreatDoorDR1
import Derived.Test.YtofikbfljjjgeaaGreatDoorDF2
set_option linter.unusedVariables false
set_option linter.unusedSimpArgs false
section
/- The reference's best ones: one more (the abstract machine). -/
namespace Go.Ab.Seat
open Go.Extern Go.Proofs
set_option maxRecDepth 4000
end Go.Ab.Seat
end
section
/- The reference's best ones (the abstract machine). -/
namespace Go.Ab.Seat
open Go.Extern Go.Proofs
set_option maxRecDepth 4000
theorem putB_ord {k : Nat} {p : List Ht} {x : Ht} (h : Ord p) : Ord (putB k p x) := by
 unfold putB
 cases ha : p.any (fun y => decide (y.id = x.id))
 ·rw [if_neg (by decide)]
  split
  ·exact h
  ·have h2 : ∀ y ∈ p, y.id ≠ x.id := fun y hy => by
    have := List.any_eq_false.1 ha y hy
    simpa using this
   exact (insB_ord h h2).sublist (List.take_sublist _ _)
 ·rw [if_pos rfl]; exact h
theorem putB_lek {k : Nat} {p : List Ht} {x : Ht} (h : p.length ≤ k) : (putB k p x).length ≤ k := by
 unfold putB
 split
 ·exact h
 ·split
  ·exact h
  ·rw [List.length_take]; omega
theorem bestOf_good (k : Nat) (l : List Ht) : ∀ m, m ≤ l.length → Ord (bestOf k (l.take m)) ∧ (bestOf k (l.take m)).length ≤ k
 | 0, _ => by rw [List.take_zero]; exact ⟨List.Pairwise.nil, Nat.zero_le _⟩
 | m + 1, hm => by
  obtain ⟨h1, h2⟩ := bestOf_good k l m (by omega)
  rw [bestOf_take (by omega)]
  exact ⟨putB_ord h1, putB_lek h2⟩
end Go.Ab.Seat
end
section
/- The reference's nearest middle, and its order of middles (the abstract machine). -/
namespace Go.Ab.Seat
open Go.Extern Go.Proofs
set_option maxRecDepth 4000
end Go.Ab.Seat
end
section
/- Vectors compared; is a vector among some? (the abstract machine) -/
namespace Go.Ab.Seat
open Go.Extern Go.Proofs
set_option maxRecDepth 4000
end Go.Ab.Seat
end
section
/- The middle of some (the abstract machine). -/
namespace Go.Ab.Seat
open Go.Extern Go.Proofs
set_option maxRecDepth 4000
theorem to_quo {C : Ctx} {eg : TypeId → Bool} {e : Env} {s : St} {d : Option Nat} {ty : TypeId} {ps : String} {af : Array Edge} {g : Option (Nat × Bool)} {t t2 : TypeId} {x y : Operand} {a b : Int} (hx : evalA e x = .int .i64 a) (hy : evalA e y = .int .i64 b) (hb : b ≠ 0) (h0 : -9223372036854775808 ≤ a.tdiv b) (h1 : a.tdiv b ≤ 9223372036854775807) : OpTo C eg e ⟨d, .binOp .quo t x y t2, ty, ps, af, g⟩ s (.int .i64 (a.tdiv b)) s :=
 to_bin hx hy (by rw [opBin_int (by decide) (by decide)]; show (match decide (b = 0) with | true => none | false => some (Value.int .i64 (wrapA .i64 (a.tdiv b)))) = _; rw [decide_eq_false hb, wrapA_i64 h0 h1])
theorem tdiv_rng {a b : Int} (hb : 0 < b) : -(a.natAbs : Int) ≤ a.tdiv b ∧ a.tdiv b ≤ (a.natAbs : Int) := by
 have h := Int.natAbs_tdiv_le_natAbs a b
 omega
end Go.Ab.Seat
end
section
/- The reference's vectors held against each other; the whole part towards below (the abstract machine). -/
namespace Go.Ab.Seat
open Go.Extern Go.Proofs
set_option maxRecDepth 4000
end Go.Ab.Seat
end
section
/- Rows of grown rows of vectors: one more in one of them; a value stored among vectors. -/
namespace Go.Ab.Seat
open Go.Extern Go.Proofs
def ORow (h : T AObj) (c0 : Nat) (w : Value) (dim : Nat) (l : List (List Int)) (Uv : Nat → Prop) : Prop :=
 (w = .slice none 0 0 ∧ l = []) ∨ ∃ b vals, w = .slice (some ⟨b, 0, some 1⟩) l.length l.length ∧ l ≠ [] ∧ c0 ≤ b ∧ Has h b (.cells vals) ∧ GVals h dim l Uv vals
theorem ORow.keep {h h' : T AObj} {c c0 : Nat} {w : Value} {dim : Nat} {l : List (List Int)} {Uv : Nat → Prop} (x : ORow h c0 w dim l Uv) (hf : Fresh h c) (k : ∀ b, b < c → (blkOf w = some b ∨ Uv b) → h'.get b = h.get b) : ORow h' c0 w dim l Uv := by
 rcases x with x | ⟨b, vals, h1, h2, h3, h4, h5⟩
 ·exact .inl x
 ·exact .inr ⟨b, vals, h1, h2, h3, (k b (h4.lt hf) (.inl (by rw [h1]; rfl))).trans h4, h5.keep hf (fun _ q => q) (fun b hb hc _ => k b hc (.inr hb))⟩
theorem ORow.lt {h : T AObj} {c c0 : Nat} {w : Value} {dim : Nat} {l : List (List Int)} {Uv : Nat → Prop} (x : ORow h c0 w dim l Uv) (hf : Fresh h c) {b : Nat} (hb : blkOf w = some b) : c0 ≤ b ∧ b < c := by
 rcases x with ⟨rfl, _⟩ | ⟨b', vals, rfl, h2, h3, h4, h5⟩
 ·cases hb
 ·cases hb; exact ⟨h3, h4.lt hf⟩
structure OfG (h : T AObj) (c0 : Nat) (ws : List Value) (dim : Nat) (ls : List (List (List Int))) (Uv : Nat → Prop) : Prop where
 len : ws.length = ls.length
 row : ∀ (i : Nat) (l : List (List Int)), ls[i]? = some l → ∃ w, ws[i]? = some w ∧ ORow h c0 w dim l Uv
 inj : ∀ (i j : Nat) (w w' : Value) (b : Nat), ws[i]? = some w → ws[j]? = some w' → blkOf w = some b → blkOf w' = some b → i = j
theorem OfG.keep {h h' : T AObj} {c c0 : Nat} {ws : List Value} {dim : Nat} {ls : List (List (List Int))} {Uv : Nat → Prop} (x : OfG h c0 ws dim ls Uv) (hf : Fresh h c) (k : ∀ b, b < c → (c0 ≤ b ∨ Uv b) → h'.get b = h.get b) : OfG h' c0 ws dim ls Uv :=
 ⟨x.len, fun i l hi => by
  obtain ⟨w, h1, h2⟩ := x.row i l hi
  exact ⟨w, h1, h2.keep hf fun b hb hq => k b hb (hq.imp (fun q => (h2.lt hf q).1) (fun q => q))⟩, x.inj⟩
theorem OfG.step {h h' : T AObj} {c c0 : Nat} {ws : List Value} {dim : Nat} {ls : List (List (List Int))} {Uv : Nat → Prop} (x : OfG h c0 ws dim ls Uv) (hf : Fresh h c) {i : Nat} {w0 w : Value} {l : List (List Int)} (h0 : ws[i]? = some w0) (hUv : ∀ b, Uv b → b < c0) (hw : ORow h' c0 w dim l Uv) (hb : ∀ b, blkOf w = some b → c ≤ b)
  (k : ∀ b, b < c → blkOf w0 ≠ some b → (c0 ≤ b ∨ Uv b) → h'.get b = h.get b) : OfG h' c0 (ws.set i w) dim (ls.set i l) Uv := by
 have hil : i < ws.length := (List.getElem?_eq_some_iff.1 h0).1
 have hil2 : i < ls.length := by rw [← x.len]; exact hil
 have hold : ∀ j w1, ws[j]? = some w1 → ∀ b, blkOf w1 = some b → b < c := fun j w1 hj b hb1 => by
  have h2 := (List.getElem?_eq_some_iff.1 hj).1
  rw [x.len] at h2
  obtain ⟨w2, h3, h4⟩ := x.row j ls[j] (List.getElem?_eq_getElem h2)
  rw [hj] at h3; cases h3
  exact (h4.lt hf hb1).2
 refine ⟨by rw [List.length_set, List.length_set]; exact x.len, fun j l1 hj => ?_, fun j j' w1 w1' b e1 e2 b1 b2 => ?_⟩
 ·rw [List.getElem?_set] at hj ⊢
  by_cases hij : i = j
  ·subst hij
   rw [if_pos rfl] at hj ⊢
   rw [if_pos (by rw [← x.len]; exact hil)] at hj
   cases hj
   rw [if_pos hil]
   exact ⟨w, rfl, hw⟩
  ·rw [if_neg hij] at hj ⊢
   obtain ⟨w1, h1, h2⟩ := x.row j l1 hj
   refine ⟨w1, h1, h2.keep hf fun b hb hq => k b hb (fun q => ?_) (hq.imp (fun q => (h2.lt hf q).1) (fun q => q))⟩
   rcases hq with hq | hq
   ·exact hij (x.inj i j w0 w1 b h0 h1 q hq)
   ·have h3 := hUv b hq
    obtain ⟨w2, h4, h5⟩ := x.row i ls[i] (List.getElem?_eq_getElem hil2)
    rw [h0] at h4; cases h4
    have := (h5.lt hf q).1
    omega
 ·rw [List.getElem?_set] at e1 e2
  by_cases hij : i = j
  ·by_cases hij' : i = j'
   ·omega
   ·rw [if_neg hij'] at e2
    rw [if_pos hij, if_pos hil] at e1
    cases e1
    have h1 := hb b b1
    have h2 := hold j' w1' e2 b b2
    omega
  ·rw [if_neg hij] at e1
   by_cases hij' : i = j'
   ·rw [if_pos hij', if_pos hil] at e2
    cases e2
    have h1 := hb b b2
    have h2 := hold j w1 e1 b b1
    omega
   ·rw [if_neg hij'] at e2
    exact x.inj j j' w1 w1' b e1 e2 b1 b2
theorem MRow.bound {h : T AObj} {c : Nat} {v : Value} {dim : Nat} {mid : List (List Int)} {U : Nat → Prop} (x : MRow h v dim mid U) (hf : Fresh h c) (hd : 1 ≤ dim) : MRow h v dim mid (fun b => U b ∧ b < c) := by
 rcases x with x | ⟨b, sp, cap, vals, h1, h2, h3, h4, h5, h6⟩
 ·exact .inl x
 ·refine .inr ⟨b, sp, cap, vals, h1, h2, h3, ⟨h4, h5.lt hf⟩, h5, h6.1, fun i zs hi => ?_⟩
  obtain ⟨g1, g2, a, k, g3, g4, g5⟩ := h6.2 i zs hi
  refine ⟨g1, g2, a, k, g3, g4, fun b' hb' => ⟨g5 b' hb', ?_⟩⟩
  rcases g4 with ⟨q, _⟩ | ⟨b2, o, sp2, cap2, cs, e, g6, _⟩
  ·omega
  ·rw [e] at hb'
   have : b2 = b' := by simpa [blkOf] using hb'
   exact this ▸ g6.lt hf
theorem MRow.vok {h : T AObj} {v : Value} {dim : Nat} {mid : List (List Int)} {U : Nat → Prop} (x : MRow h v dim mid U) : Vok dim mid := by
 intro zs hz
 obtain ⟨i, hi⟩ := List.mem_iff_getElem?.1 hz
 rcases x with ⟨_, rfl⟩ | ⟨b, sp, cap, vals, h1, h2, h3, h4, h5, h6⟩
 ·cases hz
 ·obtain ⟨g1, g2, _⟩ := h6.2 i zs hi
  exact ⟨g1, g2⟩
end Go.Ab.Seat
end
section
/- Cells that are filled one behind the other; vectors with a block each, in a row (plain). -/
namespace Go.Ab.Seat
open Go.Extern Go.Proofs
def mixK (k : IntKind) (f g : Nat → Int) (n i : Nat) : List Value := (List.range n).map fun j => .int k (if j < i then f j else g j)
theorem mixK_len (k : IntKind) (f g : Nat → Int) (n i : Nat) : (mixK k f g n i).length = n := by simp [mixK]
theorem mixK_at {k : IntKind} {f g : Nat → Int} {n i j : Nat} (hj : j < n) : (mixK k f g n i)[j]? = some (.int k (if j < i then f j else g j)) := by
 unfold mixK
 rw [List.getElem?_map, List.getElem?_eq_getElem (by simpa using hj), List.getElem_range]; rfl
theorem mixK_step (k : IntKind) (f g : Nat → Int) (n i : Nat) (hi : i < n) : setMany [.int k (f i)] (mixK k f g n i) (0 + i * 1) = some (mixK k f g n (i + 1)) := by
 rw [setOneI (by rw [mixK_len]; exact hi) rfl]
 congr 1
 refine List.ext_getElem? fun j => ?_
 rw [List.getElem?_set, mixK_len]
 rcases Nat.lt_or_ge j n with r | r
 ·by_cases hij : i = j
  ·subst hij
   rw [if_pos rfl, if_pos hi, mixK_at hi, if_pos (by omega)]
  ·rw [if_neg hij, mixK_at r, mixK_at r]
   by_cases hji : j < i
   ·rw [if_pos hji, if_pos (by omega)]
   ·rw [if_neg hji, if_neg (by omega)]
 ·rw [List.getElem?_eq_none (by rw [mixK_len]; exact r), List.getElem?_eq_none (by rw [mixK_len]; exact r)]
  split
  ·omega
  ·rfl
theorem mixK_rep (k : IntKind) (f : Nat → Int) : ∀ n, rep [Value.int k 0] n = mixK k f (fun _ => 0) n 0 := fun n => by
 unfold mixK
 rw [show (fun j => Value.int k (if j < 0 then f j else 0)) = fun _ : Nat => Value.int k 0 from funext fun j => by rw [if_neg (by omega)]]
 rw [List.map_const', List.length_range]
 induction n with
 | zero => rfl
 | succ n ih => rw [List.replicate_succ]; show _ = [Value.int k 0] ++ _; rw [← ih]; rfl
theorem mixK_all (k : IntKind) (f g : Nat → Int) (n : Nat) : mixK k f g n n = ((List.range n).map f).map (Value.int k) := by
 unfold mixK
 rw [List.map_map]
 refine List.map_congr_left fun j hj => ?_
 rw [if_pos (List.mem_range.1 hj)]; rfl
def vcl (dim x : Nat) : Value := .slice (some ⟨x, 0, some 1⟩) dim dim
def MG (h : T AObj) (c0 : Nat) (lv : Value) (dim : Nat) (ms : List (List Int)) : Prop :=
 (lv = .slice none 0 0 ∧ ms = []) ∨ ∃ (b : Nat) (bs : List Nat), lv = .slice (some ⟨b, 0, some 1⟩) ms.length ms.length ∧ ms ≠ [] ∧ c0 ≤ b ∧ Has h b (.cells (bs.map (vcl dim))) ∧ bs.length = ms.length ∧ bs.Nodup ∧ (∀ x ∈ bs, c0 ≤ x ∧ x ≠ b) ∧
  ∀ (i : Nat) (zs : List Int), ms[i]? = some zs → zs.length = dim ∧ Bnd zs ∧ ∃ x, bs[i]? = some x ∧ Has h x (.cells (zs.map (Value.int .i32)))
theorem MG.val {h : T AObj} {c0 dim : Nat} {lv : Value} {ms : List (List Int)} (q : MG h c0 lv dim ms) : ∃ oa, lv = .slice oa ms.length ms.length := by
 rcases q with ⟨rfl, rfl⟩ | ⟨b, bs, h1, _⟩
 ·exact ⟨_, rfl⟩
 ·exact ⟨_, h1⟩
theorem MG.keep {h h' : T AObj} {c c0 dim : Nat} {lv : Value} {ms : List (List Int)} (q : MG h c0 lv dim ms) (hf : Fresh h c) (k : ∀ b, c0 ≤ b → b < c → h'.get b = h.get b) : MG h' c0 lv dim ms := by
 rcases q with q | ⟨b, bs, h1, h2, h3, h4, h5, h6, h7, h8⟩
 ·exact .inl q
 ·refine .inr ⟨b, bs, h1, h2, h3, (k b h3 (h4.lt hf)).trans h4, h5, h6, h7, fun i zs hi => ?_⟩
  obtain ⟨g1, g2, x, g3, g4⟩ := h8 i zs hi
  exact ⟨g1, g2, x, g3, (k x (h7 x (List.mem_of_getElem? g3)).1 (g4.lt hf)).trans g4⟩
theorem MG.grow {h : T AObj} {c c0 dim : Nat} {lv : Value} {ms : List (List Int)} (q : MG h c0 lv dim ms) (hf : Fresh h c) : GRow h lv dim ms (fun b => c0 ≤ b ∧ b < c) := by
 rcases q with q | ⟨b, bs, h1, h2, h3, h4, h5, h6, h7, h8⟩
 ·exact .inl q
 ·refine .inr ⟨b, _, h1, h2, ⟨h3, h4.lt hf⟩, h4, by rw [List.length_map, h5], fun i zs hi => ?_⟩
  obtain ⟨g1, g2, x, g3, g4⟩ := h8 i zs hi
  refine ⟨g1, g2, some ⟨x, 0, some 1⟩, dim, by rw [List.getElem?_map, g3]; rfl, .inr ⟨x, 0, some 1, dim, _, rfl, g4.cel, subN_all _ _ (by rw [List.length_map]; omega)⟩, fun b' hb' => ?_⟩
  have e : x = b' := by simpa [blkOf] using hb'
  exact e ▸ ⟨(h7 x (List.mem_of_getElem? g3)).1, g4.lt hf⟩
theorem MG.upd {h h' : T AObj} {c c0 dim b k x : Nat} {bs : List Nat} {ms : List (List Int)} {zs : List Int} (h2 : ms ≠ []) (h3 : c0 ≤ b) (h4 : Has h b (.cells (bs.map (vcl dim)))) (h5 : bs.length = ms.length) (h6 : bs.Nodup) (h7 : ∀ x ∈ bs, c0 ≤ x ∧ x ≠ b) (h8 : ∀ (i : Nat) (zs : List Int), ms[i]? = some zs → zs.length = dim ∧ Bnd zs ∧ ∃ x, bs[i]? = some x ∧ Has h x (.cells (zs.map (Value.int .i32))))
  (hf : Fresh h c) (hk : bs[k]? = some x) (hz : zs.length = dim) (hb : Bnd zs) (hx : Has h' x (.cells (zs.map (Value.int .i32)))) (kp : ∀ y, c0 ≤ y → y < c → y ≠ x → h'.get y = h.get y) : MG h' c0 (.slice (some ⟨b, 0, some 1⟩) ms.length ms.length) dim (ms.set k zs) := by
 have hxb := (h7 x (List.mem_of_getElem? hk)).2
 refine .inr ⟨b, bs, by rw [List.length_set], fun e => h2 (by have := congrArg List.length e; rw [List.length_set] at this; exact List.length_eq_zero_iff.1 this), h3, (kp b h3 (h4.lt hf) (fun e => hxb e.symm)).trans h4, by rw [List.length_set]; exact h5, h6, h7, fun i ys hi => ?_⟩
 rw [List.getElem?_set] at hi
 by_cases hki : k = i
 ·subst hki
  rw [if_pos rfl] at hi
  split at hi
  ·cases hi
   exact ⟨hz, hb, x, hk, hx⟩
  ·cases hi
 ·rw [if_neg hki] at hi
  obtain ⟨g1, g2, y, g3, g4⟩ := h8 i ys hi
  have hyx : y ≠ x := fun e => by
   subst e
   obtain ⟨q1, q2⟩ := List.getElem?_eq_some_iff.1 g3
   obtain ⟨q3, q4⟩ := List.getElem?_eq_some_iff.1 hk
   exact hki ((List.getElem_inj h6).1 (q4.trans q2.symm))
  exact ⟨g1, g2, y, g3, (kp y (h7 y (List.mem_of_getElem? g3)).1 (g4.lt hf) hyx).trans g4⟩
end Go.Ab.Seat
end
section
/- The reference's index is written: one is laid between (the abstract machine). -/
namespace Go.Ab.Seat
open Go.Extern Go.Proofs
set_option maxRecDepth 4000
end Go.Ab.Seat
end
section
/- Numbers held against each other, where they are one (the abstract machine). -/
namespace Go.Ab.Seat
open Go.Extern Go.Proofs
set_option maxRecDepth 4000
variable {sm : Nat → Option (List Value → M Value)}
def EHs (a : Option Addr) (n k : Nat) (b : Option Addr) (k' : Nat) (z : Int) (j5 j14 j24 : Value) : L :=
 .cons 0 (.slice a n k) (.cons 1 (.slice b n k') (.cons 4 (.bool false) (.cons 10 (.bool false) (.cons 12 (.int .i64 (n : Int)) (.cons 13 (.int .i64 z) (.cons 5 j5 (.cons 14 j14 (.cons 24 j24 .nil))))))))
end Go.Ab.Seat
end
section
/- A flat index: its members as a rising list (the abstract machine). -/
namespace Go.Ab.Seat
open Go.Extern Go.Proofs
set_option maxRecDepth 4000
abbrev mbR (id : Int) (zs : List Int) : Rc := ⟨id, zs.map (Value.int .i32), .empty, 0, false⟩
def FRep (h : T AObj) (p m : Nat) (U : Nat → Prop) (r : Rc) (v : Value) : Prop := Own h 0 v r.xs.length r.xs ∧ ∀ b, blkOf v = some b → U b ∧ b ≠ p ∧ b ≠ m
def FFits (h : T AObj) (p m : Nat) (U : Nat → Prop) (o : Option Rc) (w : Option Value) : Prop := (o = none ∧ w = none) ∨ ∃ r v, o = some r ∧ w = some v ∧ FRep h p m U r v
structure FlatM (h : T AObj) (p m : Nat) (mt : Int) (dim : Nat) (M : List Rc) (U : Nat → Prop) : Prop where
 ptr : Has h p (.cells [.int .i64 mt, .map (some m)])
 ex : ∃ es n, Has h m (.map es n) ∧ (∃ ids, Keyed es n ids) ∧ ∀ x, FFits h p m U (getM x M) (valI x es)
 pU : U p
 mU : U m
 ne : p ≠ m
 rises : Rises M
 ok : ∀ r ∈ M, ∃ zs : List Int, r.xs = zs.map (Value.int .i32) ∧ zs.length = dim ∧ Bnd zs
theorem FRep.keep {h h' : T AObj} {p m c : Nat} {U U' : Nat → Prop} {r : Rc} {v : Value} (x : FRep h p m U r v) (hf : Fresh h c) (hU : ∀ b, U b → U' b) (k : ∀ b, U b → b < c → b ≠ p → b ≠ m → h'.get b = h.get b) : FRep h' p m U' r v :=
 ⟨x.1.keep fun b hb => k b (x.2 b hb).1 ((x.1.blk hb).2.lt hf) (x.2 b hb).2.1 (x.2 b hb).2.2, fun b hb => ⟨hU b (x.2 b hb).1, (x.2 b hb).2⟩⟩
theorem FFits.keep {h h' : T AObj} {p m c : Nat} {U U' : Nat → Prop} {o : Option Rc} {w : Option Value} (x : FFits h p m U o w) (hf : Fresh h c) (hU : ∀ b, U b → U' b) (k : ∀ b, U b → b < c → b ≠ p → b ≠ m → h'.get b = h.get b) : FFits h' p m U' o w := by
 rcases x with x | ⟨r, v, h1, h2, h3⟩
 ·exact .inl x
 ·exact .inr ⟨r, v, h1, h2, h3.keep hf hU k⟩
theorem FlatM.keep {h h' : T AObj} {c p m dim : Nat} {mt : Int} {M : List Rc} {U : Nat → Prop} (q : FlatM h p m mt dim M U) (hf : Fresh h c) (k : ∀ b, U b → b < c → h'.get b = h.get b) : FlatM h' p m mt dim M U := by
 obtain ⟨es, n, h1, h2, h3⟩ := q.ex
 exact ⟨(k p q.pU (q.ptr.lt hf)).trans q.ptr, ⟨es, n, (k m q.mU (h1.lt hf)).trans h1, h2, fun x => (h3 x).keep hf (fun _ q => q) fun b hb hc _ _ => k b hb hc⟩, q.pU, q.mU, q.ne, q.rises, q.ok⟩
theorem FlatM.lt {h : T AObj} {c p m dim : Nat} {mt : Int} {M : List Rc} {U : Nat → Prop} (q : FlatM h p m mt dim M U) (hf : Fresh h c) : p < c ∧ m < c := by
 obtain ⟨es, n, h1, h2, h3⟩ := q.ex
 exact ⟨q.ptr.lt hf, h1.lt hf⟩
theorem FlatM.new {h : T AObj} {p m dim : Nat} {mt : Int} (hp : Has h p (.cells [.int .i64 mt, .map (some m)])) (hm : Has h m (.map [] 0)) (hne : p ≠ m) : FlatM h p m mt dim [] (fun b => b = p ∨ b = m) :=
 ⟨hp, ⟨[], 0, hm, ⟨[], .nil 0⟩, fun x => .inl ⟨rfl, rfl⟩⟩, .inl rfl, .inr rfl, hne, Rises.nil, fun r hr => by cases hr⟩
theorem FlatM.ids {h : T AObj} {p m : Nat} {U : Nat → Prop} {M : List Rc} {n : Nat} {es : List (Value × Value × Nat)} {ids : List Int} (hk : Keyed es n ids) (hr : Rises M) (hv : ∀ x, FFits h p m U (getM x M) (valI x es)) : sortI ids = M.map Rc.id := by
 refine rises_ext (sortI_rises hk.nodup) hr.ids fun x => ?_
 rw [(sortI_perm ids).mem_iff]
 constructor
 ·intro hx
  rcases hv x with ⟨_, h4⟩ | ⟨r, v, h4, _, _⟩
  ·exact absurd hx ((findI_none_iff hk.keys).1 (valI_none.1 h4))
  ·obtain ⟨h5, h6⟩ := getM_mem h4
   exact List.mem_map.2 ⟨r, h5, h6⟩
 ·intro hx
  obtain ⟨r, h5, rfl⟩ := List.mem_map.1 hx
  refine Classical.byContradiction fun hn => ?_
  rcases hv r.id with ⟨h4, _⟩ | ⟨r', v, _, h4, _⟩
  ·exact absurd rfl (getM_none.1 h4 r h5)
  ·rw [valI_none.2 ((findI_none_iff hk.keys).2 hn)] at h4
   cases h4
theorem fput_spec {h : T AObj} {c : Nat} {rl wl : List Nat} (hf : Fresh h c) {p m dim : Nat} {mt : Int} {M : List Rc} {U : Nat → Prop} (q : FlatM h p m mt dim M U) (id : Int) (hid : -9223372036854775808 ≤ id ∧ id ≤ 9223372036854775807)
  {a : Option Addr} {cap : Nat} {zs : List Int} (hv : Row h (.slice a dim cap) dim 1 (zs.map (Value.int .i32))) (hx : zs.length = dim) (hb : Bnd zs) (hd : 1 ≤ dim) (hd' : dim ≤ 1000) (bs : Nat → Prop) (hbs : ∀ b o sp, a = some ⟨b, o, sp⟩ → bs b) (hbm : ¬bs m) :
  ∃ r s', FnTo (Cs smQ) eg 20 [.pointer (some ⟨p, 0, none⟩), .int .i64 id, .slice a dim cap] ⟨h, c, rl, wl⟩ r s' ∧ FlatM s'.h p m mt dim (putM (mbR id zs) M) (fun b => U b ∨ c ≤ b ∧ b < s'.c) ∧ Ext ⟨h, c, rl, wl⟩ s' (fun b => U b ∨ bs b) (fun b => b = m) := by
 obtain ⟨es, n, hm, ⟨ids, h2⟩, h3⟩ := q.ex
 have hp := q.ptr
 obtain ⟨lp, lm⟩ := q.lt hf
 have hpU := q.pU
 have hmU := q.mU
 refine Fn.go (stdQ 20 rfl) ex20 fn20 km20 rfl rfl ?_
 refine Zev ?_
 refine Zgo ?_
 refine Wtr.call rfl rfl (copy_spec stdQ Zfr hv (by unfold bigV; omega) (fun e => by omega) bs (fun b o sp n' cap e => hbs b o sp (by simp only [Value.slice.injEq] at e; exact e.1))) ?_
 rintro v h1 c1 r1 w1 ⟨hown, hext⟩
 have hq := hext.quiet (fun _ _ q => q)
 have kp := Kp.ext (W := fun b => b = m) (h := h) (c := c) Zkp hext (by omega) (fun _ _ q => q.elim)
 have lr := Lg.extR (R := fun b => U b ∨ bs b) (c := c) Zlg hext (fun b _ hb => .inr hb)
 have lw := Lg.extW (W := fun b => b = m) (c := c) Zlg hext (fun b _ hb => hb.elim)
 have fr1 := hext.fresh
 have le1 := hext.c
 simp only at le1 fr1
 have hm1 : Has h1 m (.map es n) := hext.hs hm lm (fun q => q)
 have hp1 := hext.hs hp lp (fun q => q)
 have hrm : ∀ b ∈ r1, b ≠ m := fun b hb => by
  rcases hext.rl b hb with u | u
  ·exact absurd u List.not_mem_nil
  ·exact fun e => hbm (e ▸ u.2)
 refine ⟨Zap, ?_⟩
 refine Zgo ?_
 refine Wtr.op (s1 := ⟨h1.set m (some (.map (putI .i64 id v n es).1 (putI .i64 id v n es).2)), c1, [m], [m]⟩) rfl (to_mapUpdate (mi_ rfl) rfl rfl rfl hm1 (hm1.lt fr1) h2.ks) ?_ ?_
 ·exact Zap
 dsimp only [put]
 refine Zgo ?_
 refine ⟨.inl rfl, Wres.nil ⟨?_, ?_⟩⟩
 ·obtain ⟨va, vk, rfl⟩ := hown.val
  refine ⟨Has.other (fun e => q.ne e) hp1, ⟨_, _, Has.same, ⟨_, h2.put (by unfold wfI; rw [decide_eq_true hid.1, decide_eq_true hid.2]; rfl) _⟩, fun x => ?_⟩, .inl hpU, .inl hmU, q.ne, q.rises.put _, fun r hr => ?_⟩
  ·rw [getM_put, valI_put h2]
   by_cases hxi : id = x
   ·rw [if_pos hxi, if_pos hxi.symm]
    refine .inr ⟨_, _, rfl, rfl, ?_, fun b hb => ?_⟩
    ·show Own _ 0 _ (zs.map (Value.int .i32)).length _
     rw [List.length_map, hx]
     exact (hown.low (Nat.zero_le _)).keep fun b hb => get_other (by have := (hown.blk hb).1; omega)
    ·obtain ⟨u1, u2⟩ := hown.blk hb
     have := u2.lt fr1
     exact ⟨.inr ⟨u1, this⟩, by omega, by omega⟩
   ·rw [if_neg hxi, if_neg fun e => hxi e.symm]
    exact (h3 x).keep hf (fun b hb => .inl hb) fun b _ hc _ hm => (get_other hm).trans (kp b hc hm)
  ·rcases mem_putM hr with rfl | hr
   ·exact ⟨zs, rfl, hx, hb⟩
   ·exact q.ok r hr
 ·exact Zex
end Go.Ab.Seat
end
