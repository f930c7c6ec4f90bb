import Derived.Test.YtofikbfljjjgeaaGreatDoorDO1
import Derived.Test.YtofikbfljjjgeaaGreatDoorDW2
import Derived.Test.YtofikbfljjjgeaaGreatDoorDI2
import Derived.Test.YtofikbfljjjgeaaGreatDoorE48
import Derived.Test.YtofikbfljjjgeaaGreatDoorDP0
import Derived.Test.YtofikbfljjjgeaaGreatDoorE50
set_option linter.unusedVariables false
set_option linter.unusedSimpArgs false
section
/- The reference's index is read (the abstract machine). -/
namespace Go.Ab.Seat
open Go.Extern Go.Proofs
set_option maxRecDepth 4000
structure On where
 id : Int
 vec : Value
 xs : List Value
def On.cells (x : On) : List Value := [.int .i64 x.id, x.vec, .int .i64 0, .slice none 0 0, .slice none 0 0, .slice none 0 0, .slice none 0 0, .slice none 0 0]
def On.rc (x : On) : Rc := ⟨x.id, x.xs, .empty, 0, false⟩
def flatO (l : List On) : List Value := l.flatMap On.cells
def LRow8 (h : T AObj) (v : Value) (l : List On) : Prop := (v = .slice none 0 0 ∧ l = []) ∨ ∃ b, v = .slice (some ⟨b, 0, some 8⟩) l.length l.length ∧ l ≠ [] ∧ Has h b (.cells (flatO l))
theorem LRow8.val {h : T AObj} {v : Value} {l : List On} (x : LRow8 h v l) : ∃ a, v = .slice a l.length l.length := by
 rcases x with ⟨rfl, rfl⟩ | ⟨b, rfl, _, _⟩
 ·exact ⟨_, rfl⟩
 ·exact ⟨_, rfl⟩
structure RK where
 kd : Int
 mv : Value
 bl : Value
 bs : Value
def refC (K : RK) (mt dm : Int) (lv : Value) : List Value := [.int .i64 K.kd, .int .i64 mt, .int .i64 dm, lv, K.mv, K.bl, K.bs]
structure RefX (h : T AObj) (p : Nat) (K : RK) (mt dm : Int) (dim : Nat) (M : List Rc) (U : Nat → Prop) : Prop where
 ex : ∃ lv l, Has h p (.cells (refC K mt dm lv)) ∧ LRow8 h lv l ∧ (∀ b, blkOf lv = some b → U b ∧ b ≠ p) ∧ (∀ x ∈ l, Own h 0 x.vec x.xs.length x.xs ∧ ∀ b, blkOf x.vec = some b → U b ∧ b ≠ p ∧ blkOf lv ≠ some b) ∧ l.map On.rc = M
 pU : U p
 rises : Rises M
 ok : ∀ r ∈ M, ∃ zs : List Int, r.xs = zs.map (Value.int .i32) ∧ zs.length = dim ∧ Bnd zs
theorem RefX.keep {h h' : T AObj} {c p dim : Nat} {K : RK} {mt dm : Int} {M : List Rc} {U : Nat → Prop} (q : RefX h p K mt dm dim M U) (hf : Fresh h c) (k : ∀ b, U b → b < c → h'.get b = h.get b) : RefX h' p K mt dm dim M U := by
 obtain ⟨⟨lv, l, h1, h2, h3, h4, h5⟩, h6, h7, h8⟩ := q
 refine ⟨⟨lv, l, (k p h6 (h1.lt hf)).trans h1, ?_, h3, fun x hx => ⟨(h4 x hx).1.keep fun b hb => k b ((h4 x hx).2 b hb).1 (((h4 x hx).1.blk hb).2.lt hf), (h4 x hx).2⟩, h5⟩, h6, h7, h8⟩
 rcases h2 with h2 | ⟨b, rfl, hne, h2⟩
 ·exact .inl h2
 ·exact .inr ⟨b, rfl, hne, (k b (h3 b rfl).1 (h2.lt hf)).trans h2⟩
theorem RefX.new {h : T AObj} {p dim : Nat} {K : RK} {mt dm : Int} (hp : Has h p (.cells (refC K mt dm (.slice none 0 0)))) : RefX h p K mt dm dim [] (fun b => b = p) := ⟨⟨_, [], hp, .inl ⟨rfl, rfl⟩, (fun b hb => by cases hb), (fun x hx => by cases hx), rfl⟩, rfl, Rises.nil, fun r hr => by cases hr⟩
end Go.Ab.Seat
end
section
/- The reference's score; a member's place; ids, a vector, a hit (the abstract machine). -/
namespace Go.Ab.Seat
open Go.Extern Go.Proofs
set_option maxRecDepth 4000
def HJ (h : T AObj) (c0 : Nat) (v : Value) (l : List Int) : Prop := (v = .slice none 0 0 ∧ l = []) ∨ ∃ b, v = .slice (some ⟨b, 0, some 1⟩) l.length l.length ∧ l ≠ [] ∧ c0 ≤ b ∧ Has h b (.cells (l.map (Value.int .i64)))
theorem HJ.val {h : T AObj} {c : Nat} {v : Value} {l : List Int} (x : HJ h c v l) : ∃ oa, v = .slice oa l.length l.length ∧ Row h v l.length 1 (l.map (Value.int .i64)) ∧ ∀ b, blkOf v = some b → c ≤ b := by
 rcases x with ⟨rfl, rfl⟩ | ⟨b, rfl, _, h1, h2⟩
 ·exact ⟨_, rfl, .inl ⟨rfl, rfl, _, _, rfl⟩, fun b hb => by cases hb⟩
 ·exact ⟨_, rfl, .inr ⟨b, 0, _, _, _, rfl, h2.cel, subN_all _ _ (by simp)⟩, fun b hb => by cases hb; exact h1⟩
theorem HJ.lt {h : T AObj} {c c0 : Nat} {v : Value} {l : List Int} (x : HJ h c0 v l) (hf : Fresh h c) {b : Nat} (hb : blkOf v = some b) : c0 ≤ b ∧ b < c := by
 rcases x with ⟨rfl, _⟩ | ⟨b', rfl, _, h3, h4⟩
 ·cases hb
 ·cases hb; exact ⟨h3, h4.lt hf⟩
end Go.Ab.Seat
end
section
/- Is a hit's id among some? (the abstract machine) -/
namespace Go.Ab.Seat
open Go.Extern Go.Proofs
set_option maxRecDepth 4000
variable {sm : Nat → Option (List Value → M Value)}
theorem rowB {h : T AObj} {oa : Option Addr} {n cap k : Nat} {xs : List Value} (hr : Row h (.slice oa n cap) n k xs) (hn : 0 < n) : ∃ b o sp cs, oa = some ⟨b, o, sp⟩ ∧ Cel h b cs ∧ subN o (n * k) cs = some xs := by
 rcases hr with ⟨rfl, _⟩ | ⟨b, o, sp, cap', cs, e, hc, hs⟩
 ·omega
 ·cases e
  exact ⟨b, o, sp, cs, rfl, hc, hs⟩
end Go.Ab.Seat
end
section
/- The best: one is put among them (the abstract machine). -/
namespace Go.Ab.Seat
open Go.Extern Go.Proofs
set_option maxRecDepth 4000
variable {sm : Nat → Option (List Value → M Value)}
def Best (h : T AObj) (v : Value) (n : Nat) (xs : List Value) : Prop :=
 (v = .slice none 0 0 ∧ n = 0 ∧ xs = []) ∨ ∃ b cap cs, v = .slice (some ⟨b, 0, some 2⟩) n cap ∧ 1 ≤ n ∧ n ≤ cap ∧ Has h b (.cells cs) ∧ subN 0 (n * 2) cs = some xs
theorem Best.row {h : T AObj} {v : Value} {n : Nat} {xs : List Value} (x : Best h v n xs) : ∃ oa cap, v = .slice oa n cap ∧ n ≤ cap ∧ Row h v n 2 xs := by
 rcases x with ⟨rfl, rfl, rfl⟩ | ⟨b, cap, cs, rfl, h1, h2, h3, h4⟩
 ·exact ⟨_, _, rfl, Nat.le_refl _, .inl ⟨rfl, rfl, _, _, rfl⟩⟩
 ·exact ⟨_, _, rfl, h2, .inr ⟨b, 0, _, _, cs, rfl, h3.cel, h4⟩⟩
theorem Best.keep {h h' : T AObj} {v : Value} {n : Nat} {xs : List Value} (x : Best h v n xs) (hk : ∀ b, blkOf v = some b → h'.get b = h.get b) : Best h' v n xs := by
 rcases x with x | ⟨b, cap, cs, rfl, h1, h2, h3, h4⟩
 ·exact .inl x
 ·exact .inr ⟨b, cap, cs, rfl, h1, h2, (hk b rfl).trans h3, h4⟩
end Go.Ab.Seat
end
section
/- The reference's best ones: one more (the abstract machine). -/
namespace Go.Ab.Seat
open Go.Extern Go.Proofs
set_option maxRecDepth 4000
end Go.Ab.Seat
end
section
/- The reference's best ones (the abstract machine). -/
namespace Go.Ab.Seat
open Go.Extern Go.Proofs
set_option maxRecDepth 4000
end Go.Ab.Seat
end
section
/- The reference's nearest middle, and its order of middles (the abstract machine). -/
namespace Go.Ab.Seat
open Go.Extern Go.Proofs
set_option maxRecDepth 4000
end Go.Ab.Seat
end
section
/- Vectors compared; is a vector among some? (the abstract machine) -/
namespace Go.Ab.Seat
open Go.Extern Go.Proofs
set_option maxRecDepth 4000
end Go.Ab.Seat
end
section
/- The middle of some (the abstract machine). -/
namespace Go.Ab.Seat
open Go.Extern Go.Proofs
set_option maxRecDepth 4000
theorem to_quo {C : Ctx} {eg : TypeId → Bool} {e : Env} {s : St} {d : Option Nat} {ty : TypeId} {ps : String} {af : Array Edge} {g : Option (Nat × Bool)} {t t2 : TypeId} {x y : Operand} {a b : Int} (hx : evalA e x = .int .i64 a) (hy : evalA e y = .int .i64 b) (hb : b ≠ 0) (h0 : -9223372036854775808 ≤ a.tdiv b) (h1 : a.tdiv b ≤ 9223372036854775807) : OpTo C eg e ⟨d, .binOp .quo t x y t2, ty, ps, af, g⟩ s (.int .i64 (a.tdiv b)) s :=
 to_bin hx hy (by rw [opBin_int (by decide) (by decide)]; show (match decide (b = 0) with | true => none | false => some (Value.int .i64 (wrapA .i64 (a.tdiv b)))) = _; rw [decide_eq_false hb, wrapA_i64 h0 h1])
theorem tdiv_rng {a b : Int} (hb : 0 < b) : -(a.natAbs : Int) ≤ a.tdiv b ∧ a.tdiv b ≤ (a.natAbs : Int) := by
 have h := Int.natAbs_tdiv_le_natAbs a b
 omega
end Go.Ab.Seat
end
section
/- The reference's vectors held against each other; the whole part towards below (the abstract machine). -/
namespace Go.Ab.Seat
open Go.Extern Go.Proofs
set_option maxRecDepth 4000
end Go.Ab.Seat
end
section
/- Rows of grown rows of vectors: one more in one of them; a value stored among vectors. -/
namespace Go.Ab.Seat
open Go.Extern Go.Proofs
def ORow (h : T AObj) (c0 : Nat) (w : Value) (dim : Nat) (l : List (List Int)) (Uv : Nat → Prop) : Prop :=
 (w = .slice none 0 0 ∧ l = []) ∨ ∃ b vals, w = .slice (some ⟨b, 0, some 1⟩) l.length l.length ∧ l ≠ [] ∧ c0 ≤ b ∧ Has h b (.cells vals) ∧ GVals h dim l Uv vals
theorem ORow.keep {h h' : T AObj} {c c0 : Nat} {w : Value} {dim : Nat} {l : List (List Int)} {Uv : Nat → Prop} (x : ORow h c0 w dim l Uv) (hf : Fresh h c) (k : ∀ b, b < c → (blkOf w = some b ∨ Uv b) → h'.get b = h.get b) : ORow h' c0 w dim l Uv := by
 rcases x with x | ⟨b, vals, h1, h2, h3, h4, h5⟩
 ·exact .inl x
 ·exact .inr ⟨b, vals, h1, h2, h3, (k b (h4.lt hf) (.inl (by rw [h1]; rfl))).trans h4, h5.keep hf (fun _ q => q) (fun b hb hc _ => k b hc (.inr hb))⟩
theorem ORow.lt {h : T AObj} {c c0 : Nat} {w : Value} {dim : Nat} {l : List (List Int)} {Uv : Nat → Prop} (x : ORow h c0 w dim l Uv) (hf : Fresh h c) {b : Nat} (hb : blkOf w = some b) : c0 ≤ b ∧ b < c := by
 rcases x with ⟨rfl, _⟩ | ⟨b', vals, rfl, h2, h3, h4, h5⟩
 ·cases hb
 ·cases hb; exact ⟨h3, h4.lt hf⟩
structure OfG (h : T AObj) (c0 : Nat) (ws : List Value) (dim : Nat) (ls : List (List (List Int))) (Uv : Nat → Prop) : Prop where
 len : ws.length = ls.length
 row : ∀ (i : Nat) (l : List (List Int)), ls[i]? = some l → ∃ w, ws[i]? = some w ∧ ORow h c0 w dim l Uv
 inj : ∀ (i j : Nat) (w w' : Value) (b : Nat), ws[i]? = some w → ws[j]? = some w' → blkOf w = some b → blkOf w' = some b → i = j
theorem OfG.keep {h h' : T AObj} {c c0 : Nat} {ws : List Value} {dim : Nat} {ls : List (List (List Int))} {Uv : Nat → Prop} (x : OfG h c0 ws dim ls Uv) (hf : Fresh h c) (k : ∀ b, b < c → (c0 ≤ b ∨ Uv b) → h'.get b = h.get b) : OfG h' c0 ws dim ls Uv :=
 ⟨x.len, fun i l hi => by
  obtain ⟨w, h1, h2⟩ := x.row i l hi
  exact ⟨w, h1, h2.keep hf fun b hb hq => k b hb (hq.imp (fun q => (h2.lt hf q).1) (fun q => q))⟩, x.inj⟩
theorem OfG.step {h h' : T AObj} {c c0 : Nat} {ws : List Value} {dim : Nat} {ls : List (List (List Int))} {Uv : Nat → Prop} (x : OfG h c0 ws dim ls Uv) (hf : Fresh h c) {i : Nat} {w0 w : Value} {l : List (List Int)} (h0 : ws[i]? = some w0) (hUv : ∀ b, Uv b → b < c0) (hw : ORow h' c0 w dim l Uv) (hb : ∀ b, blkOf w = some b → c ≤ b)
  (k : ∀ b, b < c → blkOf w0 ≠ some b → (c0 ≤ b ∨ Uv b) → h'.get b = h.get b) : OfG h' c0 (ws.set i w) dim (ls.set i l) Uv := by
 have hil : i < ws.length := (List.getElem?_eq_some_iff.1 h0).1
 have hil2 : i < ls.length := by rw [← x.len]; exact hil
 have hold : ∀ j w1, ws[j]? = some w1 → ∀ b, blkOf w1 = some b → b < c := fun j w1 hj b hb1 => by
  have h2 := (List.getElem?_eq_some_iff.1 hj).1
  rw [x.len] at h2
  obtain ⟨w2, h3, h4⟩ := x.row j ls[j] (List.getElem?_eq_getElem h2)
  rw [hj] at h3; cases h3
  exact (h4.lt hf hb1).2
 refine ⟨by rw [List.length_set, List.length_set]; exact x.len, fun j l1 hj => ?_, fun j j' w1 w1' b e1 e2 b1 b2 => ?_⟩
 ·rw [List.getElem?_set] at hj ⊢
  by_cases hij : i = j
  ·subst hij
   rw [if_pos rfl] at hj ⊢
   rw [if_pos (by rw [← x.len]; exact hil)] at hj
   cases hj
   rw [if_pos hil]
   exact ⟨w, rfl, hw⟩
  ·rw [if_neg hij] at hj ⊢
   obtain ⟨w1, h1, h2⟩ := x.row j l1 hj
   refine ⟨w1, h1, h2.keep hf fun b hb hq => k b hb (fun q => ?_) (hq.imp (fun q => (h2.lt hf q).1) (fun q => q))⟩
   rcases hq with hq | hq
   ·exact hij (x.inj i j w0 w1 b h0 h1 q hq)
   ·have h3 := hUv b hq
    obtain ⟨w2, h4, h5⟩ := x.row i ls[i] (List.getElem?_eq_getElem hil2)
    rw [h0] at h4; cases h4
    have := (h5.lt hf q).1
    omega
 ·rw [List.getElem?_set] at e1 e2
  by_cases hij : i = j
  ·by_cases hij' : i = j'
   ·omega
   ·rw [if_neg hij'] at e2
    rw [if_pos hij, if_pos hil] at e1
    cases e1
    have h1 := hb b b1
    have h2 := hold j' w1' e2 b b2
    omega
  ·rw [if_neg hij] at e1
   by_cases hij' : i = j'
   ·rw [if_pos hij', if_pos hil] at e2
    cases e2
    have h1 := hb b b2
    have h2 := hold j w1 e1 b b1
    omega
   ·rw [if_neg hij'] at e2
    exact x.inj j j' w1 w1' b e1 e2 b1 b2
theorem MRow.bound {h : T AObj} {c : Nat} {v : Value} {dim : Nat} {mid : List (List Int)} {U : Nat → Prop} (x : MRow h v dim mid U) (hf : Fresh h c) (hd : 1 ≤ dim) : MRow h v dim mid (fun b => U b ∧ b < c) := by
 rcases x with x | ⟨b, sp, cap, vals, h1, h2, h3, h4, h5, h6⟩
 ·exact .inl x
 ·refine .inr ⟨b, sp, cap, vals, h1, h2, h3, ⟨h4, h5.lt hf⟩, h5, h6.1, fun i zs hi => ?_⟩
  obtain ⟨g1, g2, a, k, g3, g4, g5⟩ := h6.2 i zs hi
  refine ⟨g1, g2, a, k, g3, g4, fun b' hb' => ⟨g5 b' hb', ?_⟩⟩
  rcases g4 with ⟨q, _⟩ | ⟨b2, o, sp2, cap2, cs, e, g6, _⟩
  ·omega
  ·rw [e] at hb'
   have : b2 = b' := by simpa [blkOf] using hb'
   exact this ▸ g6.lt hf
theorem MRow.vok {h : T AObj} {v : Value} {dim : Nat} {mid : List (List Int)} {U : Nat → Prop} (x : MRow h v dim mid U) : Vok dim mid := by
 intro zs hz
 obtain ⟨i, hi⟩ := List.mem_iff_getElem?.1 hz
 rcases x with ⟨_, rfl⟩ | ⟨b, sp, cap, vals, h1, h2, h3, h4, h5, h6⟩
 ·cases hz
 ·obtain ⟨g1, g2, _⟩ := h6.2 i zs hi
  exact ⟨g1, g2⟩
end Go.Ab.Seat
end
section
/- Cells that are filled one behind the other; vectors with a block each, in a row (plain). -/
namespace Go.Ab.Seat
open Go.Extern Go.Proofs
def mixK (k : IntKind) (f g : Nat → Int) (n i : Nat) : List Value := (List.range n).map fun j => .int k (if j < i then f j else g j)
theorem mixK_len (k : IntKind) (f g : Nat → Int) (n i : Nat) : (mixK k f g n i).length = n := by simp [mixK]
theorem mixK_at {k : IntKind} {f g : Nat → Int} {n i j : Nat} (hj : j < n) : (mixK k f g n i)[j]? = some (.int k (if j < i then f j else g j)) := by
 unfold mixK
 rw [List.getElem?_map, List.getElem?_eq_getElem (by simpa using hj), List.getElem_range]; rfl
theorem mixK_step (k : IntKind) (f g : Nat → Int) (n i : Nat) (hi : i < n) : setMany [.int k (f i)] (mixK k f g n i) (0 + i * 1) = some (mixK k f g n (i + 1)) := by
 rw [setOneI (by rw [mixK_len]; exact hi) rfl]
 congr 1
 refine List.ext_getElem? fun j => ?_
 rw [List.getElem?_set, mixK_len]
 rcases Nat.lt_or_ge j n with r | r
 ·by_cases hij : i = j
  ·subst hij
   rw [if_pos rfl, if_pos hi, mixK_at hi, if_pos (by omega)]
  ·rw [if_neg hij, mixK_at r, mixK_at r]
   by_cases hji : j < i
   ·rw [if_pos hji, if_pos (by omega)]
   ·rw [if_neg hji, if_neg (by omega)]
 ·rw [List.getElem?_eq_none (by rw [mixK_len]; exact r), List.getElem?_eq_none (by rw [mixK_len]; exact r)]
  split
  ·omega
  ·rfl
theorem mixK_rep (k : IntKind) (f : Nat → Int) : ∀ n, rep [Value.int k 0] n = mixK k f (fun _ => 0) n 0 := fun n => by
 unfold mixK
 rw [show (fun j => Value.int k (if j < 0 then f j else 0)) = fun _ : Nat => Value.int k 0 from funext fun j => by rw [if_neg (by omega)]]
 rw [List.map_const', List.length_range]
 induction n with
 | zero => rfl
 | succ n ih => rw [List.replicate_succ]; show _ = [Value.int k 0] ++ _; rw [← ih]; rfl
theorem mixK_all (k : IntKind) (f g : Nat → Int) (n : Nat) : mixK k f g n n = ((List.range n).map f).map (Value.int k) := by
 unfold mixK
 rw [List.map_map]
 refine List.map_congr_left fun j hj => ?_
 rw [if_pos (List.mem_range.1 hj)]; rfl
def vcl (dim x : Nat) : Value := .slice (some ⟨x, 0, some 1⟩) dim dim
def MG (h : T AObj) (c0 : Nat) (lv : Value) (dim : Nat) (ms : List (List Int)) : Prop :=
 (lv = .slice none 0 0 ∧ ms = []) ∨ ∃ (b : Nat) (bs : List Nat), lv = .slice (some ⟨b, 0, some 1⟩) ms.length ms.length ∧ ms ≠ [] ∧ c0 ≤ b ∧ Has h b (.cells (bs.map (vcl dim))) ∧ bs.length = ms.length ∧ bs.Nodup ∧ (∀ x ∈ bs, c0 ≤ x ∧ x ≠ b) ∧
  ∀ (i : Nat) (zs : List Int), ms[i]? = some zs → zs.length = dim ∧ Bnd zs ∧ ∃ x, bs[i]? = some x ∧ Has h x (.cells (zs.map (Value.int .i32)))
theorem MG.val {h : T AObj} {c0 dim : Nat} {lv : Value} {ms : List (List Int)} (q : MG h c0 lv dim ms) : ∃ oa, lv = .slice oa ms.length ms.length := by
 rcases q with ⟨rfl, rfl⟩ | ⟨b, bs, h1, _⟩
 ·exact ⟨_, rfl⟩
 ·exact ⟨_, h1⟩
theorem MG.keep {h h' : T AObj} {c c0 dim : Nat} {lv : Value} {ms : List (List Int)} (q : MG h c0 lv dim ms) (hf : Fresh h c) (k : ∀ b, c0 ≤ b → b < c → h'.get b = h.get b) : MG h' c0 lv dim ms := by
 rcases q with q | ⟨b, bs, h1, h2, h3, h4, h5, h6, h7, h8⟩
 ·exact .inl q
 ·refine .inr ⟨b, bs, h1, h2, h3, (k b h3 (h4.lt hf)).trans h4, h5, h6, h7, fun i zs hi => ?_⟩
  obtain ⟨g1, g2, x, g3, g4⟩ := h8 i zs hi
  exact ⟨g1, g2, x, g3, (k x (h7 x (List.mem_of_getElem? g3)).1 (g4.lt hf)).trans g4⟩
theorem MG.grow {h : T AObj} {c c0 dim : Nat} {lv : Value} {ms : List (List Int)} (q : MG h c0 lv dim ms) (hf : Fresh h c) : GRow h lv dim ms (fun b => c0 ≤ b ∧ b < c) := by
 rcases q with q | ⟨b, bs, h1, h2, h3, h4, h5, h6, h7, h8⟩
 ·exact .inl q
 ·refine .inr ⟨b, _, h1, h2, ⟨h3, h4.lt hf⟩, h4, by rw [List.length_map, h5], fun i zs hi => ?_⟩
  obtain ⟨g1, g2, x, g3, g4⟩ := h8 i zs hi
  refine ⟨g1, g2, some ⟨x, 0, some 1⟩, dim, by rw [List.getElem?_map, g3]; rfl, .inr ⟨x, 0, some 1, dim, _, rfl, g4.cel, subN_all _ _ (by rw [List.length_map]; omega)⟩, fun b' hb' => ?_⟩
  have e : x = b' := by simpa [blkOf] using hb'
  exact e ▸ ⟨(h7 x (List.mem_of_getElem? g3)).1, g4.lt hf⟩
theorem MG.upd {h h' : T AObj} {c c0 dim b k x : Nat} {bs : List Nat} {ms : List (List Int)} {zs : List Int} (h2 : ms ≠ []) (h3 : c0 ≤ b) (h4 : Has h b (.cells (bs.map (vcl dim)))) (h5 : bs.length = ms.length) (h6 : bs.Nodup) (h7 : ∀ x ∈ bs, c0 ≤ x ∧ x ≠ b) (h8 : ∀ (i : Nat) (zs : List Int), ms[i]? = some zs → zs.length = dim ∧ Bnd zs ∧ ∃ x, bs[i]? = some x ∧ Has h x (.cells (zs.map (Value.int .i32))))
  (hf : Fresh h c) (hk : bs[k]? = some x) (hz : zs.length = dim) (hb : Bnd zs) (hx : Has h' x (.cells (zs.map (Value.int .i32)))) (kp : ∀ y, c0 ≤ y → y < c → y ≠ x → h'.get y = h.get y) : MG h' c0 (.slice (some ⟨b, 0, some 1⟩) ms.length ms.length) dim (ms.set k zs) := by
 have hxb := (h7 x (List.mem_of_getElem? hk)).2
 refine .inr ⟨b, bs, by rw [List.length_set], fun e => h2 (by have := congrArg List.length e; rw [List.length_set] at this; exact List.length_eq_zero_iff.1 this), h3, (kp b h3 (h4.lt hf) (fun e => hxb e.symm)).trans h4, by rw [List.length_set]; exact h5, h6, h7, fun i ys hi => ?_⟩
 rw [List.getElem?_set] at hi
 by_cases hki : k = i
 ·subst hki
  rw [if_pos rfl] at hi
  split at hi
  ·cases hi
   exact ⟨hz, hb, x, hk, hx⟩
  ·cases hi
 ·rw [if_neg hki] at hi
  obtain ⟨g1, g2, y, g3, g4⟩ := h8 i ys hi
  have hyx : y ≠ x := fun e => by
   subst e
   obtain ⟨q1, q2⟩ := List.getElem?_eq_some_iff.1 g3
   obtain ⟨q3, q4⟩ := List.getElem?_eq_some_iff.1 hk
   exact hki ((List.getElem_inj h6).1 (q4.trans q2.symm))
  exact ⟨g1, g2, y, g3, (kp y (h7 y (List.mem_of_getElem? g3)).1 (g4.lt hf) hyx).trans g4⟩
end Go.Ab.Seat
end
section
/- The reference's index is written: one is laid between (the abstract machine). -/
namespace Go.Ab.Seat
open Go.Extern Go.Proofs
set_option maxRecDepth 4000
end Go.Ab.Seat
end
section
/- Numbers held against each other, where they are one (the abstract machine). -/
namespace Go.Ab.Seat
open Go.Extern Go.Proofs
set_option maxRecDepth 4000
variable {sm : Nat → Option (List Value → M Value)}
end Go.Ab.Seat
end
