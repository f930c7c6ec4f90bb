import Derived.Test.YtofikbfljjjgeaaGreatDoorDZ0
import Derived.Test.YtofikbfljjjgeaaGreatDoorDW3
import Derived.Test.YtofikbfljjjgeaaGreatDoorDP3
set_option linter.unusedVariables false
set_option linter.unusedSimpArgs false
section
/- Frames by what is known of them: the other slots are a function's. -/
namespace Go.Ab.Seat
open Go.Extern Go.Proofs
def upd (g : Nat → Value) : List (Nat × Value) → Nat → Value
 | [], n => g n
 | x :: l, n => if n = x.1 then x.2 else upd g l n
def fr (g : Nat → Value) (l : List (Nat × Value)) : List Nat → L
 | [] => .nil
 | p :: ks => .cons p (upd g l p) (fr g l ks)
theorem fr_look (g : Nat → Value) (l : List (Nat × Value)) (n : Nat) : ∀ ks : List Nat, (fr g l ks).look (fun _ => top) n = if n ∈ ks then upd g l n else top
 | [] => rfl
 | p :: ks => by
  show (L.cons p (upd g l p) (fr g l ks)).look (fun _ => top) n = _
  rw [look_if]
  by_cases h : p = n
  ·subst h; rw [if_pos rfl, if_pos (List.mem_cons_self ..)]
  ·rw [if_neg h, fr_look g l n ks]
   by_cases h2 : n ∈ ks
   ·rw [if_pos h2, if_pos (List.mem_cons_of_mem _ h2)]
   ·rw [if_neg h2, if_neg (fun q => (List.mem_cons.1 q).elim (fun e => h e.symm) h2)]
theorem upd_at (g : Nat → Value) (n : Nat) : ∀ l : List (Nat × Value), (∀ x ∈ l, g x.1 = x.2) → upd g l n = g n
 | [], _ => rfl
 | x :: l, h => by
  show (if n = x.1 then x.2 else upd g l n) = _
  split
  ·rename_i e; rw [e, h x (List.mem_cons_self ..)]
  ·exact upd_at g n l fun y hy => h y (List.mem_cons_of_mem _ hy)
noncomputable def lkk (k : L) (n : Nat) : Value := k.look (fun _ => top) n
theorem fr_eqk {k : L} {ks : List Nat} {l : List (Nat × Value)} (h2 : (k.keys.all fun p => ks.contains p) = true) (h3 : ∀ x ∈ l, k.look (fun _ => top) x.1 = x.2) : EqK (fr (lkk k) l ks) k := fun t => by
 rw [fr_look, upd_at (lkk k) t l h3]
 by_cases h : t ∈ ks
 ·rw [if_pos h]; rfl
 ·rw [if_neg h, look_out k t fun q => h (by
   have := List.all_eq_true.1 h2 t q
   simpa using this)]
section
variable {C : Ctx} {eg : TypeId → Bool} {km : Nat} {Q : Ex → Env → St → Prop} {k : L} {s : St}
theorem RoundE.goF {J : Nat → L → St → Prop} {m : Nat} (m' : Nat) (ks : List Nat) (l : List (Nat × Value)) (h1 : m' < m) (h4 : J m' (fr (lkk k) l ks) s) (h2 : (k.keys.all fun p => ks.contains p) = true := by rfl) (h3 : ∀ x ∈ l, k.look (fun _ => top) x.1 = x.2 := by (repeat (first | (exact all_nil) | (apply all_cons; rfl)))) : RoundE J m Q .normal (.mk .nil k) s :=
 RoundE.go m' _ h1 (fr_eqk h2 h3) h4
theorem CutQ.goF {J : L → St → Prop} (ks : List Nat) (l : List (Nat × Value)) (h4 : J (fr (lkk k) l ks) s) (h2 : (k.keys.all fun p => ks.contains p) = true := by rfl) (h3 : ∀ x ∈ l, k.look (fun _ => top) x.1 = x.2 := by (repeat (first | (exact all_nil) | (apply all_cons; rfl)))) : CutQ J Q .normal (.mk .nil k) s :=
 CutQ.go _ (fr_eqk h2 h3) h4
theorem Wx.loopF {b : Code} (J : Nat → L → St → Prop) (m : Nat) (ks : List Nat) (l : List (Nat × Value)) (h0 : J m (fr (lkk k) l ks) s) (hr : ∀ m k s, J m k s → Wx C eg km b (.mk .nil k) s (RoundE J m Q)) (hQ : Resp Q := by exact Zrs) (h2 : (k.keys.all fun p => ks.contains p) = true := by rfl) (h3 : ∀ x ∈ l, k.look (fun _ => top) x.1 = x.2 := by (repeat (first | (exact all_nil) | (apply all_cons; rfl)))) : Wx C eg km (.loop b) (.mk .nil k) s Q :=
 Wx.loopE J m _ hQ (fr_eqk h2 h3) h0 hr
theorem Wx.sw {c : Code} {k' : L} (h : k = k') (h2 : Wx C eg km c (.mk .nil k') s Q) : Wx C eg km c (.mk .nil k) s Q := h ▸ h2
end
theorem frN (g : Nat → Value) (l : List (Nat × Value)) : fr g l [] = .nil := rfl
theorem frC (g : Nat → Value) (l : List (Nat × Value)) (p : Nat) (ks : List Nat) : fr g l (p :: ks) = .cons p (upd g l p) (fr g l ks) := rfl
theorem updN (g : Nat → Value) (n : Nat) : upd g [] n = g n := rfl
theorem updC (g : Nat → Value) (p : Nat) (v : Value) (l : List (Nat × Value)) (n : Nat) : upd g ((p, v) :: l) n = if n = p then v else upd g l n := rfl
end Go.Ab.Seat
end
section
/- The reference's vectors held against each other; the whole part towards below (the abstract machine). -/
namespace Go.Ab.Seat
open Go.Extern Go.Proofs
set_option maxRecDepth 4000
def K165 : List Nat := [0, 1, 4, 5, 10, 12, 13, 14, 24]
theorem take_ext {zs ys : List Int} {n : Nat} (hn : zs.length = n) (hn' : ys.length = n) (h : zs.take n = ys.take n) : zs = ys := by
 rwa [List.take_of_length_le (by omega), List.take_of_length_le (by omega)] at h
theorem reqvec_spec {h : T AObj} {c : Nat} {rl wl : List Nat} (hf : Fresh h c) {a b : Option Addr} {n k k' : Nat} {zs ys : List Int} (hn : zs.length = n) (hn' : ys.length = n) (hx : Row h (.slice a n k) n 1 (zs.map (Value.int .i32))) (hy : Row h (.slice b n k') n 1 (ys.map (Value.int .i32))) (hd : n ≤ 1000) (R : Nat → Prop) (hR : ∀ x, blkOf (.slice a n k) = some x ∨ blkOf (.slice b n k') = some x → R x) :
  ∃ r s', FnTo (Cs smQ) eg 165 [.slice a n k, .slice b n k'] ⟨h, c, rl, wl⟩ r s' ∧ (r = .bool (decide (zs = ys)) ∧ s'.h = h ∧ s'.c = c) ∧ Ext ⟨h, c, rl, wl⟩ s' R (fun _ => False) := by
 refine Fn.go (stdQ 165 rfl) ex165 fn165 km165 rfl rfl ?_
 refine Zev ?_
 refine Zgo ?_
 refine Wx.loopF (fun k1 e s => ∃ (g : Nat → Value) (i : Nat) (z : Int) (rl' : List Nat), e = fr g [(0, .slice a n k), (1, .slice b n k'), (12, .int .i64 (n : Int)), (13, .int .i64 z)] K165 ∧ z = i ∧ s = ⟨h, c, rl', []⟩ ∧ Lg c R rl' ∧ zs.take i = ys.take i ∧ i ≤ n ∧ k1 = n - i) n K165 [(0, .slice a n k), (1, .slice b n k'), (12, .int .i64 (n : Int)), (13, .int .i64 0)] ⟨_, 0, 0, _, rfl, rfl, rfl, Zlg, rfl, by omega, rfl⟩ ?_
 rintro k1 e s ⟨g, i, z, rl', rfl, hz, rfl, hlr, htk, hin, rfl⟩
 (refine Wx.sw (by simp only [K165, frN, frC, updN, updC, Nat.reduceEqDiff, ↓reduceIte]; rfl) ?_)
 by_cases hi : i < n
 ·have gx : (zs.map (Value.int .i32))[i * 1]? = some (.int .i32 (zs[i]'(by omega))) := by rw [Nat.mul_one, List.getElem?_map, List.getElem?_eq_getElem (by omega)]; rfl
  have gy : (ys.map (Value.int .i32))[i * 1]? = some (.int .i32 (ys[i]'(by omega))) := by rw [Nat.mul_one, List.getElem?_map, List.getElem?_eq_getElem (by omega)]; rfl
  obtain ⟨b1, o1, sp1, cs1, rfl, hc1, hn1⟩ := rowCell hx (j := i * 1) (by omega) gx
  obtain ⟨b2, o2, sp2, cs2, rfl, hc2, hn2⟩ := rowCell hy (j := i * 1) (by omega) gy
  have l1 := hc1.lt hf
  have l2 := hc2.lt hf
  have r1 := hR b1 (.inl rfl)
  have r2 := hR b2 (.inr rfl)
  have t1 := List.take_succ_eq_append_getElem (l := zs) (i := i) (by omega)
  have t2 := List.take_succ_eq_append_getElem (l := ys) (i := i) (by omega)
  by_cases he : zs[i]'(by omega) = ys[i]'(by omega)
  ·refine Zgo ?_
   refine Zq (to_indexAddr (k := i) el25 rfl rfl hz hi) ?_
   refine Zd (to_load (pl_ rfl) rfl hc1 (by omega) hn1) ?_
   refine Zgo ?_
   refine Zq (to_indexAddr (k := i) el25 rfl rfl hz hi) ?_
   refine Zd (to_load (pl_ rfl) rfl hc2 (by omega) hn2) ?_
   refine Zgo ?_
   exact RoundE.goF (n - (i + 1)) K165 [(0, _), (1, _), (12, _), (13, .int .i64 (z + 1))] (by omega) ⟨_, i + 1, z + 1, _, rfl, by omega, rfl, Zlg, by rw [t1, t2, htk, he], by omega, rfl⟩
  ·refine Zgo ?_
   refine Zq (to_indexAddr (k := i) el25 rfl rfl hz hi) ?_
   refine Zd (to_load (pl_ rfl) rfl hc1 (by omega) hn1) ?_
   refine Zgo ?_
   refine Zq (to_indexAddr (k := i) el25 rfl rfl hz hi) ?_
   refine Zd (to_load (pl_ rfl) rfl hc2 (by omega) hn2) ?_
   refine Zgo ?_
   have hne : zs ≠ ys := fun e => he (by subst e; rfl)
   refine ⟨.inr rfl, Wres.one rfl ⟨⟨by rw [decide_eq_false hne]; rfl, rfl, rfl⟩, ?_⟩⟩
   exact Zex
 ·refine Zgo ?_
  obtain rfl : i = n := by omega
  refine ⟨.inr rfl, Wres.one rfl ⟨⟨by rw [decide_eq_true (take_ext hn hn' htk)]; rfl, rfl, rfl⟩, ?_⟩⟩
  exact Zex
theorem rdown_spec {h : T AObj} {c : Nat} {rl wl : List Nat} (hf : Fresh h c) {a b : Int} (hb : 0 < b) (ha : -1000000000000 ≤ a ∧ a ≤ 1000000000000) :
  ∃ r s', FnTo (Cs smQ) eg 130 [.int .i64 a, .int .i64 b] ⟨h, c, rl, wl⟩ r s' ∧ (r = .int .i64 (flZ a b) ∧ s' = ⟨h, c, rl, wl⟩) := by
 have h1 := tdiv_rng (a := a) hb
 refine Fn.go (stdQ 130 rfl) ex130 fn130 km130 rfl rfl ?_
 refine Zev ?_
 refine Zgo ?_
 refine Zu (to_quo rfl rfl (by omega) (by omega) (by omega)) ?_
 refine Zgo ?_
 refine Zu (to_rem rfl rfl (by omega)) ?_
 unfold flZ
 by_cases hq : a.tmod b < 0
 ·rw [if_pos hq]
  refine Zgo ?_
  exact ⟨.inr rfl, Wres.one rfl ⟨rfl, rfl⟩⟩
 ·rw [if_neg hq]
  refine Zgo ?_
  exact ⟨.inr rfl, Wres.one rfl ⟨rfl, rfl⟩⟩
end Go.Ab.Seat
end
section
/- Cells that are filled one behind the other; vectors with a block each, in a row (plain). -/
namespace Go.Ab.Seat
open Go.Extern Go.Proofs
def mixK (k : IntKind) (f g : Nat → Int) (n i : Nat) : List Value := (List.range n).map fun j => .int k (if j < i then f j else g j)
theorem mixK_len (k : IntKind) (f g : Nat → Int) (n i : Nat) : (mixK k f g n i).length = n := by simp [mixK]
theorem mixK_at {k : IntKind} {f g : Nat → Int} {n i j : Nat} (hj : j < n) : (mixK k f g n i)[j]? = some (.int k (if j < i then f j else g j)) := by
 unfold mixK
 rw [List.getElem?_map, List.getElem?_eq_getElem (by simpa using hj), List.getElem_range]; rfl
theorem mixK_nth {k : IntKind} {f g : Nat → Int} {n i j : Nat} (hj : j < n) : nth (mixK k f g n i) (0 + j * 1) = some (.int k (if j < i then f j else g j)) := by
 rw [nth_eq, Nat.zero_add, Nat.mul_one, mixK_at hj]
theorem mixK_step (k : IntKind) (f g : Nat → Int) (n i : Nat) (hi : i < n) : setMany [.int k (f i)] (mixK k f g n i) (0 + i * 1) = some (mixK k f g n (i + 1)) := by
 rw [setOneI (by rw [mixK_len]; exact hi) rfl]
 congr 1
 refine List.ext_getElem? fun j => ?_
 rw [List.getElem?_set, mixK_len]
 rcases Nat.lt_or_ge j n with r | r
 ·by_cases hij : i = j
  ·subst hij
   rw [if_pos rfl, if_pos hi, mixK_at hi, if_pos (by omega)]
  ·rw [if_neg hij, mixK_at r, mixK_at r]
   by_cases hji : j < i
   ·rw [if_pos hji, if_pos (by omega)]
   ·rw [if_neg hji, if_neg (by omega)]
 ·rw [List.getElem?_eq_none (by rw [mixK_len]; exact r), List.getElem?_eq_none (by rw [mixK_len]; exact r)]
  split
  ·omega
  ·rfl
theorem mixK_ext {k : IntKind} {f g f' g' : Nat → Int} {n i i' : Nat} (h : ∀ j, j < n → (if j < i then f j else g j) = if j < i' then f' j else g' j) : mixK k f g n i = mixK k f' g' n i' := by
 unfold mixK
 refine List.map_congr_left fun j hj => ?_
 rw [h j (List.mem_range.1 hj)]
theorem mixK_rep (k : IntKind) (f : Nat → Int) : ∀ n, rep [Value.int k 0] n = mixK k f (fun _ => 0) n 0 := fun n => by
 unfold mixK
 rw [show (fun j => Value.int k (if j < 0 then f j else 0)) = fun _ : Nat => Value.int k 0 from funext fun j => by rw [if_neg (by omega)]]
 rw [List.map_const', List.length_range]
 induction n with
 | zero => rfl
 | succ n ih => rw [List.replicate_succ]; show _ = [Value.int k 0] ++ _; rw [← ih]; rfl
theorem mixK_vec (k : IntKind) (f : Nat → Int) (zs : List Int) : zs.map (Value.int k) = mixK k f (fun j => zs.getD j 0) zs.length 0 := by
 refine List.ext_getElem? fun j => ?_
 rcases Nat.lt_or_ge j zs.length with r | r
 ·rw [mixK_at r, if_neg (by omega), List.getElem?_map, List.getD_eq_getElem?_getD, List.getElem?_eq_getElem r]; rfl
 ·rw [List.getElem?_eq_none (by rw [List.length_map]; exact r), List.getElem?_eq_none (by rw [mixK_len]; exact r)]
theorem mixK_all (k : IntKind) (f g : Nat → Int) (n : Nat) : mixK k f g n n = ((List.range n).map f).map (Value.int k) := by
 unfold mixK
 rw [List.map_map]
 refine List.map_congr_left fun j hj => ?_
 rw [if_pos (List.mem_range.1 hj)]; rfl
def vcl (dim x : Nat) : Value := .slice (some ⟨x, 0, some 1⟩) dim dim
def MG (h : T AObj) (c0 : Nat) (lv : Value) (dim : Nat) (ms : List (List Int)) : Prop :=
 (lv = .slice none 0 0 ∧ ms = []) ∨ ∃ (b : Nat) (bs : List Nat), lv = .slice (some ⟨b, 0, some 1⟩) ms.length ms.length ∧ ms ≠ [] ∧ c0 ≤ b ∧ Has h b (.cells (bs.map (vcl dim))) ∧ bs.length = ms.length ∧ bs.Nodup ∧ (∀ x ∈ bs, c0 ≤ x ∧ x ≠ b) ∧
  ∀ (i : Nat) (zs : List Int), ms[i]? = some zs → zs.length = dim ∧ Bnd zs ∧ ∃ x, bs[i]? = some x ∧ Has h x (.cells (zs.map (Value.int .i32)))
theorem MG.val {h : T AObj} {c0 dim : Nat} {lv : Value} {ms : List (List Int)} (q : MG h c0 lv dim ms) : ∃ oa, lv = .slice oa ms.length ms.length := by
 rcases q with ⟨rfl, rfl⟩ | ⟨b, bs, h1, _⟩
 ·exact ⟨_, rfl⟩
 ·exact ⟨_, h1⟩
theorem MG.keep {h h' : T AObj} {c c0 dim : Nat} {lv : Value} {ms : List (List Int)} (q : MG h c0 lv dim ms) (hf : Fresh h c) (k : ∀ b, c0 ≤ b → b < c → h'.get b = h.get b) : MG h' c0 lv dim ms := by
 rcases q with q | ⟨b, bs, h1, h2, h3, h4, h5, h6, h7, h8⟩
 ·exact .inl q
 ·refine .inr ⟨b, bs, h1, h2, h3, (k b h3 (h4.lt hf)).trans h4, h5, h6, h7, fun i zs hi => ?_⟩
  obtain ⟨g1, g2, x, g3, g4⟩ := h8 i zs hi
  exact ⟨g1, g2, x, g3, (k x (h7 x (List.mem_of_getElem? g3)).1 (g4.lt hf)).trans g4⟩
theorem MG.mrow {h : T AObj} {c0 dim : Nat} {lv : Value} {ms : List (List Int)} (q : MG h c0 lv dim ms) : MRow h lv dim ms (fun b => c0 ≤ b) := by
 rcases q with q | ⟨b, bs, h1, h2, h3, h4, h5, h6, h7, h8⟩
 ·exact .inl q
 ·refine .inr ⟨b, some 1, _, _, h1, h2, Nat.le_refl _, h3, h4, by rw [List.length_map, h5], fun i zs hi => ?_⟩
  obtain ⟨g1, g2, x, g3, g4⟩ := h8 i zs hi
  refine ⟨g1, g2, some ⟨x, 0, some 1⟩, dim, by rw [List.getElem?_map, g3]; rfl, .inr ⟨x, 0, some 1, dim, _, rfl, g4.cel, subN_all _ _ (by rw [List.length_map]; omega)⟩, fun b' hb' => ?_⟩
  have e : x = b' := by simpa [blkOf] using hb'
  exact e ▸ (h7 x (List.mem_of_getElem? g3)).1
theorem MG.grow {h : T AObj} {c c0 dim : Nat} {lv : Value} {ms : List (List Int)} (q : MG h c0 lv dim ms) (hf : Fresh h c) : GRow h lv dim ms (fun b => c0 ≤ b ∧ b < c) := by
 rcases q with q | ⟨b, bs, h1, h2, h3, h4, h5, h6, h7, h8⟩
 ·exact .inl q
 ·refine .inr ⟨b, _, h1, h2, ⟨h3, h4.lt hf⟩, h4, by rw [List.length_map, h5], fun i zs hi => ?_⟩
  obtain ⟨g1, g2, x, g3, g4⟩ := h8 i zs hi
  refine ⟨g1, g2, some ⟨x, 0, some 1⟩, dim, by rw [List.getElem?_map, g3]; rfl, .inr ⟨x, 0, some 1, dim, _, rfl, g4.cel, subN_all _ _ (by rw [List.length_map]; omega)⟩, fun b' hb' => ?_⟩
  have e : x = b' := by simpa [blkOf] using hb'
  exact e ▸ ⟨(h7 x (List.mem_of_getElem? g3)).1, g4.lt hf⟩
theorem MG.push {h h' : T AObj} {c c0 dim : Nat} {bs : List Nat} {ms : List (List Int)} {zs : List Int} {x b' : Nat} (hf : Fresh h c) (hl : bs.length = ms.length) (hnd : bs.Nodup) (h7 : ∀ y ∈ bs, c0 ≤ y ∧ y < c) (h8 : ∀ (i : Nat) (zs : List Int), ms[i]? = some zs → zs.length = dim ∧ Bnd zs ∧ ∃ x, bs[i]? = some x ∧ Has h' x (.cells (zs.map (Value.int .i32))))
  (hz : zs.length = dim) (hb : Bnd zs) (hx : Has h' x (.cells (zs.map (Value.int .i32)))) (hxc : c ≤ x) (hc0 : c0 ≤ c) (hb' : c ≤ b') (hxb : x ≠ b') (hB : Has h' b' (.cells (bs.map (vcl dim) ++ [vcl dim x]))) : MG h' c0 (.slice (some ⟨b', 0, some 1⟩) (ms.length + 1) (ms.length + 1)) dim (ms ++ [zs]) := by
 have hlen : (ms ++ [zs]).length = ms.length + 1 := by rw [List.length_append]; rfl
 refine .inr ⟨b', bs ++ [x], by rw [hlen], by simp, by omega, by rw [List.map_append]; exact hB, by rw [List.length_append, hlen, hl]; rfl, ?_, fun y hy => ?_, fun i ys hi => ?_⟩
 ·refine List.nodup_append.2 ⟨hnd, by simp, fun a ha b hb e => ?_⟩
  have h1 := (h7 a ha).2
  have h2 := List.mem_singleton.1 hb
  omega
 ·rcases List.mem_append.1 hy with hy | hy
  ·have := h7 y hy; omega
  ·have := List.mem_singleton.1 hy; omega
 ·rcases Nat.lt_or_ge i ms.length with r | r
  ·rw [List.getElem?_append_left r] at hi
   obtain ⟨g1, g2, y, g3, g4⟩ := h8 i ys hi
   exact ⟨g1, g2, y, by rw [List.getElem?_append_left (by omega)]; exact g3, g4⟩
  ·rw [List.getElem?_append_right r] at hi
   obtain ⟨h1, h2⟩ := List.getElem?_eq_some_iff.1 hi
   have e : i - ms.length = 0 := by simp at h1; omega
   have e2 : ys = zs := by
    rw [← h2]; simp [e]
   subst e2
   exact ⟨hz, hb, x, by rw [List.getElem?_append_right (by omega), show i - bs.length = 0 by omega]; rfl, hx⟩
theorem MG.upd {h h' : T AObj} {c c0 dim b k x : Nat} {bs : List Nat} {ms : List (List Int)} {zs : List Int} (h2 : ms ≠ []) (h3 : c0 ≤ b) (h4 : Has h b (.cells (bs.map (vcl dim)))) (h5 : bs.length = ms.length) (h6 : bs.Nodup) (h7 : ∀ x ∈ bs, c0 ≤ x ∧ x ≠ b) (h8 : ∀ (i : Nat) (zs : List Int), ms[i]? = some zs → zs.length = dim ∧ Bnd zs ∧ ∃ x, bs[i]? = some x ∧ Has h x (.cells (zs.map (Value.int .i32))))
  (hf : Fresh h c) (hk : bs[k]? = some x) (hz : zs.length = dim) (hb : Bnd zs) (hx : Has h' x (.cells (zs.map (Value.int .i32)))) (kp : ∀ y, c0 ≤ y → y < c → y ≠ x → h'.get y = h.get y) : MG h' c0 (.slice (some ⟨b, 0, some 1⟩) ms.length ms.length) dim (ms.set k zs) := by
 have hxb := (h7 x (List.mem_of_getElem? hk)).2
 refine .inr ⟨b, bs, by rw [List.length_set], fun e => h2 (by have := congrArg List.length e; rw [List.length_set] at this; exact List.length_eq_zero_iff.1 this), h3, (kp b h3 (h4.lt hf) (fun e => hxb e.symm)).trans h4, by rw [List.length_set]; exact h5, h6, h7, fun i ys hi => ?_⟩
 rw [List.getElem?_set] at hi
 by_cases hki : k = i
 ·subst hki
  rw [if_pos rfl] at hi
  split at hi
  ·cases hi
   exact ⟨hz, hb, x, hk, hx⟩
  ·cases hi
 ·rw [if_neg hki] at hi
  obtain ⟨g1, g2, y, g3, g4⟩ := h8 i ys hi
  have hyx : y ≠ x := fun e => by
   subst e
   obtain ⟨q1, q2⟩ := List.getElem?_eq_some_iff.1 g3
   obtain ⟨q3, q4⟩ := List.getElem?_eq_some_iff.1 hk
   exact hki ((List.getElem_inj h6).1 (q4.trans q2.symm))
  exact ⟨g1, g2, y, g3, (kp y (h7 y (List.mem_of_getElem? g3)).1 (g4.lt hf) hyx).trans g4⟩
theorem addM_full {n : Nat} {ms : List (List Int)} (h : n ≤ ms.length) : ∀ l : List (List Int), l.foldl (addM n) ms = ms
 | [] => rfl
 | v :: l => by
  rw [List.foldl_cons]
  have : addM n ms v = ms := by unfold addM; rw [if_neg (fun q => by omega)]
  rw [this]; exact addM_full h l
theorem fstM_full {n i : Nat} {vs : List (List Int)} (h : n ≤ (fstM n (vs.take i)).length) : fstM n vs = fstM n (vs.take i) := by
 have e : fstM n vs = (vs.drop i).foldl (addM n) (fstM n (vs.take i)) := by
  unfold fstM
  rw [← List.foldl_append, List.take_append_drop]
 rw [e, addM_full h]
theorem midZ_map {m : List Int} {vs : List (List Int)} (h : vs.length ≠ 0) : midZ m vs = (List.range m.length).map fun i => flZ (sumZ i vs) vs.length := by
 unfold midZ; rw [if_neg h]
theorem sumZ_snoc (j : Nat) (vs : List (List Int)) (v : List Int) : sumZ j (vs ++ [v]) = sumZ j vs + v.getD j 0 := by
 unfold sumZ; rw [List.foldl_append]; rfl
theorem ofM_len (vs ms : List (List Int)) (i : Nat) : (ofM vs ms i).length ≤ vs.length := by unfold ofM; exact List.length_filter_le _ _
end Go.Ab.Seat
end
