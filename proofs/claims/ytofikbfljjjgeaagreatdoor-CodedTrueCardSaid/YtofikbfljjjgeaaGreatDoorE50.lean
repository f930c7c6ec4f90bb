import Derived.Test.YtofikbfljjjgeaaGreatDoorDZ0
import Derived.Test.YtofikbfljjjgeaaGreatDoorE43
import Derived.Test.YtofikbfljjjgeaaGreatDoorE48
set_option linter.unusedVariables false
set_option linter.unusedSimpArgs false
section
/- Frames by what is known of them: the other slots are a function's. -/
namespace Go.Ab.Seat
open Go.Extern Go.Proofs
def upd (g : Nat → Value) : List (Nat × Value) → Nat → Value
 | [], n => g n
 | x :: l, n => if n = x.1 then x.2 else upd g l n
def fr (g : Nat → Value) (l : List (Nat × Value)) : List Nat → L
 | [] => .nil
 | p :: ks => .cons p (upd g l p) (fr g l ks)
theorem fr_look (g : Nat → Value) (l : List (Nat × Value)) (n : Nat) : ∀ ks : List Nat, (fr g l ks).look (fun _ => top) n = if n ∈ ks then upd g l n else top
 | [] => rfl
 | p :: ks => by
  show (L.cons p (upd g l p) (fr g l ks)).look (fun _ => top) n = _
  rw [look_if]
  by_cases h : p = n
  ·subst h; rw [if_pos rfl, if_pos (List.mem_cons_self ..)]
  ·rw [if_neg h, fr_look g l n ks]
   by_cases h2 : n ∈ ks
   ·rw [if_pos h2, if_pos (List.mem_cons_of_mem _ h2)]
   ·rw [if_neg h2, if_neg (fun q => (List.mem_cons.1 q).elim (fun e => h e.symm) h2)]
theorem upd_at (g : Nat → Value) (n : Nat) : ∀ l : List (Nat × Value), (∀ x ∈ l, g x.1 = x.2) → upd g l n = g n
 | [], _ => rfl
 | x :: l, h => by
  show (if n = x.1 then x.2 else upd g l n) = _
  split
  ·rename_i e; rw [e, h x (List.mem_cons_self ..)]
  ·exact upd_at g n l fun y hy => h y (List.mem_cons_of_mem _ hy)
noncomputable def lkk (k : L) (n : Nat) : Value := k.look (fun _ => top) n
theorem fr_eqk {k : L} {ks : List Nat} {l : List (Nat × Value)} (h2 : (k.keys.all fun p => ks.contains p) = true) (h3 : ∀ x ∈ l, k.look (fun _ => top) x.1 = x.2) : EqK (fr (lkk k) l ks) k := fun t => by
 rw [fr_look, upd_at (lkk k) t l h3]
 by_cases h : t ∈ ks
 ·rw [if_pos h]; rfl
 ·rw [if_neg h, look_out k t fun q => h (by
   have := List.all_eq_true.1 h2 t q
   simpa using this)]
section
variable {C : Ctx} {eg : TypeId → Bool} {km : Nat} {Q : Ex → Env → St → Prop} {k : L} {s : St}
theorem RoundE.goF {J : Nat → L → St → Prop} {m : Nat} (m' : Nat) (ks : List Nat) (l : List (Nat × Value)) (h1 : m' < m) (h4 : J m' (fr (lkk k) l ks) s) (h2 : (k.keys.all fun p => ks.contains p) = true := by rfl) (h3 : ∀ x ∈ l, k.look (fun _ => top) x.1 = x.2 := by (repeat (first | (exact all_nil) | (apply all_cons; rfl)))) : RoundE J m Q .normal (.mk .nil k) s :=
 RoundE.go m' _ h1 (fr_eqk h2 h3) h4
theorem CutQ.goF {J : L → St → Prop} (ks : List Nat) (l : List (Nat × Value)) (h4 : J (fr (lkk k) l ks) s) (h2 : (k.keys.all fun p => ks.contains p) = true := by rfl) (h3 : ∀ x ∈ l, k.look (fun _ => top) x.1 = x.2 := by (repeat (first | (exact all_nil) | (apply all_cons; rfl)))) : CutQ J Q .normal (.mk .nil k) s :=
 CutQ.go _ (fr_eqk h2 h3) h4
theorem Wx.loopF {b : Code} (J : Nat → L → St → Prop) (m : Nat) (ks : List Nat) (l : List (Nat × Value)) (h0 : J m (fr (lkk k) l ks) s) (hr : ∀ m k s, J m k s → Wx C eg km b (.mk .nil k) s (RoundE J m Q)) (hQ : Resp Q := by exact Zrs) (h2 : (k.keys.all fun p => ks.contains p) = true := by rfl) (h3 : ∀ x ∈ l, k.look (fun _ => top) x.1 = x.2 := by (repeat (first | (exact all_nil) | (apply all_cons; rfl)))) : Wx C eg km (.loop b) (.mk .nil k) s Q :=
 Wx.loopE J m _ hQ (fr_eqk h2 h3) h0 hr
theorem Wx.sw {c : Code} {k' : L} (h : k = k') (h2 : Wx C eg km c (.mk .nil k') s Q) : Wx C eg km c (.mk .nil k) s Q := h ▸ h2
end
theorem frN (g : Nat → Value) (l : List (Nat × Value)) : fr g l [] = .nil := rfl
theorem frC (g : Nat → Value) (l : List (Nat × Value)) (p : Nat) (ks : List Nat) : fr g l (p :: ks) = .cons p (upd g l p) (fr g l ks) := rfl
theorem updN (g : Nat → Value) (n : Nat) : upd g [] n = g n := rfl
theorem updC (g : Nat → Value) (p : Nat) (v : Value) (l : List (Nat × Value)) (n : Nat) : upd g ((p, v) :: l) n = if n = p then v else upd g l n := rfl
end Go.Ab.Seat
end
section
/- Copies of vectors; errors. -/
namespace Go.Ab.Seat
open Go.Extern Go.Proofs
def special (f : Nat) : Bool := [15, 71, 195, 262, 84, 144, 200].contains f
def Std (sm : Nat → Option (List Value → M Value)) : Prop := ∀ f, special f = false → sm f = none
set_option maxRecDepth 4000
variable {sm : Nat → Option (List Value → M Value)}
theorem clone_nil (H : Std sm) {h : T AObj} {c : Nat} {rl wl : List Nat} : ∃ v s', FnTo (Cs sm) eg 136 [.slice none 0 0] ⟨h, c, rl, wl⟩ v s' ∧ (v = .slice none 0 0 ∧ s' = ⟨h, c, rl, wl⟩) := by
 refine Fn.go (H 136 rfl) ex136 fn136 km136 rfl rfl ?_
 refine Zev ?_
 refine Zgo ?_
 refine ⟨.inr rfl, Wres.one rfl ⟨rfl, rfl⟩⟩
theorem clone_zero (H : Std sm) {h : T AObj} {c : Nat} {rl wl : List Nat} (hf : Fresh h c) (ad : Addr) (cap : Nat) : ∃ v s', FnTo (Cs sm) eg 136 [.slice (some ad) 0 cap] ⟨h, c, rl, wl⟩ v s' ∧ (v = .slice (some ⟨c, 0, none⟩) 0 0 ∧ s' = ⟨h.set c (some (.cells [])), c + 1, rl, wl⟩) := by
 refine Fn.go (H 136 rfl) ex136 fn136 km136 rfl rfl ?_
 refine Zev ?_
 refine Zgo ?_
 refine Wseq.st (to_appZero ro25 sl25 rfl rfl (by omega)) ?_
 refine Zgo ?_
 refine ⟨.inr rfl, Wres.one rfl ⟨rfl, rfl⟩⟩
theorem clone_some (H : Std sm) {h : T AObj} {c : Nat} {rl wl : List Nat} (hf : Fresh h c) {b o n cap : Nat} {sp : Option Nat} {cs xs : List Value} (hb : Cel h b cs) (hs : subN o ((n + 1) * 1) cs = some xs) (hn : n + 1 ≤ bigV) :
  ∃ v s', FnTo (Cs sm) eg 136 [.slice (some ⟨b, o, sp⟩) (n + 1) cap] ⟨h, c, rl, wl⟩ v s' ∧ (v = .slice (some ⟨c + 1, 0, some 1⟩) (n + 1) (n + 1) ∧ Has s'.h (c + 1) (.cells xs) ∧ Ext ⟨h, c, rl, wl⟩ s' (· = b) (fun _ => False)) := by
 have hbc := hb.lt hf
 refine Fn.go (H 136 rfl) ex136 fn136 km136 rfl rfl ?_
 refine Zev ?_
 refine Zgo ?_
 refine Wseq.st (to_appExB ro25 sl25 rfl rfl Zce (by omega) hs (by decide) (by unfold bigV at hn; omega) Zfr) ?_
 refine Zgo ?_
 refine ⟨.inr rfl, Wres.one rfl ⟨rfl, Zhs, ?_⟩⟩
 exact Zex
theorem clone_spec (H : Std sm) {h : T AObj} {c : Nat} {rl wl : List Nat} (hf : Fresh h c) {v : Value} {n : Nat} {xs : List Value} (hv : Row h v n 1 xs) (hn : n ≤ bigV) (hz : n = 0 → ∃ a cap, v = .slice a 0 cap ∧ (a = none → cap = 0)) (bs : Nat → Prop) (hbs : ∀ b o sp n' cap, v = .slice (some ⟨b, o, sp⟩) n' cap → bs b) :
  ∃ v' s', FnTo (Cs sm) eg 136 [v] ⟨h, c, rl, wl⟩ v' s' ∧ Own s'.h c v' n xs ∧ Ext ⟨h, c, rl, wl⟩ s' bs (fun _ => False) := by
 cases n with
 | zero =>
  obtain ⟨a, cap, rfl, ha⟩ := hz rfl
  have hx : xs = [] := by
   rcases hv with ⟨_, h2, _⟩ | ⟨b, o, sp, cap', cs, _, _, h4⟩
   ·exact h2
   ·have := (subN_some _ _ _ _ h4).1
    simpa using this
  subst hx
  cases a with
  | none =>
   obtain rfl := ha rfl
   obtain ⟨v', s', h1, rfl, rfl⟩ := clone_nil H (h := h) (c := c) (rl := rl) (wl := wl)
   exact ⟨_, _, h1, .inl ⟨rfl, rfl, rfl⟩, Ext.refl hf⟩
  | some ad =>
   obtain ⟨v', s', h1, rfl, rfl⟩ := clone_zero H (rl := rl) (wl := wl) hf ad cap
   refine ⟨_, _, h1, .inr ⟨c, none, 0, rfl, Nat.le_refl _, Nat.le_refl _, Has.same⟩, ⟨by simp, hf.new, fun b hb _ => get_other (by simp at hb; omega), fun _ q => .inl q, fun _ q => .inl q⟩⟩
 | succ n =>
  rcases hv with ⟨h1, _⟩ | ⟨b, o, sp, cap', cs, rfl, h3, h4⟩
  ·cases h1
  ·obtain ⟨v', s', h1, rfl, h5, h6⟩ := clone_some H (rl := rl) (wl := wl) (cap := cap') (sp := sp) hf h3 h4 hn
   exact ⟨_, _, h1, .inr ⟨c + 1, some 1, n + 1, rfl, Nat.le_refl _, by omega, h5⟩, h6.mono (fun x _ q => by subst q; exact hbs _ _ _ _ _ rfl) (fun _ _ q => q)⟩
theorem copy_spec (H : Std sm) {h : T AObj} {c : Nat} {rl wl : List Nat} (hf : Fresh h c) {v : Value} {n : Nat} {xs : List Value} (hv : Row h v n 1 xs) (hn : n ≤ bigV) (hz : n = 0 → ∃ a cap, v = .slice a 0 cap ∧ (a = none → cap = 0)) (bs : Nat → Prop) (hbs : ∀ b o sp n' cap, v = .slice (some ⟨b, o, sp⟩) n' cap → bs b) :
  ∃ v' s', FnTo (Cs sm) eg 73 [v] ⟨h, c, rl, wl⟩ v' s' ∧ Own s'.h c v' n xs ∧ Ext ⟨h, c, rl, wl⟩ s' bs (fun _ => False) := by
 obtain ⟨v', ⟨h1, c1, rl1, wl1⟩, hfn, hown, hext⟩ := clone_spec H (rl := []) (wl := []) hf hv hn hz bs hbs
 refine Fn.go (H 73 rfl) ex73 fn73 km73 rfl rfl ?_
 refine Zev ?_
 refine Zgo ?_
 refine Wseq.st (OpTo.ofCall hfn rfl) ?_
 refine Zgo ?_
 refine ⟨.inr rfl, Wres.one rfl ⟨hown, ?_⟩⟩
 exact Ext.of hext.c hext.fresh hext.h (Lg.extR Lg.nil hext fun _ _ q => q) (Lg.extW Lg.nil hext fun _ _ q => q)
end Go.Ab.Seat
end
section
/- Vectors: alike, cut to size; stores: the next one (the abstract machine). -/
namespace Go.Ab.Seat
open Go.Extern Go.Proofs
set_option maxRecDepth 4000
variable {sm : Nat → Option (List Value → M Value)}
theorem rowCell {h : T AObj} {oa : Option Addr} {n cap k : Nat} {xs : List Value} (hr : Row h (.slice oa n cap) n k xs) {j : Nat} {x : Value} (hj : j < n * k) (hx : xs[j]? = some x) :
  ∃ b o sp cs, oa = some ⟨b, o, sp⟩ ∧ Cel h b cs ∧ nth cs (o + j) = some x := by
 rcases hr with ⟨rfl, rfl, _⟩ | ⟨b, o, sp, cap', cs, e, hc, hs⟩
 ·simp at hx
 ·cases e
  refine ⟨b, o, sp, cs, rfl, hc, ?_⟩
  rw [nth_eq, ← (subN_some _ _ _ _ hs).2.2 j hj]
  exact hx
end Go.Ab.Seat
end
section
/- Vectors: alike, cut to size; stores: the next one (the abstract machine). -/
namespace Go.Ab.Seat
open Go.Extern Go.Proofs
set_option maxRecDepth 4000
variable {sm : Nat → Option (List Value → M Value)}
def EQ (a : Option Addr) (n k : Nat) (b : Option Addr) (k' : Nat) (z : Int) (j5 j14 j24 : Value) : L :=
 .cons 0 (.slice a n k) (.cons 1 (.slice b n k') (.cons 4 (.bool false) (.cons 5 j5 (.cons 10 (.bool false) (.cons 12 (.int .i64 (n : Int)) (.cons 13 (.int .i64 z) (.cons 14 j14 (.cons 24 j24 .nil))))))))
theorem eq135_spec (H : Std sm) {h : T AObj} {c : Nat} {rl wl : List Nat} (hf : Fresh h c) {a b : Option Addr} {n k k' : Nat} {zs : List Int} (hn : zs.length = n) (hx : Row h (.slice a n k) n 1 (zs.map (Value.int .i32))) (hy : Row h (.slice b n k') n 1 (zs.map (Value.int .i32))) (hb : n ≤ big) (R : Nat → Prop) (hR : ∀ x, blkOf (.slice a n k) = some x ∨ blkOf (.slice b n k') = some x → R x) :
  ∃ r s', FnTo (Cs sm) eg 93 [.slice a n k, .slice b n k'] ⟨h, c, rl, wl⟩ r s' ∧ r = .bool true ∧ Ext ⟨h, c, rl, wl⟩ s' R (fun _ => False) := by
 have hbig : big ≤ 1000000000000 := by unfold big; omega
 refine Fn.go (H 93 rfl) ex93 fn93 km93 rfl rfl ?_
 refine Zev ?_
 refine Zgo ?_
 refine Wx.loopE (fun k1 e s => ∃ (i : Nat) (z : Int) (rl' : List Nat) (j5 j14 j24 : Value), e = EQ a n k b k' z j5 j14 j24 ∧ z = i ∧ s = ⟨h, c, rl', []⟩ ∧ Lg c R rl' ∧ i ≤ n ∧ k1 = n - i) n (EQ a n k b k' 0 top top top) Zrs ?_ ?_ ?_
 ·unfold EQ
  exact Zek
 ·exact ⟨0, 0, _, _, _, _, rfl, rfl, rfl, Zlg, by omega, rfl⟩
 ·rintro k1 e s ⟨i, z, rl', j5, j14, j24, rfl, hz, rfl, hlr, hin, rfl⟩
  unfold EQ
  by_cases hi : i < n
  ·have hzs : (zs.map (Value.int .i32))[i]? = some (.int .i32 zs[i]) := by simp
   obtain ⟨b1, o1, sp1, cs1, rfl, hc1, hn1⟩ := rowCell hx (j := i * 1) (by omega) (by rw [Nat.mul_one]; exact hzs)
   obtain ⟨b2, o2, sp2, cs2, rfl, hc2, hn2⟩ := rowCell hy (j := i * 1) (by omega) (by rw [Nat.mul_one]; exact hzs)
   have hR1 := hR b1 (.inl rfl)
   have hR2 := hR b2 (.inr rfl)
   have l1 := hc1.lt hf
   have l2 := hc2.lt hf
   refine Zgo ?_
   refine Zq (to_indexAddr (k := i) el25 rfl rfl hz (by omega)) ?_
   refine Zd (to_load (pl_ rfl) rfl hc1 (by omega) hn1) ?_
   refine Zgo ?_
   refine Zq (to_indexAddr (k := i) el25 rfl rfl hz (by omega)) ?_
   refine Zd (to_load (pl_ rfl) rfl hc2 (by omega) hn2) ?_
   refine Zq (to_neIF rfl rfl rfl) ?_
   refine Zgo ?_
   refine RoundE.go (n - (i + 1)) (EQ _ n k _ k' (z + 1) _ _ _) (by omega) Zek ⟨i + 1, z + 1, _, _, _, _, rfl, by omega, rfl, Zlg, by omega, rfl⟩
  ·refine Zgo ?_
   refine ⟨.inr rfl, Wres.one rfl ⟨rfl, ?_⟩⟩
   exact Zex
theorem eq_spec (H : Std sm) {h : T AObj} {c : Nat} {rl wl : List Nat} (hf : Fresh h c) {a b : Option Addr} {n k k' : Nat} {zs : List Int} (hn : zs.length = n) (hx : Row h (.slice a n k) n 1 (zs.map (Value.int .i32))) (hy : Row h (.slice b n k') n 1 (zs.map (Value.int .i32))) (hb : n ≤ big) (R : Nat → Prop) (hR : ∀ x, blkOf (.slice a n k) = some x ∨ blkOf (.slice b n k') = some x → R x) :
  ∃ r s', FnTo (Cs sm) eg 40 [.slice a n k, .slice b n k'] ⟨h, c, rl, wl⟩ r s' ∧ r = .bool true ∧ Ext ⟨h, c, rl, wl⟩ s' R (fun _ => False) := by
 refine Fn.go (H 40 rfl) ex40 fn40 km40 rfl rfl ?_
 refine Zev ?_
 refine Zgo ?_
 refine Wseq.call rfl rfl (eq135_spec H Zfr hn hx hy hb R hR) ?_
 rintro v h1 c1 r1 w1 ⟨rfl, hext⟩
 have q1 := hext.c
 dsimp only at q1
 have hf1 : Fresh h1 c1 := hext.fresh
 have kp := Kp.ext (W := fun _ => False) (h := h) (c := c) Zkp hext (by omega) (fun _ _ q => q)
 have lr := Lg.extR (R := R) (c := c) Zlg hext (fun _ _ q => q)
 have lw := Lg.extW (W := fun _ => False) (c := c) Zlg hext (fun _ _ q => q)
 refine Zgo ?_
 refine ⟨.inr rfl, Wres.one rfl ⟨rfl, ?_⟩⟩
 exact Zex
def clampZ (z : Int) : Int := max (-1048576) (min z 1048576)
def vecC (zs : List Int) (dim i : Nat) : List Value := (List.range dim).map fun j => if j < i then .int .i32 (clampZ (zs.getD j 0)) else .int .i32 0
def vecZ (zs : List Int) (dim : Nat) : List Int := (List.range dim).map fun j => clampZ (zs.getD j 0)
theorem vecZ_len (zs : List Int) (dim : Nat) : (vecZ zs dim).length = dim := by simp [vecZ]
theorem vecC_len (zs : List Int) (dim i : Nat) : (vecC zs dim i).length = dim := by simp [vecC]
theorem vecC_zero (zs : List Int) (dim : Nat) : rep [Value.int .i32 0] dim = vecC zs dim 0 := by
 refine List.ext_getElem? fun i => ?_
 rw [rep_get]
 simp only [vecC, List.length_singleton, Nat.mul_one, Nat.mod_one, List.getElem?_map, List.getElem?_range', Nat.not_lt_zero, if_false]
 by_cases h : i < dim
 ·rw [if_pos h, List.getElem?_range h]; rfl
 ·rw [if_neg h, List.getElem?_eq_none (by simp; omega)]; rfl
theorem vecC_step (zs : List Int) (dim i : Nat) (hi : i < dim) : setMany [.int .i32 (clampZ (zs.getD i 0))] (vecC zs dim i) (0 + i * 1) = some (vecC zs dim (i + 1)) := by
 have h := setMany_eq (vecC zs dim i) (0 + i * 1) [.int .i32 (clampZ (zs.getD i 0))] (by rw [vecC_len]; simp; omega) (all_cons rfl all_nil)
 rw [h]
 congr 1
 refine List.ext_getElem? fun j => ?_
 rw [show 0 + i * 1 = i by omega]
 have e : ∀ m j, (vecC zs dim m)[j]? = if j < dim then some (if j < m then .int .i32 (clampZ (zs.getD j 0)) else .int .i32 0) else none := by
  intro m j
  unfold vecC
  rw [List.getElem?_map]
  by_cases h : j < dim
  ·rw [List.getElem?_range h, if_pos h]; rfl
  ·rw [List.getElem?_eq_none (by simp; omega), if_neg h]; rfl
 rw [e (i + 1) j]
 rcases Nat.lt_trichotomy j i with hj | hj | hj
 ·rw [List.append_assoc, List.getElem?_append_left (by rw [List.length_take, vecC_len]; omega), List.getElem?_take_of_lt hj, e i j, if_pos hj, if_pos (by omega : j < i + 1)]
 ·subst hj
  rw [List.append_assoc, List.getElem?_append_right (by rw [List.length_take, vecC_len]; omega), List.length_take, vecC_len, show j - min j dim = 0 by omega, if_pos hi, if_pos (by omega)]
  rfl
 ·rw [List.getElem?_append_right (by rw [List.length_append, List.length_take, vecC_len]; simp; omega), List.length_append, List.length_take, vecC_len, List.getElem?_drop, show i + [Value.int .i32 (clampZ (zs.getD i 0))].length + (j - (min i dim + [Value.int .i32 (clampZ (zs.getD i 0))].length)) = j by simp; omega, e i j, if_neg (by omega : ¬j < i), if_neg (by omega : ¬j < i + 1)]
theorem vecC_end (zs : List Int) (dim i : Nat) (hi : dim ≤ i ∨ zs.length ≤ i) : vecC zs dim i = (vecZ zs dim).map (Value.int .i32) := by
 unfold vecC vecZ
 rw [List.map_map]
 refine List.map_congr_left fun j hj => ?_
 have hj := List.mem_range.1 hj
 by_cases h : j < i
 ·rw [if_pos h]; rfl
 ·rw [if_neg h]
  have : zs.getD j 0 = 0 := by rw [List.getD_eq_getElem?_getD, List.getElem?_eq_none (by omega)]; rfl
  show Value.int .i32 0 = Value.int .i32 (clampZ (zs.getD j 0))
  rw [this]; rfl
def EV (a : Option Addr) (n k dim c : Nat) (z : Int) (j17 : Value) : L :=
 .cons 0 (.slice a n k) (.cons 1 (.int .i64 (dim : Int)) (.cons 4 (.slice none 0 0) (.cons 5 (.slice (some ⟨c, 0, none⟩) dim dim) (.cons 6 (.int .i64 z) (.cons 17 j17 .nil)))))
theorem vec_spec (H : Std sm) {h : T AObj} {c : Nat} {rl wl : List Nat} (hf : Fresh h c) {a : Option Addr} {n k : Nat} {zs : List Int} (hn : zs.length = n) (hx : Row h (.slice a n k) n 1 (zs.map (Value.int .i32))) (dim : Nat) (hd : dim ≤ 1000) (R : Nat → Prop) (hR : ∀ x, blkOf (.slice a n k) = some x → R x) :
  ∃ r s', FnTo (Cs sm) eg 21 [.slice a n k, .int .i64 (dim : Int)] ⟨h, c, rl, wl⟩ r s' ∧ (r = .slice (some ⟨c, 0, none⟩) dim dim ∧ Has s'.h c (.cells ((vecZ zs dim).map (Value.int .i32)))) ∧ Ext ⟨h, c, rl, wl⟩ s' R (fun _ => False) := by
 refine Fn.go (H 21 rfl) ex21 fn21 km21 rfl rfl ?_
 refine Zev ?_
 refine Zgo ?_
 refine Zu (to_makeSlice (a := dim) (b := dim) ro25 rfl rfl rfl rfl (by omega) (by unfold big; omega) Zfr) ?_
 refine Zgo ?_
 refine Wx.loopE (fun k1 e s => ∃ (i : Nat) (z : Int) (h' : T AObj) (rl' wl' : List Nat) (j17 : Value), e = EV a n k dim c z j17 ∧ z = i ∧ s = ⟨h', c + 1, rl', wl'⟩ ∧ Fresh h' (c + 1) ∧ Kp h h' c (fun _ => False) ∧ Has h' c (.cells (vecC zs dim i)) ∧ Lg c R rl' ∧ Lg c (fun _ => False) wl' ∧ i ≤ dim ∧ k1 = dim - i) dim (EV a n k dim c 0 top) Zrs ?_ ?_ ?_
 ·unfold EV
  exact Zek
 ·exact ⟨0, 0, _, _, _, _, rfl, rfl, rfl, Zfr, Zkp, (by rw [← vecC_zero]; exact Has.same), Zlg, Zlg, by omega, rfl⟩
 ·rintro k1 e s ⟨i, z, h', rl', wl', j17, rfl, hz, rfl, hf', hkp, hB, hlr, hlw, hid, rfl⟩
  unfold EV
  by_cases hi : i < dim
  ·by_cases hi2 : i < n
   ·have hzs : (zs.map (Value.int .i32))[i]? = some (.int .i32 (zs.getD i 0)) := by
     rw [List.getElem?_map, List.getD_eq_getElem?_getD, List.getElem?_eq_getElem (by omega : i < zs.length)]; rfl
    obtain ⟨b1, o1, sp1, cs1, rfl, hc1, hn1⟩ := rowCell hx (j := i * 1) (by omega) (by rw [Nat.mul_one]; exact hzs)
    have hR1 := hR b1 rfl
    have l1 := hc1.lt hf
    have hc1' : Cel h' b1 cs1 := by unfold Cel Has at hc1 ⊢; rw [hkp b1 l1 (fun q => q)]; exact hc1
    refine Zgo ?_
    refine Zu (to_indexAddr (k := i) el25 rfl rfl hz (by omega)) ?_
    refine Zu (to_load (pl_ rfl) rfl hc1' (by omega) hn1) ?_
    refine Zgo ?_
    refine Zu (to_indexAddr (k := i) el25 rfl rfl hz (by omega)) ?_
    ((with_reducible apply Wseq.so); rfl; exact (sz_ rfl); rfl; exact hB; omega; refine Znv ?_; refine ⟨_, _, (by (first | exact cellsA_agg _ | rfl)), rfl, vecC_step zs dim i hi, ?_⟩)
    refine Zgo ?_
    refine RoundE.go (dim - (i + 1)) (EV _ n k dim c (z + 1) _) (by omega) Zek ⟨i + 1, z + 1, _, _, _, _, rfl, by omega, rfl, Zfr, Zkp, Has.same, Zlg, Zlg, by omega, rfl⟩
   ·refine Zgo ?_
    refine ⟨.inr rfl, Wres.one rfl ⟨⟨rfl, ?_⟩, ?_⟩⟩
    ·rw [← vecC_end zs dim i (.inr (by omega))]; exact hB
    ·exact Zex
  ·refine Zgo ?_
   refine ⟨.inr rfl, Wres.one rfl ⟨⟨rfl, ?_⟩, ?_⟩⟩
   ·rw [← vecC_end zs dim i (.inl (by omega))]; exact hB
   ·exact Zex
end Go.Ab.Seat
end
section
/- A closure is called (the abstract machine). -/
namespace Go.Ab
section
variable {C : Ctx} {eg : TypeId → Bool} {e : Env} {s : St}
theorem OpTo.ofCallV {d : Option Nat} {g : Nat} {fo : Operand} {first cap : Array Value} {ar : Array Operand} {ts : Array TypeId} {ty : TypeId} {ps : String} {af : Array Edge} {gd : Option (Nat × Bool)} {args : List Value} {v : Value} {s' : St} (hf : evalA e fo = .func (.func g) first cap) (ha : mapA (evalA e) ar.toList = args)
  (h : FnTo C eg g (app first.toList (app args cap.toList)) s v s') : OpTo C eg e ⟨d, .call ⟨.value fo, ar, ts⟩, ty, ps, af, gd⟩ s v s' := by
 obtain ⟨n, h⟩ := h
 refine ⟨n, ?_⟩
 show callV C (exec C eg n) (evalA e fo) (mapA (evalA e) ar.toList) s = _
 rw [hf, ha]
 exact h
end
section
variable {C : Ctx} {eg : TypeId → Bool} {all os : List Oper} {loc kept : L} {h : T AObj} {c : Nat} {rl wl : List Nat} {Q : Env → St → Prop} {d : Nat} {ty : TypeId} {ps : String} {af : Array Edge} {g : Option (Nat × Bool)}
theorem Wseq.callV {f : Nat} {fo : Operand} {first cap : Array Value} {ar : Array Operand} {ts : Array TypeId} {args : List Value} {P : Value → St → Prop} (hw : wantedA all (.mk loc kept) ⟨some d, .call ⟨.value fo, ar, ts⟩, ty, ps, af, g⟩ = some true) (hf : evalA (.mk loc kept) fo = .func (.func f) first cap) (ha : mapA (evalA (.mk loc kept)) ar.toList = args)
  (hc : ∃ v s', FnTo C eg f (app first.toList (app args cap.toList)) ⟨h, c, rl, wl⟩ v s' ∧ P v s') (k : ∀ v h' c' r1 w1, P v ⟨h', c', r1, w1⟩ → Wseq C eg all os (.mk (.cons d v loc) kept) ⟨h', c', r1, w1⟩ Q) :
  Wseq C eg all (⟨some d, .call ⟨.value fo, ar, ts⟩, ty, ps, af, g⟩ :: os) (.mk loc kept) ⟨h, c, rl, wl⟩ Q := by
 obtain ⟨v, ⟨h', c', r1, w1⟩, h1, h2⟩ := hc
 exact Wseq.op hw (OpTo.ofCallV hf ha h1) (k v h' c' r1 w1 h2)
end
end Go.Ab
end
