import Derived.Test.YtofikbfljjjgeaaGreatDoorE52
import Derived.Test.YtofikbfljjjgeaaGreatDoorDO2
import Derived.Test.YtofikbfljjjgeaaGreatDoorDW2
set_option linter.unusedVariables false
set_option linter.unusedSimpArgs false
section
/- A draw's level (the abstract machine). -/
namespace Go.Ab.Seat
open Go.Extern Go.Proofs
set_option maxRecDepth 4000
theorem bit_odd0 (m : Nat) : (2 * m + 1).testBit 0 = true := by rw [Nat.testBit_zero]; simp
theorem bit_ev0 (m : Nat) : (2 * m).testBit 0 = false := by rw [Nat.testBit_zero]; simp
theorem bit_odd (m j : Nat) : (2 * m + 1).testBit (j + 1) = m.testBit j := by rw [Nat.testBit_succ]; congr 1; omega
theorem bit_ev (m j : Nat) : (2 * m).testBit (j + 1) = m.testBit j := by rw [Nat.testBit_succ]; congr 1; omega
theorem low_and {k m n : Nat} (h : 2 ^ k * (2 * m + 1) < 2 ^ n) : (2 ^ k * (2 * m + 1)) &&& (2 ^ n - 2 ^ k * (2 * m + 1)) = 2 ^ k := by
 have hk : k < n := by
  refine Classical.byContradiction fun q => ?_
  have h1 : 2 ^ n ≤ 2 ^ k := Nat.pow_le_pow_right (by omega) (by omega)
  have h2 : 2 ^ k * 1 ≤ 2 ^ k * (2 * m + 1) := Nat.mul_le_mul_left _ (by omega)
  omega
 obtain ⟨j, rfl⟩ : ∃ j, n = k + j := ⟨n - k, by omega⟩
 have h3 : 2 * m + 1 < 2 ^ j := by
  rw [Nat.pow_add] at h
  exact Nat.lt_of_mul_lt_mul_left h
 have h4 : 2 ^ (k + j) - 2 ^ k * (2 * m + 1) = 2 ^ k * (2 ^ j - (2 * m + 1)) := by rw [Nat.pow_add, Nat.mul_sub]
 rw [h4]
 refine Nat.eq_of_testBit_eq fun i => ?_
 rw [Nat.testBit_and, Nat.testBit_two_pow_mul, Nat.testBit_two_pow_mul, Nat.testBit_two_pow]
 rcases Nat.lt_or_ge i k with q | q
 ·rw [decide_eq_false (by omega), decide_eq_false (by omega)]; rfl
 ·rw [decide_eq_true (show i ≥ k from q), Bool.true_and, Bool.true_and, Nat.testBit_two_pow_sub_succ (by omega)]
  obtain ⟨r, rfl⟩ : ∃ r, i = k + r := ⟨i - k, by omega⟩
  rw [show k + r - k = r by omega]
  cases r with
  | zero => rw [bit_odd0, bit_ev0, decide_eq_true (by omega), decide_eq_true (by omega)]; rfl
  | succ r =>
   rw [bit_odd, bit_ev, decide_eq_false (show ¬k = k + (r + 1) by omega)]
   cases m.testBit r <;> simp
theorem wrap_u32 (n : Int) : wrapA .u32 n = n % 4294967296 := by
 rw [wrapA_eq]
 show IntKind.wrap .u32 n = _
 unfold IntKind.wrap
 simp [IntKind.signed, IntKind.bits]
theorem odd_part : ∀ n : Nat, n ≠ 0 → ∃ k m, n = 2 ^ k * (2 * m + 1) := by
 intro n
 induction n using Nat.strongRecOn with
 | ind n ih =>
  intro h
  by_cases h2 : n % 2 = 0
  ·obtain ⟨k, m, e⟩ := ih (n / 2) (by omega) (by omega)
   refine ⟨k + 1, m, ?_⟩
   rw [Nat.pow_succ, Nat.mul_assoc, Nat.mul_comm 2, ← Nat.mul_assoc, ← e]; omega
  ·exact ⟨0, n / 2, by rw [Nat.pow_zero, Nat.one_mul]; omega⟩
theorem pow_mod {k m i : Nat} : (2 ^ k * (2 * m + 1)) % 2 ^ i = 0 ↔ i ≤ k := by
 rw [← Nat.dvd_iff_mod_eq_zero]
 constructor
 ·intro h
  refine Classical.byContradiction fun q => ?_
  have h1 : 2 ^ (k + 1) ∣ 2 ^ k * (2 * m + 1) := Nat.dvd_trans (Nat.pow_dvd_pow 2 (by omega)) h
  rw [Nat.pow_succ] at h1
  have := Nat.dvd_of_mul_dvd_mul_left (Nat.pow_pos (by omega)) h1
  omega
 ·exact fun h => Nat.dvd_trans (Nat.pow_dvd_pow 2 h) (Nat.dvd_mul_right _ _)
theorem takeWhile_range {p : Nat → Bool} {k : Nat} : ∀ {n : Nat}, (∀ i, i < n → (p i = true ↔ i < k)) → ((List.range n).takeWhile p).length = min k n := by
 have gen : ∀ (n s : Nat), (∀ i, i < n → (p (s + i) = true ↔ s + i < k)) → ((List.range' s n).takeWhile p).length = min (k - s) n := by
  intro n
  induction n with
  | zero => intro s _; simp
  | succ n ih =>
   intro s h
   rw [List.range'_succ, List.takeWhile_cons]
   have h0 := h 0 (by omega)
   rw [Nat.add_zero] at h0
   by_cases hs : s < k
   ·rw [if_pos (h0.2 hs), List.length_cons, ih (s + 1) (fun i hi => by have := h (i + 1) (by omega); rwa [show s + (i + 1) = s + 1 + i by omega] at this)]
    omega
   ·rw [if_neg (fun q => hs (h0.1 q))]
    simp; omega
 intro n h
 rw [List.range_eq_range', gen n 0 (fun i hi => by rw [Nat.zero_add]; exact h i hi)]
 simp
theorem tz8_of {k m : Nat} : tz8 ((2 ^ k * (2 * m + 1) : Nat) : Int) = min k 8 := by
 unfold tz8
 refine takeWhile_range fun i hi => ?_
 rw [decide_eq_true_eq, show ((2 : Int) ^ (i + 1)) = ((2 ^ (i + 1) : Nat) : Int) by rw [Int.natCast_pow]; rfl, ← Int.natCast_emod]
 rw [show (0 : Int) = ((0 : Nat) : Int) from rfl, Int.ofNat_inj, pow_mod]
 omega
theorem tz8_zero : tz8 0 = 8 := by decide
theorem ar193 {sm : Nat → Option (List Value → M Value)} : arrAt (Cs sm) 193 = some (32, 1) := by kernel_rfl
def dbK (k : Nat) : Nat := (2 ^ k * 125613361) % 4294967296 / 134217728
theorem dbK_all : ∀ k, k < 32 → dbK k < 32 ∧ ([0, 1, 28, 2, 29, 14, 24, 3, 30, 22, 20, 15, 25, 17, 4, 8, 31, 27, 13, 23, 21, 19, 16, 7, 26, 12, 18, 6, 11, 5, 10, 9] : List Int)[dbK k]? = some (k : Int) := by decide
theorem tab_at {k : Nat} (hk : k < 32) : nth tab (dbK k) = some (.int .u8 (k : Int)) := by
 have h := (dbK_all k hk).2
 rw [nth_eq]
 have e : tab = ([0, 1, 28, 2, 29, 14, 24, 3, 30, 22, 20, 15, 25, 17, 4, 8, 31, 27, 13, 23, 21, 19, 16, 7, 26, 12, 18, 6, 11, 5, 10, 9] : List Int).map fun n => Value.int .u8 n := rfl
 rw [e, List.getElem?_map, h]; rfl
theorem tz_spec {h : T AObj} {c : Nat} {rl wl : List Nat} (hf : Fresh h c) (hg : Glob h) {x : Int} (h0 : 0 ≤ x ∧ x < 4294967296) (R : Nat → Prop) (hR : R 0) :
  ∃ r s', FnTo (Cs smQ) eg 80 [.int .u32 x] ⟨h, c, rl, wl⟩ r s' ∧ (∃ t : Nat, r = .int .i64 (t : Int) ∧ t ≤ 32 ∧ min t 8 = tz8 x ∧ s'.h = h ∧ s'.c = c) ∧ Ext ⟨h, c, rl, wl⟩ s' R (fun _ => False) := by
 have g0 := hg.g0
 have l0 := g0.lt hf
 refine Fn.go (stdQ 80 rfl) ex80 fn80 km80 rfl rfl ?_
 refine Zev ?_
 by_cases hx : x = 0
 ·subst hx
  refine Zgo ?_
  exact ⟨.inr rfl, Wres.one rfl ⟨⟨32, rfl, Nat.le_refl _, by rw [tz8_zero]; rfl, rfl, rfl⟩, Zex⟩⟩
 ·refine Zgo ?_
  obtain ⟨k, m, hkm⟩ := odd_part x.toNat (by omega)
  have hxe : x = ((2 ^ k * (2 * m + 1) : Nat) : Int) := by rw [← hkm]; omega
  have hlt : 2 ^ k * (2 * m + 1) < 2 ^ 32 := by rw [← hkm]; show _ < 4294967296; omega
  have hk : k < 32 := by
   refine Classical.byContradiction fun q => ?_
   have h1 : 2 ^ 32 ≤ 2 ^ k := Nat.pow_le_pow_right (by omega) (by omega)
   have h2 : 2 ^ k * 1 ≤ 2 ^ k * (2 * m + 1) := Nat.mul_le_mul_left _ (by omega)
   omega
  have hpos : 0 < 2 ^ k * (2 * m + 1) := by omega
  refine Zu (to_neg rfl) ?_
  refine Zgo ?_
  refine Zu (to_and rfl rfl) ?_
  refine Zgo ?_
  have hand : wrapA .u32 ((BitVec.ofInt 32 x &&& BitVec.ofInt 32 (wrapA .u32 (0 - x))).toNat : Int) = ((2 ^ k : Nat) : Int) := by
   have e1 : (BitVec.ofInt 32 x).toNat = 2 ^ k * (2 * m + 1) := by
    rw [BitVec.toNat_ofInt, hxe]
    show ((((2 ^ k * (2 * m + 1) : Nat) : Int)) % ((4294967296 : Nat) : Int)).toNat = _
    rw [← Int.natCast_emod, Int.toNat_natCast, Nat.mod_eq_of_lt hlt]
   have e2 : (BitVec.ofInt 32 (wrapA .u32 (0 - x))).toNat = 2 ^ 32 - 2 ^ k * (2 * m + 1) := by
    rw [BitVec.toNat_ofInt, wrap_u32, hxe]
    show (((0 - ((2 ^ k * (2 * m + 1) : Nat) : Int)) % 4294967296) % ((4294967296 : Nat) : Int)).toNat = _
    generalize hy : 2 ^ k * (2 * m + 1) = y at *
    show ((0 - (y : Int)) % 4294967296 % 4294967296).toNat = 4294967296 - y
    have : y < 4294967296 := hlt
    omega
   rw [BitVec.toNat_and, e1, e2, low_and hlt, wrap_u32]
   have : 2 ^ k < 2 ^ 32 := Nat.pow_lt_pow_right (by omega) hk
   have h9 : 2 ^ k < 4294967296 := this
   generalize 2 ^ k = y at h9 ⊢
   omega
  rw [show IntKind.bits .u32 = 32 from rfl, hand]
  refine Zu (to_mulW rfl rfl) ?_
  refine Zgo ?_
  refine Zu (to_shr (k := 27) rfl rfl (by decide)) ?_
  refine Zgo ?_
  have hidx : (wrapA .u32 (((2 ^ k : Nat) : Int) * 125613361)).fdiv ((2 ^ 27 : Nat) : Int) = ((dbK k : Nat) : Int) := by
   rw [wrap_u32]
   unfold dbK
   generalize 2 ^ k = y
   show ((y : Int) * 125613361 % 4294967296).fdiv 134217728 = (((y * 125613361) % 4294967296 / 134217728 : Nat) : Int)
   rw [Int.fdiv_eq_ediv_of_nonneg _ (by omega)]
   omega
  rw [hidx]
  refine Zu (to_indexAddrA (k := dbK k) ar193 rfl rfl rfl (dbK_all k hk).1) ?_
  refine Zu (to_load (pl_ rfl) rfl g0.celR (by omega) (by rw [Nat.zero_add, Nat.mul_one]; exact tab_at hk)) ?_
  refine Zgo ?_
  refine ⟨.inr rfl, Wres.one rfl ⟨⟨k, ?_, by omega, ?_, rfl, rfl⟩, Zex⟩⟩
  ·rw [wrapA_i64 (by omega) (by omega)]; rfl
  ·rw [hxe, tz8_of]
theorem level_spec {h : T AObj} {c : Nat} {rl wl : List Nat} (hf : Fresh h c) (hg : Glob h) {x : Int} (h0 : 0 ≤ x ∧ x < 4294967296) (R : Nat → Prop) (hR : R 0) :
  ∃ r s', FnTo (Cs smQ) eg 25 [.int .u32 x] ⟨h, c, rl, wl⟩ r s' ∧ (r = .int .i64 (levelG x : Int) ∧ s'.h = h ∧ s'.c = c) ∧ Ext ⟨h, c, rl, wl⟩ s' R (fun _ => False) := by
 refine Fn.go (stdQ 25 rfl) ex25 fn25 km25 rfl rfl ?_
 refine Zev ?_
 refine Zgo ?_
 refine Wseq.call rfl rfl (tz_spec Zfr hg h0 R hR) ?_
 rintro v1 h1 c1 r1 w1 ⟨⟨t, rfl, ht, htz, e1, e2⟩, hext⟩
 simp only at e1 e2
 subst e1 e2
 have lr := Lg.extR (R := R) (c := c1) Zlg hext (fun _ _ q => q)
 have lw := Lg.extW (W := fun _ => False) (c := c1) Zlg hext (fun _ _ q => q)
 refine Zgo ?_
 refine Zu (to_quo rfl rfl (by omega) (by rw [Int.tdiv_eq_ediv_of_nonneg (by omega)]; omega) (by rw [Int.tdiv_eq_ediv_of_nonneg (by omega)]; omega)) ?_
 refine Zgo ?_
 refine ⟨.inr rfl, Wres.one rfl ⟨⟨?_, rfl, rfl⟩, Zex⟩⟩
 show Value.int .i64 (min ((t : Int).tdiv 2) 4) = .int .i64 ((tz8 x / 2 : Nat) : Int)
 rw [Int.tdiv_eq_ediv_of_nonneg (by omega), ← htz]
 congr 1
 omega
theorem levelG_le (x : Int) : levelG x ≤ 4 := by
 unfold levelG tz8
 have := (List.takeWhile_sublist (p := fun i => decide (x % 2 ^ (i + 1) = 0)) (l := List.range 8)).length_le
 rw [List.length_range] at this
 omega
end Go.Ab.Seat
end
section
/- A graph in the heap; a member's hit (the abstract machine). -/
namespace Go.Ab.Seat
open Go.Extern Go.Proofs
set_option maxRecDepth 4000
abbrev mbG (id : Int) (zs : List Int) (sq : Int) : Rc := ⟨id, zs.map (Value.int .i32), .empty, sq, false⟩
def nodeC (vv : Value) (lv : Int) (ls : Nat → Value) : List Value := [vv, .int .i64 lv, ls 0, ls 1, ls 2, ls 3, ls 4]
theorem node_nth {vv : Value} {lv : Int} {ls : Nat → Value} {l : Nat} (h : l < 5) : nth (nodeC vv lv ls) (0 + 2 + l * 1) = some (ls l) := by
 rcases l with _ | _ | _ | _ | _ | l
 ·rfl
 ·rfl
 ·rfl
 ·rfl
 ·rfl
 ·omega
theorem node_set {vv x : Value} {lv : Int} {ls : Nat → Value} {l : Nat} (h : l < 5) (ha : atom x = true) : setMany [x] (nodeC vv lv ls) (0 + 2 + l * 1) = some (nodeC vv lv (fun i => if i = l then x else ls i)) := by
 have hl : (nodeC vv lv ls).length = 7 := rfl
 rw [setMany_eq _ _ _ (by rw [hl]; simp; omega) (all_cons ha all_nil)]
 rcases l with _ | _ | _ | _ | _ | l
 ·rfl
 ·rfl
 ·rfl
 ·rfl
 ·rfl
 ·omega
def LkAt (h : T AObj) (v : Value) (xs : List Int) : Prop := (v = .slice none 0 0 ∧ xs = []) ∨ ∃ b cap cs, v = .slice (some ⟨b, 0, some 1⟩) xs.length cap ∧ 1 ≤ cap ∧ xs.length ≤ cap ∧ Has h b (.cells cs) ∧ subN 0 xs.length cs = some (xs.map (Value.int .i64))
theorem LkAt.keep {h h' : T AObj} {v : Value} {xs : List Int} (x : LkAt h v xs) (k : ∀ b, blkOf v = some b → h'.get b = h.get b) : LkAt h' v xs := by
 rcases x with x | ⟨b, cap, cs, rfl, x1, x2, x3, x4⟩
 ·exact .inl x
 ·exact .inr ⟨b, cap, cs, rfl, x1, x2, (k b rfl).trans x3, x4⟩
theorem LkAt.val {h : T AObj} {v : Value} {xs : List Int} (x : LkAt h v xs) : ∃ oa cap, v = .slice oa xs.length cap := by
 rcases x with ⟨rfl, rfl⟩ | ⟨b, cap, cs, rfl, _⟩
 ·exact ⟨_, _, rfl⟩
 ·exact ⟨_, _, rfl⟩
theorem LkAt.atom {h : T AObj} {v : Value} {xs : List Int} (x : LkAt h v xs) : atom v = true := by
 obtain ⟨_, _, rfl⟩ := x.val; rfl
theorem LkAt.row {h : T AObj} {v : Value} {xs : List Int} (x : LkAt h v xs) : Row h v xs.length 1 (xs.map (Value.int .i64)) := by
 rcases x with ⟨rfl, rfl⟩ | ⟨b, cap, cs, rfl, x1, x2, x3, x4⟩
 ·exact .inl ⟨rfl, rfl, _, _, rfl⟩
 ·exact .inr ⟨b, 0, _, _, cs, rfl, x3.cel, by rw [Nat.mul_one]; exact x4⟩
theorem LkAt.lt {h : T AObj} {c : Nat} {v : Value} {xs : List Int} (x : LkAt h v xs) (hf : Fresh h c) : ∀ b, blkOf v = some b → b < c := by
 rcases x with ⟨rfl, rfl⟩ | ⟨b, cap, cs, rfl, x1, x2, x3, x4⟩
 ·intro b hb; cases hb
 ·intro b' hb; cases hb; exact x3.lt hf
abbrev Ow := Nat → Int × Nat
structure NdR (h : T AObj) (ow : Ow) (U : Nat → Prop) (dim : Nat) (L : Lk) (r : Rc) (nb : Nat) (vv : Value) (ls : Nat → Value) : Prop where
 at_ : Has h nb (.cells (nodeC vv r.seq ls))
 u : U nb
 o : ow nb = (r.id, 0)
 own : Own h 0 vv dim r.xs
 ov : ∀ b, blkOf vv = some b → U b ∧ ow b = (r.id, 1)
 lk : ∀ l, l < 5 → LkAt h (ls l) (L r.id l)
 ol : ∀ l, l < 5 → ∀ b, blkOf (ls l) = some b → U b ∧ ow b = (r.id, 2 + l)
def NdAt (h : T AObj) (ow : Ow) (U : Nat → Prop) (dim : Nat) (L : Lk) (r : Rc) (v : Value) : Prop := ∃ nb vv ls, v = .pointer (some ⟨nb, 0, none⟩) ∧ NdR h ow U dim L r nb vv ls
def GFits (h : T AObj) (ow : Ow) (U : Nat → Prop) (dim : Nat) (L : Lk) (o : Option Rc) (w : Option Value) : Prop := (o = none ∧ w = none) ∨ ∃ r v, o = some r ∧ w = some v ∧ NdAt h ow U dim L r v
structure GrO (h : T AObj) (p m : Nat) (mt : Int) (dim : Nat) (G : Gr) (U : Nat → Prop) (ow : Ow) : Prop where
 ptr : Has h p (.cells [.int .i64 mt, .map (some m)])
 ex : ∃ es n, Has h m (.map es n) ∧ (∃ ids, Keyed es n ids) ∧ ∀ x, GFits h ow U dim G.L (getM x G.M) (valI x es)
 pU : U p
 mU : U m
 po : ow p = (0, 100)
 mo : ow m = (0, 101)
 rises : Rises G.M
 ok : ∀ r ∈ G.M, ∃ zs : List Int, r = mbG r.id zs r.seq ∧ zs.length = dim ∧ Bnd zs ∧ 0 ≤ r.seq ∧ r.seq ≤ 4
 up : ∀ x l, Up (G.L x l)
 mem : ∀ x l y, y ∈ G.L x l → ∃ r, getM y G.M = some r
def GrM (h : T AObj) (p m : Nat) (mt : Int) (dim : Nat) (G : Gr) (U : Nat → Prop) : Prop := ∃ ow, GrO h p m mt dim G U ow
section
variable {h h' : T AObj} {p m c : Nat} {mt : Int} {dim : Nat} {G : Gr} {U U' : Nat → Prop} {ow ow' : Ow} {L L' : Lk} {r : Rc}
theorem NdR.keep {nb : Nat} {vv : Value} {ls : Nat → Value} (x : NdR h ow U dim L r nb vv ls) (hf : Fresh h c) (hU : ∀ b, U b → b < c → U' b) (ho : ∀ b, U b → b < c → ow' b = ow b) (hL : ∀ l, l < 5 → L' r.id l = L r.id l) (k : ∀ b, U b → b < c → (ow b).1 = r.id → (ow b).2 < 10 → h'.get b = h.get b) : NdR h' ow' U' dim L' r nb vv ls := by
 obtain ⟨x1, x2, x3, x4, x5, x6, x7⟩ := x
 have l1 := x1.lt hf
 have l4 : ∀ b, blkOf vv = some b → b < c := fun b hb => (x4.blk hb).2.lt hf
 refine ⟨(k nb x2 l1 (by rw [x3]) (by rw [x3]; simp)).trans x1, hU nb x2 l1, (ho nb x2 l1).trans x3, x4.keep fun b hb => k b (x5 b hb).1 (l4 b hb) (by rw [(x5 b hb).2]) (by rw [(x5 b hb).2]; simp), fun b hb => ⟨hU b (x5 b hb).1 (l4 b hb), (ho b (x5 b hb).1 (l4 b hb)).trans (x5 b hb).2⟩, fun l hl => ?_, fun l hl b hb => ?_⟩
 ·rw [hL l hl]
  refine (x6 l hl).keep fun b hb => ?_
  obtain ⟨u1, u2⟩ := x7 l hl b hb
  exact k b u1 ((x6 l hl).lt hf b hb) (by rw [u2]) (by rw [u2]; show 2 + l < 10; omega)
 ·obtain ⟨u1, u2⟩ := x7 l hl b hb
  have l7 := (x6 l hl).lt hf b hb
  exact ⟨hU b u1 l7, (ho b u1 l7).trans u2⟩
theorem GFits.keep {x : Int} {M : List Rc} {w : Option Value} (y : GFits h ow U dim L (getM x M) w) (hf : Fresh h c) (hU : ∀ b, U b → b < c → U' b) (ho : ∀ b, U b → b < c → ow' b = ow b) (hL : ∀ l, l < 5 → L' x l = L x l) (k : ∀ b, U b → b < c → (ow b).1 = x → (ow b).2 < 10 → h'.get b = h.get b) : GFits h' ow' U' dim L' (getM x M) w := by
 rcases y with y | ⟨r, v, e1, e2, nb, vv, ls, e3, e4⟩
 ·exact .inl y
 ·have hx := (getM_mem e1).2
  exact .inr ⟨r, v, e1, e2, nb, vv, ls, e3, e4.keep hf hU ho (by rw [hx]; exact hL) (by rw [hx]; exact k)⟩
theorem GrO.keep (q : GrO h p m mt dim G U ow) (hf : Fresh h c) (k : ∀ b, U b → b < c → h'.get b = h.get b) : GrO h' p m mt dim G U ow := by
 obtain ⟨es, n, h1, h2, h3⟩ := q.ex
 exact ⟨(k p q.pU (q.ptr.lt hf)).trans q.ptr, ⟨es, n, (k m q.mU (h1.lt hf)).trans h1, h2, fun x => (h3 x).keep hf (fun _ q _ => q) (fun _ _ _ => rfl) (fun _ _ => rfl) fun b hb hc _ _ => k b hb hc⟩, q.pU, q.mU, q.po, q.mo, q.rises, q.ok, q.up, q.mem⟩
theorem GrO.wide (q : GrO h p m mt dim G U ow) (hf : Fresh h c) (k : ∀ b, U b → U' b) : GrO h p m mt dim G U' ow := by
 obtain ⟨es, n, h1, h2, h3⟩ := q.ex
 exact ⟨q.ptr, ⟨es, n, h1, h2, fun x => (h3 x).keep hf (fun b q _ => k b q) (fun _ _ _ => rfl) (fun _ _ => rfl) fun b hb hc _ _ => rfl⟩, k _ q.pU, k _ q.mU, q.po, q.mo, q.rises, q.ok, q.up, q.mem⟩
theorem GrO.low (q : GrO h p m mt dim G U ow) (hf : Fresh h c) : GrO h p m mt dim G (fun b => U b ∧ b < c) ow := by
 obtain ⟨es, n, h1, h2, h3⟩ := q.ex
 exact ⟨q.ptr, ⟨es, n, h1, h2, fun x => (h3 x).keep hf (fun b q hc => ⟨q, hc⟩) (fun _ _ _ => rfl) (fun _ _ => rfl) fun b hb hc _ _ => rfl⟩, ⟨q.pU, q.ptr.lt hf⟩, ⟨q.mU, h1.lt hf⟩, q.po, q.mo, q.rises, q.ok, q.up, q.mem⟩
theorem GrM.low (q : GrM h p m mt dim G U) (hf : Fresh h c) : GrM h p m mt dim G (fun b => U b ∧ b < c) := by
 obtain ⟨ow, q⟩ := q; exact ⟨ow, q.low hf⟩
theorem GrM.keep (q : GrM h p m mt dim G U) (hf : Fresh h c) (k : ∀ b, U b → b < c → h'.get b = h.get b) : GrM h' p m mt dim G U := by
 obtain ⟨ow, q⟩ := q; exact ⟨ow, q.keep hf k⟩
theorem GrM.wide (q : GrM h p m mt dim G U) (hf : Fresh h c) (k : ∀ b, U b → U' b) : GrM h p m mt dim G U' := by
 obtain ⟨ow, q⟩ := q; exact ⟨ow, q.wide hf k⟩
theorem GrO.lt (q : GrO h p m mt dim G U ow) (hf : Fresh h c) : p < c ∧ m < c := by
 obtain ⟨es, n, h1, h2, h3⟩ := q.ex
 exact ⟨q.ptr.lt hf, h1.lt hf⟩
theorem GrO.at (q : GrO h p m mt dim G U ow) {id : Int} {r : Rc} (hr : getM id G.M = some r) : ∃ es n vi nb vv ls, Has h m (.map es n) ∧ (∃ ids, Keyed es n ids) ∧ (∀ x, GFits h ow U dim G.L (getM x G.M) (valI x es)) ∧ findI id es = some (vi, .pointer (some ⟨nb, 0, none⟩)) ∧ NdR h ow U dim G.L r nb vv ls ∧ r.id = id := by
 obtain ⟨es, n, h1, h2, h3⟩ := q.ex
 rcases h3 id with ⟨e1, _⟩ | ⟨r', v, e1, e2, nb, vv, ls, rfl, e4⟩
 ·rw [hr] at e1; cases e1
 ·rw [hr] at e1; cases e1
  obtain ⟨vi, hv⟩ := valI_some e2
  exact ⟨es, n, vi, nb, vv, ls, h1, h2, h3, hv, e4, (getM_mem hr).2⟩
theorem GrO.zs (q : GrO h p m mt dim G U ow) {id : Int} {r : Rc} (hr : getM id G.M = some r) : r.xs = (zsM G.M id).map (Value.int .i32) ∧ (zsM G.M id).length = dim ∧ Bnd (zsM G.M id) ∧ 0 ≤ r.seq ∧ r.seq ≤ 4 := by
 obtain ⟨zs, e, h1, h2, h3, h4⟩ := q.ok r (getM_mem hr).1
 have e2 : r.xs = zs.map (Value.int .i32) := by rw [e]
 have e3 : zsM G.M id = zs := by unfold zsM; rw [hr]; show intsV r.xs = zs; rw [e2, intsV_ints]
 rw [e3]
 exact ⟨e2, h1, h2, h3, h4⟩
theorem GrO.new (hp : Has h p (.cells [.int .i64 mt, .map (some m)])) (hm : Has h m (.map [] 0)) (hne : p ≠ m) : GrO h p m mt dim ⟨[], fun _ _ => []⟩ (fun b => b = p ∨ b = m) (fun b => if b = p then (0, 100) else (0, 101)) :=
 ⟨hp, ⟨[], 0, hm, ⟨[], .nil 0⟩, fun x => .inl ⟨rfl, rfl⟩⟩, .inl rfl, .inr rfl, if_pos rfl, if_neg (Ne.symm hne), Rises.nil, (fun r hr => by cases hr), fun _ _ => List.Pairwise.nil, fun x l y hy => by cases hy⟩
end
theorem gnew_spec {h : T AObj} {c : Nat} {rl wl : List Nat} (hf : Fresh h c) {dim : Nat} (m : Int) (hm : m = 1 ∨ m = 2) :
  ∃ r s', FnTo (Cs smQ) eg 17 [.int .i64 m] ⟨h, c, rl, wl⟩ r s' ∧ (r = .pointer (some ⟨c + 1, 0, none⟩) ∧ s'.c = c + 2 ∧ GrM s'.h (c + 1) c m dim ⟨[], fun _ _ => []⟩ (fun b => b = c + 1 ∨ b = c)) ∧ Ext ⟨h, c, rl, wl⟩ s' (fun _ => False) (fun _ => False) := by
 refine Fn.go (stdQ 17 rfl) ex17 fn17 km17 rfl rfl ?_
 refine Zev ?_
 refine Zgo ?_
 refine Wseq.call rfl rfl (known_spec stdQ Zfr m hm) ?_
 rintro v1 h1 c1 r1 w1 ⟨rfl, e1⟩
 cases e1
 refine Zgo ?_
 refine ⟨.inr rfl, Wres.one rfl ⟨⟨rfl, rfl, _, GrO.new Has.same (Has.other (by omega) Has.same) (by omega)⟩, Zex⟩⟩
theorem ghit_spec {h : T AObj} {c : Nat} {rl wl : List Nat} (hf : Fresh h c) {p m dim : Nat} {mt : Int} {G : Gr} {U : Nat → Prop} (qm : GrM h p m mt dim G U) (hmt : mt = 1 ∨ mt = 2) {qa : Option Addr} {qc : Nat} {qs : List Int} (hq : Row h (.slice qa dim qc) dim 1 (qs.map (Value.int .i32))) (hqn : qs.length = dim) (hqb : Bnd qs) (hd : dim ≤ 1000) {id : Int} {r0 : Rc} (hr0 : getM id G.M = some r0) (R : Nat → Prop) (hUR : ∀ b, U b → R b) (hqR : ∀ b, blkOf (.slice qa dim qc) = some b → R b) :
  ∃ r s', FnTo (Cs smQ) eg 77 [.pointer (some ⟨p, 0, none⟩), .slice qa dim qc, .int .i64 id] ⟨h, c, rl, wl⟩ r s' ∧ r = (hitG mt G.M qs id).val ∧ Ext ⟨h, c, rl, wl⟩ s' R (fun _ => False) := by
 obtain ⟨ow, q⟩ := qm
 have hp := q.ptr
 obtain ⟨lp, lm⟩ := q.lt hf
 have hpR := hUR p q.pU
 have hmR := hUR m q.mU
 obtain ⟨es, n, vi, nb, vv, ls, hm, ⟨ids, hk⟩, hfit, hfi, hn, hid⟩ := q.at hr0
 obtain ⟨hzs, hzl, hzb, _, _⟩ := q.zs hr0
 have hnb := hn.at_
 unfold nodeC at hnb
 have lnb := hnb.lt hf
 have rnb := hUR nb hn.u
 have hown := hn.own
 have hov := hn.ov
 obtain ⟨va, vk, rfl⟩ := hown.val
 rw [hzs] at hown
 have hvr := hown.row (by rw [List.length_map]; exact hzl)
 have kA : ∀ b, b < c → (h.set c (some (.cells [.int .i64 0, .int .i64 0]))).get b = h.get b := fun b hb => get_other (by omega)
 refine Fn.go (stdQ 77 rfl) ex77 fn77 km77 rfl rfl ?_
 refine Zev ?_
 refine Zgo ?_
 refine Zd (to_lookup (mi_ rfl) (ze_ rfl) rfl rfl (hm.other (by omega)) (by omega) hk.ks (by rw [hfi])) ?_
 refine Zgo ?_
 refine Wtr.call rfl rfl (score_spec stdQ Zfr hmt hqn hzl (Row.keepF hq hf kA) (Row.keepF hvr hf kA) hqb hzb hd R (fun b hb => hb.elim (hqR b) (fun u => hUR b (hov b u).1))) ?_
 rintro v2 hB c2 r2 w2 ⟨⟨rfl, e1, e2⟩, hext2⟩
 simp only at e1 e2
 have hqt2 := hext2.quiet (fun _ _ q => q)
 have lr2 := Lg.extR (R := R) (c := c) Zlg hext2 (fun _ _ q => q)
 have lw2 := Lg.extW (W := fun _ => False) (c := c) Zlg hext2 (fun _ _ q => q)
 subst e1 e2
 refine ⟨Zap, ?_⟩
 refine Zgo ?_
 refine ⟨.inr rfl, Wres.cell rfl (ag_ rfl) Has.same.cel (by omega) (by rfl) ⟨rfl, ?_⟩⟩
 exact Zex
end Go.Ab.Seat
end
