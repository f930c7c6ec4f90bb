import Derived.Test.YtofikbfljjjgeaaGreatDoorDJ8
import Derived.Test.YtofikbfljjjgeaaGreatDoorDJ2
set_option linter.unusedVariables false
set_option linter.unusedSimpArgs false
section
/- A number's place, a number put in, a number taken out (the abstract machine). -/
namespace Go.Ab.Seat
open Go.Extern Go.Proofs
set_option maxRecDepth 4000
namespace InsI
variable {sm : Nat → Option (List Value → M Value)}
theorem gIns_some (HI : sm 144 = some gIns) {h : T AObj} {c : Nat} {rl wl : List Nat} (hf : Fresh h c) {b n cap i vb vc : Nat} {sp : Option Nat} {cs ws vv xs : List Value} (hb : Has h b (.cells cs)) (hs : subN 0 (n * 1) cs = some xs) (hn : 1 ≤ cap) (hc : n ≤ cap) (hk : n ≤ 1000) (hv : Has h vb (.cells ws)) (hvs : subN 0 1 ws = some vv) (hne : vb ≠ b) (ha : ∀ x ∈ xs, atom x = true) (ha' : ∀ x ∈ vv, atom x = true) (hi : i ≤ n) :
  ∃ r s', FnTo (Cs sm) eg 144 [.slice (some ⟨b, 0, some 1⟩) n cap, .int .i64 (i : Int), .slice (some ⟨vb, 0, sp⟩) 1 vc] ⟨h, c, rl, wl⟩ r s' ∧ (r = .slice (some ⟨c + 1, 0, some 1⟩) (n + 1) (n + 1) ∧ s' = ⟨(h.set b none).set (c + 1) (some (.cells (xs.take (i * 1) ++ vv ++ xs.drop (i * 1)))), c + 2, vb :: b :: rl, b :: wl⟩) := by
 have l1 := hb.lt hf
 have l2 := hv.lt hf
 refine ⟨_, _, FnTo.of_sm (q := gIns) HI ?_, rfl, rfl⟩
 show (match okI 1 n cap vb b (i : Int) with | true => gIns1 b 0 n ((i : Int)).toNat vb 0 | false => M.fail) _ = _
 have hok : okI 1 n cap vb b (i : Int) = true := by
  unfold okI
  rw [ble_iff.2 hn, ble_iff.2 hc, ble_iff.2 hk, beq_false.2 hne, decide_eq_true (show (0 : Int) ≤ i by omega), decide_eq_true (show (i : Int) ≤ n by omega)]
  rfl
 rw [hok, Int.toNat_natCast]
 simp only
 unfold gIns1
 have hat : (allB atom xs && allB atom vv) = true := by rw [allB_eq, allB_eq, List.all_eq_true.2 ha, List.all_eq_true.2 ha']; rfl
 rw [bind_run (getCellsW_run hb l1), bind_run (getCellsW_run hv l2), bind_run (lift_run hs), bind_run (lift_run hvs), hat]
 simp only
 rw [bind_run (show skip1 ⟨h, c, vb :: b :: rl, wl⟩ = some ((), ⟨h, c + 1, vb :: b :: rl, wl⟩) from rfl), bind_run (putO_run hb (by omega)), bind_run (newCells_run (Fresh.put (by omega) (hf.up (by omega))))]
 rfl
theorem gIns_nil (HI : sm 144 = some gIns) {h : T AObj} {c : Nat} {rl wl : List Nat} (hf : Fresh h c) {vb vc : Nat} {sp : Option Nat} {ws vv : List Value} (hv : Has h vb (.cells ws)) (hvs : subN 0 1 ws = some vv) :
  ∃ r s', FnTo (Cs sm) eg 144 [.slice none 0 0, .int .i64 0, .slice (some ⟨vb, 0, sp⟩) 1 vc] ⟨h, c, rl, wl⟩ r s' ∧ (r = .slice (some ⟨c, 0, some 1⟩) 1 1 ∧ s' = ⟨h.set c (some (.cells vv)), c + 1, vb :: rl, wl⟩) := by
 have l2 := hv.lt hf
 refine ⟨_, _, FnTo.of_sm (q := gIns) HI ?_, rfl, rfl⟩
 show gIns0 vb 0 _ = _
 unfold gIns0
 rw [bind_run (getCellsW_run hv l2), bind_run (lift_run hvs), bind_run (newCells_run hf)]
 rfl
end InsI
section
variable {h : T AObj} {c : Nat} {rl wl : List Nat}
theorem nan_spec (hf : Fresh h c) (x : Int) : ∃ r s', FnTo (Cs smQ) eg 229 [.int .i64 x] ⟨h, c, rl, wl⟩ r s' ∧ (r = .bool false ∧ s' = ⟨h, c, rl, wl⟩) := by
 refine Fn.go (stdQ 229 rfl) ex229 fn229 km229 rfl rfl ?_
 refine Zev ?_
 refine Zgo ?_
 exact ⟨.inr rfl, Wres.one rfl ⟨rfl, rfl⟩⟩
theorem nan2_spec (hf : Fresh h c) (x : Int) : ∃ r s', FnTo (Cs smQ) eg 203 [.int .i64 x] ⟨h, c, rl, wl⟩ r s' ∧ (r = .bool false ∧ s' = ⟨h, c, rl, wl⟩) := by
 refine Fn.go (stdQ 203 rfl) ex203 fn203 km203 rfl rfl ?_
 refine Zev ?_
 refine Zgo ?_
 exact ⟨.inr rfl, Wres.one rfl ⟨rfl, rfl⟩⟩
theorem iless_spec (hf : Fresh h c) (x y : Int) : ∃ r s', FnTo (Cs smQ) eg 202 [.int .i64 x, .int .i64 y] ⟨h, c, rl, wl⟩ r s' ∧ (r = .bool (decide (x < y)) ∧ s' = ⟨h, c, rl, wl⟩) := by
 refine Fn.go (stdQ 202 rfl) ex202 fn202 km202 rfl rfl ?_
 refine Zev ?_
 refine Zgo ?_
 refine Wseq.call rfl rfl (nan_spec Zfr x) ?_
 rintro v1 h1 c1 r1 w1 ⟨rfl, e1⟩
 cases e1
 by_cases hxy : x < y
 ·rw [decide_eq_true hxy]
  refine Zgo ?_
  exact ⟨.inr rfl, Wres.one rfl ⟨rfl, rfl⟩⟩
 ·rw [decide_eq_false hxy]
  refine Zgo ?_
  exact ⟨.inr rfl, Wres.one rfl ⟨rfl, rfl⟩⟩
def K143 : List Nat := [0, 1, 4, 5, 6, 7, 8, 9, 15, 27]
set_option maxHeartbeats 4000000 in
theorem bsearch_spec (hf : Fresh h c) {oa : Option Addr} {cap : Nat} {l : List Int} (hx : Row h (.slice oa l.length cap) l.length 1 (l.map (Value.int .i64))) (hu : Up l) (hn : l.length ≤ 100000) (v : Int) (R : Nat → Prop) (hR : ∀ b, blkOf (.slice oa l.length cap) = some b → R b) :
  ∃ r s', FnTo (Cs smQ) eg 143 [.slice oa l.length cap, .int .i64 v] ⟨h, c, rl, wl⟩ r s' ∧ (r = .tuple #[.int .i64 (posI v l : Int), .bool (decide (v ∈ l))] ∧ s'.h = h ∧ s'.c = c) ∧ Ext ⟨h, c, rl, wl⟩ s' R (fun _ => False) := by
 refine Fn.go (stdQ 143 rfl) ex143 fn143 km143 rfl rfl ?_
 refine Zev ?_
 refine Zgo ?_
 have hple := posI_le v l
 refine Wx.loopF (fun k1 e s => ∃ (g : Nat → Value) (a b : Nat) (z1 z2 : Int) (rl' wl' : List Nat), e = fr g [(0, .slice oa l.length cap), (1, .int .i64 v), (6, .int .i64 (l.length : Int)), (7, .int .i64 z1), (8, .int .i64 z2)] K143 ∧ z1 = a ∧ z2 = b ∧ s = ⟨h, c, rl', wl'⟩ ∧ Lg c R rl' ∧ Lg c (fun _ => False) wl' ∧ a ≤ posI v l ∧ posI v l ≤ b ∧ b ≤ l.length ∧ k1 = b - a) l.length K143 [(0, _), (1, _), (6, _), (7, .int .i64 0), (8, _)] ⟨_, 0, l.length, _, _, _, _, rfl, rfl, rfl, rfl, Zlg, Zlg, by omega, by omega, by omega, by omega⟩ ?_
 rintro k1 e s ⟨g, a, b, z1, z2, rl', wl', rfl, hz1, hz2, rfl, hlr, hlw, ha, hb, hbn, rfl⟩
 (refine Wx.sw (by simp only [K143, frN, frC, updN, updC, Nat.reduceEqDiff, ↓reduceIte]; rfl) ?_)
 by_cases hab : a < b
 rotate_left
 ·refine Zgo ?_
  obtain rfl : a = b := by omega
  have hap : a = posI v l := by omega
  by_cases hal : a < l.length
  rotate_left
  ·have hm : decide (v ∈ l) = false := decide_eq_false fun q => by
    have := (posI_mem hu).1 q
    rw [← hap, List.getElem?_eq_none (by omega)] at this
    cases this
   rw [decide_eq_false (show ¬z1 < (l.length : Int) by omega)]
   refine Zgo ?_
   refine ⟨.inr rfl, Wres.two rfl rfl ⟨⟨?_, rfl, rfl⟩, Zex⟩⟩
   rw [hm, ← hap, ← hz1]; rfl
  obtain ⟨b1, o1, sp1, cs1, rfl, hc1, hn1⟩ := rowCell hx (j := a * 1) (by omega) (int_nth (List.getElem?_eq_getElem hal))
  have hR1 := hR b1 rfl
  have l1 := hc1.lt hf
  by_cases hav : l[a] = v
  ·have hm : decide (v ∈ l) = true := decide_eq_true (hav ▸ List.getElem_mem hal)
   rw [decide_eq_true (show z1 < (l.length : Int) by omega)]
   refine Zgo ?_
   refine Zu (to_indexAddr (k := a) el45 rfl rfl hz1 (by omega)) ?_
   refine Zu (to_load (pl_ rfl) rfl hc1 (by omega) hn1) ?_
   refine Zgo ?_
   refine ⟨.inr rfl, Wres.two rfl rfl ⟨⟨?_, rfl, rfl⟩, Zex⟩⟩
   rw [hm, ← hap, ← hz1]; rfl
  ·have hm : decide (v ∈ l) = false := decide_eq_false fun q => by
    have := (posI_mem hu).1 q
    rw [← hap, List.getElem?_eq_getElem hal] at this
    exact hav (Option.some.inj this)
   rw [decide_eq_true (show z1 < (l.length : Int) by omega)]
   refine Zgo ?_
   refine Zu (to_indexAddr (k := a) el45 rfl rfl hz1 (by omega)) ?_
   refine Zu (to_load (pl_ rfl) rfl hc1 (by omega) hn1) ?_
   refine Zgo ?_
   refine Zu (to_indexAddr (k := a) el45 rfl rfl hz1 (by omega)) ?_
   refine Zu (to_load (pl_ rfl) rfl hc1 (by omega) hn1) ?_
   refine Wseq.call rfl rfl (nan2_spec Zfr _) ?_
   rintro v1 h1 c1 r1 w1 ⟨rfl, e1⟩
   cases e1
   refine Zgo ?_
   refine ⟨.inr rfl, Wres.two rfl rfl ⟨⟨?_, rfl, rfl⟩, Zex⟩⟩
   rw [hm, ← hap, ← hz1]; rfl
 refine Zgo ?_
 refine Zu (to_shr (k := 1) rfl rfl (by decide)) ?_
 refine Zgo ?_
 have hmid : wrapA .i64 ((wrapA .u64 (z1 + z2)).fdiv ((2 ^ 1 : Nat) : Int)) = (((a + b) / 2 : Nat) : Int) := by
  have e1 : wrapA .u64 (z1 + z2) = z1 + z2 := by
   rw [wrapA_eq]
   show IntKind.wrap .u64 _ = _
   unfold IntKind.wrap
   simp [IntKind.signed, IntKind.bits]
   omega
  rw [e1, Int.fdiv_eq_ediv_of_nonneg _ (by decide), wrapA_i64 (by omega) (by omega)]
  omega
 rw [hmid]
 have hml : (a + b) / 2 < l.length := by omega
 obtain ⟨b1, o1, sp1, cs1, rfl, hc1, hn1⟩ := rowCell hx (j := (a + b) / 2 * 1) (by omega) (int_nth (List.getElem?_eq_getElem hml))
 have hR1 := hR b1 rfl
 have l1 := hc1.lt hf
 have hlt := posI_lt (v := v) hu (List.getElem?_eq_getElem hml)
 refine Zu (to_indexAddr (k := (a + b) / 2) el45 rfl rfl rfl (by omega)) ?_
 refine Zu (to_load (pl_ rfl) rfl hc1 (by omega) hn1) ?_
 refine Zgo ?_
 refine Wseq.call rfl rfl (iless_spec Zfr _ _) ?_
 rintro v1 h1 c1 r1 w1 ⟨rfl, e1⟩
 cases e1
 by_cases hlv : l[(a + b) / 2] < v
 ·rw [decide_eq_true hlv]
  refine Zgo ?_
  exact RoundE.goF (b - ((a + b) / 2 + 1)) K143 [(0, _), (1, _), (6, _), (7, .int .i64 ((((a + b) / 2 : Nat) : Int) + 1)), (8, _)] (by omega) ⟨_, (a + b) / 2 + 1, b, _, _, _, _, rfl, by omega, hz2, rfl, Zlg, Zlg, by omega, by omega, by omega, by omega⟩
 ·rw [decide_eq_false hlv]
  refine Zgo ?_
  exact RoundE.goF ((a + b) / 2 - a) K143 [(0, _), (1, _), (6, _), (7, _), (8, _)] (by omega) ⟨_, a, (a + b) / 2, _, _, _, _, rfl, hz1, rfl, rfl, Zlg, Zlg, by omega, by omega, by omega, by omega⟩
end
end Go.Ab.Seat
end
section
/- A link put in, a link taken out of a row (the abstract machine). -/
namespace Go.Ab.Seat
open Go.Extern Go.Proofs
set_option maxRecDepth 4000
section
variable {h : T AObj} {c : Nat} {rl wl : List Nat}
theorem ints_atom (l : List Int) : ∀ x ∈ l.map (Value.int .i64), atom x = true := by
 intro x hx
 obtain ⟨y, _, rfl⟩ := List.mem_map.1 hx
 rfl
theorem lins_spec (hf : Fresh h c) {v : Value} {xs : List Int} {x : Int} {vb : Nat} (hv : LkAt h v xs) (hx : x ∉ xs) (hn : xs.length ≤ 1000) (hb : Has h vb (.cells [.int .i64 x])) (hne : ∀ b, blkOf v = some b → vb ≠ b) :
  ∃ r s', FnTo (Cs smQ) eg 144 [v, .int .i64 (posI x xs : Int), .slice (some ⟨vb, 0, none⟩) 1 1] ⟨h, c, rl, wl⟩ r s' ∧ (LkAt s'.h r (insS x xs) ∧ (∀ b, blkOf r = some b → c ≤ b) ∧ r ≠ .slice none 0 0) ∧ Ext ⟨h, c, rl, wl⟩ s' (fun b => b = vb ∨ blkOf v = some b) (fun b => blkOf v = some b) := by
 have hvs : subN 0 1 [Value.int .i64 x] = some [Value.int .i64 x] := subN_all _ _ rfl
 have lvb := hb.lt hf
 have hple := posI_le x xs
 have hins : insS x xs = xs.take (posI x xs) ++ x :: xs.drop (posI x xs) := by unfold insS; rw [if_neg hx]
 have hil : (insS x xs).length = xs.length + 1 := by rw [hins, List.length_append, List.length_cons, List.length_take, List.length_drop]; omega
 rcases hv with ⟨rfl, rfl⟩ | ⟨b, cap, cs, rfl, h1, h2, h3, h4⟩
 ·obtain ⟨r, s', g1, rfl, rfl⟩ := InsI.gIns_nil (sm := smQ) rfl (rl := rl) (wl := wl) (sp := none) (vc := 1) hf hb hvs
  refine ⟨_, _, g1, ⟨.inr ⟨c, 1, _, by rw [hil]; rfl, Nat.le_refl _, by rw [hil]; exact Nat.le_refl _, Has.same, by rw [hil, hins]; exact hvs⟩, (fun b hb => by cases hb; exact Nat.le_refl _), by simp⟩, ?_⟩
  exact ⟨Nat.le_succ _, hf.new, fun b hb _ => by simp only; rw [T.get_set, if_neg (by simp only at hb; omega)], fun b hb => by
   rcases List.mem_cons.1 hb with rfl | hb
   ·exact .inr ⟨lvb, .inl rfl⟩
   ·exact .inl hb, fun b hb => .inl hb⟩
 ·have lb := h3.lt hf
  have hne' := hne b rfl
  obtain ⟨r, s', g1, rfl, rfl⟩ := InsI.gIns_some (sm := smQ) (i := posI x xs) rfl (rl := rl) (wl := wl) (sp := none) (vc := 1) hf h3 (by rw [Nat.mul_one]; exact h4) h1 h2 hn hb hvs hne' (ints_atom xs) (fun v hv => by rw [List.mem_singleton.1 hv]; rfl) hple
  have hxs : (xs.map (Value.int .i64)).take (posI x xs * 1) ++ [Value.int .i64 x] ++ (xs.map (Value.int .i64)).drop (posI x xs * 1) = (insS x xs).map (Value.int .i64) := by
   rw [hins, Nat.mul_one, List.map_append, List.map_cons, List.map_take, List.map_drop, List.append_assoc]; rfl
  rw [hxs] at g1
  refine ⟨_, _, g1, ⟨.inr ⟨c + 1, xs.length + 1, _, by rw [hil], by omega, by omega, Has.same, subN_all _ _ (by rw [List.length_map])⟩, (fun b hb => by cases hb; exact Nat.le_succ c), by simp⟩, ?_⟩
  refine ⟨by simp only; omega, Fresh.new (Fresh.put (by omega) (hf.up (by omega))), fun b' hb hw => ?_, fun b' hb => ?_, fun b' hb => ?_⟩
  ·simp only at hb hw ⊢
   rw [T.get_set, if_neg (by omega), T.get_set, if_neg]
   rintro rfl
   exact hw rfl
  ·rcases List.mem_cons.1 hb with rfl | hb
   ·exact .inr ⟨lvb, .inl rfl⟩
   ·rcases List.mem_cons.1 hb with rfl | hb
    ·exact .inr ⟨lb, .inr rfl⟩
    ·exact .inl hb
  ·rcases List.mem_cons.1 hb with rfl | hb
   ·exact .inr ⟨lb, rfl⟩
   ·exact .inl hb
set_option maxHeartbeats 4000000 in
theorem ldel_spec (hf : Fresh h c) {v : Value} {xs : List Int} {x : Int} (hv : LkAt h v xs) (hu : Up xs) (hx : x ∈ xs) (hn : xs.length ≤ 1000) :
  ∃ r s', FnTo (Cs smQ) eg 148 [v, .int .i64 (posI x xs : Int), .int .i64 ((posI x xs : Int) + 1)] ⟨h, c, rl, wl⟩ r s' ∧ (LkAt s'.h r (remS x xs) ∧ (∀ b, blkOf r = some b → blkOf v = some b) ∧ s'.c = c) ∧ Ext ⟨h, c, rl, wl⟩ s' (fun b => blkOf v = some b) (fun b => blkOf v = some b) := by
 have hbg : big = 1048576 := rfl
 obtain ⟨hrem, hpl⟩ := remS_at hu hx
 rcases hv with ⟨rfl, rfl⟩ | ⟨b, cap, cs, rfl, h1, h2, h3, h4⟩
 ·cases hx
 have lb := h3.lt hf
 generalize hi : posI x xs = i at *
 have hlr : (remS x xs).length = xs.length - 1 := by rw [hrem, List.length_append, List.length_take, List.length_drop]; omega
 -- the row in parts
 have hrow : xs.map (Value.int .i64) = (xs.take i).map (Value.int .i64) ++ (xs.drop i).map (Value.int .i64) := by rw [← List.map_append, List.take_append_drop]
 have hA : ((xs.take i).map (Value.int .i64)).length = i := by rw [List.length_map, List.length_take]; omega
 have hB : ((xs.drop (i + 1)).map (Value.int .i64)).length = xs.length - (i + 1) := by rw [List.length_map, List.length_drop]
 have hD : ((xs.drop i).map (Value.int .i64)).length = xs.length - i := by rw [List.length_map, List.length_drop]
 have h4' : subN 0 xs.length cs = some ((xs.take i).map (Value.int .i64) ++ ((xs.drop i).map (Value.int .i64)).take (xs.length - (i + 1)) ++ ((xs.drop i).map (Value.int .i64)).drop (xs.length - (i + 1))) := by
  rw [h4, hrow, List.append_assoc, List.take_append_drop]
 obtain ⟨c1, s1, s2⟩ := setMany_row (o := 0) (k := i) (B' := (xs.drop (i + 1)).map (Value.int .i64)) h4' hA (by rw [hB, List.length_take, hD]; omega) (ints_atom _)
 have hlast : (((xs.drop i).map (Value.int .i64)).drop (xs.length - (i + 1))).length = 1 := by rw [List.length_drop, hD]; omega
 obtain ⟨c2, s3, s4⟩ := setMany_row (o := 0) (k := xs.length - 1) (A := (xs.take i).map (Value.int .i64) ++ (xs.drop (i + 1)).map (Value.int .i64)) (B := ((xs.drop i).map (Value.int .i64)).drop (xs.length - (i + 1))) (B' := rep [Value.int .i64 0] 1) (D := []) (n := xs.length) (by rw [s2, List.append_nil]) (by rw [List.length_append, hA, hB]; omega) (by rw [hlast]; rfl) (all_cons rfl all_nil)
 have hres : subN 0 (xs.length - 1) c2 = some ((remS x xs).map (Value.int .i64)) := by
  have e : subN 0 (xs.length - 1 + 1) c2 = some (((xs.take i).map (Value.int .i64) ++ (xs.drop (i + 1)).map (Value.int .i64)) ++ rep [Value.int .i64 0] 1) := by rw [show xs.length - 1 + 1 = xs.length by omega, s4, List.append_nil]
  rw [hrem, List.map_append]
  exact (subN_app e (by rw [List.length_append, hA, hB]; omega)).1
 have key : ∀ (hh : T AObj) (n' : Nat), n' = xs.length - 1 → Has hh b (.cells c2) → LkAt hh (.slice (some ⟨b, 0, some 1⟩) n' cap) (remS x xs) := fun hh n' e hb => .inr ⟨b, cap, c2, by rw [hlr, e], h1, by rw [hlr]; omega, hb, by rw [hlr]; exact hres⟩
 refine Fn.go (stdQ 148 rfl) ex148 fn148 km148 rfl rfl ?_
 refine Zev ?_
 refine Zgo ?_
 refine Zu (to_slice3 (k := i) (l := i + 1) (m := xs.length) el45 rfl rfl rfl rfl (by omega) rfl rfl (by omega) (by omega) (by omega) (by omega)) ?_
 refine Zgo ?_
 refine Zq (to_sliceHi (k := i) el45 rfl rfl rfl (by omega) (fun a ha => by cases ha; exact .inr rfl)) ?_
 refine Zgo ?_
 refine Zq (to_sliceOwn (k := i + 1) el45 rfl rfl (by omega) (by omega) (by omega)) ?_
 by_cases hlast2 : xs.length = i + 1
 ·rw [show xs.length - (i + 1) = 0 by omega]
  refine Zq (to_appZero ro45 sl45 rfl rfl (by omega)) ?_
  refine Zgo ?_
  refine Zu (to_slice2 (k := i) (l := xs.length) el45 rfl rfl rfl rfl rfl (by omega) (by omega)) ?_
  rw [show xs.length - i = 0 + 1 by omega]
  have e1 : (xs.drop (i + 1)).map (Value.int .i64) = [] := List.eq_nil_of_length_eq_zero (by rw [hB]; omega)
  have hcc : c1 = cs := by
   rw [e1] at s1
   rw [setMany_eq _ _ _ (by have := (subN_some _ _ _ _ h4).2.1; simp; omega) all_nil] at s1
   simpa using (Option.some.inj s1).symm
  subst hcc
  refine Wseq.st0 (to_clear ro45 rfl h3 lb (by rw [Nat.mul_one]; rw [show 0 + i = 0 + (xs.length - 1) by omega]; exact s3)) ?_
  refine Zgo ?_
  refine ⟨.inr rfl, Wres.one rfl ⟨⟨key _ _ (by omega) Has.same, (fun b' hb => hb), rfl⟩, Zex⟩⟩
 obtain ⟨m, hm⟩ : ∃ m, xs.length - (i + 1) = m + 1 := ⟨xs.length - (i + 1) - 1, by omega⟩
 rw [hm]
 have hsB : subN (0 + (i + 1) * 1) ((m + 1) * 1) cs = some ((xs.drop (i + 1)).map (Value.int .i64)) := by
  have e : subN 0 (i + 1 + (m + 1)) cs = some ((xs.take (i + 1)).map (Value.int .i64) ++ (xs.drop (i + 1)).map (Value.int .i64)) := by
   rw [show i + 1 + (m + 1) = xs.length by omega, h4, ← List.map_append, List.take_append_drop]
  rw [Nat.mul_one, Nat.mul_one]
  exact (subN_app e (by rw [List.length_map, List.length_take]; omega)).2
 have hne : (xs.drop (i + 1)).map (Value.int .i64) ≠ [] := fun e => by rw [e] at hB; simp at hB; omega
 refine Zd (to_appRoom (k := m) ro45 sl45 rfl rfl h3.cel lb hsB hne (by omega) h3 lb (by rw [Nat.mul_one]; exact s1)) ?_
 refine Zgo ?_
 refine Zu (to_slice2 (k := i + (m + 1)) (l := xs.length) el45 rfl rfl rfl rfl rfl (by omega) (by omega)) ?_
 rw [show xs.length - (i + (m + 1)) = 0 + 1 by omega]
 refine Wseq.st0 (to_clear ro45 rfl Has.same (by omega) (by rw [Nat.mul_one]; rw [show 0 + (i + (m + 1)) = 0 + (xs.length - 1) by omega]; exact s3)) ?_
 refine Zgo ?_
 refine ⟨.inr rfl, Wres.one rfl ⟨⟨key _ _ (by omega) Has.same, (fun b' hb => hb), rfl⟩, Zex⟩⟩
end
end Go.Ab.Seat
end
