/- slices.Insert of one hit, where there is room (the abstract machine). -/
import Derived.Test.YtofikbfljjjgeaaGreatDoorE50
import Derived.Test.YtofikbfljjjgeaaGreatDoorDF2
set_option linter.unusedVariables false
set_option linter.unusedSimpArgs false
namespace Go.Ab.Seat
open Go.Extern Go.Proofs
set_option maxRecDepth 4000
variable {sm : Nat → Option (List Value → M Value)}
theorem it3 : intT (Cs sm) 3 = true := by kernel_rfl
theorem exOver : (Cs sm).ex 227 = some xOverlaps := by kernel_rfl
theorem over_spec (H : sm 227 = none) {h : T AObj} {c : Nat} {rl wl : List Nat} {va vb : Addr} {n m vc cap : Nat} {ws cs : List Value} {y : Value} (hv : Has h va.block (.cells ws)) (hc : va.block < c) (hb : Has h vb.block (.cells cs)) (hcb : vb.block < c) (hne : va.block ≠ vb.block) (hy : nth cs 0 = some y) (hm : m = n + 1) :
  ∃ r s', FnTo (Cs sm) eg 227 [.slice (some va) 1 vc, .slice (some vb) m cap] ⟨h, c, rl, wl⟩ r s' ∧ (r = .bool false ∧ s' = ⟨h, c, vb.block :: va.block :: rl, wl⟩) := by
 subst hm
 refine ⟨_, _, FnTo.of_ex H exOver ?_, rfl, rfl⟩
 show (bif Nat.beq va.block vb.block then M.fail else (getCellsW va.block).bind fun _ => (getCellsW vb.block).bind fun cs => match nth cs 0 with | some _ => M.ret (Value.bool false) | none => M.fail) _ = _
 rw [beq_false.2 hne, cond_false, bind_run (getCellsW_run hv hc), bind_run (getCellsW_run hb hcb), hy]
 rfl
theorem nth_sub {o n : Nat} {cs xs : List Value} (h : subN o (n + 1) cs = some xs) : ∃ y, nth cs 0 = some y := by
 cases cs with
 | nil =>
  have := (subN_some _ _ _ _ h).2.1
  simp at this
 | cons y cs => exact ⟨y, rfl⟩
set_option maxHeartbeats 4000000 in
theorem ins_room (H : sm 200 = none) (H' : sm 227 = none) {h : T AObj} {c : Nat} {rl wl : List Nat} (hf : Fresh h c) {b o i m vb vo vc : Nat} {sp : Option Nat} {cs ws vv A B t2 : List Value} (hb : Has h b (.cells cs)) (hs : subN o ((i + 1 + m + 1) * 2) cs = some (A ++ B ++ t2)) (hA : A.length = i * 2) (hB : B.length = (m + 1) * 2)
  (hv : Has h vb (.cells ws)) (hvs : subN vo 2 ws = some vv) (hne : vb ≠ b) (hat : ∀ x ∈ B, atom x = true) (hat' : ∀ x ∈ vv, atom x = true) (hbig : i + 1 + m + 1 ≤ big) :
  ∃ r s', FnTo (Cs sm) eg 200 [.slice (some ⟨b, o, some 2⟩) (i + 1 + m) (i + 1 + m + 1), .int .i64 (i : Int), .slice (some ⟨vb, vo, sp⟩) 1 vc] ⟨h, c, rl, wl⟩ r s' ∧ (r = .slice (some ⟨b, o, some 2⟩) (i + 1 + m + 1) (i + 1 + m + 1) ∧ s'.c = c ∧ ∃ cs', Has s'.h b (.cells cs') ∧ subN o ((i + 1 + m + 1) * 2) cs' = some (A ++ vv ++ B)) ∧ Ext ⟨h, c, rl, wl⟩ s' (fun x => x = b ∨ x = vb) (fun x => x = b) := by
 have l1 := hb.lt hf
 have l2 := hv.lt hf
 have hbg : big = 1048576 := rfl
 have lv : vv.length = 2 := (subN_some _ _ _ _ hvs).1
 have lt2 : t2.length = 2 := by
  have := (subN_some _ _ _ _ hs).1
  simp only [List.length_append] at this
  omega
 -- the row, cut elsewhere
 obtain ⟨X, Y, hXY, hX, hY⟩ : ∃ X Y : List Value, B ++ t2 = X ++ Y ∧ X.length = 2 ∧ Y.length = (m + 1) * 2 := by
  refine ⟨(B ++ t2).take 2, (B ++ t2).drop 2, (List.take_append_drop 2 _).symm, ?_, ?_⟩
  ·rw [List.length_take, List.length_append]; omega
  ·rw [List.length_drop, List.length_append]; omega
 obtain ⟨c1, s1, s2⟩ := setMany_row (o := o) (k := (i + 1) * 2) (A := A ++ X) (B := Y) (B' := B) (D := []) (cs := cs) (n := (i + 1 + m + 1) * 2) (by rw [hs, List.append_assoc, hXY]; simp) (by rw [List.length_append]; omega) (by omega) hat
 obtain ⟨c2, s3, s4⟩ := setMany_row (o := o) (k := i * 2) (A := A) (B := X) (B' := vv) (D := B) (cs := c1) (n := (i + 1 + m + 1) * 2) (by rw [s2]; simp) hA (by omega) hat'
 have hsB : subN (o + i * 2) ((m + 1) * 2) cs = some B := by
  have e : subN o (i * 2 + ((m + 1) * 2 + 2)) cs = some (A ++ (B ++ t2)) := by rw [← List.append_assoc, ← hs]; congr 1; omega
  exact (subN_app (subN_app e hA).2 hB).1
 have hneB : B ≠ [] := by rintro rfl; simp at hB
 have hneV : vv ≠ [] := by rintro rfl; simp at lv
 obtain ⟨y, hy⟩ := nth_sub (n := (i + 1 + m) * 2 + 1) (o := o) (cs := cs) (xs := A ++ B ++ t2) (by rw [show (i + 1 + m) * 2 + 1 + 1 = (i + 1 + m + 1) * 2 by omega]; exact hs)
 refine Fn.go H ex200 fn200 km200 rfl rfl ?_
 refine Zev ?_
 refine Zgo ?_
 refine Zu (to_sliceOwn el37 rfl rfl rfl (by omega) (by omega)) ?_
 refine Zgo ?_
 refine Zu (to_capI sl37 rfl) ?_
 refine Zu (to_gtrLeast rfl rfl (m := i + 1 + m + 1) (by omega) (by omega)) ?_
 refine Zgo ?_
 refine Zu (to_sliceHi el37 rfl rfl (k := i + 1 + m + 1) (by omega) (by omega) (fun a ha => by cases ha; exact .inr rfl)) ?_
 refine Zgo ?_
 refine Zu (to_sliceOwn el37 rfl rfl (k := i + 1) (by omega) (by omega) (by omega)) ?_
 refine Wseq.call rfl rfl (over_spec (n := m) H' hv (by omega) hb (by omega) hne hy (by omega)) ?_
 rintro v h1 c1' r1 w1 ⟨rfl, e1⟩
 cases e1
 refine Zgo ?_
 refine Zq (to_sliceOwn el37 rfl rfl (k := i + 1) (by omega) (by omega) (by omega)) ?_
 refine Zgo ?_
 refine Zq (to_sliceOwn el37 rfl rfl (k := i) (by omega) (by omega) (by omega)) ?_
 refine Zd (to_copy ro37 rfl rfl (j := m) (by show min _ _ = _; omega) hb.cel (by omega) hsB hneB hb (by omega) s1) ?_
 refine Zgo ?_
 refine Zu (to_sliceOwn el37 rfl rfl (k := i) (by omega) (by omega) (by omega)) ?_
 refine Zgo ?_
 refine Zu (to_copy ro37 rfl rfl (j := 0) (by show min _ _ = _; omega) (hv.other hne).cel (by omega) hvs hneV Has.same (by omega) s3) ?_
 refine Zgo ?_
 refine ⟨.inr rfl, Wres.one rfl ⟨⟨rfl, rfl, _, Has.same, s4⟩, ?_⟩⟩
 exact Zex
theorem ins_roomE (H : sm 200 = none) {h : T AObj} {c : Nat} {rl wl : List Nat} (hf : Fresh h c) {b o n vb vo vc : Nat} {sp : Option Nat} {cs ws vv A t2 : List Value} (hb : Has h b (.cells cs)) (hs : subN o ((n + 1) * 2) cs = some (A ++ t2)) (hA : A.length = n * 2)
  (hv : Has h vb (.cells ws)) (hvs : subN vo 2 ws = some vv) (hat' : ∀ x ∈ vv, atom x = true) (hbig : n + 1 ≤ big) :
  ∃ r s', FnTo (Cs sm) eg 200 [.slice (some ⟨b, o, some 2⟩) n (n + 1), .int .i64 (n : Int), .slice (some ⟨vb, vo, sp⟩) 1 vc] ⟨h, c, rl, wl⟩ r s' ∧ (r = .slice (some ⟨b, o, some 2⟩) (n + 1) (n + 1) ∧ s'.c = c ∧ ∃ cs', Has s'.h b (.cells cs') ∧ subN o ((n + 1) * 2) cs' = some (A ++ vv)) ∧ Ext ⟨h, c, rl, wl⟩ s' (fun x => x = b ∨ x = vb) (fun x => x = b) := by
 have l1 := hb.lt hf
 have l2 := hv.lt hf
 have hbg : big = 1048576 := rfl
 have lv : vv.length = 2 := (subN_some _ _ _ _ hvs).1
 have lt2 : t2.length = 2 := by
  have := (subN_some _ _ _ _ hs).1
  simp only [List.length_append] at this
  omega
 obtain ⟨c2, s3, s4⟩ := setMany_row (o := o) (k := n * 2) (A := A) (B := t2) (B' := vv) (D := []) (cs := cs) (n := (n + 1) * 2) (by rw [hs]; simp) hA (by omega) hat'
 have hneV : vv ≠ [] := by rintro rfl; simp at lv
 refine Fn.go H ex200 fn200 km200 rfl rfl ?_
 refine Zev ?_
 refine Zgo ?_
 refine Zu (to_sliceOwn el37 rfl rfl rfl (by omega) (by omega)) ?_
 refine Zgo ?_
 refine Zu (to_appRoom ro37 sl37 rfl rfl (k := 0) hv.cel (by omega) hvs hneV (by omega) hb (by omega) s3) ?_
 refine Zgo ?_
 refine ⟨.inr rfl, Wres.one rfl ⟨⟨rfl, rfl, _, Has.same, by rw [s4, List.append_nil]⟩, ?_⟩⟩
 exact Zex
theorem ins_fullE (H : sm 200 = none) {h : T AObj} {c : Nat} {rl wl : List Nat} (hf : Fresh h c) {b o n vb vo vc : Nat} {sp : Option Nat} {cs ws vv A : List Value} (hb : Has h b (.cells cs)) (hs : subN o ((n + 1) * 2) cs = some A)
  (hv : Has h vb (.cells ws)) (hvs : subN vo 2 ws = some vv) (hbig : n + 2 ≤ big) :
  ∃ r s', FnTo (Cs sm) eg 200 [.slice (some ⟨b, o, none⟩) (n + 1) (n + 1), .int .i64 ((n + 1 : Nat) : Int), .slice (some ⟨vb, vo, sp⟩) 1 vc] ⟨h, c, rl, wl⟩ r s' ∧ (r = .slice (some ⟨c, 0, some 2⟩) (n + 2) (n + 2) ∧ s'.c = c + 1 ∧ Has s'.h c (.cells (A ++ vv))) ∧ Ext ⟨h, c, rl, wl⟩ s' (fun x => x = b ∨ x = vb) (fun _ => False) := by
 have l1 := hb.lt hf
 have l2 := hv.lt hf
 have hbg : big = 1048576 := rfl
 refine Fn.go H ex200 fn200 km200 rfl rfl ?_
 refine Zev ?_
 refine Zgo ?_
 refine Zu (to_sliceEnd el37 rfl rfl rfl) ?_
 refine Zgo ?_
 refine Zu (to_appFull ro37 sl37 rfl rfl (k := 0) hv.cel (by omega) hvs (by omega) (by omega) hb.cel (by omega) hs Zfr) ?_
 refine Zgo ?_
 refine ⟨.inr rfl, Wres.one rfl ⟨⟨rfl, rfl, Has.same⟩, ?_⟩⟩
 exact Zex
theorem ins_full0 (H : sm 200 = none) {h : T AObj} {c : Nat} {rl wl : List Nat} (hf : Fresh h c) {b o m vb vo vc : Nat} {sp : Option Nat} {cs ws vv B : List Value} (hb : Has h b (.cells cs)) (hs : subN o ((m + 1) * 2) cs = some B)
  (hv : Has h vb (.cells ws)) (hvs : subN vo 2 ws = some vv) (hat : ∀ x ∈ B, atom x = true) (hat' : ∀ x ∈ vv, atom x = true) (hbig : m + 2 ≤ big) :
  ∃ r s', FnTo (Cs sm) eg 200 [.slice (some ⟨b, o, none⟩) (m + 1) (m + 1), .int .i64 0, .slice (some ⟨vb, vo, sp⟩) 1 vc] ⟨h, c, rl, wl⟩ r s' ∧ (r = .slice (some ⟨c, 0, some 2⟩) (m + 2) (m + 2) ∧ s'.c = c + 1 ∧ ∃ cs', Has s'.h c (.cells cs') ∧ subN 0 ((m + 2) * 2) cs' = some (vv ++ B)) ∧ Ext ⟨h, c, rl, wl⟩ s' (fun x => x = b ∨ x = vb) (fun _ => False) := by
 have l1 := hb.lt hf
 have l2 := hv.lt hf
 have hbg : big = 1048576 := rfl
 have lv : vv.length = 2 := (subN_some _ _ _ _ hvs).1
 have lB : B.length = (m + 1) * 2 := (subN_some _ _ _ _ hs).1
 have hneB : B ≠ [] := by rintro rfl; simp at lB
 have hneV : vv ≠ [] := by rintro rfl; simp at lv
 obtain ⟨X, Y, hXY, hX, hY⟩ : ∃ X Y : List Value, [] ++ rep [Value.int .i64 0, Value.int .i64 0] (m + 2) = X ++ Y ∧ X.length = 2 ∧ Y.length = (m + 1) * 2 := by
  have hr : (rep [Value.int .i64 0, Value.int .i64 0] (m + 2)).length = (m + 2) * 2 := by rw [rep_length]; rfl
  refine ⟨(rep [Value.int .i64 0, Value.int .i64 0] (m + 2)).take 2, (rep [Value.int .i64 0, Value.int .i64 0] (m + 2)).drop 2, ?_, ?_, ?_⟩
  ·rw [List.take_append_drop]; rfl
  ·rw [List.length_take, hr]; omega
  ·rw [List.length_drop, hr]; omega
 have hc0 : subN 0 ((m + 2) * 2) ([] ++ rep [Value.int .i64 0, Value.int .i64 0] (m + 2)) = some (X ++ Y) := by
  rw [hXY]; exact subN_all _ _ (by rw [List.length_append]; omega)
 obtain ⟨c1, s1, s2⟩ := setMany_row (o := 0) (k := 0) (A := []) (B := X) (B' := vv) (D := Y) hc0 rfl (by omega) hat'
 obtain ⟨c2, s3, s4⟩ := setMany_row (o := 0) (k := 2) (A := vv) (B := Y) (B' := B) (D := []) (cs := c1) (n := (m + 2) * 2) (by rw [s2]; simp) lv (by omega) hat
 refine Fn.go H ex200 fn200 km200 rfl rfl ?_
 refine Zev ?_
 refine Zgo ?_
 refine Zu (to_sliceLo el37 rfl rfl (k := 0) rfl (by omega) (by omega) (by omega) (.inl rfl)) ?_
 refine Zgo ?_
 refine Zu (to_capX sl37 rfl) ?_
 refine Zgo ?_
 refine Zu (to_sliceHi el37 rfl rfl (k := 0) rfl (by omega) (fun a ha => by cases ha; exact .inl rfl)) ?_
 refine Zgo ?_
 refine Zu (to_appMake0 ro37 it3 rfl rfl (m := m + 2) (by omega) (by omega) (by omega) Zfr) ?_
 refine Zgo ?_
 refine Zu (to_sliceOwn el37 rfl rfl (k := 0) rfl (by omega) (by omega)) ?_
 refine Zgo ?_
 refine Zu (to_copy ro37 rfl rfl (j := 0) (by show min _ _ = _; omega) (hv.other (by omega)).cel (by omega) hvs hneV Has.same (by omega) (by rw [Nat.zero_mul]; exact s1)) ?_
 refine Zgo ?_
 refine Zq (to_sliceOwn el37 rfl rfl (k := 1) (by omega) (by omega) (by omega)) ?_
 refine Zgo ?_
 refine Zq (to_sliceLo el37 rfl rfl (k := 0) rfl (by omega) (by omega) (by omega) (.inl rfl)) ?_
 refine Zd (to_copy ro37 rfl rfl (j := m) (by show min _ _ = _; omega) ((hb.other (by omega)).other (by omega)).cel (by omega) (by rw [Nat.zero_mul]; exact hs) hneB Has.same (by omega) s3) ?_
 refine Zgo ?_
 refine ⟨.inr rfl, Wres.one rfl ⟨⟨congrArg (fun q => Value.slice (some ⟨c, 0, some 2⟩) q q) (Nat.zero_add (m + 2)), rfl, _, Has.same, by rw [s4, List.append_nil]⟩, ?_⟩⟩
 exact Zex
theorem ins_full (H : sm 200 = none) {h : T AObj} {c : Nat} {rl wl : List Nat} (hf : Fresh h c) {b o i m vb vo vc : Nat} {sp : Option Nat} {cs ws vv A B : List Value} (hb : Has h b (.cells cs)) (hs : subN o ((i + 1 + m + 1) * 2) cs = some (A ++ B)) (hA : A.length = (i + 1) * 2)
  (hv : Has h vb (.cells ws)) (hvs : subN vo 2 ws = some vv) (hat : ∀ x ∈ B, atom x = true) (hat' : ∀ x ∈ vv, atom x = true) (hbig : i + m + 3 ≤ big) :
  ∃ r s', FnTo (Cs sm) eg 200 [.slice (some ⟨b, o, none⟩) (i + 1 + m + 1) (i + 1 + m + 1), .int .i64 ((i + 1 : Nat) : Int), .slice (some ⟨vb, vo, sp⟩) 1 vc] ⟨h, c, rl, wl⟩ r s' ∧ (r = .slice (some ⟨c, 0, some 2⟩) (i + 1 + (m + 2)) (i + 1 + (m + 2)) ∧ s'.c = c + 1 ∧ ∃ cs', Has s'.h c (.cells cs') ∧ subN 0 ((i + 1 + (m + 2)) * 2) cs' = some (A ++ vv ++ B)) ∧ Ext ⟨h, c, rl, wl⟩ s' (fun x => x = b ∨ x = vb) (fun _ => False) := by
 have l1 := hb.lt hf
 have l2 := hv.lt hf
 have hbg : big = 1048576 := rfl
 have lv : vv.length = 2 := (subN_some _ _ _ _ hvs).1
 have lB : B.length = (m + 1) * 2 := by
  have := (subN_some _ _ _ _ hs).1
  simp only [List.length_append] at this
  omega
 have hneB : B ≠ [] := by rintro rfl; simp at lB
 have hneV : vv ≠ [] := by rintro rfl; simp at lv
 have hsB : subN o ((i + 1) * 2) cs = some A ∧ subN (o + (i + 1) * 2) ((m + 1) * 2) cs = some B := subN_app (by rw [← hs]; congr 1; omega) hA
 obtain ⟨X, Y, hXY, hX, hY⟩ : ∃ X Y : List Value, rep [Value.int .i64 0, Value.int .i64 0] (m + 2) = X ++ Y ∧ X.length = 2 ∧ Y.length = (m + 1) * 2 := by
  have hr : (rep [Value.int .i64 0, Value.int .i64 0] (m + 2)).length = (m + 2) * 2 := by rw [rep_length]; rfl
  refine ⟨(rep [Value.int .i64 0, Value.int .i64 0] (m + 2)).take 2, (rep [Value.int .i64 0, Value.int .i64 0] (m + 2)).drop 2, ?_, ?_, ?_⟩
  ·rw [List.take_append_drop]
  ·rw [List.length_take, hr]; omega
  ·rw [List.length_drop, hr]; omega
 have hc0 : subN 0 ((i + 1 + (m + 2)) * 2) (A ++ rep [Value.int .i64 0, Value.int .i64 0] (m + 2)) = some (A ++ X ++ Y) := by
  rw [hXY, List.append_assoc]; exact subN_all _ _ (by simp only [List.length_append]; omega)
 obtain ⟨c1, s1, s2⟩ := setMany_row (o := 0) (k := (i + 1) * 2) (A := A) (B := X) (B' := vv) (D := Y) hc0 hA (by omega) hat'
 obtain ⟨c2, s3, s4⟩ := setMany_row (o := 0) (k := (i + 1 + 1) * 2) (A := A ++ vv) (B := Y) (B' := B) (D := []) (cs := c1) (n := (i + 1 + (m + 2)) * 2) (by rw [s2]; simp) (by rw [List.length_append]; omega) (by omega) hat
 refine Fn.go H ex200 fn200 km200 rfl rfl ?_
 refine Zev ?_
 refine Zgo ?_
 refine Zu (to_sliceLo el37 rfl rfl (k := i + 1) (by omega) (by omega) (by omega) (by omega) (.inl rfl)) ?_
 refine Zgo ?_
 refine Zu (to_capX sl37 rfl) ?_
 refine Zgo ?_
 refine Zu (to_sliceHi el37 rfl rfl (k := i + 1) (by omega) (by omega) (fun a ha => by cases ha; exact .inl rfl)) ?_
 refine Zgo ?_
 refine Zu (to_appMake ro37 it3 rfl rfl (m := m + 2) (by omega) (by omega) (by omega) hb.cel (by omega) hsB.1 Zfr) ?_
 refine Zgo ?_
 refine Zu (to_sliceOwn el37 rfl rfl (k := i + 1) (by omega) (by omega) (by omega)) ?_
 refine Zgo ?_
 refine Zu (to_copy ro37 rfl rfl (j := 0) (by show min _ _ = _; omega) (hv.other (by omega)).cel (by omega) hvs hneV Has.same (by omega) s1) ?_
 refine Zgo ?_
 refine Zq (to_sliceOwn el37 rfl rfl (k := i + 1 + 1) (by omega) (by omega) (by omega)) ?_
 refine Zgo ?_
 refine Zq (to_sliceLo el37 rfl rfl (k := i + 1) (by omega) (by omega) (by omega) (by omega) (.inl rfl)) ?_
 refine Zd (to_copy ro37 rfl rfl (j := m) (by show min _ _ = _; omega) ((hb.other (by omega)).other (by omega)).cel (by omega) hsB.2 hneB Has.same (by omega) s3) ?_
 refine Zgo ?_
 refine ⟨.inr rfl, Wres.one rfl ⟨⟨rfl, rfl, _, Has.same, by rw [s4, List.append_nil]⟩, ?_⟩⟩
 exact Zex
theorem ins_nil (H : sm 200 = none) {h : T AObj} {c : Nat} {rl wl : List Nat} (hf : Fresh h c) {vb vo vc : Nat} {sp : Option Nat} {ws vv : List Value}
  (hv : Has h vb (.cells ws)) (hvs : subN vo 2 ws = some vv) :
  ∃ r s', FnTo (Cs sm) eg 200 [.slice none 0 0, .int .i64 0, .slice (some ⟨vb, vo, sp⟩) 1 vc] ⟨h, c, rl, wl⟩ r s' ∧ (r = .slice (some ⟨c, 0, some 2⟩) 1 1 ∧ s'.h = h.set c (some (.cells vv)) ∧ s'.c = c + 1 ∧ Has s'.h c (.cells vv)) ∧ Ext ⟨h, c, rl, wl⟩ s' (fun x => x = vb) (fun _ => False) := by
 have l2 := hv.lt hf
 have hbg : big = 1048576 := rfl
 refine Fn.go H ex200 fn200 km200 rfl rfl ?_
 refine Zev ?_
 refine Zgo ?_
 refine Zu (to_sliceLoNil el37 rfl rfl rfl) ?_
 refine Zgo ?_
 refine Zu (to_appNil ro37 sl37 rfl rfl (k := 0) hv.cel (by omega) hvs (by omega) Zfr) ?_
 refine Zgo ?_
 refine ⟨.inr rfl, Wres.one rfl ⟨⟨rfl, rfl, rfl, Has.same⟩, ?_⟩⟩
 exact Zex
end Go.Ab.Seat
