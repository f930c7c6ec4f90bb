import Derived.Test.YtofikbfljjjgeaaGreatDoorDI1
import Derived.Test.YtofikbfljjjgeaaGreatDoorDI2
set_option linter.unusedVariables false
set_option linter.unusedSimpArgs false
section
/- slices.Insert of one int, where there is room (the abstract machine). -/
namespace Go.Ab.Seat
open Go.Extern Go.Proofs
set_option maxRecDepth 4000
namespace InsI
variable {sm : Nat → Option (List Value → M Value)}
theorem exOver : (Cs sm).ex 204 = some xOverlaps := by kernel_rfl
theorem over_spec (H : sm 204 = none) {h : T AObj} {c : Nat} {rl wl : List Nat} {va vb : Addr} {n m vc cap : Nat} {ws cs : List Value} {y : Value} (hv : Has h va.block (.cells ws)) (hc : va.block < c) (hb : Has h vb.block (.cells cs)) (hcb : vb.block < c) (hne : va.block ≠ vb.block) (hy : nth cs 0 = some y) (hm : m = n + 1) :
  ∃ r s', FnTo (Cs sm) eg 204 [.slice (some va) 1 vc, .slice (some vb) m cap] ⟨h, c, rl, wl⟩ r s' ∧ (r = .bool false ∧ s' = ⟨h, c, vb.block :: va.block :: rl, wl⟩) := by
 subst hm
 refine ⟨_, _, FnTo.of_ex H exOver ?_, rfl, rfl⟩
 show (bif Nat.beq va.block vb.block then M.fail else (getCellsW va.block).bind fun _ => (getCellsW vb.block).bind fun cs => match nth cs 0 with | some _ => M.ret (Value.bool false) | none => M.fail) _ = _
 rw [beq_false.2 hne, cond_false, bind_run (getCellsW_run hv hc), bind_run (getCellsW_run hb hcb), hy]
 rfl
theorem nth_sub {o n : Nat} {cs xs : List Value} (h : subN o (n + 1) cs = some xs) : ∃ y, nth cs 0 = some y := by
 cases cs with
 | nil =>
  have := (subN_some _ _ _ _ h).2.1
  simp at this
 | cons y cs => exact ⟨y, rfl⟩
set_option maxHeartbeats 4000000 in
theorem ins_room (H : sm 144 = none) (H' : sm 204 = none) {h : T AObj} {c : Nat} {rl wl : List Nat} (hf : Fresh h c) {b o i m vb vo vc : Nat} {sp : Option Nat} {cs ws vv A B t2 : List Value} (hb : Has h b (.cells cs)) (hs : subN o ((i + 1 + m + 1) * 1) cs = some (A ++ B ++ t2)) (hA : A.length = i * 1) (hB : B.length = (m + 1) * 1)
  (hv : Has h vb (.cells ws)) (hvs : subN vo 1 ws = some vv) (hne : vb ≠ b) (hat : ∀ x ∈ B, atom x = true) (hat' : ∀ x ∈ vv, atom x = true) (hbig : i + 1 + m + 1 ≤ big) :
  ∃ r s', FnTo (Cs sm) eg 144 [.slice (some ⟨b, o, some 1⟩) (i + 1 + m) (i + 1 + m + 1), .int .i64 (i : Int), .slice (some ⟨vb, vo, sp⟩) 1 vc] ⟨h, c, rl, wl⟩ r s' ∧ (r = .slice (some ⟨b, o, some 1⟩) (i + 1 + m + 1) (i + 1 + m + 1) ∧ s'.c = c ∧ ∃ cs', Has s'.h b (.cells cs') ∧ subN o ((i + 1 + m + 1) * 1) cs' = some (A ++ vv ++ B)) ∧ Ext ⟨h, c, rl, wl⟩ s' (fun x => x = b ∨ x = vb) (fun x => x = b) := by
 have l1 := hb.lt hf
 have l2 := hv.lt hf
 have hbg : big = 1048576 := rfl
 have lv : vv.length = 1 := (subN_some _ _ _ _ hvs).1
 have lt2 : t2.length = 1 := by
  have := (subN_some _ _ _ _ hs).1
  simp only [List.length_append] at this
  omega
 -- the row, cut elsewhere
 obtain ⟨X, Y, hXY, hX, hY⟩ : ∃ X Y : List Value, B ++ t2 = X ++ Y ∧ X.length = 1 ∧ Y.length = (m + 1) * 1 := by
  refine ⟨(B ++ t2).take 1, (B ++ t2).drop 1, (List.take_append_drop 1 _).symm, ?_, ?_⟩
  ·rw [List.length_take, List.length_append]; omega
  ·rw [List.length_drop, List.length_append]; omega
 obtain ⟨c1, s1, s2⟩ := setMany_row (o := o) (k := (i + 1) * 1) (A := A ++ X) (B := Y) (B' := B) (D := []) (cs := cs) (n := (i + 1 + m + 1) * 1) (by rw [hs, List.append_assoc, hXY]; simp) (by rw [List.length_append]; omega) (by omega) hat
 obtain ⟨c2, s3, s4⟩ := setMany_row (o := o) (k := i * 1) (A := A) (B := X) (B' := vv) (D := B) (cs := c1) (n := (i + 1 + m + 1) * 1) (by rw [s2]; simp) hA (by omega) hat'
 have hsB : subN (o + i * 1) ((m + 1) * 1) cs = some B := by
  have e : subN o (i * 1 + ((m + 1) * 1 + 1)) cs = some (A ++ (B ++ t2)) := by rw [← List.append_assoc, ← hs]; congr 1; omega
  exact (subN_app (subN_app e hA).2 hB).1
 have hneB : B ≠ [] := by rintro rfl; simp at hB
 have hneV : vv ≠ [] := by rintro rfl; simp at lv
 obtain ⟨y, hy⟩ := nth_sub (n := (i + 1 + m) * 1) (o := o) (cs := cs) (xs := A ++ B ++ t2) (by rw [show (i + 1 + m) * 1 + 1 = (i + 1 + m + 1) * 1 by omega]; exact hs)
 refine Fn.go H ex144 fn144 km144 rfl rfl ?_
 refine Zev ?_
 refine Zgo ?_
 refine Zu (to_sliceOwn el45 rfl rfl rfl (by omega) (by omega)) ?_
 refine Zgo ?_
 refine Zu (to_capI sl45 rfl) ?_
 refine Zu (to_gtrLeast rfl rfl (m := i + 1 + m + 1) (by omega) (by omega)) ?_
 refine Zgo ?_
 refine Zu (to_sliceHi el45 rfl rfl (k := i + 1 + m + 1) (by omega) (by omega) (fun a ha => by cases ha; exact .inr rfl)) ?_
 refine Zgo ?_
 refine Zu (to_sliceOwn el45 rfl rfl (k := i + 1) (by omega) (by omega) (by omega)) ?_
 refine Wseq.call rfl rfl (over_spec (n := m) H' hv (by omega) hb (by omega) hne hy (by omega)) ?_
 rintro v h1 c1' r1 w1 ⟨rfl, e1⟩
 cases e1
 refine Zgo ?_
 refine Zq (to_sliceOwn el45 rfl rfl (k := i + 1) (by omega) (by omega) (by omega)) ?_
 refine Zgo ?_
 refine Zq (to_sliceOwn el45 rfl rfl (k := i) (by omega) (by omega) (by omega)) ?_
 refine Zd (to_copy ro45 rfl rfl (j := m) (by show min _ _ = _; omega) hb.cel (by omega) hsB hneB hb (by omega) s1) ?_
 refine Zgo ?_
 refine Zu (to_sliceOwn el45 rfl rfl (k := i) (by omega) (by omega) (by omega)) ?_
 refine Zgo ?_
 refine Zu (to_copy ro45 rfl rfl (j := 0) (by show min _ _ = _; omega) (hv.other hne).cel (by omega) hvs hneV Has.same (by omega) s3) ?_
 refine Zgo ?_
 refine ⟨.inr rfl, Wres.one rfl ⟨⟨rfl, rfl, _, Has.same, s4⟩, ?_⟩⟩
 exact Zex
theorem ins_roomE (H : sm 144 = none) {h : T AObj} {c : Nat} {rl wl : List Nat} (hf : Fresh h c) {b o n vb vo vc : Nat} {sp : Option Nat} {cs ws vv A t2 : List Value} (hb : Has h b (.cells cs)) (hs : subN o ((n + 1) * 1) cs = some (A ++ t2)) (hA : A.length = n * 1)
  (hv : Has h vb (.cells ws)) (hvs : subN vo 1 ws = some vv) (hat' : ∀ x ∈ vv, atom x = true) (hbig : n + 1 ≤ big) :
  ∃ r s', FnTo (Cs sm) eg 144 [.slice (some ⟨b, o, some 1⟩) n (n + 1), .int .i64 (n : Int), .slice (some ⟨vb, vo, sp⟩) 1 vc] ⟨h, c, rl, wl⟩ r s' ∧ (r = .slice (some ⟨b, o, some 1⟩) (n + 1) (n + 1) ∧ s'.c = c ∧ ∃ cs', Has s'.h b (.cells cs') ∧ subN o ((n + 1) * 1) cs' = some (A ++ vv)) ∧ Ext ⟨h, c, rl, wl⟩ s' (fun x => x = b ∨ x = vb) (fun x => x = b) := by
 have l1 := hb.lt hf
 have l2 := hv.lt hf
 have hbg : big = 1048576 := rfl
 have lv : vv.length = 1 := (subN_some _ _ _ _ hvs).1
 have lt2 : t2.length = 1 := by
  have := (subN_some _ _ _ _ hs).1
  simp only [List.length_append] at this
  omega
 obtain ⟨c2, s3, s4⟩ := setMany_row (o := o) (k := n * 1) (A := A) (B := t2) (B' := vv) (D := []) (cs := cs) (n := (n + 1) * 1) (by rw [hs]; simp) hA (by omega) hat'
 have hneV : vv ≠ [] := by rintro rfl; simp at lv
 refine Fn.go H ex144 fn144 km144 rfl rfl ?_
 refine Zev ?_
 refine Zgo ?_
 refine Zu (to_sliceOwn el45 rfl rfl rfl (by omega) (by omega)) ?_
 refine Zgo ?_
 refine Zu (to_appRoom ro45 sl45 rfl rfl (k := 0) hv.cel (by omega) hvs hneV (by omega) hb (by omega) s3) ?_
 refine Zgo ?_
 refine ⟨.inr rfl, Wres.one rfl ⟨⟨rfl, rfl, _, Has.same, by rw [s4, List.append_nil]⟩, ?_⟩⟩
 exact Zex
theorem ins_fullE (H : sm 144 = none) {h : T AObj} {c : Nat} {rl wl : List Nat} (hf : Fresh h c) {b o n vb vo vc : Nat} {sp : Option Nat} {cs ws vv A : List Value} (hb : Has h b (.cells cs)) (hs : subN o ((n + 1) * 1) cs = some A)
  (hv : Has h vb (.cells ws)) (hvs : subN vo 1 ws = some vv) (hbig : n + 2 ≤ big) :
  ∃ r s', FnTo (Cs sm) eg 144 [.slice (some ⟨b, o, none⟩) (n + 1) (n + 1), .int .i64 ((n + 1 : Nat) : Int), .slice (some ⟨vb, vo, sp⟩) 1 vc] ⟨h, c, rl, wl⟩ r s' ∧ (r = .slice (some ⟨c, 0, some 1⟩) (n + 2) (n + 2) ∧ s'.c = c + 1 ∧ Has s'.h c (.cells (A ++ vv))) ∧ Ext ⟨h, c, rl, wl⟩ s' (fun x => x = b ∨ x = vb) (fun _ => False) := by
 have l1 := hb.lt hf
 have l2 := hv.lt hf
 have hbg : big = 1048576 := rfl
 refine Fn.go H ex144 fn144 km144 rfl rfl ?_
 refine Zev ?_
 refine Zgo ?_
 refine Zu (to_sliceEnd el45 rfl rfl rfl) ?_
 refine Zgo ?_
 refine Zu (to_appFull ro45 sl45 rfl rfl (k := 0) hv.cel (by omega) hvs (by omega) (by omega) hb.cel (by omega) hs Zfr) ?_
 refine Zgo ?_
 refine ⟨.inr rfl, Wres.one rfl ⟨⟨rfl, rfl, Has.same⟩, ?_⟩⟩
 exact Zex
theorem ins_full0 (H : sm 144 = none) {h : T AObj} {c : Nat} {rl wl : List Nat} (hf : Fresh h c) {b o m vb vo vc : Nat} {sp : Option Nat} {cs ws vv B : List Value} (hb : Has h b (.cells cs)) (hs : subN o ((m + 1) * 1) cs = some B)
  (hv : Has h vb (.cells ws)) (hvs : subN vo 1 ws = some vv) (hat : ∀ x ∈ B, atom x = true) (hat' : ∀ x ∈ vv, atom x = true) (hbig : m + 2 ≤ big) :
  ∃ r s', FnTo (Cs sm) eg 144 [.slice (some ⟨b, o, none⟩) (m + 1) (m + 1), .int .i64 0, .slice (some ⟨vb, vo, sp⟩) 1 vc] ⟨h, c, rl, wl⟩ r s' ∧ (r = .slice (some ⟨c, 0, some 1⟩) (m + 2) (m + 2) ∧ s'.c = c + 1 ∧ ∃ cs', Has s'.h c (.cells cs') ∧ subN 0 ((m + 2) * 1) cs' = some (vv ++ B)) ∧ Ext ⟨h, c, rl, wl⟩ s' (fun x => x = b ∨ x = vb) (fun _ => False) := by
 have l1 := hb.lt hf
 have l2 := hv.lt hf
 have hbg : big = 1048576 := rfl
 have lv : vv.length = 1 := (subN_some _ _ _ _ hvs).1
 have lB : B.length = (m + 1) * 1 := (subN_some _ _ _ _ hs).1
 have hneB : B ≠ [] := by rintro rfl; simp at lB
 have hneV : vv ≠ [] := by rintro rfl; simp at lv
 obtain ⟨X, Y, hXY, hX, hY⟩ : ∃ X Y : List Value, [] ++ rep [Value.int .i64 0] (m + 2) = X ++ Y ∧ X.length = 1 ∧ Y.length = (m + 1) * 1 := by
  have hr : (rep [Value.int .i64 0] (m + 2)).length = (m + 2) * 1 := by rw [rep_length]; rfl
  refine ⟨(rep [Value.int .i64 0] (m + 2)).take 1, (rep [Value.int .i64 0] (m + 2)).drop 1, ?_, ?_, ?_⟩
  ·rw [List.take_append_drop]; rfl
  ·rw [List.length_take, hr]; omega
  ·rw [List.length_drop, hr]; omega
 have hc0 : subN 0 ((m + 2) * 1) ([] ++ rep [Value.int .i64 0] (m + 2)) = some (X ++ Y) := by
  rw [hXY]; exact subN_all _ _ (by rw [List.length_append]; omega)
 obtain ⟨c1, s1, s2⟩ := setMany_row (o := 0) (k := 0) (A := []) (B := X) (B' := vv) (D := Y) hc0 rfl (by omega) hat'
 obtain ⟨c2, s3, s4⟩ := setMany_row (o := 0) (k := 1) (A := vv) (B := Y) (B' := B) (D := []) (cs := c1) (n := (m + 2) * 1) (by rw [s2]; simp) lv (by omega) hat
 refine Fn.go H ex144 fn144 km144 rfl rfl ?_
 refine Zev ?_
 refine Zgo ?_
 refine Zu (to_sliceLo el45 rfl rfl (k := 0) rfl (by omega) (by omega) (by omega) (.inl rfl)) ?_
 refine Zgo ?_
 refine Zu (to_capX sl45 rfl) ?_
 refine Zgo ?_
 refine Zu (to_sliceHi el45 rfl rfl (k := 0) rfl (by omega) (fun a ha => by cases ha; exact .inl rfl)) ?_
 refine Zgo ?_
 refine Zu (to_appMake0 ro45 it3 rfl rfl (m := m + 2) (by omega) (by omega) (by omega) Zfr) ?_
 refine Zgo ?_
 refine Zu (to_sliceOwn el45 rfl rfl (k := 0) rfl (by omega) (by omega)) ?_
 refine Zgo ?_
 refine Zu (to_copy ro45 rfl rfl (j := 0) (by show min _ _ = _; omega) (hv.other (by omega)).cel (by omega) hvs hneV Has.same (by omega) (by rw [Nat.zero_mul]; exact s1)) ?_
 refine Zgo ?_
 refine Zq (to_sliceOwn el45 rfl rfl (k := 1) (by omega) (by omega) (by omega)) ?_
 refine Zgo ?_
 refine Zq (to_sliceLo el45 rfl rfl (k := 0) rfl (by omega) (by omega) (by omega) (.inl rfl)) ?_
 refine Zd (to_copy ro45 rfl rfl (j := m) (by show min _ _ = _; omega) ((hb.other (by omega)).other (by omega)).cel (by omega) (by rw [Nat.zero_mul]; exact hs) hneB Has.same (by omega) s3) ?_
 refine Zgo ?_
 refine ⟨.inr rfl, Wres.one rfl ⟨⟨congrArg (fun q => Value.slice (some ⟨c, 0, some 1⟩) q q) (Nat.zero_add (m + 2)), rfl, _, Has.same, by rw [s4, List.append_nil]⟩, ?_⟩⟩
 exact Zex
theorem ins_full (H : sm 144 = none) {h : T AObj} {c : Nat} {rl wl : List Nat} (hf : Fresh h c) {b o i m vb vo vc : Nat} {sp : Option Nat} {cs ws vv A B : List Value} (hb : Has h b (.cells cs)) (hs : subN o ((i + 1 + m + 1) * 1) cs = some (A ++ B)) (hA : A.length = (i + 1) * 1)
  (hv : Has h vb (.cells ws)) (hvs : subN vo 1 ws = some vv) (hat : ∀ x ∈ B, atom x = true) (hat' : ∀ x ∈ vv, atom x = true) (hbig : i + m + 3 ≤ big) :
  ∃ r s', FnTo (Cs sm) eg 144 [.slice (some ⟨b, o, none⟩) (i + 1 + m + 1) (i + 1 + m + 1), .int .i64 ((i + 1 : Nat) : Int), .slice (some ⟨vb, vo, sp⟩) 1 vc] ⟨h, c, rl, wl⟩ r s' ∧ (r = .slice (some ⟨c, 0, some 1⟩) (i + 1 + (m + 2)) (i + 1 + (m + 2)) ∧ s'.c = c + 1 ∧ ∃ cs', Has s'.h c (.cells cs') ∧ subN 0 ((i + 1 + (m + 2)) * 1) cs' = some (A ++ vv ++ B)) ∧ Ext ⟨h, c, rl, wl⟩ s' (fun x => x = b ∨ x = vb) (fun _ => False) := by
 have l1 := hb.lt hf
 have l2 := hv.lt hf
 have hbg : big = 1048576 := rfl
 have lv : vv.length = 1 := (subN_some _ _ _ _ hvs).1
 have lB : B.length = (m + 1) * 1 := by
  have := (subN_some _ _ _ _ hs).1
  simp only [List.length_append] at this
  omega
 have hneB : B ≠ [] := by rintro rfl; simp at lB
 have hneV : vv ≠ [] := by rintro rfl; simp at lv
 have hsB : subN o ((i + 1) * 1) cs = some A ∧ subN (o + (i + 1) * 1) ((m + 1) * 1) cs = some B := subN_app (by rw [← hs]; congr 1; omega) hA
 obtain ⟨X, Y, hXY, hX, hY⟩ : ∃ X Y : List Value, rep [Value.int .i64 0] (m + 2) = X ++ Y ∧ X.length = 1 ∧ Y.length = (m + 1) * 1 := by
  have hr : (rep [Value.int .i64 0] (m + 2)).length = (m + 2) * 1 := by rw [rep_length]; rfl
  refine ⟨(rep [Value.int .i64 0] (m + 2)).take 1, (rep [Value.int .i64 0] (m + 2)).drop 1, ?_, ?_, ?_⟩
  ·rw [List.take_append_drop]
  ·rw [List.length_take, hr]; omega
  ·rw [List.length_drop, hr]; omega
 have hc0 : subN 0 ((i + 1 + (m + 2)) * 1) (A ++ rep [Value.int .i64 0] (m + 2)) = some (A ++ X ++ Y) := by
  rw [hXY, List.append_assoc]; exact subN_all _ _ (by simp only [List.length_append]; omega)
 obtain ⟨c1, s1, s2⟩ := setMany_row (o := 0) (k := (i + 1) * 1) (A := A) (B := X) (B' := vv) (D := Y) hc0 hA (by omega) hat'
 obtain ⟨c2, s3, s4⟩ := setMany_row (o := 0) (k := (i + 1 + 1) * 1) (A := A ++ vv) (B := Y) (B' := B) (D := []) (cs := c1) (n := (i + 1 + (m + 2)) * 1) (by rw [s2]; simp) (by rw [List.length_append]; omega) (by omega) hat
 refine Fn.go H ex144 fn144 km144 rfl rfl ?_
 refine Zev ?_
 refine Zgo ?_
 refine Zu (to_sliceLo el45 rfl rfl (k := i + 1) (by omega) (by omega) (by omega) (by omega) (.inl rfl)) ?_
 refine Zgo ?_
 refine Zu (to_capX sl45 rfl) ?_
 refine Zgo ?_
 refine Zu (to_sliceHi el45 rfl rfl (k := i + 1) (by omega) (by omega) (fun a ha => by cases ha; exact .inl rfl)) ?_
 refine Zgo ?_
 refine Zu (to_appMake ro45 it3 rfl rfl (m := m + 2) (by omega) (by omega) (by omega) hb.cel (by omega) hsB.1 Zfr) ?_
 refine Zgo ?_
 refine Zu (to_sliceOwn el45 rfl rfl (k := i + 1) (by omega) (by omega) (by omega)) ?_
 refine Zgo ?_
 refine Zu (to_copy ro45 rfl rfl (j := 0) (by show min _ _ = _; omega) (hv.other (by omega)).cel (by omega) hvs hneV Has.same (by omega) s1) ?_
 refine Zgo ?_
 refine Zq (to_sliceOwn el45 rfl rfl (k := i + 1 + 1) (by omega) (by omega) (by omega)) ?_
 refine Zgo ?_
 refine Zq (to_sliceLo el45 rfl rfl (k := i + 1) (by omega) (by omega) (by omega) (by omega) (.inl rfl)) ?_
 refine Zd (to_copy ro45 rfl rfl (j := m) (by show min _ _ = _; omega) ((hb.other (by omega)).other (by omega)).cel (by omega) hsB.2 hneB Has.same (by omega) s3) ?_
 refine Zgo ?_
 refine ⟨.inr rfl, Wres.one rfl ⟨⟨rfl, rfl, _, Has.same, by rw [s4, List.append_nil]⟩, ?_⟩⟩
 exact Zex
theorem ins_nil (H : sm 144 = none) {h : T AObj} {c : Nat} {rl wl : List Nat} (hf : Fresh h c) {vb vo vc : Nat} {sp : Option Nat} {ws vv : List Value}
  (hv : Has h vb (.cells ws)) (hvs : subN vo 1 ws = some vv) :
  ∃ r s', FnTo (Cs sm) eg 144 [.slice none 0 0, .int .i64 0, .slice (some ⟨vb, vo, sp⟩) 1 vc] ⟨h, c, rl, wl⟩ r s' ∧ (r = .slice (some ⟨c, 0, some 1⟩) 1 1 ∧ s'.h = h.set c (some (.cells vv)) ∧ s'.c = c + 1 ∧ Has s'.h c (.cells vv)) ∧ Ext ⟨h, c, rl, wl⟩ s' (fun x => x = vb) (fun _ => False) := by
 have l2 := hv.lt hf
 have hbg : big = 1048576 := rfl
 refine Fn.go H ex144 fn144 km144 rfl rfl ?_
 refine Zev ?_
 refine Zgo ?_
 refine Zu (to_sliceLoNil el45 rfl rfl rfl) ?_
 refine Zgo ?_
 refine Zu (to_appNil ro45 sl45 rfl rfl (k := 0) hv.cel (by omega) hvs (by omega) Zfr) ?_
 refine Zgo ?_
 refine ⟨.inr rfl, Wres.one rfl ⟨⟨rfl, rfl, rfl, Has.same⟩, ?_⟩⟩
 exact Zex
end InsI
end Go.Ab.Seat
end
section
/- slices.Insert of one int is known: its summary, its contract. -/
namespace Go.Ab.Seat
open Go.Extern Go.Proofs
namespace InsI
noncomputable def gIns1 (b o n i vb vo : Nat) : M Value :=
 (getCellsW b).bind fun cs => (getCellsW vb).bind fun ws => (M.lift (subN o (n * 1) cs)).bind fun xs => (M.lift (subN vo 1 ws)).bind fun vv =>
  match allB atom xs && allB atom vv with
  | true => skip1.bind fun _ => (putO b none).bind fun _ => (newCells (xs.take (i * 1) ++ vv ++ xs.drop (i * 1))).bind fun k => M.ret (.slice (some ⟨k, 0, some 1⟩) (n + 1) (n + 1))
  | false => M.fail
noncomputable def gIns0 (vb vo : Nat) : M Value :=
 (getCellsW vb).bind fun ws => (M.lift (subN vo 1 ws)).bind fun vv => (newCells vv).bind fun k => M.ret (.slice (some ⟨k, 0, some 1⟩) 1 1)
noncomputable def okI (e n cap vb b : Nat) (z : Int) : Bool := Nat.beq e 1 && Nat.ble 1 cap && Nat.ble n cap && Nat.ble n 1000 && decide (0 ≤ z) && decide (z ≤ (n : Int)) && !(Nat.beq vb b)
noncomputable def gIns (args : List Value) : M Value :=
 match args with
 | [.slice (some ⟨b, o, some e⟩) n cap, .int .i64 z, .slice (some ⟨vb, vo, sp⟩) 1 vc] =>
  match okI e n cap vb b z with
  | true => gIns1 b o n z.toNat vb vo
  | false => M.fail
 | [.slice none 0 0, .int .i64 z, .slice (some ⟨vb, vo, sp⟩) 1 vc] =>
  match decide (z = 0) with
  | true => gIns0 vb vo
  | false => M.fail
 | _ => M.fail
theorem local_gIns (args : List Value) : Local (gIns args) := by
 unfold gIns
 split
 ·split
  ·refine Local.bind (local_getCellsW _) fun cs => Local.bind (local_getCellsW _) fun ws => Local.bind (Local.lift _) fun xs => Local.bind (Local.lift _) fun vv => ?_
   split
   ·exact Local.bind local_skip1 fun _ => Local.bind (Local.putO _ _) fun _ => Local.bind (local_newCells _) fun _ => Local.ret _
   ·exact Local.fail
  ·exact Local.fail
 ·split
  ·exact Local.bind (local_getCellsW _) fun ws => Local.bind (Local.lift _) fun vv => Local.bind (local_newCells _) fun _ => Local.ret _
  ·exact Local.fail
 ·exact Local.fail
theorem endOf_run {k o n c : Nat} {s : St} {ck l : List Value} (h : s.h.get k = some (.cells ck)) (hk : k < s.c) (hs : subN o (n * 1) ck = some l) (hn : n ≤ c) : endOf 1 n (.slice (some ⟨k, o, some 1⟩) n c) s = some ((k, l), ⟨s.h, s.c, k :: s.rl, s.wl⟩) := by
 unfold endOf
 simp only [Nat.beq_refl, ble_iff.2 hn, Bool.and_self]
 obtain ⟨h0, c0, rl, wl⟩ := s
 rw [bind_run (getCellsW_run h hk), bind_run (lift_run hs)]
 rfl
theorem run_room {s : St} {b o n i vb vo vc : Nat} {sp : Option Nat} {cs ws vv xs t2 : List Value} (hb : s.h.get b = some (.cells cs)) (hbc : b < s.c) (hs : subN o ((n + 1) * 1) cs = some (xs ++ t2)) (hx : xs.length = n * 1) (hv : s.h.get vb = some (.cells ws)) (hvc : vb < s.c) (hvs : subN vo 1 ws = some vv) (hne : vb ≠ b)
  (ha : ∀ x ∈ xs, atom x = true) (ha' : ∀ x ∈ vv, atom x = true) (hn : n ≤ 1000) (hi : i ≤ n) :
  ∃ k s1 cs', callB C0 (exec C0 eg k) 144 [.slice (some ⟨b, o, some 1⟩) n (n + 1), .int .i64 (i : Int), .slice (some ⟨vb, vo, sp⟩) 1 vc] ⟨s.h, s.c, [], []⟩ = some (.slice (some ⟨b, o, some 1⟩) (n + 1) (n + 1), s1) ∧ s1.c = s.c ∧ s1.h.get b = some (.cells cs') ∧ subN o ((n + 1) * 1) cs' = some (xs.take (i * 1) ++ vv ++ xs.drop (i * 1)) ∧ ∀ x ∈ s1.wl, x = b ∨ s.c ≤ x := by
 have hf : Fresh (fillT s.h.get s.c) s.c := fun x hx => by rw [fillT_get, if_neg (by omega)]
 have hb' : Has (fillT s.h.get s.c) b (.cells cs) := by unfold Has; rw [fillT_get, if_pos hbc]; exact hb
 have hv' : Has (fillT s.h.get s.c) vb (.cells ws) := by unfold Has; rw [fillT_get, if_pos hvc]; exact hv
 have hbg : big = 1048576 := rfl
 have key : ∃ r s0, FnTo C0 eg 144 [.slice (some ⟨b, o, some 1⟩) n (n + 1), .int .i64 (i : Int), .slice (some ⟨vb, vo, sp⟩) 1 vc] ⟨fillT s.h.get s.c, s.c, [], []⟩ r s0 ∧ (r = .slice (some ⟨b, o, some 1⟩) (n + 1) (n + 1) ∧ s0.c = s.c ∧ ∃ cs', Has s0.h b (.cells cs') ∧ subN o ((n + 1) * 1) cs' = some (xs.take (i * 1) ++ vv ++ xs.drop (i * 1))) ∧ Ext ⟨fillT s.h.get s.c, s.c, [], []⟩ s0 (fun x => x = b ∨ x = vb) (fun x => x = b) := by
  rcases Nat.lt_or_ge i n with h | h
  ·obtain ⟨m, rfl⟩ : ∃ m, n = i + 1 + m := ⟨n - i - 1, by omega⟩
   exact ins_room (sm := fun _ => none) rfl rfl hf hb' (A := xs.take (i * 1)) (B := xs.drop (i * 1)) (t2 := t2) (by rw [List.take_append_drop]; exact hs) (by rw [List.length_take]; omega) (by rw [List.length_drop]; omega) hv' hvs hne (fun x hx => ha x (List.mem_of_mem_drop hx)) ha' (by omega)
  ·obtain rfl : i = n := by omega
   rw [List.take_of_length_le (by omega), List.drop_of_length_le (by omega), List.append_nil]
   exact ins_roomE (sm := fun _ => none) rfl hf hb' hs hx hv' hvs ha' (by omega)
 obtain ⟨r, s0, h1, ⟨rfl, h2, cs', h3, h4⟩, h5⟩ := key
 obtain ⟨k, h6⟩ := FnTo.callB rfl ex144 h1
 obtain ⟨_, h', h7, h8, h9⟩ := callB_up h6 fun x h1 h2 => by omega
 exact ⟨k, _, cs', h7, h2, (h8 b (by omega)).trans h3, h4, fun x hx => by
  rcases h5.wl x hx with q | q
  ·cases q
  ·exact .inl q.2⟩
theorem run_full {s : St} {b o n i vb vo vc : Nat} {sp : Option Nat} {cs ws vv xs : List Value} (hb : s.h.get b = some (.cells cs)) (hbc : b < s.c) (hs : subN o (n * 1) cs = some xs) (hv : s.h.get vb = some (.cells ws)) (hvc : vb < s.c) (hvs : subN vo 1 ws = some vv)
  (ha : ∀ x ∈ xs, atom x = true) (ha' : ∀ x ∈ vv, atom x = true) (hn : n ≤ 1000) (h0 : 1 ≤ n) (hi : i ≤ n) (fr : s.h.get s.c = none) :
  ∃ k s1 cs', callB C0 (exec C0 eg k) 144 [.slice (some ⟨b, o, none⟩) n n, .int .i64 (i : Int), .slice (some ⟨vb, vo, sp⟩) 1 vc] ⟨s.h, s.c, [], []⟩ = some (.slice (some ⟨s.c, 0, some 1⟩) (n + 1) (n + 1), s1) ∧ s1.c = s.c + 1 ∧ s1.h.get s.c = some (.cells cs') ∧ subN 0 ((n + 1) * 1) cs' = some (xs.take (i * 1) ++ vv ++ xs.drop (i * 1)) ∧ ∀ x ∈ s1.wl, x = b ∨ s.c ≤ x := by
 have hf : Fresh (fillT s.h.get s.c) s.c := fun x hx => by rw [fillT_get, if_neg (by omega)]
 have hb' : Has (fillT s.h.get s.c) b (.cells cs) := by unfold Has; rw [fillT_get, if_pos hbc]; exact hb
 have hv' : Has (fillT s.h.get s.c) vb (.cells ws) := by unfold Has; rw [fillT_get, if_pos hvc]; exact hv
 have hbg : big = 1048576 := rfl
 have hx : xs.length = n * 1 := (subN_some _ _ _ _ hs).1
 have key : ∃ r s0, FnTo C0 eg 144 [.slice (some ⟨b, o, none⟩) n n, .int .i64 (i : Int), .slice (some ⟨vb, vo, sp⟩) 1 vc] ⟨fillT s.h.get s.c, s.c, [], []⟩ r s0 ∧ (r = .slice (some ⟨s.c, 0, some 1⟩) (n + 1) (n + 1) ∧ s0.c = s.c + 1 ∧ ∃ cs', Has s0.h s.c (.cells cs') ∧ subN 0 ((n + 1) * 1) cs' = some (xs.take (i * 1) ++ vv ++ xs.drop (i * 1))) ∧ Ext ⟨fillT s.h.get s.c, s.c, [], []⟩ s0 (fun x => x = b ∨ x = vb) (fun _ => False) := by
  rcases Nat.lt_or_ge i n with h | h
  ·cases i with
   | zero =>
    obtain ⟨m, rfl⟩ : ∃ m, n = m + 1 := ⟨n - 1, by omega⟩
    rw [Nat.zero_mul, List.take_zero, List.drop_zero, List.nil_append]
    exact ins_full0 (sm := fun _ => none) rfl hf hb' hs hv' hvs ha ha' (by omega)
   | succ i =>
    obtain ⟨m, rfl⟩ : ∃ m, n = i + 1 + m + 1 := ⟨n - i - 2, by omega⟩
    have := ins_full (sm := fun _ => none) (c := s.c) (rl := []) (wl := []) (sp := sp) (vc := vc) rfl hf hb' (A := xs.take ((i + 1) * 1)) (B := xs.drop ((i + 1) * 1)) (by rw [List.take_append_drop]; exact hs) (by rw [List.length_take]; omega) hv' hvs (fun x hx => ha x (List.mem_of_mem_drop hx)) ha' (by omega)
    rw [show i + 1 + (m + 2) = i + 1 + m + 1 + 1 by omega] at this
    exact this
  ·obtain rfl : i = n := by omega
   obtain ⟨m, rfl⟩ : ∃ m, i = m + 1 := ⟨i - 1, by omega⟩
   rw [List.take_of_length_le (by omega), List.drop_of_length_le (by omega), List.append_nil]
   obtain ⟨r, s0, h1, ⟨h2, h3, h4⟩, h5⟩ := ins_fullE (sm := fun _ => none) (c := s.c) (rl := []) (wl := []) (sp := sp) (vc := vc) rfl hf hb' hs hv' hvs (by omega)
   have lv : vv.length = 1 := (subN_some _ _ _ _ hvs).1
   exact ⟨r, s0, h1, ⟨h2, h3, _, h4, subN_all _ _ (by rw [List.length_append]; omega)⟩, h5⟩
 obtain ⟨r, s0, h1, ⟨rfl, h2, cs', h3, h4⟩, h5⟩ := key
 obtain ⟨k, h6⟩ := FnTo.callB rfl ex144 h1
 obtain ⟨_, h', h7, h8, h9⟩ := callB_up h6 fun x h1 h2 => by
  obtain rfl : x = s.c := by omega
  exact fr
 exact ⟨k, _, cs', h7, h2, (h8 s.c (by omega)).trans h3, h4, fun x hx => by
  rcases h5.wl x hx with q | q
  ·cases q
  ·exact q.2.elim⟩
theorem run_nil {s : St} {vb vo vc : Nat} {sp : Option Nat} {ws vv : List Value} (hv : s.h.get vb = some (.cells ws)) (hvc : vb < s.c) (hvs : subN vo 1 ws = some vv) (fr : s.h.get s.c = none) :
  ∃ k s1, callB C0 (exec C0 eg k) 144 [.slice none 0 0, .int .i64 0, .slice (some ⟨vb, vo, sp⟩) 1 vc] ⟨s.h, s.c, [], []⟩ = some (.slice (some ⟨s.c, 0, some 1⟩) 1 1, s1) ∧ s1.c = s.c + 1 ∧ ∀ x, s1.h.get x = (s.h.set s.c (some (.cells vv))).get x := by
 have hf : Fresh (fillT s.h.get s.c) s.c := fun x hx => by rw [fillT_get, if_neg (by omega)]
 have hv' : Has (fillT s.h.get s.c) vb (.cells ws) := by unfold Has; rw [fillT_get, if_pos hvc]; exact hv
 obtain ⟨r, s0, h1, ⟨rfl, h2, h3, _⟩, h5⟩ := ins_nil (sm := fun _ => none) (c := s.c) (rl := []) (wl := []) (sp := sp) (vc := vc) rfl hf hv' hvs
 obtain ⟨k, h6⟩ := FnTo.callB rfl ex144 h1
 obtain ⟨_, h', h7, h8, h9⟩ := callB_up h6 fun x h1 h2 => by
  obtain rfl : x = s.c := by omega
  exact fr
 refine ⟨k, _, h7, h3, fun x => ?_⟩
 rcases Nat.lt_or_ge x s0.c with hx | hx
 ·show h'.get x = _
  rw [h8 x hx, h2, T.get_set, T.get_set]
  by_cases hc : x = s.c
  ·rw [if_pos hc, if_pos hc]
  ·rw [if_neg hc, if_neg hc, fillT_get, if_pos (by omega)]
 ·show h'.get x = _
  rw [h9 x hx, T.get_set, if_neg (by omega)]
theorem smInsG : SmOne fInsInt gIns := by
 refine ⟨local_gIns, ?_⟩
 intro args s s' v ι w args' R hg ha hr fr hR
 unfold gIns at hg
 split at hg
 ·rename_i b o e n cap z vb vo sp vc
  cases hcond : okI e n cap vb b z with
  | false => rw [hcond] at hg; exact (fail_some hg).elim
  | true =>
   rw [hcond] at hg
   unfold okI at hcond
   simp only at hg
   simp only [Bool.and_eq_true, decide_eq_true_eq, Bool.not_eq_true'] at hcond
   obtain ⟨⟨⟨⟨⟨⟨c1, c2⟩, c3⟩, c4⟩, c5⟩, c6⟩, c7⟩ := hcond
   obtain rfl := beq_iff.1 c1
   have c2 := ble_iff.1 c2
   have c3 := ble_iff.1 c3
   have c4 := ble_iff.1 c4
   have c7 := beq_false.1 c7
   obtain ⟨i, rfl⟩ : ∃ i : Nat, z = (i : Int) := ⟨z.toNat, by omega⟩
   have hi : i ≤ n := by omega
   unfold gIns1 at hg
   obtain ⟨cs, s1, g1, hg⟩ := bind_some hg
   obtain ⟨hb, hbc, rfl⟩ := getCellsW_some g1
   obtain ⟨ws, s2, g2, hg⟩ := bind_some hg
   obtain ⟨hv, hvc, rfl⟩ := getCellsW_some g2
   obtain ⟨xs, s3, g3, hg⟩ := bind_some hg
   obtain ⟨hs, rfl⟩ := lift_some g3
   obtain ⟨vv, s4, g4, hg⟩ := bind_some hg
   obtain ⟨hvs, rfl⟩ := lift_some g4
   cases hat : (allB atom xs && allB atom vv) with
   | false => rw [hat] at hg; exact (fail_some hg).elim
   | true =>
    rw [hat] at hg
    simp only at hg
    rw [Bool.and_eq_true, allB_eq, allB_eq, List.all_eq_true, List.all_eq_true] at hat
    obtain ⟨u, s5, g5, hg⟩ := bind_some hg
    cases g5
    obtain ⟨⟨⟩, s6, g6, hg⟩ := bind_some hg
    obtain ⟨_, _, rfl⟩ := putO_some g6
    obtain ⟨kk, s7, g7, hg⟩ := bind_some hg
    obtain ⟨rfl, rfl⟩ := ret_some hg
    unfold newCells at g7
    rw [forceL_eq] at g7
    obtain ⟨_, rfl, rfl⟩ := newO_some g7
    simp only at hb hbc hv hvc fr hR
    have hx : xs.length = n * 1 := (subN_some _ _ _ _ hs).1
    obtain ⟨x', rest', rfl, hx1, hrest⟩ := ha.cons_inv
    cases hx1 with
    | sliceZ => omega
    | sliceI _ _ _ _ _ c' L hL hc hbd =>
     by_cases hroom : n + 1 ≤ c'
     ·have hmul : (n + 1) * 1 ≤ c' * 1 := Nat.mul_le_mul_right _ hroom
      obtain ⟨t2, ht2, hsub⟩ := pad_sub (m := 1) hs
      rw [show n * 1 + 1 = (n + 1) * 1 by omega] at hsub
      have gb : (s.h.set b (some (.cells (pad cs (o + (n + 1) * 1))))).get b = some (.cells (pad cs (o + (n + 1) * 1))) := by rw [T.get_set, if_pos rfl]
      have gv : (s.h.set b (some (.cells (pad cs (o + (n + 1) * 1))))).get vb = some (.cells ws) := by rw [T.get_set, if_neg c7]; exact hv
      obtain ⟨k, s1, cs', r1, r2, r3, r4, r5⟩ := run_room (s := ⟨s.h.set b (some (.cells (pad cs (o + (n + 1) * 1)))), s.c, [], []⟩) (sp := sp) (vc := vc) gb hbc hsub hx gv hvc hvs c7 hat.1 hat.2 c4 hi
      simp only at r1 r2 r5
      refine fork_case whole0 k 144 1 n b (s.c + 1) (csX := pad cs (o + (n + 1) * 1)) (sX := ⟨s.h.set b (some (.cells (pad cs (o + (n + 1) * 1)))), s.c, [], []⟩) (lm := xs.take (i * 1) ++ vv ++ xs.drop (i * 1)) hr hb hbc (HR.padded hr hb hL (by omega)) gb ?_ (Nat.le_refl _) (fun x hx => by cases hx) r1 (endOf_run r3 (by rw [r2]; exact hbc) r4 (Nat.le_refl _))
       (VRl.cons (.sliceI b o 1 n (n + 1) c' L hL hroom hbd) hrest) (by omega) (.inl rfl) r5 (fun x h1 h2 => fr x h1 (by omega)) (fun _ _ h => h) rfl rfl hR
      intro x hx
      show (s.h.set b _).get x = _
      rw [T.get_set, if_neg hx]
     ·obtain rfl : c' = n := by omega
      have fc : s.h.get s.c = none := by
       cases hq : s.h.get s.c with
       | none => rfl
       | some q =>
        obtain ⟨L', hL', _⟩ := hr.obj _ _ hq
        rw [fr s.c (Nat.le_refl _) (by omega)] at hL'
        cases hL'
      obtain ⟨k, s1, cs', r1, r2, r3, r4, r5⟩ := run_full (s := s) (sp := sp) (vc := vc) hb hbc hs hv hvc hvs hat.1 hat.2 c4 (by omega) hi fc
      refine fork_case whole0 k 144 1 c' b (s.c + 1) (csX := cs) (sX := ⟨s.h, s.c, [], []⟩) (lm := xs.take (i * 1) ++ vv ++ xs.drop (i * 1)) hr hb hbc hr hb (fun _ _ => rfl) (Nat.le_refl _) (fun x hx => by cases hx) r1 (endOf_run r3 (by omega) r4 (Nat.le_refl _))
       (VRl.cons (.sliceX b o c' c' L hL) hrest) (by omega) (.inr (Nat.le_refl _)) r5 (fun x h1 h2 => fr x h1 (by omega)) (fun _ _ h => h) rfl rfl hR
 ·rename_i z vb vo sp vc
  cases hz : decide (z = 0) with
  | false => rw [hz] at hg; exact (fail_some hg).elim
  | true =>
   rw [hz] at hg
   simp only at hg
   obtain rfl := of_decide_eq_true hz
   unfold gIns0 at hg
   obtain ⟨ws, s2, g2, hg⟩ := bind_some hg
   obtain ⟨hv, hvc, rfl⟩ := getCellsW_some g2
   obtain ⟨vv, s4, g4, hg⟩ := bind_some hg
   obtain ⟨hvs, rfl⟩ := lift_some g4
   obtain ⟨kk, s7, g7, hg⟩ := bind_some hg
   obtain ⟨rfl, rfl⟩ := ret_some hg
   unfold newCells at g7
   rw [forceL_eq] at g7
   obtain ⟨fc, rfl, rfl⟩ := newO_some g7
   simp only at fc fr hR
   obtain ⟨k, s1, r1, r2, r3⟩ := run_nil (s := s) (sp := sp) (vc := vc) hv hvc hvs fc
   refine calls_of_abs whole0 k 144 r1 ha hr (fun x h1 h2 => fr x h1 (by omega)) fun v' w' ι' hv' hp => hR v' w' ι' hv' ?_
   exact ⟨hp.ext, fun b hb h => hp.new b hb (by simp only at h ⊢; omega), hr_congr hp.hr fun x => (r3 x).symm, hp.os, hp.tape, hp.output, hp.size, hp.frame, fun k hk ho => hp.own k hk (owned_congr ho r3), by simp only; omega⟩
 ·exact (fail_some hg).elim
end InsI
end Go.Ab.Seat
end
