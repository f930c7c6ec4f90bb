/- ShadowSame answers true and turns nothing that lay before. -/
import Derived.Test.YtmpijgfndnikpaaGreatDoorBSS3
import Derived.Test.YtmpijgfndnikpaaGreatDoorBS15
import Derived.Deep.RegionWith
import Derived.Deep.Cut
set_option linter.unusedVariables false
set_option linter.unusedSimpArgs false
namespace Go.Proofs.YtmpijgfndnikpaaGreatDoor
open Go.RowKit Go.Ab Go.Ab.Seat

/-- The tally's box. -/
structure BoxT (w0 : World) (B : Nat) (t m : Int) (w : World) : Prop where
  c : w.heap[B]? = some (.cells #[.int .i64 t, .int .i64 m] 113 (0, 0))
  below : Below w0.heap.size w0 w
  ge : w0.heap.size ≤ B

theorem BoxT.facts {w0 : World} {B : Nat} {t m : Int} {w : World} (h : BoxT w0 B t m w) :
    w.cell? ⟨B, 0, none⟩ = some (.int .i64 t) ∧ w.cell? ⟨B, 1, none⟩ = some (.int .i64 m) ∧ w.frozen? ⟨B, 0, none⟩ = false ∧ w.frozen? ⟨B, 1, none⟩ = false ∧ B < w.heap.size := by
  refine ⟨by simp [World.cell?, h.c], by simp [World.cell?, h.c], by simp [World.frozen?, h.c], by simp [World.frozen?, h.c], (Array.getElem?_eq_some_iff.1 h.c).1⟩

theorem BoxT.on {w0 : World} {B : Nat} {t m : Int} {w w3 : World} (h : BoxT w0 B t m w) (hb3 : Below w.heap.size w w3) : BoxT w0 B t m w3 :=
  ⟨(hb3.block B (Array.getElem?_eq_some_iff.1 h.c).1).trans h.c, h.below.trans (hb3.mono h.below.size), h.ge⟩

theorem BoxT.set {w0 : World} {B : Nat} {t m t' m' : Int} {w3 : World} (h : BoxT w0 B t m w3) :
    BoxT w0 B t' m' ((w3.setCell ⟨B, 0, none⟩ (.int .i64 t')).setCell ⟨B, 1, none⟩ (.int .i64 m')) :=
  ⟨setCell_block (k := 1) (setCell_block (k := 0) h.c (.int .i64 t')) (.int .i64 m'), (h.below.setCell (p := ⟨B, 0, none⟩) h.ge _).setCell (p := ⟨B, 1, none⟩) h.ge _, h.ge⟩

set_option maxRecDepth 100000 in
set_option maxHeartbeats 8000000 in
theorem shadowSame_walk (oa : Option Addr) (len cap : Nat) (n most : Int) (w : World) (hw : Laid w) (hlen : len ≤ maxLen)
    (hM : ∀ w', Below w.heap.size w w' → Calls Tryz.prog 75 #[.slice oa len cap, .slice oa len cap] w' fun e w'' => e = .returned (.bool false) ∧ Below w'.heap.size w' w'') :
    Calls Tryz.prog 10 #[.slice oa len cap, .int .i64 n, .int .i64 most] w fun e w' => e = .returned (.bool true) ∧ Below w.heap.size w w' := by
  go_enter Tryz.func10, Tryz.ntmps10
  go_wp2_with (go_at_call 50; refine (begun18_calls hw).2.mono ?_; rintro e w' ⟨rfl, hleft⟩)
  have hN := mod_range n 10 (by omega) (by omega)
  have hK := mod_range most 4 (by omega) (by omega)
  generalize (wrap64 (n.tmod 10 + 10)).tmod 10 = N at hN ⊢
  generalize (wrap64 (most.tmod 4 + 4)).tmod 4 = K at hK ⊢
  obtain ⟨hN0, hN1⟩ := hN
  obtain ⟨hK0, hK1⟩ := hK
  have hb0 : Below w.heap.size w w' := ⟨hleft.os, hleft.tape, hleft.output, hleft.size, hleft.heap⟩
  have hbox : BoxT w w'.heap.size 0 0 (w'.alloc (Obj.cells #[Value.int IntKind.i64 0, Value.int IntKind.i64 0] 113)) :=
    ⟨World.alloc_heap_new w' _, hb0.alloc hb0.size _, hb0.size⟩
  generalize w'.heap.size = B at hbox ⊢
  generalize (w'.alloc (Obj.cells #[Value.int IntKind.i64 0, Value.int IntKind.i64 0] 113)) = w2 at hbox ⊢
  go_loopw [9] (fun i wr => ∃ k : Int, i = .int .i64 k ∧ 0 ≤ k ∧ k ≤ N ∧ BoxT w B k 0 wr) (fun i _ => (N - Go.Lib.intOf i).toNat)
  case atStart => exact ⟨0, rfl, by omega, by omega, hbox⟩
  case round =>
    obtain ⟨k, rfl, hk0, hkN, hbx⟩ := hrel
    obtain ⟨b0, b1, f0, f1, blt⟩ := hbx.facts
    by_cases hlt : k < N
    · have cA := addC k 0 (.slice oa len cap) (.slice oa len cap) wr ⟨hk0, by omega⟩ ⟨by omega, by omega⟩ false (fun w'' hb => hM w'' (hbx.below.trans (hb.mono hbx.below.size)))
      go_wp2_with (go_at_call 73; (with_reducible refine cA.mono ?_); rintro e w3 ⟨rfl, hb3⟩; obtain ⟨c0, c1, g0, g1, clt⟩ := (hbx.on hb3).facts)
      go_roundw
      case rel => exact ⟨k + 1, by first | rfl | trivial | go_num, by omega, by omega, (hbx.on hb3).set⟩
      case measure => simp [Go.Lib.intOf]; omega
    · obtain rfl : k = N := by omega
      obtain ⟨v, hv⟩ : ∃ v : Int, v = if 4 ≤ k then 1 else 0 := ⟨_, rfl⟩
      have cV : ∀ w'', Calls Tryz.prog 74 #[tally k 0, .int .i64 K] w'' fun e w' => e = .returned (.int .i64 v) ∧ Below w''.heap.size w'' w' := fun w'' => (verdictC k 0 K w'').mono (fun e w' h => by rw [if_neg (by omega), ← hv] at h; exact h)
      go_upto_region 10 with (fail)
      go_cut [52] from 11 (fun s52 w' => s52 = .bool false ∧ Below w.heap.size w w')
      case first =>
        obtain ⟨d0, d1, e0, e1, dlt⟩ := (hbx.on ((Below.refl _ wr).drew)).facts
        have hmk := @run_makeMap Tryz.prog
        have hT : ∀ (w : World) (b : Nat), MapAt w b #[] 0 → (Instr.mapUpdate 115 (.map (some b)) (.bool true) (.int .i64 1)).run Tryz.prog w = .ok () (setObjW w b (.map #[⟨.bool true, .int .i64 1, 0⟩] 1)) := fun w b h => ins_run h rfl
        have hF : ∀ (w : World) (b : Nat), MapAt w b #[] 0 → (Instr.mapUpdate 115 (.map (some b)) (.bool false) (.int .i64 0)).run Tryz.prog w = .ok () (setObjW w b (.map #[⟨.bool false, .int .i64 0, 0⟩] 1)) := fun w b h => ins_run h rfl
        have hTF : ∀ (w : World) (b : Nat), MapAt w b #[⟨.bool true, .int .i64 1, 0⟩] 1 → (Instr.mapUpdate 115 (.map (some b)) (.bool false) (.int .i64 0)).run Tryz.prog w = .ok () (setObjW w b (.map #[⟨.bool true, .int .i64 1, 0⟩, ⟨.bool false, .int .i64 0, 1⟩] 2)) := fun w b h => ins_run h rfl
        have hFT : ∀ (w : World) (b : Nat), MapAt w b #[⟨.bool false, .int .i64 0, 0⟩] 1 → (Instr.mapUpdate 115 (.map (some b)) (.bool true) (.int .i64 1)).run Tryz.prog w = .ok () (setObjW w b (.map #[⟨.bool false, .int .i64 0, 0⟩, ⟨.bool true, .int .i64 1, 1⟩] 2)) := fun w b h => ins_run h rfl
        have l1 : ∀ (w : World) (b : Nat), MapAt w b #[⟨.bool true, .int .i64 1, 0⟩, ⟨.bool false, .int .i64 0, 1⟩] 2 → (Instr.lookup 115 (.map (some b)) (.bool (decide (4 ≤ k))) false).run Tryz.prog w = .ok (.int .i64 v) w := by
          intro w b h
          by_cases h4 : 4 ≤ k
          · rw [hv, if_pos h4, decide_eq_true h4]; exact look_run h (i := 0) rfl
          · rw [hv, if_neg h4, decide_eq_false h4]; exact look_run h (i := 1) rfl
        have l2 : ∀ (w : World) (b : Nat), MapAt w b #[⟨.bool false, .int .i64 0, 0⟩, ⟨.bool true, .int .i64 1, 1⟩] 2 → (Instr.lookup 115 (.map (some b)) (.bool (decide (4 ≤ k))) false).run Tryz.prog w = .ok (.int .i64 v) w := by
          intro w b h
          by_cases h4 : 4 ≤ k
          · rw [hv, if_pos h4, decide_eq_true h4]; exact look_run h (i := 1) rfl
          · rw [hv, if_neg h4, decide_eq_false h4]; exact look_run h (i := 0) rfl
        clear hv
        have hget := MapAt.set
        have hsz := setObjW_size
        have hal := MapAt.made
        have hdr : ∀ (w : World) (b : Nat) (es : Array MapEntry) (c : Nat), MapAt w.drew b es c = MapAt w b es c := fun _ _ _ _ => rfl
        have gal := HasB.made
        have gset := HasB.set
        have gdr : ∀ (w : World) (b : Nat), HasB w.drew b = HasB w b := fun _ _ => rfl
        have gal2 : ∀ (w : World) (o : Obj), HasB (w.drew.alloc o) w.heap.size := fun w o => HasB.made w.drew o
        have hc0 : ∀ (w : World) (o : Obj), (setObjW w wr.heap.size o).cell? ⟨B, 0, none⟩ = w.cell? ⟨B, 0, none⟩ := fun w o => setObjW_cell (by show B ≠ _; omega)
        have hc1 : ∀ (w : World) (o : Obj), (setObjW w wr.heap.size o).cell? ⟨B, 1, none⟩ = w.cell? ⟨B, 1, none⟩ := fun w o => setObjW_cell (by show B ≠ _; omega)
        have hal2 : ∀ w : World, MapAt (w.drew.alloc (.map #[] 0)) w.heap.size #[] 0 := fun w => MapAt.made w.drew
        go_wp2
        go_region_with (go_at_call 74; (with_reducible refine (cV _).mono ?_); rintro e w5 ⟨rfl, hb5⟩; have hq5 := MapAt.on hb5; have gq5 := HasB.on hb5)
        all_goals (go_wp2; go_meet; refine ⟨rfl, ?_⟩)
        all_goals (repeat' (first | exact hbx.below | (with_reducible refine below_setObjW ?_ ?_) | (with_reducible refine Below.drew ?_) | (with_reducible refine Below.alloc ?_ ?_ _) | (with_reducible refine Below.trans ?_ (Below.mono hb5 ?_))))
        all_goals (have q1 := hbx.below.size; have q2 := hb5.size; have hdrs : ∀ w : World, w.drew.heap.size = w.heap.size := fun _ => rfl; simp [setObjW_size, hdrs] at q2 ⊢; omega)
      case rest =>
        obtain ⟨rfl, hbw⟩ := hcut
        have hbB : BoxT w wc.heap.size 0 0 (wc.alloc (Obj.cells #[Value.int IntKind.i64 0, Value.int IntKind.i64 0] 113)) :=
          ⟨World.alloc_heap_new wc _, hbw.alloc hbw.size _, hbw.size⟩
        go_wp2
        generalize hB2 : wc.heap.size = B2 at hbB ⊢
        generalize (wc.alloc (Obj.cells #[Value.int IntKind.i64 0, Value.int IntKind.i64 0] 113)) = w2 at hbB ⊢
        go_loopw [11] (fun i wq => ∃ j : Int, i = .int .i64 j ∧ 0 ≤ j ∧ j ≤ K + 1 ∧ BoxT w B2 j j wq) (fun i _ => (K + 1 - Go.Lib.intOf i).toNat)
        case atStart => exact ⟨0, rfl, by omega, by omega, hbB⟩
        case round =>
          obtain ⟨j, rfl, hj0, hjK, hbq⟩ := hrel
          obtain ⟨c0, c1, g0, g1, clt⟩ := hbq.facts
          by_cases hjl : j ≤ K
          · have cU : ∀ (a : Option Addr) (w' : World), Calls Tryz.prog 73 #[tally j j, .slice a 1 1, .slice none 0 0] w' fun e w'' => e = .returned (tally (j + 1) (j + 1)) ∧ Below w'.heap.size w' w'' := fun a w' => addC j j _ _ w' (by omega) (by omega) true (fun w'' _ => by have := misses_to_nil a 1 1 w''; simpa using this)
            go_wp2_with (go_at_call 73; (with_reducible refine (cU _ _).mono ?_); rintro e w3 ⟨rfl, hb3⟩; obtain ⟨d0, d1, e0, e1, dlt⟩ := ((hbq.on (Below.alloc (Below.refl _ _) (Nat.le_refl _) _)).on hb3).facts)
            go_roundw
            case rel => exact ⟨j + 1, by first | rfl | trivial | go_num, by omega, by omega, ((hbq.on (Below.alloc (Below.refl _ _) (Nat.le_refl _) _)).on hb3).set⟩
            case measure => simp [Go.Lib.intOf]; omega
          · obtain rfl : j = K + 1 := by omega
            have cV2 : ∀ w', Calls Tryz.prog 74 #[tally (K + 1) (K + 1), .int .i64 K] w' fun e w'' => e = .returned (.int .i64 2) ∧ Below w'.heap.size w' w'' := fun w' => (verdictC (K + 1) (K + 1) K w').mono (fun e w'' h => by rw [if_pos (by omega)] at h; exact h)
            have cN1 : ∀ w', Calls Tryz.prog 75 #[.slice none 0 0, .slice oa len cap] w' fun e w'' => e = .returned (.bool false) ∧ Below w'.heap.size w' w'' := fun w' => misses_nil _ w'
            by_cases hl : 0 < len
            · have hl2 : (0 : Int) < len := by omega
              have cN2 : ∀ w', Calls Tryz.prog 75 #[.slice oa len cap, .slice none 0 0] w' fun e w'' => e = .returned (.bool true) ∧ Below w'.heap.size w' w'' := fun w' => by have := misses_to_nil oa len cap w'; simpa [hl] using this
              go_wp2_with (first
                | (go_at_call 74; (with_reducible refine (cV2 _).mono ?_); rintro e w5 ⟨rfl, hb5⟩)
                | (go_at_call 75; (with_reducible refine (cN1 _).mono ?_); rintro e w6 ⟨rfl, hb6⟩)
                | (go_at_call 75; (with_reducible refine (cN2 _).mono ?_); rintro e w7 ⟨rfl, hb7⟩))
              go_ret
              exact ⟨rfl, (((hbq.on hb5).on hb6).on hb7).below⟩
            · obtain rfl : len = 0 := by omega
              have cN2 : ∀ w', Calls Tryz.prog 75 #[.slice oa 0 cap, .slice none 0 0] w' fun e w'' => e = .returned (.bool false) ∧ Below w'.heap.size w' w'' := fun w' => by have := misses_to_nil oa 0 cap w'; simpa using this
              go_wp2_with (first
                | (go_at_call 74; (with_reducible refine (cV2 _).mono ?_); rintro e w5 ⟨rfl, hb5⟩)
                | (go_at_call 75; (with_reducible refine (cN1 _).mono ?_); rintro e w6 ⟨rfl, hb6⟩)
                | (go_at_call 75; (with_reducible refine (cN2 _).mono ?_); rintro e w7 ⟨rfl, hb7⟩))
              go_ret
              exact ⟨rfl, (((hbq.on hb5).on hb6).on hb7).below⟩
#print axioms shadowSame_walk
end Go.Proofs.YtmpijgfndnikpaaGreatDoor
