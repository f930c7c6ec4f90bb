/- BucketPace answers true and turns nothing that lay before: for every two integers, in a world in which the listed variables are as laid. -/
import Derived.Test.YtmpijgfndnikpaaGreatDoorBS15
import Derived.Test.YtmpijgfndnikpaaGreatDoorBS16
import Derived.Test.YtmpijgfndnikpaaGreatDoorE27
import Derived.WalkKit
set_option linter.unusedVariables false
set_option linter.unusedSimpArgs false
namespace Go.Proofs.YtmpijgfndnikpaaGreatDoor
open Go.RowKit Go.Ab Go.Ab.Seat

abbrev bkt (m p h : Int) : Value := .agg #[.int .i64 m, .int .i64 p, .int .i64 h]

theorem newC {w : World} (hw : Laid w) : Calls Tryz.prog 67 #[.int .i64 2, .int .i64 1] w fun e w' => e = .returned (bkt 2 1 2) ∧ Below w.heap.size w w' :=
  closed_gives whole18 (fuel := 200) (args := [.int .i64 2, .int .i64 1]) (by kernel_rfl) (by kernel_rfl) hw

theorem takeC {w : World} (hw : Laid w) {h : Int} (h0 : 0 ≤ h) (h2 : h ≤ 2) : Calls Tryz.prog 68 #[bkt 2 1 h] w fun e w' => e = .returned (.tuple #[bkt 2 1 (h - min h 1), .bool (decide (0 < h))]) ∧ Below w.heap.size w w' := by
  have h3 : h = 0 ∨ h = 1 ∨ h = 2 := by omega
  rcases h3 with rfl | rfl | rfl
  · exact closed_gives whole18 (fuel := 200) (args := [bkt 2 1 0]) (v := .tuple #[bkt 2 1 0, .bool false]) (by kernel_rfl) (by kernel_rfl) hw
  · exact closed_gives whole18 (fuel := 200) (args := [bkt 2 1 1]) (v := .tuple #[bkt 2 1 0, .bool true]) (by kernel_rfl) (by kernel_rfl) hw
  · exact closed_gives whole18 (fuel := 200) (args := [bkt 2 1 2]) (v := .tuple #[bkt 2 1 1, .bool true]) (by kernel_rfl) (by kernel_rfl) hw

theorem stepC {w : World} (hw : Laid w) {h : Int} (h0 : 0 ≤ h) (h2 : h ≤ 2) : Calls Tryz.prog 69 #[bkt 2 1 h] w fun e w' => e = .returned (bkt 2 1 (min (h + 1) 2)) ∧ Below w.heap.size w w' := by
  have h3 : h = 0 ∨ h = 1 ∨ h = 2 := by omega
  rcases h3 with rfl | rfl | rfl
  · exact closed_gives whole18 (fuel := 200) (args := [bkt 2 1 0]) (v := bkt 2 1 1) (by kernel_rfl) (by kernel_rfl) hw
  · exact closed_gives whole18 (fuel := 200) (args := [bkt 2 1 1]) (v := bkt 2 1 2) (by kernel_rfl) (by kernel_rfl) hw
  · exact closed_gives whole18 (fuel := 200) (args := [bkt 2 1 2]) (v := bkt 2 1 2) (by kernel_rfl) (by kernel_rfl) hw

/-- The bucket's box. -/
structure BoxAt (w0 : World) (B : Nat) (h : Int) (w : World) : Prop where
  c0 : w.cell? ⟨B, 0, none⟩ = some (.int .i64 2)
  c1 : w.cell? ⟨B, 1, none⟩ = some (.int .i64 1)
  c2 : w.cell? ⟨B, 2, none⟩ = some (.int .i64 h)
  fr : ∀ i, w.frozen? ⟨B, i, none⟩ = false
  laid : Laid w
  below : Below w0.heap.size w0 w
  lt : B < w.heap.size
  ge : w0.heap.size ≤ B

theorem BoxAt.set {w0 : World} {B : Nat} {h h' : Int} {wr w3 : World} (hw0 : Laid w0) (hb : BoxAt w0 B h wr) (hb3 : Below wr.heap.size wr w3) :
    BoxAt w0 B h' (((w3.setCell ⟨B, 0, none⟩ (.int .i64 2)).setCell ⟨B, 1, none⟩ (.int .i64 1)).setCell ⟨B, 2, none⟩ (.int .i64 h')) := by
  have c0 := (hb3.cell (p := ⟨B, 0, none⟩) hb.lt).trans hb.c0
  have c1 := (hb3.cell (p := ⟨B, 1, none⟩) hb.lt).trans hb.c1
  have c2 := (hb3.cell (p := ⟨B, 2, none⟩) hb.lt).trans hb.c2
  have hbl : Below w0.heap.size w0 (((w3.setCell ⟨B, 0, none⟩ (.int .i64 2)).setCell ⟨B, 1, none⟩ (.int .i64 1)).setCell ⟨B, 2, none⟩ (.int .i64 h')) :=
    (((hb.below.trans (hb3.mono hb.below.size)).setCell (p := ⟨B, 0, none⟩) hb.ge _).setCell (p := ⟨B, 1, none⟩) hb.ge _).setCell (p := ⟨B, 2, none⟩) hb.ge _
  refine ⟨?_, ?_, ?_, ?_, laid_below hw0 hbl, hbl, ?_, hb.ge⟩
  · simp [go_sem, c0, c1, c2]
  · simp [go_sem, c0, c1, c2]
  · simp [go_sem, c0, c1, c2]
  · intro i
    simp only [World.frozen?_setCell]
    exact (hb3.frozen (p := ⟨B, i, none⟩) hb.lt).trans (hb.fr i)
  · simp only [World.size_setCell]
    exact Nat.lt_of_lt_of_le hb.lt hb3.size

set_option maxHeartbeats 8000000 in
theorem bucketPace_walk (n asks : Int) (w : World) (hw : Laid w) : Calls Tryz.prog 6 #[.int .i64 n, .int .i64 asks] w fun e w' => e = .returned (.bool true) ∧ Below w.heap.size w w' := by
  go_enter Tryz.func6, Tryz.ntmps6
  go_wp2_with (first
    | (go_at_call 50; refine (begun18_calls hw).2.mono ?_; rintro e w' ⟨rfl, hleft⟩; have hlaid : Laid w' := hw.left hleft)
    | (go_at_call 67; refine (newC hlaid).mono ?_; rintro e w1 ⟨rfl, hb1⟩))
  have hN := mod_range n 50 (by omega) (by omega)
  have hA := mod_range asks 5 (by omega) (by omega)
  have hA1 : wrap64 (1 + (wrap64 (asks.tmod 5 + 5)).tmod 5) = 1 + (wrap64 (asks.tmod 5 + 5)).tmod 5 := wrap64_id (by omega) (by omega)
  generalize (wrap64 (n.tmod 50 + 50)).tmod 50 = N at hN ⊢
  generalize (wrap64 (asks.tmod 5 + 5)).tmod 5 = A0 at hA hA1 ⊢
  obtain ⟨A, hAA⟩ : ∃ A, wrap64 (1 + A0) = A := ⟨_, rfl⟩
  rw [hAA] at hA1 ⊢
  clear hAA
  obtain ⟨hN0, hN1⟩ := hN
  obtain ⟨hA0, hA2⟩ := hA
  have hA3 : 1 ≤ A := by omega
  have hA4 : A ≤ 5 := by omega
  have hA5 : A ≤ 1 + A0 := by omega
  have hA6 : 1 + A0 ≤ A := by omega
  clear hA1
  have hb2 : Below w.heap.size w w1 := (Below.trans ⟨hleft.os, hleft.tape, hleft.output, hleft.size, hleft.heap⟩ (hb1.mono hleft.size))
  have hl1 : Laid w1 := laid_below hlaid hb1
  have hbox : BoxAt w w1.heap.size 2 (w1.alloc (Obj.cells #[Value.int IntKind.i64 2, Value.int IntKind.i64 1, Value.int IntKind.i64 2] 97)) :=
    ⟨by simp, by simp, by simp, fun i => by simp, laid_below hl1 ((Below.refl _ _).alloc (Nat.le_refl _) _), hb2.alloc hb2.size _, by simp, hb2.size⟩
  generalize w1.heap.size = B at hbox ⊢
  generalize (w1.alloc (Obj.cells #[Value.int IntKind.i64 2, Value.int IntKind.i64 1, Value.int IntKind.i64 2] 97)) = w2 at hbox ⊢
  go_loopw [7, 8] (fun got i wr => ∃ (k g h : Int), i = .int .i64 k ∧ got = .int .i64 g ∧ 0 ≤ k ∧ k ≤ N ∧ 0 ≤ h ∧ h ≤ 2 ∧ 0 ≤ g ∧ g ≤ 100 ∧ (k = 0 → g = 0 ∧ h = 2) ∧ (0 < k → (A = 1 → g = k ∧ h = 2) ∧ (2 ≤ A → g = k + 1 ∧ h = 1)) ∧ BoxAt w B h wr)
    (fun _ i _ => (N - Go.Lib.intOf i).toNat)
  case atStart => exact ⟨0, 0, 2, rfl, rfl, by omega, by omega, by omega, by omega, by omega, by omega, fun _ => ⟨rfl, rfl⟩, fun h => by omega, hbox⟩
  case round =>
    obtain ⟨k, g, h, rfl, rfl, hk0, hkN, hh0, hh2, hg0, hg1, hs0, hs1, hbx⟩ := hrel
    by_cases hlt : k < N
    · go_wp2
      go_loopw [7, 9] (fun got j wi => ∃ (q gg hh : Int), j = .int .i64 q ∧ got = .int .i64 gg ∧ 0 ≤ q ∧ q ≤ A ∧ g + min q h = gg ∧ h - min q h = hh ∧ BoxAt w B hh wi) (fun _ j _ => (A - Go.Lib.intOf j).toNat)
      case atStart => exact ⟨0, g, h, rfl, rfl, by omega, by omega, by omega, by omega, hbx⟩
      case round =>
        obtain ⟨q, gg, hh, rfl, rfl, hq0, hqA, hgg, hhh, hbi⟩ := hrel
        obtain ⟨b0, b1, b2, bf, bl, bb, blt, bge⟩ := hbi
        by_cases hq : q < A
        · have hhr : 0 ≤ hh ∧ hh ≤ 2 := by omega
          by_cases hpos : 0 < hh
          · go_wp2_with (go_at_call 68; (with_reducible refine (takeC bl hhr.1 hhr.2).mono ?_); rintro e w3 ⟨rfl, hb3⟩; have c0 := (hb3.cell (p := ⟨B, 0, none⟩) blt).trans b0; have c1 := (hb3.cell (p := ⟨B, 1, none⟩) blt).trans b1; have c2 := (hb3.cell (p := ⟨B, 2, none⟩) blt).trans b2; have f0 := (hb3.frozen (p := ⟨B, 0, none⟩) blt).trans (bf 0); have f1 := (hb3.frozen (p := ⟨B, 1, none⟩) blt).trans (bf 1); have f2 := (hb3.frozen (p := ⟨B, 2, none⟩) blt).trans (bf 2))
            go_roundw
            case rel => exact ⟨q + 1, gg + 1, hh - min hh 1, by first | rfl | trivial | go_num, by first | rfl | trivial | go_num, by omega, by omega, by omega, by omega, BoxAt.set hw ⟨b0, b1, b2, bf, bl, bb, blt, bge⟩ hb3⟩
            case measure => simp [Go.Lib.intOf]; omega
          · go_wp2_with (go_at_call 68; (with_reducible refine (takeC bl hhr.1 hhr.2).mono ?_); rintro e w3 ⟨rfl, hb3⟩; have c0 := (hb3.cell (p := ⟨B, 0, none⟩) blt).trans b0; have c1 := (hb3.cell (p := ⟨B, 1, none⟩) blt).trans b1; have c2 := (hb3.cell (p := ⟨B, 2, none⟩) blt).trans b2; have f0 := (hb3.frozen (p := ⟨B, 0, none⟩) blt).trans (bf 0); have f1 := (hb3.frozen (p := ⟨B, 1, none⟩) blt).trans (bf 1); have f2 := (hb3.frozen (p := ⟨B, 2, none⟩) blt).trans (bf 2))
            go_roundw
            case rel => exact ⟨q + 1, gg, hh - min hh 1, by first | rfl | trivial | go_num, by first | rfl | trivial | go_num, by omega, by omega, by omega, by omega, BoxAt.set hw ⟨b0, b1, b2, bf, bl, bb, blt, bge⟩ hb3⟩
            case measure => simp [Go.Lib.intOf]; omega
        · have hqq : q = A := by omega
          have hhr : 0 ≤ hh ∧ hh ≤ 2 := by omega
          go_wp2_with (go_at_call 69; (with_reducible refine (stepC bl hhr.1 hhr.2).mono ?_); rintro e w3 ⟨rfl, hb3⟩; have c0 := (hb3.cell (p := ⟨B, 0, none⟩) blt).trans b0; have c1 := (hb3.cell (p := ⟨B, 1, none⟩) blt).trans b1; have c2 := (hb3.cell (p := ⟨B, 2, none⟩) blt).trans b2; have f0 := (hb3.frozen (p := ⟨B, 0, none⟩) blt).trans (bf 0); have f1 := (hb3.frozen (p := ⟨B, 1, none⟩) blt).trans (bf 1); have f2 := (hb3.frozen (p := ⟨B, 2, none⟩) blt).trans (bf 2))
          go_roundw
          case rel => exact ⟨k + 1, gg, min (hh + 1) 2, by first | rfl | trivial | go_num, by first | rfl | trivial | go_num, by omega, by omega, by omega, by omega, by omega, by omega, fun _ => by omega, fun _ => ⟨fun _ => by omega, fun _ => by omega⟩, BoxAt.set hw ⟨b0, b1, b2, bf, bl, bb, blt, bge⟩ hb3⟩
          case measure => simp [Go.Lib.intOf]; omega
    · obtain rfl : k = N := by omega
      by_cases hz : k = 0
      · have hz' : (k == 0) = true := by simp [hz]
        obtain ⟨hg2, _⟩ := hs0 hz
        go_wp2
        go_ret
        exact ⟨by simp, hbx.below⟩
      · have hz' : (k == 0) = false := by simp [hz]
        obtain ⟨e1, e2⟩ := hs1 (by omega)
        by_cases ha : A = 1
        · have ha' : (A == 1) = true := by simp [ha]
          obtain ⟨hg2, _⟩ := e1 (by omega)
          go_wp2
          go_ret
          exact ⟨by simp, hbx.below⟩
        · have ha' : (A == 1) = false := by simp [ha]
          obtain ⟨hg2, _⟩ := e2 (by omega)
          go_wp2
          go_ret
          exact ⟨by simp, hbx.below⟩
#print axioms bucketPace_walk
end Go.Proofs.YtmpijgfndnikpaaGreatDoor
