/- BucketBound answers true and turns nothing that lay before: for every two integers and every slice of bools, in a world in which the listed variables are as laid. -/
import Derived.Test.YtmpijgfndnikpaaGreatDoorBBK1
import Derived.Test.YtmpijgfndnikpaaGreatDoorBS15
import Derived.Test.YtmpijgfndnikpaaGreatDoorE27
import Derived.Test.YtmpijgfndnikpaaGreatDoorE29
import Derived.WalkKit
set_option linter.unusedVariables false
set_option linter.unusedSimpArgs false
namespace Go.Proofs.YtmpijgfndnikpaaGreatDoor
open Go.RowKit Go.Ab Go.Ab.Seat

theorem tmod20 (n : Int) : ∃ i : Nat, i < 39 ∧ n.tmod 20 = Int.subNatNat i 19 := by
  have h1 : n.tmod 20 < 20 := Int.tmod_lt_of_pos n (by omega)
  have h2 : -20 < n.tmod 20 := by
    have h3 := Int.tmod_lt_of_pos (-n) (show (0 : Int) < 20 by omega)
    rw [Int.neg_tmod] at h3
    omega
  refine ⟨(n.tmod 20 + 19).toNat, by omega, ?_⟩
  rw [Int.subNatNat_eq_coe]
  omega
theorem tmod5 (n : Int) : ∃ i : Nat, i < 9 ∧ n.tmod 5 = Int.subNatNat i 4 := by
  have h1 : n.tmod 5 < 5 := Int.tmod_lt_of_pos n (by omega)
  have h2 : -5 < n.tmod 5 := by
    have h3 := Int.tmod_lt_of_pos (-n) (show (0 : Int) < 5 by omega)
    rw [Int.neg_tmod] at h3
    omega
  refine ⟨(n.tmod 5 + 4).toNat, by omega, ?_⟩
  rw [Int.subNatNat_eq_coe]
  omega

/-- The bucket's box. -/
structure BoxB (w0 : World) (B m p h : Nat) (w : World) : Prop where
  c0 : w.cell? ⟨B, 0, none⟩ = some (.int .i64 m)
  c1 : w.cell? ⟨B, 1, none⟩ = some (.int .i64 p)
  c2 : w.cell? ⟨B, 2, none⟩ = some (.int .i64 h)
  fr : ∀ i, w.frozen? ⟨B, i, none⟩ = false
  below : Below w0.heap.size w0 w
  lt : B < w.heap.size
  ge : w0.heap.size ≤ B

theorem BoxB.set {w0 : World} {B m p h h' : Nat} {wr w3 : World} (hb : BoxB w0 B m p h wr) (hb3 : Below wr.heap.size wr w3) :
    BoxB w0 B m p h' (((w3.setCell ⟨B, 0, none⟩ (.int .i64 m)).setCell ⟨B, 1, none⟩ (.int .i64 p)).setCell ⟨B, 2, none⟩ (.int .i64 h')) := by
  have c0 := (hb3.cell (p := ⟨B, 0, none⟩) hb.lt).trans hb.c0
  have c1 := (hb3.cell (p := ⟨B, 1, none⟩) hb.lt).trans hb.c1
  have c2 := (hb3.cell (p := ⟨B, 2, none⟩) hb.lt).trans hb.c2
  have hbl : Below w0.heap.size w0 (((w3.setCell ⟨B, 0, none⟩ (.int .i64 m)).setCell ⟨B, 1, none⟩ (.int .i64 p)).setCell ⟨B, 2, none⟩ (.int .i64 h')) :=
    (((hb.below.trans (hb3.mono hb.below.size)).setCell (p := ⟨B, 0, none⟩) hb.ge _).setCell (p := ⟨B, 1, none⟩) hb.ge _).setCell (p := ⟨B, 2, none⟩) hb.ge _
  refine ⟨?_, ?_, ?_, ?_, hbl, ?_, hb.ge⟩
  · simp [go_sem, c0]
  · simp [go_sem, c1]
  · simp [go_sem, c2]
  · intro i
    simp only [World.frozen?_setCell]
    exact (hb3.frozen (p := ⟨B, i, none⟩) hb.lt).trans (hb.fr i)
  · simp only [World.size_setCell]
    exact Nat.lt_of_lt_of_le hb.lt hb3.size

abbrev bkN (m p h : Nat) : Value := .agg #[.int .i64 (m : Int), .int .i64 (p : Int), .int .i64 (h : Int)]

theorem takeN {w : World} (hw : Laid w) {m p h : Nat} (hm : m < 20) (hp : p < 5) (hh : h ≤ m) : Calls Tryz.prog 68 #[bkN m p h] w fun e w' => e = .returned (.tuple #[bkN m p (h - 1), .bool (Nat.blt 0 h)]) ∧ Below w.heap.size w w' := takeB hw hm hp hh
theorem stepN {w : World} (hw : Laid w) {m p h : Nat} (hm : m < 20) (hp : p < 5) (hh : h ≤ m) : Calls Tryz.prog 69 #[bkN m p h] w fun e w' => e = .returned (bkN m p (min (h + p) m)) ∧ Below w.heap.size w w' := stepB hw hm hp hh

set_option maxHeartbeats 8000000 in
theorem bucketBound_walk (most per : Int) (v : Value) (w : World) (hw : Laid w) (hv : Bools w v) : Calls Tryz.prog 7 #[.int .i64 most, .int .i64 per, v] w fun e w' => e = .returned (.bool true) ∧ Below w.heap.size w w' := by
  obtain ⟨i, hi, ei⟩ := tmod20 most
  obtain ⟨j, hj, ej⟩ := tmod5 per
  have cN : ∀ w, Laid w → Calls Tryz.prog 67 #[.int .i64 (most.tmod 20), .int .i64 (per.tmod 5)] w fun e w' => e = .returned (bkN (i - 19) (j - 4) (i - 19)) ∧ Below w.heap.size w w' := fun w hw => by rw [ei, ej]; exact newB hw hi hj
  have hm : i - 19 < 20 := by omega
  have hp : j - 4 < 5 := by omega
  clear ei ej hi hj
  generalize i - 19 = m at cN hm
  generalize j - 4 = p at cN hp
  have hv' : ∃ (oa : Option Addr) (len cap : Nat), v = .slice oa len cap ∧ len ≤ maxLen ∧ ∀ i : Nat, i < len → ∃ (bb oo : Nat) (x : Bool), oa = some ⟨bb, oo, none⟩ ∧ bb < w.heap.size ∧ w.cell? ⟨bb, oo + i, none⟩ = some (.bool x) := by
    rcases hv with rfl | ⟨a, len, cap, rfl, hlen, hcells⟩
    · exact ⟨none, 0, 0, rfl, by omega, fun i hi => by omega⟩
    · refine ⟨some a, len, cap, rfl, hlen, fun i hi => ?_⟩
      obtain ⟨h1, x, h2⟩ := hcells i hi
      obtain ⟨bb, oo, sp⟩ := a
      have hsp : sp = none := by
        cases sp with
        | none => rfl
        | some s =>
          obtain ⟨_, y, h3⟩ := hcells 0 (by omega)
          unfold World.cell? at h3
          split at h3
          · simp [Addr.add] at h3
          · cases h3
      subst hsp
      rw [addr_add] at h2
      exact ⟨bb, oo, x, rfl, h1, h2⟩
  obtain ⟨oa, len, cap, rfl, hlen, hcells⟩ := hv'
  go_enter Tryz.func7, Tryz.ntmps7
  go_wp2_with (first
    | (go_at_call 50; refine (begun18_calls hw).2.mono ?_; rintro e w' ⟨rfl, hleft⟩; have hlaid : Laid w' := hw.left hleft)
    | (go_at_call 67; (with_reducible refine (cN _ hlaid).mono ?_); rintro e w1 ⟨rfl, hb1⟩))
  have hb2 : Below w.heap.size w w1 := (Below.trans ⟨hleft.os, hleft.tape, hleft.output, hleft.size, hleft.heap⟩ (hb1.mono hleft.size))
  have hbox : BoxB w w1.heap.size m p m (w1.alloc (Obj.cells #[Value.int IntKind.i64 ↑m, Value.int IntKind.i64 ↑p, Value.int IntKind.i64 ↑m] 97)) :=
    ⟨by simp, by simp, by simp, fun i => by simp, hb2.alloc hb2.size _, by simp, hb2.size⟩
  generalize w1.heap.size = B at hbox ⊢
  generalize (w1.alloc (Obj.cells #[Value.int IntKind.i64 ↑m, Value.int IntKind.i64 ↑p, Value.int IntKind.i64 ↑m] 97)) = w2 at hbox ⊢
  go_loopw [9, 10, 11] (fun given taken i wr => ∃ (k g tk h : Nat), i = .int .i64 k ∧ given = .int .i64 g ∧ taken = .int .i64 tk ∧ k ≤ 100 ∧ h ≤ m ∧ tk + h ≤ g ∧ g ≤ 20 + 5 * k ∧ BoxB w B m p h wr)
    (fun _ _ i _ => (100 - Go.Lib.intOf i).toNat)
  case atStart => exact ⟨0, m, 0, m, rfl, rfl, rfl, by omega, by omega, by omega, by omega, hbox⟩
  case round =>
    obtain ⟨k, g, tk, h, rfl, rfl, rfl, hk, hh, htk, hg, hbx⟩ := hrel
    by_cases hlt : k < len ∧ k < 100
    · obtain ⟨hl1, hl2⟩ := hlt
      obtain ⟨bb, oo, x, rfl, hbb, hcx0⟩ := hcells k hl1
      have hcx : wr.cell? ⟨bb, oo + k, none⟩ = some (.bool x) := (hbx.below.cell (p := ⟨bb, oo + k, none⟩) hbb).trans hcx0
      have hlw : Laid wr := laid_below hw hbx.below
      obtain ⟨b0, b1, b2, bf, bb2, blt, bge⟩ := hbx
      cases x with
      | true =>
        by_cases hpos : 0 < h
        · obtain ⟨h1, e1⟩ : ∃ h1, h - 1 = h1 := ⟨_, rfl⟩
          have eb : Nat.blt 0 h = true := blt_iff.2 hpos
          have cT : Calls Tryz.prog 68 #[bkN m p h] wr fun e w' => e = .returned (.tuple #[bkN m p h1, .bool true]) ∧ Below wr.heap.size wr w' := by
            have := takeN hlw hm hp hh
            rw [e1, eb] at this
            exact this
          have d1 : (tk : Int) + 1 ≤ g := by omega
          have d2 : (0 : Int) ≤ h1 := by omega
          have d3 : (h1 : Int) ≤ m := by omega
          have d4 : (tk : Int) + 1 + h1 ≤ g := by omega
          go_wp2_with (go_at_call 68; (with_reducible refine cT.mono ?_); rintro e w3 ⟨rfl, hb3⟩; have c0 := (hb3.cell (p := ⟨B, 0, none⟩) blt).trans b0; have c1 := (hb3.cell (p := ⟨B, 1, none⟩) blt).trans b1; have c2 := (hb3.cell (p := ⟨B, 2, none⟩) blt).trans b2; have f0 := (hb3.frozen (p := ⟨B, 0, none⟩) blt).trans (bf 0); have f1 := (hb3.frozen (p := ⟨B, 1, none⟩) blt).trans (bf 1); have f2 := (hb3.frozen (p := ⟨B, 2, none⟩) blt).trans (bf 2))
          go_roundw
          case rel => exact ⟨k + 1, g, tk + 1, h1, by first | rfl | trivial | go_num, by first | rfl | trivial | go_num, by first | rfl | trivial | go_num, by omega, by omega, by omega, by omega, BoxB.set ⟨b0, b1, b2, bf, bb2, blt, bge⟩ hb3⟩
          case measure => simp [Go.Lib.intOf]; omega
        · have eb : Nat.blt 0 h = false := blt_false.2 (by omega)
          have e1 : h - 1 = h := by omega
          have cT : Calls Tryz.prog 68 #[bkN m p h] wr fun e w' => e = .returned (.tuple #[bkN m p h, .bool false]) ∧ Below wr.heap.size wr w' := by
            have := takeN hlw hm hp hh
            rw [e1, eb] at this
            exact this
          clear e1
          have d1 : (tk : Int) ≤ g := by omega
          have d2 : (0 : Int) ≤ h := by omega
          have d3 : (h : Int) ≤ m := by omega
          have d4 : (tk : Int) + h ≤ g := by omega
          go_wp2_with (go_at_call 68; (with_reducible refine cT.mono ?_); rintro e w3 ⟨rfl, hb3⟩; have c0 := (hb3.cell (p := ⟨B, 0, none⟩) blt).trans b0; have c1 := (hb3.cell (p := ⟨B, 1, none⟩) blt).trans b1; have c2 := (hb3.cell (p := ⟨B, 2, none⟩) blt).trans b2; have f0 := (hb3.frozen (p := ⟨B, 0, none⟩) blt).trans (bf 0); have f1 := (hb3.frozen (p := ⟨B, 1, none⟩) blt).trans (bf 1); have f2 := (hb3.frozen (p := ⟨B, 2, none⟩) blt).trans (bf 2))
          go_roundw
          case rel => exact ⟨k + 1, g, tk, h, by first | rfl | trivial | go_num, by first | rfl | trivial | go_num, by first | rfl | trivial | go_num, by omega, by omega, by omega, by omega, BoxB.set ⟨b0, b1, b2, bf, bb2, blt, bge⟩ hb3⟩
          case measure => simp [Go.Lib.intOf]; omega
      | false =>
        obtain ⟨h2, e2⟩ : ∃ h2, min (h + p) m = h2 := ⟨_, rfl⟩
        have cS : Calls Tryz.prog 69 #[bkN m p h] wr fun e w' => e = .returned (bkN m p h2) ∧ Below wr.heap.size wr w' := by
          have := stepN hlw hm hp hh
          rw [e2] at this
          exact this
        have q1 : h2 ≤ m := by omega
        have q2 : h2 ≤ h + p := by omega
        clear e2
        have d1 : (tk : Int) ≤ g + p := by omega
        have d2 : (0 : Int) ≤ h2 := by omega
        have d3 : (h2 : Int) ≤ m := by omega
        have d4 : (tk : Int) + h2 ≤ g + p := by omega
        go_wp2_with (go_at_call 69; (with_reducible refine cS.mono ?_); rintro e w3 ⟨rfl, hb3⟩; have c0 := (hb3.cell (p := ⟨B, 0, none⟩) blt).trans b0; have c1 := (hb3.cell (p := ⟨B, 1, none⟩) blt).trans b1; have c2 := (hb3.cell (p := ⟨B, 2, none⟩) blt).trans b2; have f0 := (hb3.frozen (p := ⟨B, 0, none⟩) blt).trans (bf 0); have f1 := (hb3.frozen (p := ⟨B, 1, none⟩) blt).trans (bf 1); have f2 := (hb3.frozen (p := ⟨B, 2, none⟩) blt).trans (bf 2))
        go_roundw
        case rel => exact ⟨k + 1, g + p, tk, h2, by first | rfl | trivial | go_num, by first | rfl | trivial | go_num, by first | rfl | trivial | go_num, by omega, by omega, by omega, by omega, BoxB.set ⟨b0, b1, b2, bf, bb2, blt, bge⟩ hb3⟩
        case measure => simp [Go.Lib.intOf]; omega
    · have hcase : len ≤ k ∨ k = 100 := by omega
      by_cases hl : k < len
      · have hk100 : k = 100 := by omega
        go_wp2
        go_ret
        exact ⟨rfl, hbx.below⟩
      · go_wp2
        go_ret
        exact ⟨rfl, hbx.below⟩
#print axioms bucketBound_walk
end Go.Proofs.YtmpijgfndnikpaaGreatDoor
