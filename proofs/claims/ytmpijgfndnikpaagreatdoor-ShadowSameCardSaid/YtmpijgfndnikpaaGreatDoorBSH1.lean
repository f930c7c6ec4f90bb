/- When hits miss: the program's function and the reference's answer alike, whatever slices come in. -/
import Derived.Test.YtmpijgfndnikpaaGreatDoorBSS1
import Derived.Test.YtmpijgfndnikpaaGreatDoorE31
set_option linter.unusedVariables false
set_option linter.unusedSimpArgs false
namespace Go.Proofs.YtmpijgfndnikpaaGreatDoor
open Go.RowKit Go.Ab Go.Ab.Seat

def scoreLess (a b : Int) : Bool := decide (a < b)

set_option maxHeartbeats 4000000 in
theorem mC75_none (oa : Option Addr) (cap : Nat) (ob : Option Addr) (len' cap' : Nat) (w : World) : Calls Tryz.prog 75 #[.slice oa 0 cap, .slice ob len' cap'] w fun e w' => e = .returned (.bool false) ∧ Below w.heap.size w w' := by
  go_enter Tryz.func75, Tryz.ntmps75
  go_wp2
  go_region
  go_wp2
  go_ret
  exact ⟨rfl, (Below.refl _ _).drew⟩

set_option maxHeartbeats 4000000 in
theorem mC75_some (oa : Option Addr) (len cap : Nat) (ob : Option Addr) (cap' : Nat) (w : World) (h : 0 < len) : Calls Tryz.prog 75 #[.slice oa len cap, .slice ob 0 cap'] w fun e w' => e = .returned (.bool true) ∧ Below w.heap.size w w' := by
  have hl2 : (0 : Int) < len := by omega
  go_enter Tryz.func75, Tryz.ntmps75
  go_wp2
  go_region
  go_wp2
  go_ret
  exact ⟨rfl, (Below.refl _ _).drew⟩

set_option maxHeartbeats 4000000 in
theorem mC75_two (b o : Nat) (sp : Option Nat) (len cap : Nat) (b' o' : Nat) (sp' : Option Nat) (len' cap' : Nat) (s s' : Int) (w : World) (h : 0 < len) (h' : 0 < len') (hc : w.cell? ⟨b, o + 1, none⟩ = some (.int .i64 s)) (hc' : w.cell? ⟨b', o' + 1, none⟩ = some (.int .i64 s')) :
    Calls Tryz.prog 75 #[.slice (some ⟨b, o, sp⟩) len cap, .slice (some ⟨b', o', sp'⟩) len' cap'] w fun e w' => e = .returned (.bool (scoreLess s s')) ∧ Below w.heap.size w w' := by
  have hl : ((len' : Int) == 0) = false := by simp; omega
  have hl2 : (0 : Int) < len := by omega
  have hl3 : (0 : Int) < len' := by omega
  go_enter Tryz.func75, Tryz.ntmps75
  go_wp2
  go_region
  go_wp2
  go_ret
  exact ⟨rfl, (Below.refl _ _).drew⟩

set_option maxHeartbeats 4000000 in
theorem mC76_none (oa : Option Addr) (cap : Nat) (ob : Option Addr) (len' cap' : Nat) (w : World) : Calls Tryz.prog 76 #[.slice oa 0 cap, .slice ob len' cap'] w fun e w' => e = .returned (.bool false) ∧ Below w.heap.size w w' := by
  go_enter Tryz.func76, Tryz.ntmps76
  go_wp2
  go_region
  go_wp2
  go_ret
  exact ⟨rfl, (Below.refl _ _).drew⟩

set_option maxHeartbeats 4000000 in
theorem mC76_some (oa : Option Addr) (len cap : Nat) (ob : Option Addr) (cap' : Nat) (w : World) (h : 0 < len) : Calls Tryz.prog 76 #[.slice oa len cap, .slice ob 0 cap'] w fun e w' => e = .returned (.bool true) ∧ Below w.heap.size w w' := by
  have hl2 : (0 : Int) < len := by omega
  go_enter Tryz.func76, Tryz.ntmps76
  go_wp2
  go_region
  go_wp2
  go_ret
  exact ⟨rfl, (Below.refl _ _).drew⟩

set_option maxHeartbeats 4000000 in
theorem mC76_two (b o : Nat) (sp : Option Nat) (len cap : Nat) (b' o' : Nat) (sp' : Option Nat) (len' cap' : Nat) (s s' : Int) (w : World) (h : 0 < len) (h' : 0 < len') (hc : w.cell? ⟨b, o + 1, none⟩ = some (.int .i64 s)) (hc' : w.cell? ⟨b', o' + 1, none⟩ = some (.int .i64 s')) :
    Calls Tryz.prog 76 #[.slice (some ⟨b, o, sp⟩) len cap, .slice (some ⟨b', o', sp'⟩) len' cap'] w fun e w' => e = .returned (.bool (scoreLess s s')) ∧ Below w.heap.size w w' := by
  have hl : ((len' : Int) == 0) = false := by simp; omega
  have hl2 : (0 : Int) < len := by omega
  have hl3 : (0 : Int) < len' := by omega
  go_enter Tryz.func76, Tryz.ntmps76
  go_wp2
  go_region
  go_wp2
  go_ret
  exact ⟨rfl, (Below.refl _ _).drew⟩

/-- What holds one's cells later on. -/
theorem cell_on {w w' : World} (hb : Below w.heap.size w w') {a : Addr} {v : Value} (ha : a.block < w.heap.size) (h : w.cell? a = some v) : w'.cell? a = some v := by
  unfold World.cell? at h ⊢
  rw [hb.block _ ha]
  exact h

theorem missV {w : World} {x y : Value} (hx : HitsV w x) (hy : HitsV w y) : ∃ m : Bool, ∀ w', Below w.heap.size w w' →
    Calls Tryz.prog 75 #[x, y] w' (fun e w'' => e = .returned (.bool m) ∧ Below w'.heap.size w' w'') ∧ Calls Tryz.prog 76 #[x, y] w' (fun e w'' => e = .returned (.bool m) ∧ Below w'.heap.size w' w'') := by
  obtain ⟨oa, len, cap, rfl, _, h1⟩ := hx
  obtain ⟨ob, len', cap', rfl, _, h2⟩ := hy
  rcases Nat.eq_zero_or_pos len with rfl | hl
  · exact ⟨false, fun w' hb => ⟨mC75_none _ _ _ _ _ _, mC76_none _ _ _ _ _ _⟩⟩
  · rcases Nat.eq_zero_or_pos len' with rfl | hl'
    · exact ⟨true, fun w' hb => ⟨mC75_some _ _ _ _ _ _ hl, mC76_some _ _ _ _ _ _ hl⟩⟩
    · obtain ⟨b, o, sp, s, rfl, hbs, hc⟩ := h1 hl
      obtain ⟨b', o', sp', s', rfl, hbs', hc'⟩ := h2 hl'
      exact ⟨scoreLess s s', fun w' hb => ⟨mC75_two _ _ _ _ _ _ _ _ _ _ _ _ _ hl hl' (cell_on hb hbs hc) (cell_on hb hbs' hc'), mC76_two _ _ _ _ _ _ _ _ _ _ _ _ _ hl hl' (cell_on hb hbs hc) (cell_on hb hbs' hc')⟩⟩

theorem missSelf {w : World} {x : Value} (hx : HitsV w x) : ∀ w', Below w.heap.size w w' → Calls Tryz.prog 75 #[x, x] w' (fun e w'' => e = .returned (.bool false) ∧ Below w'.heap.size w' w'') := by
  intro w' hb
  obtain ⟨oa, len, cap, rfl, _, h1⟩ := hx
  rcases Nat.eq_zero_or_pos len with rfl | hl
  · exact mC75_none _ _ _ _ _ _
  · obtain ⟨b, o, sp, s, rfl, hbs, hc⟩ := h1 hl
    have := mC75_two b o sp len cap b o sp len cap s s w' hl hl (cell_on hb hbs hc) (cell_on hb hbs hc)
    have e : scoreLess s s = false := by simp [scoreLess]
    rw [e] at this
    exact this
end Go.Proofs.YtmpijgfndnikpaaGreatDoor
