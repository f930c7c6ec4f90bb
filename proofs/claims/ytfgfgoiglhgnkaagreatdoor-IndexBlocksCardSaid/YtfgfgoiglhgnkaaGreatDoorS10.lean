/- The contract of slices.Sorted over the seat's iterators. -/
import Derived.Test.YtfgfgoiglhgnkaaGreatDoorS9
set_option linter.unusedVariables false
set_option linter.unusedSimpArgs false
namespace Go.Ab.Seat
open Go.Proofs Go.RowKit Go.Shelf

attribute [local go_sem] Oper.semAt_some

set_option maxRecDepth 100000 in
set_option maxHeartbeats 1000000 in
theorem values1_nil (F : Fence) (n : Nat) (h7 : F.fn 176) (hro : F.round = none) (l Bs os : Nat) (J : List Int → World → Prop) (W : World) (hBs : W.cell? ⟨Bs, os, none⟩ = some (.slice none 0 0)) (h0 : J [] W) :
    CallsIn F n Tryz.prog 176 #[.func (.yield l) #[] #[], .pointer (some ⟨Bs, os, none⟩)] W fun e W' => (∃ v, e = .returned v) ∧ J [] W' := by
  refine callsIn_of_wp Tryz.func176 rfl h7 ?_ hro
  simp only [Tryz.ntmps176, List.size_toArray, List.length_cons, List.length_nil, Nat.reduceAdd, Nat.reduceSub, Array.replicate_succ, Array.replicate_zero, List.push_toArray, List.append_toArray, List.nil_append, List.cons_append]
  gi_wp2
  gi_loopw [7] (fun i wr => i = .int .i64 0 ∧ J [] wr) (fun _ _ => 0)
  case atStart => exact ⟨rfl, h0⟩
  case round =>
    obtain ⟨rfl, hJs⟩ := hrel
    gi_wp2
    go_end0
    exact ⟨⟨_, rfl⟩, hJs⟩

theorem valuesB (n : Nat) (hn : 1 ≤ n) {w : World} {b o : Nat} {v : Value} {l : List Int} (hv : w.cell? ⟨b, o, none⟩ = some v) (hb : b < w.heap.size) (hs : SeqHolds false w v l) (hl : l.length ≤ 1000000) :
    SeqB Tryz.prog Fence.wide n 176 #[.pointer (some ⟨b, o, none⟩)] (fun ss => ss.Perm l) l.length w := by
  intro l0 J W hW _ hJB hY h0
  have hc : W.cell? ⟨b, o, none⟩ = some v := (hW.cell (p := ⟨b, o, none⟩) hb).trans hv
  rcases hs with ⟨rfl, rfl⟩ | ⟨sb, so, c, rfl, hsb, hcs⟩
  · refine (values1_nil Fence.wide n trivial rfl l0 b o J W hc h0).mono ?_
    rintro e W' ⟨he, hj⟩
    exact ⟨he, [], .refl _, hj⟩
  · refine (Tryz.values1 Fence.wide n trivial rfl hn l0 b o sb so c l (by omega) J w.heap.size w hsb hJB (fun pre x W1 hj hlt => hY pre x W1 hj hlt) W hc hcs h0).mono ?_
    rintro e W' ⟨he, ys, rfl, hj⟩
    exact ⟨he, _, .refl _, hj⟩

noncomputable def kindOf (g : Nat) : Option Bool :=
  bif Nat.beq g 85 then some true else
  bif Nat.beq g 102 then some true else
  bif Nat.beq g 133 then some true else
  bif Nat.beq g 142 then some true else
  bif Nat.beq g 176 then some false else none

theorem e84 : ∀ args w, (callFunc 84 args).run Tryz.prog w = .ok (.enter 84 args) w := enters_of Tryz.func84 (by kernel_rfl) rfl

theorem sortedOwes : SortedOwes Tryz.prog 52 3 kindOf := by
  intro g keys hk w b o v l hv hb hs hw hl
  unfold kindOf at hk
  cases h1 : Nat.beq g 85 <;> rw [h1] at hk
  · cases h2 : Nat.beq g 102 <;> rw [h2] at hk
    · cases h3 : Nat.beq g 133 <;> rw [h3] at hk
      · cases h4 : Nat.beq g 142 <;> rw [h4] at hk
        · cases h5 : Nat.beq g 176 <;> rw [h5] at hk
          · cases hk
          · cases hk
            obtain rfl := beq_iff.1 h5
            exact sortedOwed Tryz.sortedA (Tryz.sortsA _) e84 (enters_of Tryz.func176 (by kernel_rfl) rfl) hl (valuesB 7 (by omega) hv hb hs hl)
        · cases hk
          obtain rfl := beq_iff.1 h4
          exact sortedOwed Tryz.sortedA (Tryz.sortsA _) e84 (enters_of Tryz.func142 (by kernel_rfl) rfl) hl (keysB (ρ' := Tryz.keysD_ren) { Tryz.keysD with } 7 (by omega) hv hb hs hw hl)
      · cases hk
        obtain rfl := beq_iff.1 h3
        exact sortedOwed Tryz.sortedA (Tryz.sortsA _) e84 (enters_of Tryz.func133 (by kernel_rfl) rfl) hl (keysB (ρ' := Tryz.keysC_ren) { Tryz.keysC with } 7 (by omega) hv hb hs hw hl)
    · cases hk
      obtain rfl := beq_iff.1 h2
      exact sortedOwed Tryz.sortedA (Tryz.sortsA _) e84 (enters_of Tryz.func102 (by kernel_rfl) rfl) hl (keysB (ρ' := Tryz.keysB_ren) { Tryz.keysB with } 7 (by omega) hv hb hs hw hl)
  · cases hk
    obtain rfl := beq_iff.1 h1
    exact sortedOwed Tryz.sortedA (Tryz.sortsA _) e84 (enters_of Tryz.func85 (by kernel_rfl) rfl) hl (keysB (ρ' := Tryz.keysA_ren) { Tryz.keysA with } 7 (by omega) hv hb hs hw hl)

def fSorted : Nat := 52

theorem smSorted : SmOne fSorted (sumSorted kindOf) :=
  ⟨local_sumSorted kindOf, fun args s s' v ι w args' R h1 h2 h3 h4 h5 => sorted_sound ⟨Tryz.f52, _, Tryz.func52, rfl, by kernel_rfl⟩ sortedOwes args s s' v ι w args' R h1 h2 h3 h4 h5⟩
#print axioms smSorted
end Go.Ab.Seat
