/- A map of two entries, keyed by a bool: what is put in and what is looked up. -/
import Derived.Test.YtmpijgfndnikpaaGreatDoorBSS1
import Derived.MapKept
import Derived.Carry
set_option linter.unusedVariables false
set_option linter.unusedSimpArgs false
namespace Go.Proofs.YtmpijgfndnikpaaGreatDoor
open Go.RowKit Go.Ab Go.Ab.Seat

def setObjW (w : World) (b : Nat) (o : Obj) : World := { w with heap := w.heap.setIfInBounds b o }
theorem und115 : Tryz.prog.underlying 115 = some (.map 4 3) := by kernel_rfl
theorem und4 : Tryz.prog.underlying 4 = some .bool := by kernel_rfl

theorem ins_run {w : World} {b : Nat} {es : Array MapEntry} {c : Nat} {k : Bool} {v : Value} (h : w.heap[b]? = some (.map es c)) (hf : Instr.findNow .bool (.bool k) es.toList 0 = some none) :
    (Instr.mapUpdate 115 (.map (some b)) (.bool k) v).run Tryz.prog w = .ok () (setObjW w b (.map (es.push ⟨.bool k, v, c⟩) (c + 1))) := by
  simp [Instr.mapUpdate, run_underlying und115, MapKept.run_getObj_map h, MapKept.run_checkKey und4 (show MapKept.IsKey .bool (.bool k) from trivial), MapKept.run_findKey und4 hf, MapKept.run_setObj_map _ h, Result.andThen, setObjW]

theorem look_run {w : World} {b : Nat} {es : Array MapEntry} {c : Nat} {k : Bool} {v : Value} {i : Nat} (h : w.heap[b]? = some (.map es c)) (hf : Instr.findNow .bool (.bool k) es.toList 0 = some (some (i, v))) :
    (Instr.lookup 115 (.map (some b)) (.bool k) false).run Tryz.prog w = .ok v w := by
  simp [Instr.lookup, run_underlying und115, MapKept.run_getObj_map h, MapKept.run_checkKey und4 (show MapKept.IsKey .bool (.bool k) from trivial), MapKept.run_findKey und4 hf, Result.andThen]

abbrev eT : MapEntry := ⟨.bool true, .int .i64 1, 0⟩
theorem setObjW_get {w : World} {b : Nat} {o o' : Obj} (h : w.heap[b]? = some o) : (setObjW w b o').heap[b]? = some o' := by
  have := (Array.getElem?_eq_some_iff.1 h).1
  simp [setObjW, this]
theorem setObjW_size (w : World) (b : Nat) (o : Obj) : (setObjW w b o).heap.size = w.heap.size := by simp [setObjW]
theorem setObjW_cell {w : World} {b : Nat} {o : Obj} {a : Addr} (h : a.block ≠ b) : (setObjW w b o).cell? a = w.cell? a := by
  simp [World.cell?, setObjW, Array.getElem?_setIfInBounds, Ne.symm h]
theorem below_setObjW {n b : Nat} {w w' : World} {o : Obj} (h : Below n w w') (hb : n ≤ b) : Below n w (setObjW w' b o) := by
  refine ⟨h.os, h.tape, h.output, by rw [setObjW_size]; exact h.size, fun k hk => ?_⟩
  rw [← h.block k hk]
  simp [setObjW, Array.getElem?_setIfInBounds, show b ≠ k by omega]

/-- Block b is a map of these entries. -/
def MapAt (w : World) (b : Nat) (es : Array MapEntry) (c : Nat) : Prop := w.heap[b]? = some (.map es c)
theorem MapAt.lt {w : World} {b : Nat} {es : Array MapEntry} {c : Nat} (h : MapAt w b es c) : b < w.heap.size := (Array.getElem?_eq_some_iff.1 h).1
theorem MapAt.on {w w' : World} (hb : Below w.heap.size w w') (b : Nat) (es : Array MapEntry) (c : Nat) (h : MapAt w b es c) : MapAt w' b es c := (hb.block b h.lt).trans h
theorem MapAt.made (w : World) : MapAt (w.alloc (.map #[] 0)) w.heap.size #[] 0 := World.alloc_heap_new w _
/-- There is a block b. -/
def HasB (w : World) (b : Nat) : Prop := b < w.heap.size
theorem HasB.on {w w' : World} (hb : Below w.heap.size w w') (b : Nat) (h : HasB w b) : HasB w' b := Nat.lt_of_lt_of_le h hb.size
theorem HasB.made (w : World) (o : Obj) : HasB (w.alloc o) w.heap.size := by simp [HasB]
theorem MapAt.set (w : World) (b : Nat) (es : Array MapEntry) (c : Nat) : MapAt (setObjW w b (.map es c)) b es c = HasB w b := by
  refine propext ⟨fun h => ?_, fun h => setObjW_get (Array.getElem?_eq_getElem h)⟩
  have := h.lt
  rwa [setObjW_size] at this
theorem HasB.set (w : World) (b : Nat) (o : Obj) (k : Nat) : HasB (setObjW w b o) k = HasB w k := by unfold HasB; rw [setObjW_size]
end Go.Proofs.YtmpijgfndnikpaaGreatDoor
