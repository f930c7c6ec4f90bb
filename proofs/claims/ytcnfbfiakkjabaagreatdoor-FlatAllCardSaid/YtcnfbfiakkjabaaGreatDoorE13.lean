/- Locality of the operations (printed by gen13.py). -/
import Derived.Test.YtcnfbfiakkjabaaGreatDoorE12
set_option linter.unusedVariables false
set_option linter.unusedSimpArgs false
namespace Go.Ab

theorem local_getCells (b : Nat) : Local (getCells b) := by
    unfold getCells
    repeat' first
      | exact Local.ret _
      | exact Local.fail
      | exact Local.lift _
      | exact Local.getO _
      | exact Local.putO _ _
      | exact Local.newO _
      | assumption
      | (refine Local.bind ?_ fun _ => ?_)
      | split
      | (rw [forceL_eq])
      | dsimp only

theorem local_getCellsW (b : Nat) : Local (getCellsW b) := by
    unfold getCellsW
    repeat' first
      | exact Local.ret _
      | exact Local.fail
      | exact Local.lift _
      | exact Local.getO _
      | exact Local.putO _ _
      | exact Local.newO _
      | assumption
      | exact local_getCells _
      | (refine Local.bind ?_ fun _ => ?_)
      | split
      | (rw [forceL_eq])
      | dsimp only

theorem local_getCellsB (b : Nat) : Local (getCellsB b) := by
    unfold getCellsB
    repeat' first
      | exact Local.ret _
      | exact Local.fail
      | exact Local.lift _
      | exact Local.getO _
      | exact Local.putO _ _
      | exact Local.newO _
      | assumption
      | exact local_getCells _
      | exact local_getCellsW _
      | (refine Local.bind ?_ fun _ => ?_)
      | split
      | (rw [forceL_eq])
      | dsimp only

theorem local_getMap (b : Nat) : Local (getMap b) := by
    unfold getMap
    repeat' first
      | exact Local.ret _
      | exact Local.fail
      | exact Local.lift _
      | exact Local.getO _
      | exact Local.putO _ _
      | exact Local.newO _
      | assumption
      | exact local_getCells _
      | exact local_getCellsW _
      | exact local_getCellsB _
      | (refine Local.bind ?_ fun _ => ?_)
      | split
      | (rw [forceL_eq])
      | dsimp only

theorem local_readCells (b o n : Nat) : Local (readCells b o n) := by
    unfold readCells
    repeat' first
      | exact Local.ret _
      | exact Local.fail
      | exact Local.lift _
      | exact Local.getO _
      | exact Local.putO _ _
      | exact Local.newO _
      | assumption
      | exact local_getCells _
      | exact local_getCellsW _
      | exact local_getCellsB _
      | exact local_getMap _
      | (refine Local.bind ?_ fun _ => ?_)
      | split
      | (rw [forceL_eq])
      | dsimp only

theorem local_writeCells (b o : Nat) (xs : List Value) : Local (writeCells b o xs) := by
    unfold writeCells
    repeat' first
      | exact Local.ret _
      | exact Local.fail
      | exact Local.lift _
      | exact Local.getO _
      | exact Local.putO _ _
      | exact Local.newO _
      | assumption
      | exact local_getCells _
      | exact local_getCellsW _
      | exact local_getCellsB _
      | exact local_getMap _
      | exact local_readCells _ _ _
      | (refine Local.bind ?_ fun _ => ?_)
      | split
      | (rw [forceL_eq])
      | dsimp only

theorem local_newCells (cs : List Value) : Local (newCells cs) := by
    unfold newCells
    repeat' first
      | exact Local.ret _
      | exact Local.fail
      | exact Local.lift _
      | exact Local.getO _
      | exact Local.putO _ _
      | exact Local.newO _
      | assumption
      | exact local_getCells _
      | exact local_getCellsW _
      | exact local_getCellsB _
      | exact local_getMap _
      | exact local_readCells _ _ _
      | exact local_writeCells _ _ _
      | (refine Local.bind ?_ fun _ => ?_)
      | split
      | (rw [forceL_eq])
      | dsimp only

theorem local_newBytes (cs : List Value) : Local (newBytes cs) := by
    unfold newBytes
    repeat' first
      | exact Local.ret _
      | exact Local.fail
      | exact Local.lift _
      | exact Local.getO _
      | exact Local.putO _ _
      | exact Local.newO _
      | assumption
      | exact local_getCells _
      | exact local_getCellsW _
      | exact local_getCellsB _
      | exact local_getMap _
      | exact local_readCells _ _ _
      | exact local_writeCells _ _ _
      | exact local_newCells _
      | (refine Local.bind ?_ fun _ => ?_)
      | split
      | (rw [forceL_eq])
      | dsimp only

theorem local_opLoad (C : Ctx) (t : TypeId) (a : Value) : Local (opLoad C t a) := by
    unfold opLoad
    repeat' first
      | exact Local.ret _
      | exact Local.fail
      | exact Local.lift _
      | exact Local.getO _
      | exact Local.putO _ _
      | exact Local.newO _
      | assumption
      | exact local_getCells _
      | exact local_getCellsW _
      | exact local_getCellsB _
      | exact local_getMap _
      | exact local_readCells _ _ _
      | exact local_writeCells _ _ _
      | exact local_newCells _
      | exact local_newBytes _
      | (refine Local.bind ?_ fun _ => ?_)
      | split
      | (rw [forceL_eq])
      | dsimp only

theorem local_opStore (C : Ctx) (t : TypeId) (a x : Value) : Local (opStore C t a x) := by
    unfold opStore
    repeat' first
      | exact Local.ret _
      | exact Local.fail
      | exact Local.lift _
      | exact Local.getO _
      | exact Local.putO _ _
      | exact Local.newO _
      | assumption
      | exact local_getCells _
      | exact local_getCellsW _
      | exact local_getCellsB _
      | exact local_getMap _
      | exact local_readCells _ _ _
      | exact local_writeCells _ _ _
      | exact local_newCells _
      | exact local_newBytes _
      | exact local_opLoad _ _ _
      | (refine Local.bind ?_ fun _ => ?_)
      | split
      | (rw [forceL_eq])
      | dsimp only

theorem local_opBox (x : Value) : Local (opBox x) := by
    unfold opBox
    repeat' first
      | exact Local.ret _
      | exact Local.fail
      | exact Local.lift _
      | exact Local.getO _
      | exact Local.putO _ _
      | exact Local.newO _
      | assumption
      | exact local_getCells _
      | exact local_getCellsW _
      | exact local_getCellsB _
      | exact local_getMap _
      | exact local_readCells _ _ _
      | exact local_writeCells _ _ _
      | exact local_newCells _
      | exact local_newBytes _
      | exact local_opLoad _ _ _
      | exact local_opStore _ _ _ _
      | (refine Local.bind ?_ fun _ => ?_)
      | split
      | (rw [forceL_eq])
      | dsimp only

theorem local_opAlloc (C : Ctx) (t : TypeId) : Local (opAlloc C t) := by
    unfold opAlloc
    repeat' first
      | exact Local.ret _
      | exact Local.fail
      | exact Local.lift _
      | exact Local.getO _
      | exact Local.putO _ _
      | exact Local.newO _
      | assumption
      | exact local_getCells _
      | exact local_getCellsW _
      | exact local_getCellsB _
      | exact local_getMap _
      | exact local_readCells _ _ _
      | exact local_writeCells _ _ _
      | exact local_newCells _
      | exact local_newBytes _
      | exact local_opLoad _ _ _
      | exact local_opStore _ _ _ _
      | exact local_opBox _
      | (refine Local.bind ?_ fun _ => ?_)
      | split
      | (rw [forceL_eq])
      | dsimp only

theorem local_opBuild (C : Ctx) (t : TypeId) (ps : List (Nat × Value)) : Local (opBuild C t ps) := by
    unfold opBuild
    repeat' first
      | exact Local.ret _
      | exact Local.fail
      | exact Local.lift _
      | exact Local.getO _
      | exact Local.putO _ _
      | exact Local.newO _
      | assumption
      | exact local_getCells _
      | exact local_getCellsW _
      | exact local_getCellsB _
      | exact local_getMap _
      | exact local_readCells _ _ _
      | exact local_writeCells _ _ _
      | exact local_newCells _
      | exact local_newBytes _
      | exact local_opLoad _ _ _
      | exact local_opStore _ _ _ _
      | exact local_opBox _
      | exact local_opAlloc _ _
      | (refine Local.bind ?_ fun _ => ?_)
      | split
      | (rw [forceL_eq])
      | dsimp only

theorem local_opBuildSlice (C : Ctx) (t : TypeId) (n : Nat) (ps : List (Nat × Value)) : Local (opBuildSlice C t n ps) := by
    unfold opBuildSlice
    repeat' first
      | exact Local.ret _
      | exact Local.fail
      | exact Local.lift _
      | exact Local.getO _
      | exact Local.putO _ _
      | exact Local.newO _
      | assumption
      | exact local_getCells _
      | exact local_getCellsW _
      | exact local_getCellsB _
      | exact local_getMap _
      | exact local_readCells _ _ _
      | exact local_writeCells _ _ _
      | exact local_newCells _
      | exact local_newBytes _
      | exact local_opLoad _ _ _
      | exact local_opStore _ _ _ _
      | exact local_opBox _
      | exact local_opAlloc _ _
      | exact local_opBuild _ _ _
      | (refine Local.bind ?_ fun _ => ?_)
      | split
      | (rw [forceL_eq])
      | dsimp only

theorem local_opMakeSlice (C : Ctx) (t : TypeId) (l c : Value) : Local (opMakeSlice C t l c) := by
    unfold opMakeSlice
    repeat' first
      | exact Local.ret _
      | exact Local.fail
      | exact Local.lift _
      | exact Local.getO _
      | exact Local.putO _ _
      | exact Local.newO _
      | assumption
      | exact local_getCells _
      | exact local_getCellsW _
      | exact local_getCellsB _
      | exact local_getMap _
      | exact local_readCells _ _ _
      | exact local_writeCells _ _ _
      | exact local_newCells _
      | exact local_newBytes _
      | exact local_opLoad _ _ _
      | exact local_opStore _ _ _ _
      | exact local_opBox _
      | exact local_opAlloc _ _
      | exact local_opBuild _ _ _
      | exact local_opBuildSlice _ _ _ _
      | (refine Local.bind ?_ fun _ => ?_)
      | split
      | (rw [forceL_eq])
      | dsimp only

theorem local_opSlice (C : Ctx) (t : TypeId) (x : Value) (lo hi mx : Option Value) : Local (opSlice C t x lo hi mx) := by
    unfold opSlice
    repeat' first
      | exact Local.ret _
      | exact Local.fail
      | exact Local.lift _
      | exact Local.getO _
      | exact Local.putO _ _
      | exact Local.newO _
      | assumption
      | exact local_getCells _
      | exact local_getCellsW _
      | exact local_getCellsB _
      | exact local_getMap _
      | exact local_readCells _ _ _
      | exact local_writeCells _ _ _
      | exact local_newCells _
      | exact local_newBytes _
      | exact local_opLoad _ _ _
      | exact local_opStore _ _ _ _
      | exact local_opBox _
      | exact local_opAlloc _ _
      | exact local_opBuild _ _ _
      | exact local_opBuildSlice _ _ _ _
      | exact local_opMakeSlice _ _ _ _
      | (refine Local.bind ?_ fun _ => ?_)
      | split
      | (rw [forceL_eq])
      | dsimp only

theorem local_opFieldAddr (C : Ctx) (s : TypeId) (x : Value) (f : Nat) : Local (opFieldAddr C s x f) := by
    unfold opFieldAddr
    repeat' first
      | exact Local.ret _
      | exact Local.fail
      | exact Local.lift _
      | exact Local.getO _
      | exact Local.putO _ _
      | exact Local.newO _
      | assumption
      | exact local_getCells _
      | exact local_getCellsW _
      | exact local_getCellsB _
      | exact local_getMap _
      | exact local_readCells _ _ _
      | exact local_writeCells _ _ _
      | exact local_newCells _
      | exact local_newBytes _
      | exact local_opLoad _ _ _
      | exact local_opStore _ _ _ _
      | exact local_opBox _
      | exact local_opAlloc _ _
      | exact local_opBuild _ _ _
      | exact local_opBuildSlice _ _ _ _
      | exact local_opMakeSlice _ _ _ _
      | exact local_opSlice _ _ _ _ _ _
      | (refine Local.bind ?_ fun _ => ?_)
      | split
      | (rw [forceL_eq])
      | dsimp only

theorem local_opIndexAddr (C : Ctx) (t : TypeId) (x i : Value) : Local (opIndexAddr C t x i) := by
    unfold opIndexAddr
    repeat' first
      | exact Local.ret _
      | exact Local.fail
      | exact Local.lift _
      | exact Local.getO _
      | exact Local.putO _ _
      | exact Local.newO _
      | assumption
      | exact local_getCells _
      | exact local_getCellsW _
      | exact local_getCellsB _
      | exact local_getMap _
      | exact local_readCells _ _ _
      | exact local_writeCells _ _ _
      | exact local_newCells _
      | exact local_newBytes _
      | exact local_opLoad _ _ _
      | exact local_opStore _ _ _ _
      | exact local_opBox _
      | exact local_opAlloc _ _
      | exact local_opBuild _ _ _
      | exact local_opBuildSlice _ _ _ _
      | exact local_opMakeSlice _ _ _ _
      | exact local_opSlice _ _ _ _ _ _
      | exact local_opFieldAddr _ _ _ _
      | (refine Local.bind ?_ fun _ => ?_)
      | split
      | (rw [forceL_eq])
      | dsimp only

theorem local_opIndex (C : Ctx) (t : TypeId) (x i : Value) : Local (opIndex C t x i) := by
    unfold opIndex
    repeat' first
      | exact Local.ret _
      | exact Local.fail
      | exact Local.lift _
      | exact Local.getO _
      | exact Local.putO _ _
      | exact Local.newO _
      | assumption
      | exact local_getCells _
      | exact local_getCellsW _
      | exact local_getCellsB _
      | exact local_getMap _
      | exact local_readCells _ _ _
      | exact local_writeCells _ _ _
      | exact local_newCells _
      | exact local_newBytes _
      | exact local_opLoad _ _ _
      | exact local_opStore _ _ _ _
      | exact local_opBox _
      | exact local_opAlloc _ _
      | exact local_opBuild _ _ _
      | exact local_opBuildSlice _ _ _ _
      | exact local_opMakeSlice _ _ _ _
      | exact local_opSlice _ _ _ _ _ _
      | exact local_opFieldAddr _ _ _ _
      | exact local_opIndexAddr _ _ _ _
      | (refine Local.bind ?_ fun _ => ?_)
      | split
      | (rw [forceL_eq])
      | dsimp only

theorem local_opField (C : Ctx) (t : TypeId) (x : Value) (f : Nat) : Local (opField C t x f) := by
    unfold opField
    repeat' first
      | exact Local.ret _
      | exact Local.fail
      | exact Local.lift _
      | exact Local.getO _
      | exact Local.putO _ _
      | exact Local.newO _
      | assumption
      | exact local_getCells _
      | exact local_getCellsW _
      | exact local_getCellsB _
      | exact local_getMap _
      | exact local_readCells _ _ _
      | exact local_writeCells _ _ _
      | exact local_newCells _
      | exact local_newBytes _
      | exact local_opLoad _ _ _
      | exact local_opStore _ _ _ _
      | exact local_opBox _
      | exact local_opAlloc _ _
      | exact local_opBuild _ _ _
      | exact local_opBuildSlice _ _ _ _
      | exact local_opMakeSlice _ _ _ _
      | exact local_opSlice _ _ _ _ _ _
      | exact local_opFieldAddr _ _ _ _
      | exact local_opIndexAddr _ _ _ _
      | exact local_opIndex _ _ _ _
      | (refine Local.bind ?_ fun _ => ?_)
      | split
      | (rw [forceL_eq])
      | dsimp only

theorem local_opLookup (C : Ctx) (t : TypeId) (m k : Value) (ok : Bool) : Local (opLookup C t m k ok) := by
    unfold opLookup
    repeat' first
      | exact Local.ret _
      | exact Local.fail
      | exact Local.lift _
      | exact Local.getO _
      | exact Local.putO _ _
      | exact Local.newO _
      | assumption
      | exact local_getCells _
      | exact local_getCellsW _
      | exact local_getCellsB _
      | exact local_getMap _
      | exact local_readCells _ _ _
      | exact local_writeCells _ _ _
      | exact local_newCells _
      | exact local_newBytes _
      | exact local_opLoad _ _ _
      | exact local_opStore _ _ _ _
      | exact local_opBox _
      | exact local_opAlloc _ _
      | exact local_opBuild _ _ _
      | exact local_opBuildSlice _ _ _ _
      | exact local_opMakeSlice _ _ _ _
      | exact local_opSlice _ _ _ _ _ _
      | exact local_opFieldAddr _ _ _ _
      | exact local_opIndexAddr _ _ _ _
      | exact local_opIndex _ _ _ _
      | exact local_opField _ _ _ _
      | (refine Local.bind ?_ fun _ => ?_)
      | split
      | (rw [forceL_eq])
      | dsimp only

theorem local_opMapUpdate (C : Ctx) (t : TypeId) (m k v : Value) : Local (opMapUpdate C t m k v) := by
    unfold opMapUpdate
    repeat' first
      | exact Local.ret _
      | exact Local.fail
      | exact Local.lift _
      | exact Local.getO _
      | exact Local.putO _ _
      | exact Local.newO _
      | assumption
      | exact local_getCells _
      | exact local_getCellsW _
      | exact local_getCellsB _
      | exact local_getMap _
      | exact local_readCells _ _ _
      | exact local_writeCells _ _ _
      | exact local_newCells _
      | exact local_newBytes _
      | exact local_opLoad _ _ _
      | exact local_opStore _ _ _ _
      | exact local_opBox _
      | exact local_opAlloc _ _
      | exact local_opBuild _ _ _
      | exact local_opBuildSlice _ _ _ _
      | exact local_opMakeSlice _ _ _ _
      | exact local_opSlice _ _ _ _ _ _
      | exact local_opFieldAddr _ _ _ _
      | exact local_opIndexAddr _ _ _ _
      | exact local_opIndex _ _ _ _
      | exact local_opField _ _ _ _
      | exact local_opLookup _ _ _ _ _
      | (refine Local.bind ?_ fun _ => ?_)
      | split
      | (rw [forceL_eq])
      | dsimp only

theorem local_opDelete (C : Ctx) (t : TypeId) (m k : Value) : Local (opDelete C t m k) := by
    unfold opDelete
    repeat' first
      | exact Local.ret _
      | exact Local.fail
      | exact Local.lift _
      | exact Local.getO _
      | exact Local.putO _ _
      | exact Local.newO _
      | assumption
      | exact local_getCells _
      | exact local_getCellsW _
      | exact local_getCellsB _
      | exact local_getMap _
      | exact local_readCells _ _ _
      | exact local_writeCells _ _ _
      | exact local_newCells _
      | exact local_newBytes _
      | exact local_opLoad _ _ _
      | exact local_opStore _ _ _ _
      | exact local_opBox _
      | exact local_opAlloc _ _
      | exact local_opBuild _ _ _
      | exact local_opBuildSlice _ _ _ _
      | exact local_opMakeSlice _ _ _ _
      | exact local_opSlice _ _ _ _ _ _
      | exact local_opFieldAddr _ _ _ _
      | exact local_opIndexAddr _ _ _ _
      | exact local_opIndex _ _ _ _
      | exact local_opField _ _ _ _
      | exact local_opLookup _ _ _ _ _
      | exact local_opMapUpdate _ _ _ _ _
      | (refine Local.bind ?_ fun _ => ?_)
      | split
      | (rw [forceL_eq])
      | dsimp only

theorem local_opLen (C : Ctx) (t : TypeId) (x : Value) : Local (opLen C t x) := by
    unfold opLen
    repeat' first
      | exact Local.ret _
      | exact Local.fail
      | exact Local.lift _
      | exact Local.getO _
      | exact Local.putO _ _
      | exact Local.newO _
      | assumption
      | exact local_getCells _
      | exact local_getCellsW _
      | exact local_getCellsB _
      | exact local_getMap _
      | exact local_readCells _ _ _
      | exact local_writeCells _ _ _
      | exact local_newCells _
      | exact local_newBytes _
      | exact local_opLoad _ _ _
      | exact local_opStore _ _ _ _
      | exact local_opBox _
      | exact local_opAlloc _ _
      | exact local_opBuild _ _ _
      | exact local_opBuildSlice _ _ _ _
      | exact local_opMakeSlice _ _ _ _
      | exact local_opSlice _ _ _ _ _ _
      | exact local_opFieldAddr _ _ _ _
      | exact local_opIndexAddr _ _ _ _
      | exact local_opIndex _ _ _ _
      | exact local_opField _ _ _ _
      | exact local_opLookup _ _ _ _ _
      | exact local_opMapUpdate _ _ _ _ _
      | exact local_opDelete _ _ _ _
      | (refine Local.bind ?_ fun _ => ?_)
      | split
      | (rw [forceL_eq])
      | dsimp only

theorem local_opCap (C : Ctx) (t : TypeId) (x : Value) : Local (opCap C t x) := by
    unfold opCap
    repeat' first
      | exact Local.ret _
      | exact Local.fail
      | exact Local.lift _
      | exact Local.getO _
      | exact Local.putO _ _
      | exact Local.newO _
      | assumption
      | exact local_getCells _
      | exact local_getCellsW _
      | exact local_getCellsB _
      | exact local_getMap _
      | exact local_readCells _ _ _
      | exact local_writeCells _ _ _
      | exact local_newCells _
      | exact local_newBytes _
      | exact local_opLoad _ _ _
      | exact local_opStore _ _ _ _
      | exact local_opBox _
      | exact local_opAlloc _ _
      | exact local_opBuild _ _ _
      | exact local_opBuildSlice _ _ _ _
      | exact local_opMakeSlice _ _ _ _
      | exact local_opSlice _ _ _ _ _ _
      | exact local_opFieldAddr _ _ _ _
      | exact local_opIndexAddr _ _ _ _
      | exact local_opIndex _ _ _ _
      | exact local_opField _ _ _ _
      | exact local_opLookup _ _ _ _ _
      | exact local_opMapUpdate _ _ _ _ _
      | exact local_opDelete _ _ _ _
      | exact local_opLen _ _ _
      | (refine Local.bind ?_ fun _ => ?_)
      | split
      | (rw [forceL_eq])
      | dsimp only

theorem local_firstA (size n : Nat) (x : Value) : Local (firstA size n x) := by
    unfold firstA
    repeat' first
      | exact Local.ret _
      | exact Local.fail
      | exact Local.lift _
      | exact Local.getO _
      | exact Local.putO _ _
      | exact Local.newO _
      | assumption
      | exact local_getCells _
      | exact local_getCellsW _
      | exact local_getCellsB _
      | exact local_getMap _
      | exact local_readCells _ _ _
      | exact local_writeCells _ _ _
      | exact local_newCells _
      | exact local_newBytes _
      | exact local_opLoad _ _ _
      | exact local_opStore _ _ _ _
      | exact local_opBox _
      | exact local_opAlloc _ _
      | exact local_opBuild _ _ _
      | exact local_opBuildSlice _ _ _ _
      | exact local_opMakeSlice _ _ _ _
      | exact local_opSlice _ _ _ _ _ _
      | exact local_opFieldAddr _ _ _ _
      | exact local_opIndexAddr _ _ _ _
      | exact local_opIndex _ _ _ _
      | exact local_opField _ _ _ _
      | exact local_opLookup _ _ _ _ _
      | exact local_opMapUpdate _ _ _ _ _
      | exact local_opDelete _ _ _ _
      | exact local_opLen _ _ _
      | exact local_opCap _ _ _
      | (refine Local.bind ?_ fun _ => ?_)
      | split
      | (rw [forceL_eq])
      | dsimp only

theorem local_appended (C : Ctx) (size : Nat) (z : List Value) (xt : Option TypeId) (x : Value) : Local (appended C size z xt x) := by
    unfold appended
    repeat' first
      | exact Local.ret _
      | exact Local.fail
      | exact Local.lift _
      | exact Local.getO _
      | exact Local.putO _ _
      | exact Local.newO _
      | assumption
      | exact local_getCells _
      | exact local_getCellsW _
      | exact local_getCellsB _
      | exact local_getMap _
      | exact local_readCells _ _ _
      | exact local_writeCells _ _ _
      | exact local_newCells _
      | exact local_newBytes _
      | exact local_opLoad _ _ _
      | exact local_opStore _ _ _ _
      | exact local_opBox _
      | exact local_opAlloc _ _
      | exact local_opBuild _ _ _
      | exact local_opBuildSlice _ _ _ _
      | exact local_opMakeSlice _ _ _ _
      | exact local_opSlice _ _ _ _ _ _
      | exact local_opFieldAddr _ _ _ _
      | exact local_opIndexAddr _ _ _ _
      | exact local_opIndex _ _ _ _
      | exact local_opField _ _ _ _
      | exact local_opLookup _ _ _ _ _
      | exact local_opMapUpdate _ _ _ _ _
      | exact local_opDelete _ _ _ _
      | exact local_opLen _ _ _
      | exact local_opCap _ _ _
      | exact local_firstA _ _ _
      | (refine Local.bind ?_ fun _ => ?_)
      | split
      | (rw [forceL_eq])
      | dsimp only

theorem local_opAppend (C : Ctx) (ts : Array TypeId) (s x : Value) : Local (opAppend C ts s x) := by
    unfold opAppend
    repeat' first
      | exact Local.ret _
      | exact Local.fail
      | exact Local.lift _
      | exact Local.getO _
      | exact Local.putO _ _
      | exact Local.newO _
      | assumption
      | exact local_getCells _
      | exact local_getCellsW _
      | exact local_getCellsB _
      | exact local_getMap _
      | exact local_readCells _ _ _
      | exact local_writeCells _ _ _
      | exact local_newCells _
      | exact local_newBytes _
      | exact local_opLoad _ _ _
      | exact local_opStore _ _ _ _
      | exact local_opBox _
      | exact local_opAlloc _ _
      | exact local_opBuild _ _ _
      | exact local_opBuildSlice _ _ _ _
      | exact local_opMakeSlice _ _ _ _
      | exact local_opSlice _ _ _ _ _ _
      | exact local_opFieldAddr _ _ _ _
      | exact local_opIndexAddr _ _ _ _
      | exact local_opIndex _ _ _ _
      | exact local_opField _ _ _ _
      | exact local_opLookup _ _ _ _ _
      | exact local_opMapUpdate _ _ _ _ _
      | exact local_opDelete _ _ _ _
      | exact local_opLen _ _ _
      | exact local_opCap _ _ _
      | exact local_firstA _ _ _
      | exact local_appended _ _ _ _ _
      | (refine Local.bind ?_ fun _ => ?_)
      | split
      | (rw [forceL_eq])
      | dsimp only

theorem local_opCopy (C : Ctx) (ts : Array TypeId) (d x : Value) : Local (opCopy C ts d x) := by
    unfold opCopy
    repeat' first
      | exact Local.ret _
      | exact Local.fail
      | exact Local.lift _
      | exact Local.getO _
      | exact Local.putO _ _
      | exact Local.newO _
      | assumption
      | exact local_getCells _
      | exact local_getCellsW _
      | exact local_getCellsB _
      | exact local_getMap _
      | exact local_readCells _ _ _
      | exact local_writeCells _ _ _
      | exact local_newCells _
      | exact local_newBytes _
      | exact local_opLoad _ _ _
      | exact local_opStore _ _ _ _
      | exact local_opBox _
      | exact local_opAlloc _ _
      | exact local_opBuild _ _ _
      | exact local_opBuildSlice _ _ _ _
      | exact local_opMakeSlice _ _ _ _
      | exact local_opSlice _ _ _ _ _ _
      | exact local_opFieldAddr _ _ _ _
      | exact local_opIndexAddr _ _ _ _
      | exact local_opIndex _ _ _ _
      | exact local_opField _ _ _ _
      | exact local_opLookup _ _ _ _ _
      | exact local_opMapUpdate _ _ _ _ _
      | exact local_opDelete _ _ _ _
      | exact local_opLen _ _ _
      | exact local_opCap _ _ _
      | exact local_firstA _ _ _
      | exact local_appended _ _ _ _ _
      | exact local_opAppend _ _ _ _
      | (refine Local.bind ?_ fun _ => ?_)
      | split
      | (rw [forceL_eq])
      | dsimp only

theorem local_opClear (C : Ctx) (ts : Array TypeId) (x : Value) : Local (opClear C ts x) := by
    unfold opClear
    repeat' first
      | exact Local.ret _
      | exact Local.fail
      | exact Local.lift _
      | exact Local.getO _
      | exact Local.putO _ _
      | exact Local.newO _
      | assumption
      | exact local_getCells _
      | exact local_getCellsW _
      | exact local_getCellsB _
      | exact local_getMap _
      | exact local_readCells _ _ _
      | exact local_writeCells _ _ _
      | exact local_newCells _
      | exact local_newBytes _
      | exact local_opLoad _ _ _
      | exact local_opStore _ _ _ _
      | exact local_opBox _
      | exact local_opAlloc _ _
      | exact local_opBuild _ _ _
      | exact local_opBuildSlice _ _ _ _
      | exact local_opMakeSlice _ _ _ _
      | exact local_opSlice _ _ _ _ _ _
      | exact local_opFieldAddr _ _ _ _
      | exact local_opIndexAddr _ _ _ _
      | exact local_opIndex _ _ _ _
      | exact local_opField _ _ _ _
      | exact local_opLookup _ _ _ _ _
      | exact local_opMapUpdate _ _ _ _ _
      | exact local_opDelete _ _ _ _
      | exact local_opLen _ _ _
      | exact local_opCap _ _ _
      | exact local_firstA _ _ _
      | exact local_appended _ _ _ _ _
      | exact local_opAppend _ _ _ _
      | exact local_opCopy _ _ _ _
      | (refine Local.bind ?_ fun _ => ?_)
      | split
      | (rw [forceL_eq])
      | dsimp only

theorem local_opConvert (C : Ctx) (a b : TypeId) (x : Value) : Local (opConvert C a b x) := by
    unfold opConvert
    repeat' first
      | exact Local.ret _
      | exact Local.fail
      | exact Local.lift _
      | exact Local.getO _
      | exact Local.putO _ _
      | exact Local.newO _
      | assumption
      | exact local_getCells _
      | exact local_getCellsW _
      | exact local_getCellsB _
      | exact local_getMap _
      | exact local_readCells _ _ _
      | exact local_writeCells _ _ _
      | exact local_newCells _
      | exact local_newBytes _
      | exact local_opLoad _ _ _
      | exact local_opStore _ _ _ _
      | exact local_opBox _
      | exact local_opAlloc _ _
      | exact local_opBuild _ _ _
      | exact local_opBuildSlice _ _ _ _
      | exact local_opMakeSlice _ _ _ _
      | exact local_opSlice _ _ _ _ _ _
      | exact local_opFieldAddr _ _ _ _
      | exact local_opIndexAddr _ _ _ _
      | exact local_opIndex _ _ _ _
      | exact local_opField _ _ _ _
      | exact local_opLookup _ _ _ _ _
      | exact local_opMapUpdate _ _ _ _ _
      | exact local_opDelete _ _ _ _
      | exact local_opLen _ _ _
      | exact local_opCap _ _ _
      | exact local_firstA _ _ _
      | exact local_appended _ _ _ _ _
      | exact local_opAppend _ _ _ _
      | exact local_opCopy _ _ _ _
      | exact local_opClear _ _ _
      | (refine Local.bind ?_ fun _ => ?_)
      | split
      | (rw [forceL_eq])
      | dsimp only

theorem local_opMakeInterface (C : Ctx) (t : TypeId) (x : Value) : Local (opMakeInterface C t x) := by
    unfold opMakeInterface
    repeat' first
      | exact Local.ret _
      | exact Local.fail
      | exact Local.lift _
      | exact Local.getO _
      | exact Local.putO _ _
      | exact Local.newO _
      | assumption
      | exact local_getCells _
      | exact local_getCellsW _
      | exact local_getCellsB _
      | exact local_getMap _
      | exact local_readCells _ _ _
      | exact local_writeCells _ _ _
      | exact local_newCells _
      | exact local_newBytes _
      | exact local_opLoad _ _ _
      | exact local_opStore _ _ _ _
      | exact local_opBox _
      | exact local_opAlloc _ _
      | exact local_opBuild _ _ _
      | exact local_opBuildSlice _ _ _ _
      | exact local_opMakeSlice _ _ _ _
      | exact local_opSlice _ _ _ _ _ _
      | exact local_opFieldAddr _ _ _ _
      | exact local_opIndexAddr _ _ _ _
      | exact local_opIndex _ _ _ _
      | exact local_opField _ _ _ _
      | exact local_opLookup _ _ _ _ _
      | exact local_opMapUpdate _ _ _ _ _
      | exact local_opDelete _ _ _ _
      | exact local_opLen _ _ _
      | exact local_opCap _ _ _
      | exact local_firstA _ _ _
      | exact local_appended _ _ _ _ _
      | exact local_opAppend _ _ _ _
      | exact local_opCopy _ _ _ _
      | exact local_opClear _ _ _
      | exact local_opConvert _ _ _ _
      | (refine Local.bind ?_ fun _ => ?_)
      | split
      | (rw [forceL_eq])
      | dsimp only

theorem local_opTypeAssert (C : Ctx) (x : Value) (t : TypeId) (ok : Bool) : Local (opTypeAssert C x t ok) := by
    unfold opTypeAssert
    repeat' first
      | exact Local.ret _
      | exact Local.fail
      | exact Local.lift _
      | exact Local.getO _
      | exact Local.putO _ _
      | exact Local.newO _
      | assumption
      | exact local_getCells _
      | exact local_getCellsW _
      | exact local_getCellsB _
      | exact local_getMap _
      | exact local_readCells _ _ _
      | exact local_writeCells _ _ _
      | exact local_newCells _
      | exact local_newBytes _
      | exact local_opLoad _ _ _
      | exact local_opStore _ _ _ _
      | exact local_opBox _
      | exact local_opAlloc _ _
      | exact local_opBuild _ _ _
      | exact local_opBuildSlice _ _ _ _
      | exact local_opMakeSlice _ _ _ _
      | exact local_opSlice _ _ _ _ _ _
      | exact local_opFieldAddr _ _ _ _
      | exact local_opIndexAddr _ _ _ _
      | exact local_opIndex _ _ _ _
      | exact local_opField _ _ _ _
      | exact local_opLookup _ _ _ _ _
      | exact local_opMapUpdate _ _ _ _ _
      | exact local_opDelete _ _ _ _
      | exact local_opLen _ _ _
      | exact local_opCap _ _ _
      | exact local_firstA _ _ _
      | exact local_appended _ _ _ _ _
      | exact local_opAppend _ _ _ _
      | exact local_opCopy _ _ _ _
      | exact local_opClear _ _ _
      | exact local_opConvert _ _ _ _
      | exact local_opMakeInterface _ _ _
      | (refine Local.bind ?_ fun _ => ?_)
      | split
      | (rw [forceL_eq])
      | dsimp only

theorem local_opExtract (x : Value) (i : Nat) : Local (opExtract x i) := by
    unfold opExtract
    repeat' first
      | exact Local.ret _
      | exact Local.fail
      | exact Local.lift _
      | exact Local.getO _
      | exact Local.putO _ _
      | exact Local.newO _
      | assumption
      | exact local_getCells _
      | exact local_getCellsW _
      | exact local_getCellsB _
      | exact local_getMap _
      | exact local_readCells _ _ _
      | exact local_writeCells _ _ _
      | exact local_newCells _
      | exact local_newBytes _
      | exact local_opLoad _ _ _
      | exact local_opStore _ _ _ _
      | exact local_opBox _
      | exact local_opAlloc _ _
      | exact local_opBuild _ _ _
      | exact local_opBuildSlice _ _ _ _
      | exact local_opMakeSlice _ _ _ _
      | exact local_opSlice _ _ _ _ _ _
      | exact local_opFieldAddr _ _ _ _
      | exact local_opIndexAddr _ _ _ _
      | exact local_opIndex _ _ _ _
      | exact local_opField _ _ _ _
      | exact local_opLookup _ _ _ _ _
      | exact local_opMapUpdate _ _ _ _ _
      | exact local_opDelete _ _ _ _
      | exact local_opLen _ _ _
      | exact local_opCap _ _ _
      | exact local_firstA _ _ _
      | exact local_appended _ _ _ _ _
      | exact local_opAppend _ _ _ _
      | exact local_opCopy _ _ _ _
      | exact local_opClear _ _ _
      | exact local_opConvert _ _ _ _
      | exact local_opMakeInterface _ _ _
      | exact local_opTypeAssert _ _ _ _
      | (refine Local.bind ?_ fun _ => ?_)
      | split
      | (rw [forceL_eq])
      | dsimp only

theorem local_opNilCheck (x : Value) : Local (opNilCheck x) := by
    unfold opNilCheck
    repeat' first
      | exact Local.ret _
      | exact Local.fail
      | exact Local.lift _
      | exact Local.getO _
      | exact Local.putO _ _
      | exact Local.newO _
      | assumption
      | exact local_getCells _
      | exact local_getCellsW _
      | exact local_getCellsB _
      | exact local_getMap _
      | exact local_readCells _ _ _
      | exact local_writeCells _ _ _
      | exact local_newCells _
      | exact local_newBytes _
      | exact local_opLoad _ _ _
      | exact local_opStore _ _ _ _
      | exact local_opBox _
      | exact local_opAlloc _ _
      | exact local_opBuild _ _ _
      | exact local_opBuildSlice _ _ _ _
      | exact local_opMakeSlice _ _ _ _
      | exact local_opSlice _ _ _ _ _ _
      | exact local_opFieldAddr _ _ _ _
      | exact local_opIndexAddr _ _ _ _
      | exact local_opIndex _ _ _ _
      | exact local_opField _ _ _ _
      | exact local_opLookup _ _ _ _ _
      | exact local_opMapUpdate _ _ _ _ _
      | exact local_opDelete _ _ _ _
      | exact local_opLen _ _ _
      | exact local_opCap _ _ _
      | exact local_firstA _ _ _
      | exact local_appended _ _ _ _ _
      | exact local_opAppend _ _ _ _
      | exact local_opCopy _ _ _ _
      | exact local_opClear _ _ _
      | exact local_opConvert _ _ _ _
      | exact local_opMakeInterface _ _ _
      | exact local_opTypeAssert _ _ _ _
      | exact local_opExtract _ _
      | (refine Local.bind ?_ fun _ => ?_)
      | split
      | (rw [forceL_eq])
      | dsimp only

theorem local_opBuiltin (C : Ctx) (b : Builtin) (ts : Array TypeId) (args : List Value) : Local (opBuiltin C b ts args) := by
    unfold opBuiltin
    repeat' first
      | exact Local.ret _
      | exact Local.fail
      | exact Local.lift _
      | exact Local.getO _
      | exact Local.putO _ _
      | exact Local.newO _
      | assumption
      | exact local_getCells _
      | exact local_getCellsW _
      | exact local_getCellsB _
      | exact local_getMap _
      | exact local_readCells _ _ _
      | exact local_writeCells _ _ _
      | exact local_newCells _
      | exact local_newBytes _
      | exact local_opLoad _ _ _
      | exact local_opStore _ _ _ _
      | exact local_opBox _
      | exact local_opAlloc _ _
      | exact local_opBuild _ _ _
      | exact local_opBuildSlice _ _ _ _
      | exact local_opMakeSlice _ _ _ _
      | exact local_opSlice _ _ _ _ _ _
      | exact local_opFieldAddr _ _ _ _
      | exact local_opIndexAddr _ _ _ _
      | exact local_opIndex _ _ _ _
      | exact local_opField _ _ _ _
      | exact local_opLookup _ _ _ _ _
      | exact local_opMapUpdate _ _ _ _ _
      | exact local_opDelete _ _ _ _
      | exact local_opLen _ _ _
      | exact local_opCap _ _ _
      | exact local_firstA _ _ _
      | exact local_appended _ _ _ _ _
      | exact local_opAppend _ _ _ _
      | exact local_opCopy _ _ _ _
      | exact local_opClear _ _ _
      | exact local_opConvert _ _ _ _
      | exact local_opMakeInterface _ _ _
      | exact local_opTypeAssert _ _ _ _
      | exact local_opExtract _ _
      | exact local_opNilCheck _
      | (refine Local.bind ?_ fun _ => ?_)
      | split
      | (rw [forceL_eq])
      | dsimp only

end Go.Ab
