/- Rules over the abstract machine: its operations, one by one. -/
import Derived.Test.YtofikbfljjjgeaaGreatDoorE40
set_option linter.unusedVariables false
set_option linter.unusedSimpArgs false
namespace Go.Ab
def Has (h : T AObj) (b : Nat) (o : AObj) : Prop := h.get b = some o
def Fresh (h : T AObj) (c : Nat) : Prop := ∀ b, c ≤ b → h.get b = none
def Cel (h : T AObj) (b : Nat) (cs : List Value) : Prop := Has h b (.cells cs) ∨ Has h b (.ro cs) ∨ Has h b (.bytes cs)
theorem Has.same {h : T AObj} {b : Nat} {o : AObj} : Has (h.set b (some o)) b o := by unfold Has; rw [T.get_set, if_pos rfl]
theorem Has.other {h : T AObj} {b b' : Nat} {o : AObj} {x : Option AObj} (k : b ≠ b') (hb : Has h b o) : Has (h.set b' x) b o := by unfold Has; rw [T.get_set, if_neg k]; exact hb
theorem Has.cel {h : T AObj} {b : Nat} {cs : List Value} (hb : Has h b (.cells cs)) : Cel h b cs := .inl hb
theorem Has.celR {h : T AObj} {b : Nat} {cs : List Value} (hb : Has h b (.ro cs)) : Cel h b cs := .inr (.inl hb)
theorem Cel.other {h : T AObj} {b b' : Nat} {cs : List Value} {x : Option AObj} (k : b ≠ b') (hb : Cel h b cs) : Cel (h.set b' x) b cs := hb.imp (Has.other k) (Or.imp (Has.other k) (Has.other k))
theorem Has.lt {h : T AObj} {b c : Nat} {o : AObj} (hf : Fresh h c) (hb : Has h b o) : b < c := by
 rcases Nat.lt_or_ge b c with k | k
 ·exact k
 ·rw [Has, hf b k] at hb; cases hb
theorem Cel.lt {h : T AObj} {b c : Nat} {cs : List Value} (hf : Fresh h c) (hb : Cel h b cs) : b < c := by
 rcases hb with hb | hb | hb <;> exact hb.lt hf
theorem Fresh.new {h : T AObj} {c : Nat} {o : Option AObj} (hf : Fresh h c) : Fresh (h.set c o) (c + 1) := fun b hb => by rw [T.get_set, if_neg (by omega)]; exact hf b (by omega)
theorem Fresh.put {h : T AObj} {c b : Nat} {o : Option AObj} (hb : b < c) (hf : Fresh h c) : Fresh (h.set b o) c := fun x hx => by rw [T.get_set, if_neg (by omega)]; exact hf x hx
section prim
variable {h : T AObj} {c : Nat} {rl wl : List Nat} {b : Nat}
theorem getO_run {o : AObj} (hb : Has h b o) (hc : b < c) : getO b ⟨h, c, rl, wl⟩ = some (o, ⟨h, c, b :: rl, wl⟩) := by
 show Bool.rec (motive := fun _ => Option (AObj × St)) (Option.rec (motive := fun _ => Option (AObj × St)) none (fun o => some (o, ⟨h, c, b :: rl, wl⟩)) (h.get b)) none (Nat.ble c b) = _
 rw [show Nat.ble c b = false from ble_false.2 (by omega), hb]
theorem putO_run {o : AObj} {x : Option AObj} (hb : Has h b o) (hc : b < c) : putO b x ⟨h, c, rl, wl⟩ = some ((), ⟨h.set b x, c, rl, b :: wl⟩) := by
 show Bool.rec (motive := fun _ => Option (Unit × St)) (Option.rec (motive := fun _ => Option (Unit × St)) none (fun _ => (h.set b x).force fun h => some ((), ⟨h, c, rl, b :: wl⟩)) (h.get b)) none (Nat.ble c b) = _
 rw [show Nat.ble c b = false from ble_false.2 (by omega), hb]
 simp only [T.force_eq]
theorem newO_run {o : AObj} (hf : Fresh h c) : newO o ⟨h, c, rl, wl⟩ = some (c, ⟨h.set c (some o), c + 1, rl, wl⟩) := by
 show Option.rec (motive := fun _ => Option (Nat × St)) ((h.set c (some o)).force fun h => some (c, ⟨h, Nat.add c 1, rl, wl⟩)) (fun _ => none) (h.get c) = _
 rw [hf c (Nat.le_refl _)]
 simp only [T.force_eq]
theorem getCells_run {cs : List Value} (hb : Cel h b cs) (hc : b < c) : getCells b ⟨h, c, rl, wl⟩ = some (cs, ⟨h, c, b :: rl, wl⟩) := by
 unfold getCells
 rcases hb with hb | hb | hb <;> (rw [bind_run (getO_run hb hc)]; rfl)
theorem getCellsW_run {cs : List Value} (hb : Has h b (.cells cs)) (hc : b < c) : getCellsW b ⟨h, c, rl, wl⟩ = some (cs, ⟨h, c, b :: rl, wl⟩) := by
 unfold getCellsW
 rw [bind_run (getO_run hb hc)]; rfl
theorem getMap_run {es : List (Value × Value × Nat)} {k : Nat} (hb : Has h b (.map es k)) (hc : b < c) : getMap b ⟨h, c, rl, wl⟩ = some ((es, k), ⟨h, c, b :: rl, wl⟩) := by
 unfold getMap
 rw [bind_run (getO_run hb hc)]; rfl
theorem lift_run {α : Type} {x : Option α} {a : α} {s : St} (hx : x = some a) : M.lift x s = some (a, s) := by
 show Option.rec (motive := fun _ => Option (α × St)) none (fun a => some (a, s)) x = _
 rw [hx]
theorem newCells_run {cs : List Value} (hf : Fresh h c) : newCells cs ⟨h, c, rl, wl⟩ = some (c, ⟨h.set c (some (.cells cs)), c + 1, rl, wl⟩) := by
 unfold newCells
 rw [forceL_eq]
 exact newO_run hf
theorem readCells_run {cs r : List Value} {o n : Nat} (hb : Cel h b cs) (hc : b < c) (hs : subN o n cs = some r) : readCells b o n ⟨h, c, rl, wl⟩ = some (r, ⟨h, c, b :: rl, wl⟩) := by
 unfold readCells
 rw [bind_run (getCells_run hb hc)]
 exact lift_run hs
theorem writeCells_run {cs xs r : List Value} {o : Nat} (hb : Has h b (.cells cs)) (hc : b < c) (hs : setMany xs cs o = some r) : writeCells b o xs ⟨h, c, rl, wl⟩ = some ((), ⟨h.set b (some (.cells r)), c, b :: rl, b :: wl⟩) := by
 unfold writeCells
 rw [bind_run (getCellsW_run hb hc), bind_run (lift_run hs)]
 exact putO_run hb hc
theorem opBox_run {x : Value} {cs : List Value} (hx : cellsA x = some cs) (hf : Fresh h c) : opBox x ⟨h, c, rl, wl⟩ = some (.pointer (some ⟨c, 0, none⟩), ⟨h.set c (some (.cells cs)), c + 1, rl, wl⟩) := by
 unfold opBox
 rw [bind_run (lift_run hx), bind_run (newCells_run hf)]; rfl
end prim
section ops
variable {C : Ctx} {eg : TypeId → Bool} {e : Env} {s : St} {h : T AObj} {c : Nat} {rl wl : List Nat} {d : Option Nat} {ty : TypeId} {ps : String} {af : Array Edge} {g : Option (Nat × Bool)}
theorem to_move {x : Operand} {v : Value} (hx : evalA e x = v) : OpTo C eg e ⟨d, .move x, ty, ps, af, g⟩ s v s := ⟨0, by show M.ret (evalA e x) s = _; rw [hx]; rfl⟩
theorem to_assign {x : Operand} {v : Value} (hx : evalA e x = v) : OpTo C eg e ⟨d, .assign x, ty, ps, af, g⟩ s v s := ⟨0, by show M.ret (evalA e x) s = _; rw [hx]; rfl⟩
theorem to_pickT {x a b : Operand} {v : Value} (hx : evalA e x = .bool true) (ha : evalA e a = v) : OpTo C eg e ⟨d, .pick x a b, ty, ps, af, g⟩ s v s := ⟨0, by show rPick e x a b s = _; unfold rPick; rw [hx, ha]; rfl⟩
theorem to_pickF {x a b : Operand} {v : Value} (hx : evalA e x = .bool false) (ha : evalA e b = v) : OpTo C eg e ⟨d, .pick x a b, ty, ps, af, g⟩ s v s := ⟨0, by show rPick e x a b s = _; unfold rPick; rw [hx, ha]; rfl⟩
theorem to_box {t : TypeId} {x : Operand} {v : Value} {cs : List Value} (hx : evalA e x = v) (hc : cellsA v = some cs) (hf : Fresh h c) :
  OpTo C eg e ⟨d, .box t x, ty, ps, af, g⟩ ⟨h, c, rl, wl⟩ (.pointer (some ⟨c, 0, none⟩)) ⟨h.set c (some (.cells cs)), c + 1, rl, wl⟩ :=
 ⟨0, by show opBox (evalA e x) _ = _; rw [hx]; exact opBox_run hc hf⟩
theorem to_alloc {t : TypeId} {z : Value} {cs : List Value} (hz : C.zero t = some z) (hc : cellsA z = some cs) (hf : Fresh h c) :
  OpTo C eg e ⟨d, .alloc t, ty, ps, af, g⟩ ⟨h, c, rl, wl⟩ (.pointer (some ⟨c, 0, none⟩)) ⟨h.set c (some (.cells cs)), c + 1, rl, wl⟩ :=
 ⟨0, by show opAlloc C t _ = _; unfold opAlloc; rw [bind_run (lift_run hz)]; exact opBox_run hc hf⟩
noncomputable def plainT (C : Ctx) (t : TypeId) : Bool := match C.und t with | none => false | some (.struct _) => false | some (.array _ _) => false | some _ => true
noncomputable def aggT (C : Ctx) (t : TypeId) : Option Nat := match C.und t with | some (.struct _) => C.size t | some (.array _ _) => C.size t | _ => none
theorem to_load {t : TypeId} {a : Operand} {b o : Nat} {cs : List Value} {v : Value} (ht : plainT C t = true) (ha : evalA e a = .pointer (some ⟨b, o, none⟩)) (hb : Cel h b cs) (hc : b < c) (hv : nth cs o = some v) :
  OpTo C eg e ⟨d, .load t a, ty, ps, af, g⟩ ⟨h, c, rl, wl⟩ v ⟨h, c, b :: rl, wl⟩ := ⟨0, by
 show opLoad C t (evalA e a) _ = _
 rw [ha]
 unfold plainT at ht
 unfold opLoad
 simp only [addrOf]
 cases hu : C.und t with
 | none => rw [hu] at ht; cases ht
 | some u =>
  rw [hu] at ht
  cases u <;> first | (cases ht; done) | (simp only; rw [bind_run (getCells_run hb hc)]; simp only [hv]; rfl)⟩
theorem to_loadS {t : TypeId} {a : Operand} {b o n : Nat} {cs r : List Value} (ht : aggT C t = some n) (ha : evalA e a = .pointer (some ⟨b, o, none⟩)) (hb : Cel h b cs) (hc : b < c) (hv : subN o n cs = some r) :
  OpTo C eg e ⟨d, .load t a, ty, ps, af, g⟩ ⟨h, c, rl, wl⟩ (.agg ⟨r⟩) ⟨h, c, b :: rl, wl⟩ := ⟨0, by
 show opLoad C t (evalA e a) _ = _
 rw [ha]
 unfold aggT at ht
 unfold opLoad
 simp only [addrOf]
 cases hu : C.und t with
 | none => rw [hu] at ht; cases ht
 | some u =>
  rw [hu] at ht
  cases u <;> first | (cases ht; done) | (simp only at ht ⊢; rw [ht]; simp only; rw [bind_run (readCells_run hb hc hv)]; rfl)⟩
theorem to_store {t : TypeId} {a x : Operand} {b o n : Nat} {cs xs r : List Value} {v : Value} (ht : C.size t = some n) (ha : evalA e a = .pointer (some ⟨b, o, none⟩)) (hx : evalA e x = v) (hxs : cellsA v = some xs) (hn : Nat.beq (len xs) n = true) (hb : Has h b (.cells cs)) (hc : b < c) (hr : setMany xs cs o = some r) :
  OpTo C eg e ⟨d, .store t a x, ty, ps, af, g⟩ ⟨h, c, rl, wl⟩ undefA ⟨h.set b (some (.cells r)), c, b :: rl, b :: wl⟩ := ⟨0, by
 show opStore C t (evalA e a) (evalA e x) _ = _
 rw [ha, hx]
 unfold opStore
 simp only [addrOf, ht]
 rw [bind_run (lift_run hxs)]
 simp only [hn]
 rw [bind_run (writeCells_run hb hc hr)]; rfl⟩
theorem to_nilCheck {x : Operand} {a : Addr} (hx : evalA e x = .pointer (some a)) : OpTo C eg e ⟨d, .nilCheck x, ty, ps, af, g⟩ s (.pointer (some a)) s := ⟨0, by
 show opNilCheck (evalA e x) s = _; rw [hx]; rfl⟩
noncomputable def fieldAt (C : Ctx) (t : TypeId) (f : Nat) : Option (Nat × TypeId) :=
 match C.und t with
 | some (.struct fields) => match nth fields.toList f with | none => none | some f => match C.size f.type with | some (_ + 1) => some (f.offset, f.type) | _ => none
 | _ => none
theorem to_fieldAddr {t : TypeId} {x : Operand} {f b o off : Nat} {ft : TypeId} (ht : fieldAt C t f = some (off, ft)) (hx : evalA e x = .pointer (some ⟨b, o, none⟩)) :
  OpTo C eg e ⟨d, .fieldAddr t x f, ty, ps, af, g⟩ s (.pointer (some ⟨b, o + off, none⟩)) s := ⟨0, by
 show opFieldAddr C t (evalA e x) f s = _
 rw [hx]
 unfold fieldAt at ht
 unfold opFieldAddr
 simp only [addrOf]
 cases hu : C.und t with
 | none => rw [hu] at ht; cases ht
 | some u =>
  rw [hu] at ht
  cases u <;> first | (cases ht; done) | skip
  rename_i fields
  simp only at ht ⊢
  cases hn : nth fields.toList f with
  | none => rw [hn] at ht; cases ht
  | some fl =>
   rw [hn] at ht
   simp only at ht ⊢
   cases hz : C.size fl.type with
   | none => rw [hz] at ht; cases ht
   | some z =>
    rw [hz] at ht
    cases z with
    | zero => cases ht
    | succ z => simp only [Option.some.injEq, Prod.mk.injEq] at ht ⊢; rw [ht.1]; rfl⟩
noncomputable def elemAt (C : Ctx) (t : TypeId) : Option Nat := match C.und t with | some (.slice e) => C.size e | _ => none
theorem to_indexAddr {t : TypeId} {x i : Operand} {ob off : Nat} {sp : Option Nat} {len cap n k : Nat} {j : IntKind} {z : Int} (ht : elemAt C t = some n) (hx : evalA e x = .slice (some ⟨ob, off, sp⟩) len cap) (hi : evalA e i = .int j z) (hz : z = (k : Int)) (hk : k < len) :
  OpTo C eg e ⟨d, .indexAddr t x i, ty, ps, af, g⟩ s (.pointer (some ⟨ob, off + k * n, none⟩)) s := ⟨0, by
 show opIndexAddr C t (evalA e x) (evalA e i) s = _
 subst hz
 rw [hx, hi]
 unfold elemAt at ht
 unfold opIndexAddr
 rw [show natOf (.int j (k : Int)) = some k from rfl]
 cases hu : C.und t with
 | none => rw [hu] at ht; cases ht
 | some u =>
  rw [hu] at ht
  cases u <;> first | (cases ht; done) | skip
  simp only at ht ⊢
  rw [ht, show Nat.blt k len = true from blt_iff.2 hk]; rfl⟩
theorem to_extract {x : Operand} {i : Nat} {vs : Array Value} {v : Value} (hx : evalA e x = .tuple vs) (hv : nth vs.toList i = some v) : OpTo C eg e ⟨d, .extract x i, ty, ps, af, g⟩ s v s := ⟨0, by
 show opExtract (evalA e x) i s = _; rw [hx]; exact lift_run hv⟩
theorem to_makeFunc {fn : Fn} {a b : Array Operand} {xs ys : List Value} (ha : mapA (evalA e) a.toList = xs) (hb : mapA (evalA e) b.toList = ys) : OpTo C eg e ⟨d, .makeFunc fn a b, ty, ps, af, g⟩ s (.func fn ⟨xs⟩ ⟨ys⟩) s := ⟨0, by
 show rMakeFunc e fn a b s = _; unfold rMakeFunc; rw [ha, hb]; rfl⟩
theorem to_makeMap {t : TypeId} (hf : Fresh h c) : OpTo C eg e ⟨d, .makeMap t none, ty, ps, af, g⟩ ⟨h, c, rl, wl⟩ (.map (some c)) ⟨h.set c (some (.map [] 0)), c + 1, rl, wl⟩ := ⟨0, by
 show ((newO (AObj.map [] 0)).bind fun b => M.ret (Value.map (some b))) _ = _
 rw [bind_run (newO_run hf)]; rfl⟩
theorem to_bin {op : BinOp} {t t2 : TypeId} {x y : Operand} {a b v : Value} (hx : evalA e x = a) (hy : evalA e y = b) (hv : opBin C eg op t x y a b = some v) : OpTo C eg e ⟨d, .binOp op t x y t2, ty, ps, af, g⟩ s v s := ⟨0, by
 show rBin C eg e op t x y t2 s = _
 unfold rBin
 rw [hx, hy]; exact lift_run hv⟩
theorem to_un {op : UnOp} {t : TypeId} {x : Operand} {a v : Value} (hx : evalA e x = a) (hv : opUn op a = some v) : OpTo C eg e ⟨d, .unOp op t x, ty, ps, af, g⟩ s v s := ⟨0, by
 show rUn e op t x s = _
 unfold rUn
 rw [hx]; exact lift_run hv⟩
noncomputable def convK (C : Ctx) (a b : TypeId) : Option IntKind := match C.und a, C.und b with | some (.int _), some (.int k) => some k | _, _ => none
theorem to_convert {a b : TypeId} {x : Operand} {j k : IntKind} {z : Int} (ht : convK C a b = some k) (hx : evalA e x = .int j z) : OpTo C eg e ⟨d, .convert a b x, ty, ps, af, g⟩ s (.int k (wrapA k z)) s := ⟨0, by
 show opConvert C a b (evalA e x) s = _
 rw [hx]
 unfold convK at ht
 unfold opConvert
 cases hu : C.und a with
 | none => rw [hu] at ht; cases ht
 | some u =>
  cases hw : C.und b with
  | none => rw [hu, hw] at ht; cases u <;> cases ht
  | some w =>
   rw [hu, hw] at ht
   cases u <;> first | (cases ht; done) | skip
   cases w <;> first | (cases ht; done) | skip
   simp only [Option.some.injEq] at ht
   subst ht
   rfl⟩
noncomputable def buildT (C : Ctx) (t : TypeId) : Option (List (Nat × Nat) × List Value) :=
 match C.und t, C.zero t with
 | some (.struct fields), some z => (match placesA C fields.toList, cellsA z with | some pl, some zs => some (pl, zs) | _, _ => none)
 | _, _ => none
theorem buildT_some {t : TypeId} {pl : List (Nat × Nat)} {zs : List Value} (h : buildT C t = some (pl, zs)) : ∃ fields z, C.und t = some (.struct fields) ∧ C.zero t = some z ∧ placesA C fields.toList = some pl ∧ cellsA z = some zs := by
 unfold buildT at h
 split at h
 ·rename_i f z h1 h2
  split at h
  ·rename_i p q h3 h4
   cases h
   exact ⟨f, z, h1, h2, h3, h4⟩
  ·cases h
 ·cases h
theorem to_build {t : TypeId} {parts : Array (Nat × Operand)} {pl : List (Nat × Nat)} {zs cs : List Value} (ht : buildT C t = some (pl, zs)) (hv : fillA (nth pl) zs (partsOf e parts) = some cs) :
  OpTo C eg e ⟨d, .build t parts, ty, ps, af, g⟩ s (.agg ⟨cs⟩) s := ⟨0, by
 obtain ⟨fields, z, h1, h2, h3, h4⟩ := buildT_some ht
 show opBuild C t (partsOf e parts) s = _
 unfold opBuild
 rw [h1, h2]
 simp only
 rw [bind_run (lift_run h3), bind_run (lift_run h4), bind_run (lift_run hv)]; rfl⟩
theorem to_buildSlice {t et : TypeId} {k n by_ : Nat} {z cs : List Value} {parts : Array (Nat × Operand)} (ht : C.row t = some (et, n, by_, z)) (hk : Nat.ble (k * n) big = true) (hv : fillA (fun i => some (i * n, n)) (rep z k) (partsOf e parts) = some cs) (hf : Fresh h c) :
  OpTo C eg e ⟨d, .buildSlice t k parts, ty, ps, af, g⟩ ⟨h, c, rl, wl⟩ (.slice (some ⟨c, 0, none⟩) k k) ⟨h.set c (some (.cells cs)), c + 1, rl, wl⟩ := ⟨0, by
 show opBuildSlice C t k (partsOf e parts) _ = _
 unfold opBuildSlice
 rw [bind_run (lift_run ht)]
 simp only [hk]
 rw [bind_run (lift_run hv), bind_run (newCells_run hf)]; rfl⟩
theorem to_makeSlice {t et : TypeId} {l m : Operand} {n by_ a b : Nat} {j j' : IntKind} {y y' : Int} {z : List Value} (ht : C.row t = some (et, n, by_, z)) (hl : evalA e l = .int j y) (hm : evalA e m = .int j' y') (ha : y = (a : Int)) (hb : y' = (b : Int)) (hab : a ≤ b) (hbb : b ≤ big) (hf : Fresh h c) :
  OpTo C eg e ⟨d, .makeSlice t l m, ty, ps, af, g⟩ ⟨h, c, rl, wl⟩ (.slice (some ⟨c, 0, none⟩) a b) ⟨h.set c (some (.cells (rep z b))), c + 1, rl, wl⟩ := ⟨0, by
 show opMakeSlice C t (evalA e l) (evalA e m) _ = _
 subst ha; subst hb
 rw [hl, hm]
 unfold opMakeSlice
 rw [show natOf (.int j (a : Int)) = some a from rfl, show natOf (.int j' (b : Int)) = some b from rfl]
 simp only
 rw [bind_run (lift_run ht)]
 simp only [show (Nat.ble a b && Nat.ble b big) = true by rw [ble_iff.2 hab, ble_iff.2 hbb]; rfl]
 rw [bind_run (newCells_run hf)]; rfl⟩
end ops
section maps
variable {C : Ctx} {eg : TypeId → Bool} {e : Env} {s : St} {h : T AObj} {c : Nat} {rl wl : List Nat} {d : Option Nat} {ty : TypeId} {ps : String} {af : Array Edge} {g : Option (Nat × Bool)}
noncomputable def mapInt (C : Ctx) (t : TypeId) : Option (IntKind × TypeId) := match C.und t with | some (.map kt et) => (match C.und kt with | some (.int k) => some (k, et) | _ => none) | _ => none
noncomputable def findI (x : Int) : List (Value × Value × Nat) → Option (Nat × Value)
 | [] => none
 | (.int _ y, v, _) :: es => if x = y then some (0, v) else (findI x es).map fun p => (p.1 + 1, p.2)
 | _ :: es => (findI x es).map fun p => (p.1 + 1, p.2)
def KeysI (j : IntKind) (es : List (Value × Value × Nat)) : Prop := ∀ p ∈ es, ∃ y, p.1 = .int j y
theorem findA_int {j : IntKind} {x : Int} : ∀ (es : List (Value × Value × Nat)) (i : Nat), KeysI j es → findA (.int j x) es i = some ((findI x es).map fun p => (p.1 + i, p.2)) := by
 intro es
 induction es with
 | nil => intro i _; rfl
 | cons p es ih =>
  intro i hk
  obtain ⟨k, v, b⟩ := p
  obtain ⟨y, hy⟩ := hk _ (List.mem_cons_self ..)
  simp only at hy
  subst hy
  have ih' := ih (i + 1) fun p hp => hk p (List.mem_cons_of_mem _ hp)
  show (match keyEq (.int j x) (.int j y) with | none => none | some true => some (some (i, v)) | some false => findA (.int j x) es (i + 1)) = _
  rw [show keyEq (.int j x) (.int j y) = some (decide (x = y)) by simp [keyEq]]
  unfold findI
  by_cases hxy : x = y
  ·rw [decide_eq_true hxy, if_pos hxy]; simp
  ·rw [decide_eq_false hxy, if_neg hxy, ih']
   cases findI x es with
   | none => rfl
   | some q => simp; omega
theorem mapInt_some {t : TypeId} {k : IntKind} {et : TypeId} (ht : mapInt C t = some (k, et)) : ∃ kt, C.und t = some (.map kt et) ∧ keyKind C kt = some (.int k) := by
 unfold mapInt at ht
 cases hu : C.und t with
 | none => rw [hu] at ht; cases ht
 | some u =>
  rw [hu] at ht
  cases u <;> first | (cases ht; done) | skip
  rename_i kt et'
  simp only at ht
  cases hw : C.und kt with
  | none => rw [hw] at ht; cases ht
  | some w =>
   rw [hw] at ht
   cases w <;> first | (cases ht; done) | skip
   simp only [Option.some.injEq, Prod.mk.injEq] at ht
   obtain ⟨rfl, rfl⟩ := ht
   exact ⟨kt, rfl, by unfold keyKind; rw [hw]⟩
theorem to_lookup {t et : TypeId} {m k : Operand} {j : IntKind} {x : Int} {b n : Nat} {es : List (Value × Value × Nat)} {z v : Value} (ht : mapInt C t = some (j, et)) (hz : C.zero et = some z) (hm : evalA e m = .map (some b)) (hk : evalA e k = .int j x) (hb : Has h b (.map es n)) (hc : b < c) (hes : KeysI j es)
  (hv : (match findI x es with | some p => p.2 | none => z) = v) : OpTo C eg e ⟨d, .lookup t m k false, ty, ps, af, g⟩ ⟨h, c, rl, wl⟩ v ⟨h, c, b :: rl, wl⟩ := ⟨0, by
 obtain ⟨kt, h1, h2⟩ := mapInt_some ht
 show opLookup C t (evalA e m) (evalA e k) false _ = _
 rw [hm, hk]
 unfold opLookup
 rw [h1]
 simp only [h2, fits]
 rw [bind_run (getMap_run hb hc)]
 simp only [findA_int es 0 hes]
 cases hf : findI x es with
 | none =>
  rw [hf] at hv
  simp only at hv
  subst hv
  simp only [Option.map_none]
  rw [bind_run (lift_run hz)]; rfl
 | some p =>
  rw [hf] at hv
  simp only at hv
  subst hv
  rfl⟩
noncomputable def putI (j : IntKind) (x : Int) (v : Value) (n : Nat) (es : List (Value × Value × Nat)) : List (Value × Value × Nat) × Nat :=
 match findI x es with
 | some p => (modA (.int j x) v es p.1, n)
 | none => (es ++ [(.int j x, v, n)], n + 1)
theorem to_mapUpdate {t et : TypeId} {m k y : Operand} {j : IntKind} {x : Int} {b n : Nat} {es : List (Value × Value × Nat)} {v : Value} (ht : mapInt C t = some (j, et)) (hm : evalA e m = .map (some b)) (hk : evalA e k = .int j x) (hy : evalA e y = v) (hb : Has h b (.map es n)) (hc : b < c) (hes : KeysI j es) :
  OpTo C eg e ⟨d, .mapUpdate t m k y, ty, ps, af, g⟩ ⟨h, c, rl, wl⟩ undefA ⟨h.set b (some (.map (putI j x v n es).1 (putI j x v n es).2)), c, b :: rl, b :: wl⟩ := ⟨0, by
 obtain ⟨kt, h1, h2⟩ := mapInt_some ht
 show opMapUpdate C t (evalA e m) (evalA e k) (evalA e y) _ = _
 rw [hm, hk, hy]
 unfold opMapUpdate
 rw [h1]
 simp only [h2, fits]
 rw [bind_run (getMap_run hb hc)]
 simp only [findA_int es 0 hes]
 unfold putI
 cases hf : findI x es with
 | none =>
  simp only [Option.map_none]
  rw [forceL_eq, bind_run (putO_run hb hc), app_eq]; rfl
 | some p =>
  simp only [Option.map_some, Nat.add_zero]
  rw [forceL_eq, bind_run (putO_run hb hc)]; rfl⟩
noncomputable def delI (x : Int) (es : List (Value × Value × Nat)) : List (Value × Value × Nat) := match findI x es with | some p => eraseA es p.1 | none => es
end maps
section builtins
variable {C : Ctx} {eg : TypeId → Bool} {e : Env} {s : St} {h : T AObj} {c : Nat} {rl wl : List Nat} {d : Option Nat} {ty : TypeId} {ps : String} {af : Array Edge} {g : Option (Nat × Bool)}
noncomputable def sliceT (C : Ctx) (t : TypeId) : Bool := match C.und t with | some (.slice _) => true | _ => false
theorem to_lenS {t : TypeId} {x : Operand} {a : Option Addr} {n cap : Nat} (ht : sliceT C t = true) (hx : evalA e x = .slice a n cap) :
  OpTo C eg e ⟨d, .call ⟨.builtin .len, #[x], #[t]⟩, ty, ps, af, g⟩ s (.int .i64 (n : Int)) s := ⟨0, by
 show (M.lift (some t)).bind (fun t => opLen C t (evalA e x)) s = _
 rw [hx, bind_run (lift_run rfl)]
 unfold sliceT at ht
 unfold opLen
 cases hu : C.und t with
 | none => rw [hu] at ht; cases ht
 | some u => rw [hu] at ht; cases u <;> first | (cases ht; done) | rfl⟩
theorem to_min {ts : Array TypeId} {x y : Operand} {j k : IntKind} {a b : Int} (hx : evalA e x = .int j a) (hy : evalA e y = .int k b) :
  OpTo C eg e ⟨d, .call ⟨.builtin .min, #[x, y], ts⟩, ty, ps, af, g⟩ s (.int j (min a b)) s := ⟨0, by
 show M.lift (foldA min2A (evalA e x) [evalA e y]) s = _
 rw [hx, hy]
 refine lift_run ?_
 show (match min2A (.int j a) (.int k b) with | none => none | some z => foldA min2A z []) = _
 simp only [min2A]
 show some (Value.int j (match decide (b < a) with | true => b | false => a)) = _
 by_cases hb : b < a
 ·rw [decide_eq_true hb]; simp only; rw [Int.min_eq_right (by omega)]
 ·rw [decide_eq_false hb]; simp only; rw [Int.min_eq_left (by omega)]⟩
theorem to_max {ts : Array TypeId} {x y : Operand} {j k : IntKind} {a b : Int} (hx : evalA e x = .int j a) (hy : evalA e y = .int k b) :
  OpTo C eg e ⟨d, .call ⟨.builtin .max, #[x, y], ts⟩, ty, ps, af, g⟩ s (.int j (max a b)) s := ⟨0, by
 show M.lift (foldA max2A (evalA e x) [evalA e y]) s = _
 rw [hx, hy]
 refine lift_run ?_
 show (match max2A (.int j a) (.int k b) with | none => none | some z => foldA max2A z []) = _
 simp only [max2A]
 show some (Value.int j (match decide (b > a) with | true => b | false => a)) = _
 by_cases hb : b > a
 ·rw [decide_eq_true hb]; simp only; rw [Int.max_eq_right (by omega)]
 ·rw [decide_eq_false hb]; simp only; rw [Int.max_eq_left (by omega)]⟩
theorem to_delete {t et t2 : TypeId} {m k : Operand} {j : IntKind} {x : Int} {b n : Nat} {es : List (Value × Value × Nat)} (ht : mapInt C t = some (j, et)) (hm : evalA e m = .map (some b)) (hk : evalA e k = .int j x) (hb : Has h b (.map es n)) (hc : b < c) (hes : KeysI j es) :
  OpTo C eg e ⟨d, .call ⟨.builtin .delete, #[m, k], #[t, t2]⟩, ty, ps, af, g⟩ ⟨h, c, rl, wl⟩ undefA ⟨h.set b (some (.map (delI x es) n)), c, b :: rl, b :: wl⟩ := ⟨0, by
 obtain ⟨kt, h1, h2⟩ := mapInt_some ht
 show (M.lift (some t)).bind (fun t => opDelete C t (evalA e m) (evalA e k)) _ = _
 rw [hm, hk, bind_run (lift_run rfl)]
 unfold opDelete
 rw [h1]
 simp only [h2, fits]
 rw [bind_run (getMap_run hb hc)]
 simp only [findA_int es 0 hes]
 unfold delI
 cases hf : findI x es with
 | none =>
  simp only [Option.map_none]
  rw [bind_run (putO_run hb hc)]; rfl
 | some p =>
  simp only [Option.map_some, Nat.add_zero]
  rw [forceL_eq, bind_run (putO_run hb hc)]; rfl⟩
end builtins
end Go.Ab
