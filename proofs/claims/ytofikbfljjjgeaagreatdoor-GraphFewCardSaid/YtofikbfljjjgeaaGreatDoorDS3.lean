/- The functions without a body, and the methods of reflectlite's rtype, are contracts. -/
import Derived.Test.YtofikbfljjjgeaaGreatDoorDS1
import Derived.Test.YtofikbfljjjgeaaGreatDoorE22
import Derived.Laws.Externs
import Derived.Lib.Overlaps
set_option linter.unusedVariables false
set_option linter.unusedSimpArgs false
namespace Go.Ab.Seat
open Go.Extern Go.Proofs
set_option maxRecDepth 1000000
section
variable {ι : Iota} {h : T AObj} {H : Array Obj}
theorem hd_VR (hr : HR 3 ι h H) (t : Nat) : VR ι (hd t) (hd t) := by
 obtain ⟨L, hL, h1, h2⟩ := hr.glob 2 (by decide)
 have := VR.ptr (ι := ι) 2 t L hL
 rw [h1, h2, Nat.zero_add] at this
 exact this
theorem unHd_VR (hr : HR 3 ι h H) {v v' : Value} {t : Nat} (hu : unHd v = some t) (hv : VR ι v v') : v' = hd t := by
 unfold unHd at hu
 split at hu
 ·rename_i b o
  cases hb : Nat.beq b G0 with
  | false => rw [hb] at hu; cases hu
  | true =>
   rw [hb] at hu
   have := beq_iff.1 hb
   subst this
   simp only [cond_true, Option.some.injEq] at hu
   subst hu
   obtain ⟨L, hL, h1, h2⟩ := hr.glob 2 (by decide)
   cases hv with
   | ptr _ _ L' hL' =>
    have : L' = L := by have h3 : ι 2 = some L' := hL'; rw [hL] at h3; cases h3; rfl
    subst this
    rw [h1, h2, Nat.zero_add]; rfl
 ·cases hu
theorem rt_VR (hr : HR 3 ι h H) (t : Nat) : VR ι (rt t) (rt t) :=
 .iface _ _ _ (.agg _ _ rfl (VRl.cons (hd_VR hr t) (VRl.nil ι)).2)
theorem unRt_VR (hr : HR 3 ι h H) {v v' : Value} {t : Nat} (hu : unRt v = some t) (hv : VR ι v v') : v' = .agg #[hd t] := by
 cases v with
 | agg cs =>
  cases hv with
  | agg _ cs' h1 h2 =>
   have hl : VRl ι cs.toList cs'.toList := ⟨h1, h2⟩
   simp only [unRt] at hu
   generalize cs.toList = l at hu hl
   cases l with
   | nil => cases hu
   | cons x l =>
    cases l with
    | cons y l => cases hu
    | nil =>
     obtain ⟨x', l', e1, e2, e3⟩ := hl.cons_inv
     have := e3.nil_inv
     subst this
     have := unHd_VR hr hu e2
     subst this
     congr 1
     exact Array.ext' e1
 | _ => cases hu
theorem unRv_VR (hr : HR 3 ι h H) {v v' : Value} {t b o f : Nat} (hu : unRv v = some (t, b, o, f)) (hv : VR ι v v') :
  ∃ L, ι b = some L ∧ v' = rv t (.pointer (some ⟨L.blk, L.off + o, none⟩)) f ∧ 0 < f := by
 cases v with
 | agg cs =>
  cases hv with
  | agg _ cs' h1 h2 =>
   have hl : VRl ι cs.toList cs'.toList := ⟨h1, h2⟩
   simp only [unRv] at hu
   generalize cs.toList = l at hu hl
   split at hu
   ·rename_i x b' o' f'
    cases hx : unHd x with
    | none => rw [hx] at hu; cases hu
    | some t' =>
     rw [hx] at hu
     simp only [Option.some.injEq, Prod.mk.injEq] at hu
     obtain ⟨rfl, rfl, rfl, rfl⟩ := hu
     obtain ⟨x', l', e1, e2, e3⟩ := hl.cons_inv
     obtain ⟨y', l'', e4, e5, e6⟩ := e3.cons_inv
     obtain ⟨z', l3, e7, e8, e9⟩ := e6.cons_inv
     have := e9.nil_inv
     subst this
     have := unHd_VR hr hx e2
     subst this
     cases e5 with
     | ptr _ _ L hL =>
      cases e8
      refine ⟨L, hL, ?_, Nat.succ_pos _⟩
      unfold rv
      congr 1
      apply Array.ext'
      rw [e1, e4, e7]; rfl
   ·cases hu
 | _ => cases hu
end
theorem toType_run (t : Nat) (w : World) : (ReflectliteType.toType t).run Tryz.prog w = .ok (rt t) w := by kernel_rfl
def ExSound (f : Nat) (g : List Value → M Value) : Prop :=
 ∀ (args : List Value) (s s' : St) (v : Value) (ι : Iota) (w : World) (args' : List Value),
  g args s = some (v, s') → VRl ι args args' → HR 3 ι s.h w.heap → (∀ b, s.c ≤ b → b < s'.c → ι b = none) →
  ∃ v' w' ι', (callFunc f args'.toArray).run Tryz.prog w = .ok (.value v') w' ∧ VR ι' v v' ∧ Post 3 ι ι' s s' w w'
theorem ex_typeOf : ExSound fTypeOf xTypeOf := by
 intro args s s' v ι w args' hg ha hr _
 unfold xTypeOf at hg
 split at hg
 ·rename_i t x
  obtain ⟨rfl, rfl⟩ := ret_some hg
  obtain ⟨y, l, rfl, h1, h2⟩ := ha.cons_inv
  have := h2.nil_inv
  subst this
  cases h1 with
  | iface _ _ x' hx =>
   refine ⟨rt t, w, ι, ?_, rt_VR hr t, Post.refl hr rfl rfl⟩
   rw [@run_callFunc_extern Tryz.prog fTypeOf _ ReflectliteType.typeOf Tryz.func213 (by kernel_rfl) (by kernel_rfl) (by kernel_rfl) (by kernel_rfl)]
   show ((ReflectliteType.toType t).run Tryz.prog w).andThen _ = _
   rw [toType_run]; rfl
 ·exact (fail_some hg).elim
theorem partsAny_run (t : Nat) (a : Addr) (f : Nat) (hf : 0 < f) (w : World) : (ReflectliteValue.partsAny (rv t (.pointer (some a)) f)).run Tryz.prog w = .ok (some (t, a, f)) w := by
 obtain ⟨f, rfl⟩ : ∃ k, f = k + 1 := ⟨f - 1, by omega⟩
 kernel_rfl
theorem rla (z : Sem Value) (f : TypeId → Addr → Nat → Nat → Sem Value) (v : Value) :
  ReflectliteValue.methodAny z f #[v] = (do match ← ReflectliteValue.partsAny v with | none => z | some (t, a, fl) => f t a fl (fl % 32)) := rfl
theorem rlm (z : Sem Value) (f : TypeId → Addr → Nat → Nat → Sem Value) (v : Value) :
  ReflectliteValue.method z f #[v] = (do match ← ReflectliteValue.parts v with | none => z | some (t, a, fl) => f t a fl (fl % 32)) := rfl
theorem ex_type : ExSound fType xType := by
 intro args s s' v ι w args' hg ha hr _
 unfold xType at hg
 split at hg
 ·rename_i x
  cases hu : unRv x with
  | none => rw [hu] at hg; exact (fail_some hg).elim
  | some p =>
   obtain ⟨t, b, o, f⟩ := p
   rw [hu] at hg
   obtain ⟨rfl, rfl⟩ := ret_some hg
   obtain ⟨y, l, rfl, h1, h2⟩ := ha.cons_inv
   have := h2.nil_inv
   subst this
   obtain ⟨L, hL, rfl, hf⟩ := unRv_VR hr hu h1
   refine ⟨rt t, w, ι, ?_, rt_VR hr t, Post.refl hr rfl rfl⟩
   rw [@run_callFunc_extern Tryz.prog fType _ (ReflectliteValue.methodAny (ReflectliteValue.valueError "reflectlite.Value.Type" 0) fun t _ _ _ => ReflectliteType.toType t) Tryz.func167 (by kernel_rfl) (by kernel_rfl) (by kernel_rfl) (by kernel_rfl)]
   have : (ReflectliteValue.methodAny (ReflectliteValue.valueError "reflectlite.Value.Type" 0) (fun t _ _ _ => ReflectliteType.toType t) #[rv t (.pointer (some ⟨L.blk, L.off + o, none⟩)) f]).run Tryz.prog w = .ok (rt t) w := by
    rw [rla]
    simp only [Sem.run_bind, partsAny_run t _ f hf, Result.andThen_ok, toType_run]
   show ((ReflectliteValue.methodAny _ _ #[rv t (.pointer (some ⟨L.blk, L.off + o, none⟩)) f]).run Tryz.prog w).andThen _ = _
   rw [this]; rfl
 ·exact (fail_some hg).elim
theorem unpackPE (x : Value) (w : World) : (ReflectliteValue.unpack (.iface tPE x)).run Tryz.prog w = .ok (rv tPE (.pointer (some ⟨w.heap.size, 0, none⟩)) 150) (w.alloc (.cells x.cells tPE)) := by kernel_rfl
theorem unpackErrno (x : Value) (w : World) : (ReflectliteValue.unpack (.iface tErrno x)).run Tryz.prog w = .ok (rv tErrno (.pointer (some ⟨w.heap.size, 0, none⟩)) 130) (w.alloc (.cells x.cells tErrno)) := by kernel_rfl
theorem unpack_run {t f : Nat} (hf : flagOf t = some f) (x : Value) (w : World) : (ReflectliteValue.unpack (.iface t x)).run Tryz.prog w = .ok (rv t (.pointer (some ⟨w.heap.size, 0, none⟩)) f) (w.alloc (.cells x.cells t)) := by
 unfold flagOf at hf
 cases h1 : Nat.beq t tPE with
 | true =>
  rw [h1] at hf
  have := beq_iff.1 h1
  subst this
  cases hf
  exact unpackPE x w
 | false =>
  rw [h1] at hf
  cases h2 : Nat.beq t tErrno with
  | true =>
   rw [h2] at hf
   have := beq_iff.1 h2
   subst this
   cases hf
   exact unpackErrno x w
  | false => rw [h2] at hf; cases hf
theorem atom_cells {v : Value} (h : atom v = true) : cellsA v = some [v] := by
 cases v <;> first | rfl | cases h
theorem ex_valueOf : ExSound fValueOf xValueOf := by
 intro args s s' v ι w args' hg ha hr fr
 unfold xValueOf at hg
 split at hg
 ·rename_i t x
  cases hat : atom x with
  | false => rw [hat] at hg; exact (fail_some hg).elim
  | true =>
   cases hfl : flagOf t with
   | none => rw [hat, hfl] at hg; exact (fail_some hg).elim
   | some f =>
    rw [hat, hfl] at hg
    obtain ⟨b, s1, h1, h2⟩ := bind_some hg
    obtain ⟨rfl, rfl⟩ := ret_some h2
    obtain ⟨y, l, rfl, h3, h4⟩ := ha.cons_inv
    have := h4.nil_inv
    subst this
    cases h3 with
    | iface _ _ x' hx =>
     have hcv := cellsA_VR hx (atom_cells hat)
     obtain ⟨rfl, hc1, hp⟩ := sim_new hr (c := x'.cells) t h1 fr (fun i y hy => by obtain ⟨z, a, b⟩ := hcv.get hy; exact ⟨z, by simpa using a, b⟩) (by have := hcv.1; simp at this; simp; omega)
     refine ⟨rv t (.pointer (some ⟨w.heap.size, 0, none⟩)) f, _, _, ?_, ?_, hp⟩
     ·rw [@run_callFunc_extern Tryz.prog fValueOf _ (fun args => ReflectliteValue.unpack (args.getD 0 (.tuple #[]))) Tryz.func166 (by kernel_rfl) (by kernel_rfl) (by kernel_rfl) (by kernel_rfl)]
      show ((ReflectliteValue.unpack (.iface t x')).run Tryz.prog w).andThen _ = _
      rw [unpack_run hfl]; rfl
     ·refine .agg _ _ rfl (VRl.cons (hd_VR hp.hr t) (VRl.cons (.ptr s.c 0 ⟨w.heap.size, 0, x'.cells.size⟩ (Iota.upd_same ..)) (VRl.cons (.int _ _) (VRl.nil _)))).2
 ·exact (fail_some hg).elim
theorem partsPE (a : Addr) (w : World) : (ReflectliteValue.parts (rv tPE (.pointer (some a)) 150)).run Tryz.prog w = .ok (some (tPE, a, 150)) w := by kernel_rfl
theorem partsE386 (a : Addr) (w : World) : (ReflectliteValue.parts (rv tErrno (.pointer (some a)) 386)).run Tryz.prog w = .ok (some (tErrno, a, 386)) w := by kernel_rfl
theorem partsE130 (a : Addr) (w : World) : (ReflectliteValue.parts (rv tErrno (.pointer (some a)) 130)).run Tryz.prog w = .ok (some (tErrno, a, 130)) w := by kernel_rfl
theorem elemPE (w : World) : (Rtype.elem? tPE).run Tryz.prog w = .ok (some tErrno) w := by kernel_rfl
theorem mkE (p : Addr) (w : World) : (ReflectliteValue.mk tErrno p ReflectliteValue.flagAddr).run Tryz.prog w = .ok (rv tErrno (.pointer (some p)) 386) w := by kernel_rfl
theorem aggPE (w : World) : (isAgg tPE).run Tryz.prog w = .ok false w := by kernel_rfl
theorem aggE (w : World) : (isAgg tErrno).run Tryz.prog w = .ok false w := by kernel_rfl
theorem loadVar_cell {t : Nat} {a : Addr} {x : Value} {w : World} (hagg : (isAgg t).run Tryz.prog w = .ok false w) (ha : w.cell? a = some x) : (loadVar t a).run Tryz.prog w = .ok x w := by
 unfold loadVar
 rw [Sem.run_bind, hagg]
 simp only [Result.andThen_ok, Bool.false_eq_true, if_false, run_load, ha]
theorem isNil_run {a : Addr} {x : Value} {w : World} (ha : w.cell? a = some x) (b : Bool) (hx : (x = .pointer none ∧ b = true) ∨ (∃ p, x = .pointer (some p) ∧ b = false)) :
  (ReflectliteValue.method (ReflectliteValue.valueError "reflectlite.Value.IsNil" 0) ReflectliteValue.isNil #[rv tPE (.pointer (some a)) 150]).run Tryz.prog w = .ok (.bool b) w := by
 rw [rlm]
 simp only [Sem.run_bind, partsPE, Result.andThen_ok]
 unfold ReflectliteValue.isNil
 rw [if_neg (by decide)]
 simp only [Sem.run_bind, loadVar_cell (aggPE w) ha, Result.andThen_ok]
 rcases hx with ⟨rfl, rfl⟩ | ⟨p, rfl, rfl⟩ <;> rfl
theorem elem_run {a p : Addr} {w : World} (ha : w.cell? a = some (.pointer (some p))) :
  (ReflectliteValue.method (ReflectliteValue.valueError "reflectlite.Value.Elem" 0) ReflectliteValue.elem #[rv tPE (.pointer (some a)) 150]).run Tryz.prog w = .ok (rv tErrno (.pointer (some p)) 386) w := by
 rw [rlm]
 simp only [Sem.run_bind, partsPE, Result.andThen_ok]
 unfold ReflectliteValue.elem
 rw [if_neg (by decide)]
 simp only [Sem.run_bind, loadVar_cell (aggPE w) ha, elemPE, Result.andThen_ok]
 exact mkE p w
theorem ex_isNil : ExSound fIsNil xIsNil := by
 intro args s s' v ι w args' hg ha hr fr
 unfold xIsNil at hg
 split at hg
 ·rename_i x
  cases hu : unRv x with
  | none => rw [hu] at hg; exact (fail_some hg).elim
  | some p =>
   obtain ⟨t, b, o, f⟩ := p
   rw [hu] at hg
   simp only at hg
   cases hc : (Nat.beq t tPE && Nat.beq f 150) with
   | false => rw [hc] at hg; exact (fail_some (s := s) hg).elim
   | true =>
    rw [hc] at hg
    rw [Bool.and_eq_true] at hc
    have e1 := beq_iff.1 hc.1
    have e2 := beq_iff.1 hc.2
    subst e1; subst e2
    obtain ⟨y, l, rfl, h1, h2⟩ := ha.cons_inv
    have := h2.nil_inv
    subst this
    obtain ⟨L, hL, rfl, _⟩ := unRv_VR hr hu h1
    obtain ⟨cs, s1, h3, h4⟩ := bind_some (show ((getCells b).bind fun cs => match nth cs o with | some (.pointer none) => M.ret (.bool true) | some (.pointer (some _)) => M.ret (.bool false) | _ => M.fail) s = some (v, s') from hg)
    obtain ⟨hcs, _, rfl⟩ := getCells_some h3
    obtain ⟨L', c, tt, fr', hL', hH, hcr⟩ := hr.cells hcs
    rw [hL] at hL'; cases hL'
    have hrun : ∀ (x : Value) (bb : Bool), c[L.off + o]? = some x → ((x = .pointer none ∧ bb = true) ∨ (∃ p, x = .pointer (some p) ∧ bb = false)) →
      (callFunc fIsNil #[rv tPE (.pointer (some ⟨L.blk, L.off + o, none⟩)) 150]).run Tryz.prog w = .ok (.value (.bool bb)) w := by
     intro x bb hx hb
     rw [@run_callFunc_extern Tryz.prog fIsNil _ (ReflectliteValue.method (ReflectliteValue.valueError "reflectlite.Value.IsNil" 0) ReflectliteValue.isNil) Tryz.func168 (by kernel_rfl) (by kernel_rfl) (by kernel_rfl) (by kernel_rfl)]
     rw [isNil_run (a := ⟨L.blk, L.off + o, none⟩) (x := x) (by rw [cell_of hH]; exact hx) bb hb]; rfl
    cases hn : nth cs o with
    | none => rw [hn] at h4; exact (fail_some h4).elim
    | some q =>
     rw [hn] at h4
     rw [nth_eq] at hn
     obtain ⟨y, hy, hv⟩ := hcr.2.2 _ _ hn
     cases q with
     | pointer p =>
      cases p with
      | none =>
       obtain ⟨rfl, rfl⟩ := ret_some h4
       cases hv
       exact ⟨_, w, ι, hrun _ true hy (.inl ⟨rfl, rfl⟩), .bool _, Post.refl hr rfl rfl⟩
      | some p =>
       obtain ⟨rfl, rfl⟩ := ret_some h4
       cases hv
       exact ⟨_, w, ι, hrun _ false hy (.inr ⟨_, rfl, rfl⟩), .bool _, Post.refl hr rfl rfl⟩
     | _ => exact (fail_some h4).elim
 ·exact (fail_some hg).elim
theorem ex_elem : ExSound fElem xElem := by
 intro args s s' v ι w args' hg ha hr fr
 unfold xElem at hg
 split at hg
 ·rename_i x
  cases hu : unRv x with
  | none => rw [hu] at hg; exact (fail_some hg).elim
  | some p =>
   obtain ⟨t, b, o, f⟩ := p
   rw [hu] at hg
   simp only at hg
   cases hc : (Nat.beq t tPE && Nat.beq f 150) with
   | false => rw [hc] at hg; exact (fail_some (s := s) hg).elim
   | true =>
    rw [hc] at hg
    rw [Bool.and_eq_true] at hc
    have e1 := beq_iff.1 hc.1
    have e2 := beq_iff.1 hc.2
    subst e1; subst e2
    obtain ⟨y, l, rfl, h1, h2⟩ := ha.cons_inv
    have := h2.nil_inv
    subst this
    obtain ⟨L, hL, rfl, _⟩ := unRv_VR hr hu h1
    obtain ⟨cs, s1, h3, h4⟩ := bind_some (show ((getCells b).bind fun cs => match nth cs o with | some (.pointer (some ⟨c, p, none⟩)) => M.ret (rv tErrno (.pointer (some ⟨c, p, none⟩)) 386) | _ => M.fail) s = some (v, s') from hg)
    obtain ⟨hcs, _, rfl⟩ := getCells_some h3
    obtain ⟨L', c, tt, fr', hL', hH, hcr⟩ := hr.cells hcs
    rw [hL] at hL'; cases hL'
    cases hn : nth cs o with
    | none => rw [hn] at h4; exact (fail_some h4).elim
    | some q =>
     rw [hn] at h4
     rw [nth_eq] at hn
     obtain ⟨y, hy, hv⟩ := hcr.2.2 _ _ hn
     cases q with
     | pointer p =>
      cases p with
      | none => exact (fail_some h4).elim
      | some p =>
       obtain ⟨pb, po, sp⟩ := p
       cases sp with
       | some _ => exact (fail_some h4).elim
       | none =>
        obtain ⟨rfl, rfl⟩ := ret_some h4
        cases hv with
        | ptr _ _ L2 hL2 =>
         refine ⟨rv tErrno (.pointer (some ⟨L2.blk, L2.off + po, none⟩)) 386, w, ι, ?_, .agg _ _ rfl (VRl.cons (hd_VR hr tErrno) (VRl.cons (.ptr pb po L2 hL2) (VRl.cons (.int _ _) (VRl.nil _)))).2, Post.refl hr rfl rfl⟩
         rw [@run_callFunc_extern Tryz.prog fElem _ (ReflectliteValue.method (ReflectliteValue.valueError "reflectlite.Value.Elem" 0) ReflectliteValue.elem) Tryz.func214 (by kernel_rfl) (by kernel_rfl) (by kernel_rfl) (by kernel_rfl)]
         have := elem_run (a := ⟨L.blk, L.off + o, none⟩) (p := ⟨L2.blk, L2.off + po, none⟩) (w := w) (by rw [cell_of hH]; exact hy)
         rw [this]; rfl
     | _ => exact (fail_some h4).elim
 ·exact (fail_some hg).elim
theorem rls (v x : Value) : ReflectliteValue.set #[v, x] = (do
  let (some (dst, a, fl), some (src, b, _)) := (← ReflectliteValue.parts v, ← ReflectliteValue.parts x)
   | unsupported (.noEntry "extern/(internal/reflectlite.Value).Set.zeroValue")
  if fl / ReflectliteValue.flagAddr % 2 == 0 then unsupported (.noEntry "extern/(internal/reflectlite.Value).Set.unaddressable")
  let val ← loadVar src b
  if ← Rtype.directlyAssignable dst src then storeVar dst a val
  else if ← Rtype.implements dst src then
   if (← Rtype.kind src) == 20 then
    match val with
    | .nilIface => unsupported (.noEntry "extern/reflectlite: a nil value of one interface type handed on as a value of another")
    | _ => storeVar dst a val
   else storeVar dst a (.iface src val)
  else panicString ("reflectlite.Set: value of type " ++ (← Rtype.spelt src) ++ " is not assignable to type " ++ (← Rtype.spelt dst))
  pure (.tuple #[])) := rfl
theorem directE (w : World) : (Rtype.directlyAssignable tErrno tErrno).run Tryz.prog w = .ok true w := by kernel_rfl
theorem sizeE (w : World) : (sizeOf tErrno).run Tryz.prog w = .ok 1 w := by kernel_rfl
theorem set_run {a b : Addr} {n : Int} {w w' : World} (hb : w.cell? b = some (.int .i64 n)) (hst : (storeCells a [.int .i64 n]).run Tryz.prog w = .ok () w') :
  (ReflectliteValue.set #[rv tErrno (.pointer (some a)) 386, rv tErrno (.pointer (some b)) 130]).run Tryz.prog w = .ok (.tuple #[]) w' := by
 rw [rls]
 simp only [Sem.run_bind, partsE386, partsE130, Result.andThen_ok]
 rw [if_neg (by decide)]
 simp only [Sem.run_bind, loadVar_cell (aggE w) hb, directE, Result.andThen_ok, if_true]
 have : (storeVar tErrno a (.int .i64 n)).run Tryz.prog w = .ok () w' := by
  unfold storeVar
  simp only [Sem.run_bind, sizeE, Result.andThen_ok]
  rw [if_neg (by simp [Value.cells])]
  exact hst
 simp only [this, Result.andThen_ok, Sem.run_pure]
theorem ex_set : ExSound fSet xSet := by
 intro args s s' v ι w args' hg ha hr fr
 unfold xSet at hg
 split at hg
 ·rename_i x1 x2
  cases hu : unRv x1 with
  | none => rw [hu] at hg; exact (fail_some hg).elim
  | some p =>
   cases hu2 : unRv x2 with
   | none => rw [hu, hu2] at hg; exact (fail_some hg).elim
   | some p2 =>
    obtain ⟨t, b, o, f⟩ := p
    obtain ⟨u, c, q, g⟩ := p2
    rw [hu, hu2] at hg
    simp only at hg
    cases hc : (Nat.beq t tErrno && Nat.beq u tErrno && Nat.beq f 386 && Nat.beq g 130) with
    | false => rw [hc] at hg; exact (fail_some (s := s) hg).elim
    | true =>
     rw [hc] at hg
     simp only [Bool.and_eq_true] at hc
     obtain ⟨⟨⟨e1, e2⟩, e3⟩, e4⟩ := hc
     have e1 := beq_iff.1 e1
     have e2 := beq_iff.1 e2
     have e3 := beq_iff.1 e3
     have e4 := beq_iff.1 e4
     subst e1; subst e2; subst e3; subst e4
     obtain ⟨y, l, rfl, h1, h2⟩ := ha.cons_inv
     obtain ⟨y2, l2, rfl, h3, h4⟩ := h2.cons_inv
     have := h4.nil_inv
     subst this
     obtain ⟨L, hL, rfl, _⟩ := unRv_VR hr hu h1
     obtain ⟨L2, hL2, rfl, _⟩ := unRv_VR hr hu2 h3
     obtain ⟨cs, s1, h5, h6⟩ := bind_some (show ((getCells c).bind fun cs => match nth cs q with | some (.int .i64 n) => (writeCells b o [.int .i64 n]).bind fun _ => M.ret undefA | _ => M.fail) s = some (v, s') from hg)
     obtain ⟨hcs, _, rfl⟩ := getCells_some h5
     obtain ⟨L', cc, tt, fr', hL', hH, hcr⟩ := hr.cells hcs
     rw [hL2] at hL'; cases hL'
     cases hn : nth cs q with
     | none => rw [hn] at h6; exact (fail_some h6).elim
     | some z =>
      rw [hn] at h6
      rw [nth_eq] at hn
      obtain ⟨y, hy, hv⟩ := hcr.2.2 _ _ hn
      cases z with
      | int kk n =>
       by_cases hk : kk = .i64
       ·subst hk
        obtain ⟨⟨⟩, s2, h7, h8⟩ := bind_some h6
        obtain ⟨rfl, rfl⟩ := ret_some h8
        cases hv
        obtain ⟨w', hst, hp⟩ := sim_write (P := Tryz.prog) (ι := ι) (w := w) (s := ⟨s.h, s.c, c :: s.rl, s.wl⟩) (ys := [.int .i64 n]) hr hL (VRl.cons (.int _ _) (VRl.nil _)) h7
        refine ⟨.tuple #[], w', ι, ?_, flat_VR ι 1 _ rfl, hp.log rfl rfl rfl rfl⟩
        rw [@run_callFunc_extern Tryz.prog fSet _ ReflectliteValue.set Tryz.func215 (by kernel_rfl) (by kernel_rfl) (by kernel_rfl) (by kernel_rfl)]
        have := set_run (a := ⟨L.blk, L.off + o, none⟩) (b := ⟨L2.blk, L2.off + q, none⟩) (n := n) (w := w) (by rw [cell_of hH]; exact hy) hst
        rw [this]; rfl
       ·exfalso
        cases kk <;> first | exact hk rfl | exact fail_some h6
      | _ => exact (fail_some h6).elim
 ·exact (fail_some hg).elim
theorem slice_blk {ι : Iota} {a : Addr} {n c : Nat} {x' : Value} {L : Ab.Loc} (hL : ι a.block = some L) (h : VR ι (.slice (some a) n c) x') : (∃ o c', x' = .slice (some ⟨L.blk, o, none⟩) n c') ∨ (n = 0 ∧ ∃ a', x' = .slice (some a') 0 0) := by
 cases h with
 | sliceX b o _ _ L' h' => have h2 : ι b = some L := hL; rw [h'] at h2; cases h2; exact .inl ⟨_, _, rfl⟩
 | sliceI b o e _ _ c' L' h' _ _ => have h2 : ι b = some L := hL; rw [h'] at h2; cases h2; exact .inl ⟨_, _, rfl⟩
 | sliceZ b o e a' => exact .inr ⟨rfl, a', rfl⟩
theorem overlaps_of {f tS tR e size : Nat} (ht : Tryz.prog.underlying tS = some (.slice e)) (hz : ∀ w, (Go.sizeOf e).run Tryz.prog w = .ok size w)
  (hf : ∀ args w, (callFunc f args).run Tryz.prog w = ((SlicesOverlaps.overlaps #[tS, tS] #[tR] args).run Tryz.prog w).andThen fun v w' => .ok (.value v) w') : ExSound f xOverlaps := by
 intro args s s' v ι w args' hg ha hr fr
 unfold xOverlaps at hg
 split at hg
 ·rename_i a la ca b lb cb
  cases hab : Nat.beq a.block b.block with
  | true => rw [hab] at hg; exact (fail_some (s := s) hg).elim
  | false =>
   rw [hab] at hg
   have hne := beq_false.1 hab
   obtain ⟨cs, s1, h1, h2⟩ := bind_some (show ((getCellsW a.block).bind fun _ => (getCellsW b.block).bind fun cs => match nth cs 0 with | some _ => M.ret (.bool false) | none => M.fail) s = some (v, s') from hg)
   obtain ⟨hca, _, rfl⟩ := getCellsW_some h1
   obtain ⟨cs2, s2, h3, h4⟩ := bind_some h2
   obtain ⟨hcb, _, rfl⟩ := getCellsW_some h3
   cases hn : nth cs2 0 with
   | none => rw [hn] at h4; exact (fail_some h4).elim
   | some z =>
    rw [hn] at h4
    obtain ⟨rfl, rfl⟩ := ret_some h4
    obtain ⟨y, l, rfl, h5, h6⟩ := ha.cons_inv
    obtain ⟨y2, l2, rfl, h7, h8⟩ := h6.cons_inv
    have := h8.nil_inv
    subst this
    obtain ⟨La, hLa, ca', ta, fra, hHa, hcra, hfa⟩ := hr.obj _ _ hca
    obtain ⟨Lb, hLb, cb', tb, frb, hHb, hcrb, hfb⟩ := hr.obj _ _ hcb
    subst hfa; subst hfb
    have hblk : La.blk ≠ Lb.blk := fun e => hne (hr.inj _ _ _ _ La Lb hca hcb hLa hLb e)
    rw [nth_eq] at hn
    have hkB : cb'.size ≠ 0 := by
     obtain ⟨y, hy, _⟩ := hcrb.2.2 _ _ hn
     have := (Array.getElem?_eq_some_iff.1 hy).1
     omega
    rcases slice_blk hLa h5 with ⟨oa, c1, rfl⟩ | ⟨h0, _⟩
    ·rcases slice_blk hLb h7 with ⟨ob, c2, rfl⟩ | ⟨h0, _⟩
     ·refine ⟨.bool false, w, ι, ?_, .bool _, Post.refl hr rfl rfl⟩
      rw [hf]
      have := Lib.run_overlaps_apart w tS tR e ht size hz ⟨La.blk, oa, none⟩ ⟨Lb.blk, ob, none⟩ (la + 1) c1 (lb + 1) c2 hblk ta tb ca'.size cb'.size
       (by simp [World.shape?, hHa]) (by simp [World.shape?, hHb]) hkB (by simp [World.frozen?, hHa]) (by simp [World.frozen?, hHa])
      rw [this]; rfl
     ·omega
    ·omega
 ·exact (fail_some hg).elim
theorem ex_overInt : ExSound fOverInt xOverlaps :=
 overlaps_of (tS := 45) (tR := 4) (e := 3) (size := 1) (by kernel_rfl) (fun _ => by kernel_rfl) fun args w =>
  @run_callFunc_extern Tryz.prog fOverInt _ (SlicesOverlaps.overlaps #[45, 45] #[4]) Tryz.func204 (by kernel_rfl) (by kernel_rfl) (by kernel_rfl) (by kernel_rfl) args w
theorem ex_overHit : ExSound fOverHit xOverlaps :=
 overlaps_of (tS := 37) (tR := 4) (e := 52) (size := 2) (by kernel_rfl) (fun _ => by kernel_rfl) fun args w =>
  @run_callFunc_extern Tryz.prog fOverHit _ (SlicesOverlaps.overlaps #[37, 37] #[4]) Tryz.func227 (by kernel_rfl) (by kernel_rfl) (by kernel_rfl) (by kernel_rfl) args w
end Go.Ab.Seat
