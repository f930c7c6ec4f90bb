import Derived.Test.YtofikbfljjjgeaaGreatDoorE7
set_option linter.unusedVariables false
set_option linter.unusedSimpArgs false
namespace Go.Ab
section ops
variable {G : Nat} {C : aS} {eg : TypeId → Bool} {P : Program} {ι : aD} {s : St} {w : World}
theorem tD (st : ByteArray) (i : Nat) : (kN st)[i]? = (st.data[i]?).map fun b => Value.int .u8 b.toNat := by
  unfold kN
  rw [fm, List.getElem?_map, Array.getElem?_toList]
theorem ky {size n : Nat} {x x' : Value} {r : List Value} {s1 : St} (hr : HR G ι s.h w.heap) (hx : VR ι x x') (h : cR size n x s = some (r, s1)) :
    s1.h = s.h ∧ s1.c = s.c ∧ (n = 0 → r = []) ∧ (0 < n →
      ∃ A : Array Value, (Builtin.firstCells size n x').run P w = .ok A w ∧ bS ι r A.toList ∧ r.length = n * size) := by
  unfold cR at h
  cases n with
  | zero =>
    obtain ⟨rfl, rfl⟩ := ak h
    exact ⟨rfl, rfl, fun _ => rfl, fun hh => absurd hh (Nat.lt_irrefl _)⟩
  | succ n =>
    cases x with
    | slice a len cap =>
      cases a with
      | none => exact (aa h).elim
      | some a =>
        obtain ⟨b, o, sp⟩ := a
        simp only at h
        cases hb : Nat.ble (n + 1) len with
        | false => rw [hb] at h; exact (aa h).elim
        | true =>
          rw [hb] at h
          have hle := aH.1 hb
          obtain ⟨cs, s2, h1, h2⟩ := bind_some h
          obtain ⟨hc, _, rfl⟩ := ci h1
          obtain ⟨hsub, rfl⟩ := aI h2
          refine ⟨rfl, rfl, fun hh => absurd hh (Nat.succ_ne_zero _), fun _ => ?_⟩
          have fin : ∀ (L : Loc) (c' : Nat), ι b = some L → x' = .slice (some ⟨L.blk, L.off + o, none⟩) len c' →
              ∃ A : Array Value, (Builtin.firstCells size (n + 1) x').run P w = .ok A w ∧ bS ι r A.toList ∧ r.length = (n + 1) * size := by
            intro L c' hL he
            subst he
            obtain ⟨L', c, tt, fr, hL', hH, hcr⟩ := hr.cells hc
            rw [hL] at hL'; cases hL'
            obtain ⟨r', hv, _, hrun⟩ := wu (P := P) hH hcr hsub
            exact ⟨r'.toArray, hrun, hv, (aN _ _ _ _ hsub).1⟩
          rcases hx.slice_inv with ⟨rfl, L, hL, hx'⟩ | ⟨e', rfl, L, c', hL, hc', hs', hx'⟩ | ⟨e', rfl, rfl, rfl, a', hx'⟩
          · exact fin L cap hL hx'
          · exact fin L c' hL hx'
          · omega
    | string st =>
      cases hx with
      | string =>
        simp only at h
        cases hb : Nat.beq size 1 with
        | false => rw [hb] at h; exact (aa h).elim
        | true =>
          rw [hb] at h
          have hs := aL.1 hb
          subst hs
          obtain ⟨ht, rfl⟩ := aI h
          obtain ⟨t1, t2, t3⟩ := rX _ _ _ ht
          refine ⟨rfl, rfl, fun hh => absurd hh (Nat.succ_ne_zero _), fun _ => ⟨_, rfl, ⟨?_, ?_⟩, by omega⟩⟩
          · have : (kN st).length = st.size := by unfold kN; rw [fm, List.length_map, Array.length_toList]; rfl
            show r.length = _
            rw [t1, Array.length_toList, Array.size_map]
            show n + 1 = (st.extract 0 (n + 1)).size
            rw [ByteArray.size_extract]; omega
          · intro i x y hx hy
            have hi : i < n + 1 := by
              rcases Nat.lt_or_ge i (n + 1) with hh | hh
              · exact hh
              · rw [List.getElem?_eq_none (by omega)] at hx; cases hx
            rw [t3 i hi, tD] at hx
            rw [Array.getElem?_toList, Array.getElem?_map] at hy
            have : (st.extract 0 (n + 1)).data[i]? = st.data[i]? := by
              rw [ByteArray.data_extract, Array.getElem?_extract]
              split
              · rw [Nat.zero_add]
              · rw [Array.getElem?_eq_none]; omega
            rw [this] at hy
            rw [hx] at hy
            cases hy
            cases hq : st.data[i]? with
            | none => rw [hq] at hx; cases hx
            | some q => rw [hq] at hx; cases hx; exact .int _ _
    | _ => exact (aa h).elim
def gP (zeros : Bool) (size n : Nat) (e : TypeId) (x : Value) : Sem (Array Value) :=
  if !zeros then Builtin.firstCells size n x
  else if n * size = 0 then pure #[]
  else do pure (Builtin.zeroCells (← zeroValue e).cells n)
inductive kH (P : Program) (w : World) (t1 : Option TypeId) (x : Value) (n : Nat) : Bool → Prop
  | plain (h : t1 = none ∨ ∃ xt d, t1 = some xt ∧ P.underlying xt = some d ∧ ∀ k, d ≠ .int k) (hn : (Builtin.lenOf x).run P w = .ok n w) : kH P w t1 x n false
  | zeros (xt : TypeId) (k kk : IntKind) (h : t1 = some xt) (hu : P.underlying xt = some (.int k)) (hx : x = .int kk (n : Int)) (hn : n ≤ dv) : kH P w t1 x n true
theorem Bv {x x' : Value} {n : Nat} (hx : VR ι x x') (h : ou x = some n) : (Builtin.lenOf x').run P w = .ok n w := by
  cases hx <;> simp [ou] at h <;> subst h <;> rfl
theorem kn {x x' : Value} {size m : Nat} (hx : VR ι x x') (h : ou x = some m) : (Builtin.firstCells size 0 x').run P w = .ok #[] w := by
  cases hx <;> simp [ou] at h <;> simp [Builtin.firstCells, loadCells, loadCellsFrom]
theorem fD (ok : C.Ok eg P) {e size b n : Nat} {z new : List Value} {st : TypeId} {xt : Option TypeId} {x x' : Value} {s1 : St} (hr : HR G ι s.h w.heap) (hx : VR ι x x')
    (hrow : C.row st = some (e, size, b, z)) (h : bI C size z xt x s = some ((n, new), s1)) :
    s1.h = s.h ∧ s1.c = s.c ∧ new.length = n * size ∧ ∃ zr, kH P w xt x' n zr ∧ ∃ A : Array Value, (gP zr size n e x').run P w = .ok A w ∧ bS ι new A.toList := by
  obtain ⟨i, zv, hu, hi, hz, hcz, hsz, hby, hpos, hlen, hb⟩ := jY hrow
  have plain : ∀ (hz : xt = none ∨ ∃ t d, xt = some t ∧ P.underlying t = some d ∧ ∀ k, d ≠ .int k) (hh : ((M.lift (ou x)).bind fun n => (cR size n x).bind fun cs => M.ret (n, cs)) s = some ((n, new), s1)),
      s1.h = s.h ∧ s1.c = s.c ∧ new.length = n * size ∧ ∃ zr, kH P w xt x' n zr ∧ ∃ A : Array Value, (gP zr size n e x').run P w = .ok A w ∧ bS ι new A.toList := by
    intro hz hh
    obtain ⟨m, s2, h1, h2⟩ := bind_some hh
    obtain ⟨hm, rfl⟩ := aI h1
    obtain ⟨cs, s3, h3, h4⟩ := bind_some h2
    obtain ⟨he, rfl⟩ := ak h4
    cases he
    obtain ⟨f1, f2, f3, f4⟩ := ky (P := P) hr hx h3
    have hlo := Bv (P := P) (w := w) hx hm
    rcases Nat.eq_zero_or_pos n with h0 | h0
    · subst h0
      rw [f3 rfl]
      refine ⟨f1, f2, by simp, false, .plain hz hlo, #[], ?_, bS.nil ι⟩
      exact kn hx hm
    · obtain ⟨A, a1, a2, a3⟩ := f4 h0
      exact ⟨f1, f2, a3, false, .plain hz hlo, A, a1, a2⟩
  unfold bI at h
  cases xt with
  | none => exact plain (.inl rfl) h
  | some xt =>
    simp only at h
    cases hd : C.und xt with
    | none => rw [hd] at h; exact (aa h).elim
    | some d =>
      rw [hd] at h
      simp only at h
      cases d with
      | int k =>
        simp only at h
        obtain ⟨m, s2, h1, h2⟩ := bind_some h
        obtain ⟨hm, rfl⟩ := aI h1
        obtain ⟨k', rfl⟩ := nQ hx hm
        cases hbb : Nat.ble m dv with
        | false => rw [hbb] at h2; exact (aa h2).elim
        | true =>
          rw [hbb] at h2
          have hbig := aH.1 hbb
          obtain ⟨he, rfl⟩ := ak h2
          cases he
          obtain ⟨hzz, hzl⟩ := ok.rowZero hi hz hcz ι
          have hzero : C.zero e = some zv := by unfold aS.zero; simp [hi, hz]
          refine ⟨rfl, rfl, by rw [dT, hlen], true, .zeros xt k k' rfl (ok.und hd) rfl hbig, ?_⟩
          · by_cases h0 : n * size = 0
            · have : n = 0 := by
                rcases Nat.mul_eq_zero.1 h0 with hh | hh
                · exact hh
                · omega
              subst this
              refine ⟨#[], ?_, bS.nil ι⟩
              unfold gP
              simp
            · refine ⟨Builtin.zeroCells zv.cells n, ?_, ?_⟩
              · unfold gP
                simp only [Bool.not_true, Bool.false_eq_true, if_false]
                rw [if_neg h0]
                simp only [Sem.run_bind, ok.zero hzero, Result.andThen_ok, Sem.run_pure]
              · have hcs : zv.cells.size = size := by rw [← Array.length_toList, hzl, hlen]
                have : (Builtin.zeroCells zv.cells n).toList = rep z n := by
                  unfold Builtin.zeroCells
                  rw [hcs]
                  have := nE (Z := zv.cells) (n := n) hlen hpos (fun _ => hzl)
                  rw [hcs] at this
                  rw [← this]
                rw [this]
                exact hzz.rep n
      | _ => exact plain (.inr ⟨xt, _, rfl, ok.und hd, fun k hk => by cases hk⟩) h
theorem BF {n : Nat} (h : n ≤ dv) : IntKind.i64.wrap (n : Int) = (n : Int) := by
  unfold IntKind.wrap; simp [IntKind.bits, IntKind.signed]; unfold dv at h; omega
theorem jx (ts : Array TypeId) (ty : TypeId) {st e : TypeId} {x' : Value} {base : Option Addr} {sl sc : Nat} (h0 : ts[0]? = some st) (hu : P.underlying st = some (.slice e)) {size n : Nat} {zr : Bool} {i : TypeInfo}
    (hsz : (sizeOf e).run P w = .ok size w) (hi : (typeInfo e).run P w = .ok i w) (hib : i.bytes ≤ 65536) (hk : kH P w ts[1]? x' n zr) {A : Array Value} (hA : (gP zr size n e x').run P w = .ok A w) (hle : sl + n ≤ sc) {w' : World}
    (hst : ∀ a, base = some a → (storeCells (a.add (sl * size)) A.toList).run P w = .ok () w') (hno : base = none → w' = w) :
    (Builtin.append_ ts ty #[.slice base sl sc, x']).run P w = .ok (.slice base (sl + n) sc) w' := by
  have h1 : (#[.slice base sl sc, x'] : Array Value)[0]? = some (.slice base sl sc) := rfl
  have h2 : (#[.slice base sl sc, x'] : Array Value)[1]? = some x' := rfl
  have fin : ∀ zr' : Bool, zr' = zr → ((do
        let new ← gP zr' size n e x'
        if let some a := base then storeCells (a.add (sl * size)) new.toList
        pure (.slice base (sl + n) sc) : Sem Value)).run P w = .ok (.slice base (sl + n) sc) w' := by
    rintro _ rfl
    rw [Sem.run_bind, hA, Result.andThen_ok]
    cases base with
    | none => rw [hno rfl]; rfl
    | some a => simp only [Sem.run_bind, hst a rfl, Result.andThen_ok]; rfl
  unfold Builtin.append_
  simp only [h0, h1, h2, Sem.run_bind, runUnd hu, Result.andThen_ok, hsz]
  cases hk with
  | plain h hn =>
    have hz := fin false rfl
    unfold gP at hz
    simp only [Bool.not_false, if_true] at hz
    rcases h with h | ⟨xt, d, h, hd, hf⟩
    · rw [h]
      simp only [Sem.run_bind, Sem.run_pure, Result.andThen_ok, Bool.false_eq_true, if_false, hn, Bool.not_false, if_true]
      rw [if_pos hle]
      exact hz
    · rw [h]
      cases d <;> first
        | exact absurd rfl (hf _)
        | (simp only [Sem.run_bind, runUnd hd, Sem.run_pure, Result.andThen_ok, Bool.false_eq_true, if_false, hn, Bool.not_false, if_true]
           rw [if_pos hle]
           exact hz)
  | zeros xt k kk h hd hx hn =>
    subst hx
    have hz := fin true rfl
    unfold gP at hz
    simp only [Bool.not_true, Bool.false_eq_true, if_false] at hz
    rw [h]
    simp only [Sem.run_bind, runUnd hd, Sem.run_pure, Result.andThen_ok, if_true, asInt, asIntOf, BF hn, Bool.not_true, Bool.false_eq_true, if_false]
    rw [if_neg (by omega)]
    simp only [Sem.run_bind, hi, Result.andThen_ok]
    have hmb : n * i.bytes ≤ 68719476736 := by
      have : n * i.bytes ≤ 1048576 * 65536 := Nat.mul_le_mul hn hib
      omega
    have h3 : (n : Int) * (i.bytes : Int) = ((n * i.bytes : Nat) : Int) := by simp
    rw [if_neg (by rw [h3]; omega)]
    simp only [Sem.run_bind, Sem.run_pure, Result.andThen_ok, Int.toNat_natCast]
    rw [if_pos hle]
    exact hz
theorem qK (ts : Array TypeId) (ty : TypeId) {st e : TypeId} {x' : Value} {base : Option Addr} {sl sc : Nat} (h0 : ts[0]? = some st) (hu : P.underlying st = some (.slice e)) {size n : Nat} {zr : Bool} {i : TypeInfo} {zv : Value}
    (hsz : ∀ w, (sizeOf e).run P w = .ok size w) (hi : ∀ w, (typeInfo e).run P w = .ok i w) (hzv : ∀ w, (zeroValue e).run P w = .ok zv w) (hib : i.bytes ≤ 65536) (hk : kH P w ts[1]? x' n zr) {A O : Array Value}
    (hA : (gP zr size n e x').run P w.drew = .ok A w.drew) (hO : (Builtin.firstCells size sl (.slice base sl sc)).run P w.drew = .ok O w.drew) (hgt : sc < sl + n) (hbig : sl + n ≤ dv ∨ 1 ≤ i.bytes ∧ (sl + n) * i.bytes ≤ 140737488355328) :
    ∃ m, sl + n ≤ m ∧ (Builtin.append_ ts ty #[.slice base sl sc, x']).run P w =
      .ok (.slice (some ⟨w.heap.size, 0, none⟩) (sl + n) m) (w.drew.alloc (.cells (O ++ A ++ Builtin.zeroCells zv.cells (m - (sl + n))) e)) := by
  have h1 : (#[.slice base sl sc, x'] : Array Value)[0]? = some (.slice base sl sc) := rfl
  have h2 : (#[.slice base sl sc, x'] : Array Value)[1]? = some x' := rfl
  refine ⟨(Question.appendCap (sl + n) sc e).cut (w.tape w.drawn (.appendCap (sl + n) sc e)), Nat.le_add_right _ _, ?_⟩
  have hch : (choose (.appendCap (sl + n) sc e)).run P w = .ok ((Question.appendCap (sl + n) sc e).cut (w.tape w.drawn (.appendCap (sl + n) sc e))) w.drew := by
    rw [run_choose]; rfl
  generalize (Question.appendCap (sl + n) sc e).cut (w.tape w.drawn (.appendCap (sl + n) sc e)) = m at *
  have hcap : ¬ (Builtin.nextslicecap (sl + n) sc * i.bytes > 2 ^ 48) := by
    have hmb : (sl + n) * i.bytes ≤ 140737488355328 := by
      rcases hbig with hbig | ⟨_, hbig⟩
      · have : (sl + n) * i.bytes ≤ 1048576 * 65536 := Nat.mul_le_mul hbig hib
        omega
      · exact hbig
    have := growslice_fits hgt hmb
    omega
  have hmax : ¬ (((sl + n : Nat) : Int) > IntKind.i64.max) := by
    have : IntKind.i64.max = 9223372036854775807 := by decide
    have h9 : sl + n ≤ 140737488355328 := by
      rcases hbig with hbig | ⟨h1, hbig⟩
      · unfold dv at hbig; omega
      · exact Nat.le_trans (Nat.le_mul_of_pos_right _ h1) hbig
    rw [this]; omega
  have fin : ∀ zr' : Bool, zr' = zr → ((do
        let newCap ← choose (.appendCap (sl + n) sc e)
        askRoom (newCap * (← typeInfo e).bytes)
        let old ← Builtin.firstCells size sl (.slice base sl sc)
        let new ← gP zr' size n e x'
        let rest := Builtin.zeroCells (← zeroValue e).cells (newCap - (sl + n))
        pure (.slice (some (← newRow e (old ++ new ++ rest))) (sl + n) newCap) : Sem Value)).run P w =
      .ok (.slice (some ⟨w.heap.size, 0, none⟩) (sl + n) m) (w.drew.alloc (.cells (O ++ A ++ Builtin.zeroCells zv.cells (m - (sl + n))) e)) := by
    rintro _ rfl
    simp only [Sem.run_bind, hch, Result.andThen_ok, hi, run_askRoom, hO, hA, hzv, newRow, run_newObj, Sem.run_pure]
    rfl
  unfold Builtin.append_
  simp only [h0, h1, h2, Sem.run_bind, runUnd hu, Result.andThen_ok, hsz]
  cases hk with
  | plain h hn =>
    have hz := fin false rfl
    unfold gP at hz
    simp only [Bool.not_false, if_true] at hz
    rcases h with h | ⟨xt, d, h, hd, hf⟩
    · rw [h]
      simp only [Sem.run_bind, Sem.run_pure, Result.andThen_ok, Bool.false_eq_true, if_false, hn, Bool.not_false, if_true]
      rw [if_neg (by omega)]
      simp only [Sem.run_bind, hi, Result.andThen_ok]
      rw [if_neg (fun hh => hmax hh.1)]
      simp only [Sem.run_bind, hi, Result.andThen_ok]
      rw [if_neg hcap]
      exact hz
    · rw [h]
      cases d <;> first
        | exact absurd rfl (hf _)
        | (simp only [Sem.run_bind, runUnd hd, Sem.run_pure, Result.andThen_ok, Bool.false_eq_true, if_false, hn, Bool.not_false, if_true]
           rw [if_neg (by omega)]
           simp only [Sem.run_bind, hi, Result.andThen_ok]
           rw [if_neg (fun hh => hmax hh.1)]
           simp only [Sem.run_bind, hi, Result.andThen_ok]
           rw [if_neg hcap]
           exact hz)
  | zeros xt k kk h hd hx hn =>
    subst hx
    have hz := fin true rfl
    unfold gP at hz
    simp only [Bool.not_true, Bool.false_eq_true, if_false] at hz
    rw [h]
    simp only [Sem.run_bind, runUnd hd, Sem.run_pure, Result.andThen_ok, if_true, asInt, asIntOf, BF hn, Bool.not_true, Bool.false_eq_true, if_false]
    rw [if_neg (by omega)]
    simp only [Sem.run_bind, hi, Result.andThen_ok]
    have hmb : n * i.bytes ≤ 68719476736 := by
      have : n * i.bytes ≤ 1048576 * 65536 := Nat.mul_le_mul hn hib
      omega
    have h3 : (n : Int) * (i.bytes : Int) = ((n * i.bytes : Nat) : Int) := by simp
    rw [if_neg (by rw [h3]; omega)]
    simp only [Sem.run_bind, Sem.run_pure, Result.andThen_ok, Int.toNat_natCast]
    rw [if_neg (by omega)]
    simp only [Sem.run_bind, hi, Result.andThen_ok]
    rw [if_neg (fun hh => hmax hh.1)]
    simp only [Sem.run_bind, hi, Result.andThen_ok]
    rw [if_neg hcap]
    exact hz
theorem aM.drew {ι' : aD} {s' : St} {w' : World} (h : aM G ι ι' s s' w.drew w') : aM G ι ι' s s' w w' :=
  ⟨h.ext, h.new, h.hr, h.os, h.tape, h.output, h.size, h.frame, h.own, h.cle⟩
theorem mV (ok : C.Ok eg P) (hr : HR G ι s.h w.heap) {e size : Nat} {z old new : List Value} {O A : Array Value} {zv : Value} {i : TypeInfo}
    (hi : C.ty.get e = some i) (hz : i.zero = some zv) (hcz : ba zv = some z) (hzl : z.length = size)
    (hO : bS ι old O.toList) (hA : bS ι new A.toList) {len n m : Nat} (hol : old.length = len * size) (hnl : new.length = n * size) (hm : len + n ≤ m) {bn : Nat} {s' : St}
    (h : bq (app old new) s = some (bn, s')) (hf : ∀ x, s.c ≤ x → x < s'.c → ι x = none) :
    bn = s.c ∧ ∃ ι', VR ι' (.slice (some ⟨bn, 0, some size⟩) (len + n) (len + n)) (.slice (some ⟨w.heap.size, 0, none⟩) (len + n) m) ∧
      aM G ι ι' s s' w (w.drew.alloc (.cells (O ++ A ++ Builtin.zeroCells zv.cells (m - (len + n))) e)) := by
  obtain ⟨hzz, hzl'⟩ := ok.rowZero hi hz hcz ι
  have hoa : (O ++ A ++ Builtin.zeroCells zv.cells (m - (len + n))).size = m * size := by
    have h1 := hO.1
    have h2 := hA.1
    simp only [Array.length_toList] at h1 h2
    have h3 : zv.cells.size = size := by rw [← Array.length_toList, hzl', hzl]
    simp only [Array.size_append, Builtin.zeroCells, Array.size_map, Array.size_range, h3, ← h1, ← h2, hol, hnl]
    rw [← Nat.add_mul, ← Nat.add_mul]
    congr 1
    omega
  rw [cP] at h
  obtain ⟨rfl, _, hp⟩ := mL (w := w.drew) (c := O ++ A ++ Builtin.zeroCells zv.cells (m - (len + n))) hr e h hf (fun k x hx => by
      obtain ⟨y, hy, hxy⟩ := (hO.append hA).get hx
      refine ⟨y, ?_, hxy⟩
      have hk : k < O.size + A.size := by
        rcases Nat.lt_or_ge k (O.size + A.size) with hh | hh
        · exact hh
        · rw [List.getElem?_eq_none (by simp only [List.length_append, Array.length_toList]; exact hh)] at hy; cases hy
      rw [Array.getElem?_append_left (by simpa using hk), ← Array.getElem?_toList, Array.toList_append]
      exact hy) (by
      rw [hoa, List.length_append, hol, hnl, ← Nat.add_mul]
      exact Nat.mul_le_mul_right _ hm)
  exact ⟨rfl, _, .sliceI s.c 0 size _ _ m ⟨w.heap.size, 0, _⟩ (aD.upd_same ..) hm (by show 0 + 0 + m * size ≤ (O ++ A ++ Builtin.zeroCells zv.cells (m - (len + n))).size; rw [hoa]; omega), hp.drew⟩
theorem AT (ok : C.Ok eg P) (hr : HR G ι s.h w.heap) (ts : Array TypeId) (ty : TypeId) {x x' y y' : Value} (hx : VR ι x x') (hy : VR ι y y') :
    d8 G P ι s w (bQ C ts x y) (Builtin.append_ ts ty #[x', y']) := by
  intro v s' h hf
  unfold bQ at h
  cases h0 : cu ts.toList 0 with
  | none => rw [h0] at h; exact (aa h).elim
  | some st =>
    rw [h0] at h
    rw [b8, Array.getElem?_toList] at h0
    cases x with
    | slice base ln cap =>
      simp only at h
      obtain ⟨⟨e, size, b, z⟩, s1, h1, h2⟩ := bind_some h
      obtain ⟨hrow, rfl⟩ := aI h1
      obtain ⟨i, zv, hu, hi, hz, hcz, hsz, hby, hpos, hlen, hb⟩ := jY hrow
      simp only at h2
      obtain ⟨⟨n, new⟩, s2, h3, h4⟩ := bind_some h2
      have hts : cu ts.toList 1 = ts[1]? := by rw [b8, Array.getElem?_toList]
      rw [hts] at h3
      obtain ⟨e1, e2, hnl, _⟩ := fD (P := P) ok hr hy hrow h3
      have hr2 : HR G ι s2.h w.heap := by rw [e1]; exact hr
      have hf2 : ∀ b, s2.c ≤ b → b < s'.c → ι b = none := by rw [e2]; exact hf
      have hpost : ∀ {ι' : aD} {w' : World}, aM G ι ι' s2 s' w w' → aM G ι ι' s1 s' w w' := fun hp => hp.log e1.symm e2.symm rfl rfl
      have hsize : C.size e = some size := by unfold aS.size; simp [hi, hsz]
      have hzero : C.zero e = some zv := by unfold aS.zero; simp [hi, hz]
      have hib : i.bytes ≤ 65536 := by rw [hby]; exact hb
      simp only at h4
      cases hfit : Nat.ble (ln + n) cap with
      | true =>
        rw [hfit] at h4
        have hle := aH.1 hfit
        obtain ⟨_, _, _, zr, hk, A, hA, hv⟩ := fD (P := P) (w := w) ok hr hy hrow h3
        cases new with
        | nil =>
          simp only at h4
          obtain ⟨rfl, rfl⟩ := ak h4
          have hn0 : n = 0 := by
            simp only [List.length_nil] at hnl
            rcases Nat.mul_eq_zero.1 hnl.symm with hh | hh
            · exact hh
            · omega
          have hA0 : A.toList = [] := hv.nil_inv
          have fin : ∀ (base' : Option Addr) (cap' : Nat), cap ≤ cap' → x' = .slice base' ln cap' →
              (Builtin.append_ ts ty #[x', y']).run P w = .ok (.slice base' (ln + n) cap') w := by
            intro base' cap' hc he
            subst he
            refine jx ts ty h0 (ok.und hu) (ok.size hsize w) (ok.info hi w) hib hk hA (by omega) (fun a _ => ?_) (fun _ => rfl)
            rw [hA0]; rfl
          cases hx with
          | nilSlice => exact ⟨_, w, ι, fin none cap (Nat.le_refl _) rfl, .nilSlice _ _, hpost (aM.refl hr2 rfl rfl)⟩
          | sliceX b o _ _ L hL => exact ⟨_, w, ι, fin _ cap (Nat.le_refl _) rfl, .sliceX b o _ _ L hL, hpost (aM.refl hr2 rfl rfl)⟩
          | sliceI b o e' _ _ c' L hL hc hs => exact ⟨_, w, ι, fin _ c' hc rfl, .sliceI b o e' _ _ c' L hL hc hs, hpost (aM.refl hr2 rfl rfl)⟩
          | sliceZ b o e' a' =>
            refine ⟨_, w, ι, fin _ 0 (Nat.le_refl _) rfl, ?_, hpost (aM.refl hr2 rfl rfl)⟩
            subst hn0
            exact .sliceZ b o e' a'
        | cons q new =>
          cases base with
          | none => exact (aa h4).elim
          | some a =>
            obtain ⟨b0, o, sp⟩ := a
            simp only at h4
            obtain ⟨⟨⟩, s3, h5, h6⟩ := bind_some h4
            obtain ⟨rfl, rfl⟩ := ak h6
            have hn0 : 0 < n := by
              rcases Nat.eq_zero_or_pos n with hh | hh
              · subst hh; simp at hnl
              · exact hh
            have fin : ∀ (L : Loc) (cap' : Nat), ι b0 = some L → cap ≤ cap' → x' = .slice (some ⟨L.blk, L.off + o, none⟩) ln cap' →
                ∃ w', (Builtin.append_ ts ty #[x', y']).run P w = .ok (.slice (some ⟨L.blk, L.off + o, none⟩) (ln + n) cap') w' ∧ aM G ι ι s2 s' w w' := by
              intro L cap' hL hc he
              subst he
              obtain ⟨w', hw, hp⟩ := jZ (P := P) (w := w) hr2 hL hv h5
              refine ⟨w', ?_, hp⟩
              refine jx ts ty h0 (ok.und hu) (ok.size hsize w) (ok.info hi w) hib hk hA (by omega) (fun a ha => ?_) (fun hh => by cases hh)
              cases ha
              rw [eY, Nat.add_assoc]; exact hw
            rcases hx.slice_inv with ⟨rfl, L, hL, hx'⟩ | ⟨e', rfl, L, c', hL, hc, hs, hx'⟩ | ⟨e', rfl, rfl, rfl, a', hx'⟩
            · obtain ⟨w', hw, hp⟩ := fin L cap hL (Nat.le_refl _) hx'
              exact ⟨_, w', ι, hw, .sliceX b0 o _ _ L hL, hpost hp⟩
            · obtain ⟨w', hw, hp⟩ := fin L c' hL hc hx'
              exact ⟨_, w', ι, hw, .sliceI b0 o e' _ _ c' L hL hc hs, hpost hp⟩
            · omega
      | false =>
        rw [hfit] at h4
        have hgt := cC.1 hfit
        simp only at h4
        cases hbg : jl b (ln + n) with
        | false => rw [hbg] at h4; exact (aa h4).elim
        | true =>
          rw [hbg] at h4
          have hbig : ln + n ≤ dv ∨ 1 ≤ i.bytes ∧ (ln + n) * i.bytes ≤ 140737488355328 := by
            unfold jl at hbg
            rw [Bool.or_eq_true, Bool.and_eq_true] at hbg
            rcases hbg with hbg | ⟨g1, g2⟩
            · exact .inl (aH.1 hbg)
            · rw [hby]
              exact .inr ⟨aH.1 g1, aH.1 g2⟩
          simp only at h4
          have hrd : HR G ι s1.h w.drew.heap := hr
          obtain ⟨_, _, _, zr, hk, A, hA, hv⟩ := fD (P := P) (w := w.drew) ok hrd hy hrow h3
          have hk' : kH P w ts[1]? y' n zr := by
            cases hk with
            | plain hh hn =>
              refine .plain hh ?_
              obtain ⟨_, _, _, zr', hk2, _⟩ := fD (P := P) (w := w) ok hr hy hrow h3
              cases hk2 with
              | plain _ hn2 => exact hn2
              | zeros xt k kk hh2 hd2 hx2 hn2 =>
                rcases hh with hh | ⟨xt', d, hh, hd', hne⟩
                · rw [hh] at hh2; cases hh2
                · rw [hh] at hh2; cases hh2; rw [hd2] at hd'; cases hd'; exact absurd rfl (hne k)
            | zeros xt k kk hh hd hx hn => exact .zeros xt k kk hh hd hx hn
          have grow : ∀ {x' : Value} {base' : Option Addr} {c' : Nat} {O : Array Value}, x' = .slice base' ln c' → (Builtin.firstCells size ln (.slice base' ln c')).run P w.drew = .ok O w.drew → c' < ln + n →
              ∃ m, ln + n ≤ m ∧ (Builtin.append_ ts ty #[x', y']).run P w =
                .ok (.slice (some ⟨w.heap.size, 0, none⟩) (ln + n) m) (w.drew.alloc (.cells (O ++ A ++ Builtin.zeroCells zv.cells (m - (ln + n))) e)) := by
            intro x' base' c' O he hO hg
            subst he
            exact qK ts ty h0 (ok.und hu) (ok.size hsize) (ok.info hi) (ok.zero hzero) hib hk' hA hO hg hbig
          cases base with
          | none =>
            cases hx with
            | nilSlice =>
              simp only at h4
              cases ln with
              | succ _ => exact (aa h4).elim
              | zero =>
                simp only at h4
                obtain ⟨bn, s3, h5, h6⟩ := bind_some h4
                obtain ⟨rfl, rfl⟩ := ak h6
                obtain ⟨m, hm, hrun⟩ := grow (base' := none) (c' := cap) (O := #[]) rfl (by simp [Builtin.firstCells]) hgt
                have h5' : bq (app [] new) s2 = some (bn, s') := h5
                obtain ⟨rfl, ι', hvr, hp⟩ := mV ok hr2 hi hz hcz hlen (old := []) (O := #[]) (bS.nil ι) hv (len := 0) (by simp) hnl hm h5' hf2
                rw [Nat.zero_add] at hvr
                refine ⟨_, _, ι', hrun, ?_, hpost hp⟩
                rw [Nat.zero_add]
                exact hvr
          | some a =>
            obtain ⟨b0, o, sp⟩ := a
            cases sp with
            | none =>
              simp only at h4
              obtain ⟨old, s3, h5, h6⟩ := bind_some h4
              obtain ⟨bn, s4, h7, h8⟩ := bind_some h6
              obtain ⟨rfl, rfl⟩ := ak h8
              have hrd2 : HR G ι s2.h w.drew.heap := hr2
              obtain ⟨f1, f2, f3, f4⟩ := ky (P := P) (w := w.drew) hrd2 hx h5
              have hr3 : HR G ι s3.h w.heap := by rw [f1]; exact hr2
              have hf3 : ∀ b, s3.c ≤ b → b < s'.c → ι b = none := by rw [f2]; exact hf2
              have hO : ∃ O : Array Value, (Builtin.firstCells size ln x').run P w.drew = .ok O w.drew ∧ bS ι old O.toList ∧ old.length = ln * size := by
                rcases Nat.eq_zero_or_pos ln with hh | hh
                · subst hh
                  rw [f3 rfl]
                  exact ⟨#[], kn (m := 0) hx rfl, bS.nil ι, by simp⟩
                · exact f4 hh
              obtain ⟨O, hO1, hO2, hO3⟩ := hO
              cases hx with
              | sliceX _ _ _ _ L hL =>
                obtain ⟨m, hm, hrun⟩ := grow rfl hO1 hgt
                obtain ⟨rfl, ι', hvr, hp⟩ := mV ok hr3 hi hz hcz hlen hO2 hv hO3 hnl hm h7 hf3
                exact ⟨_, _, ι', hrun, hvr, hpost (hp.log f1.symm f2.symm rfl rfl)⟩
            | some e' =>
              simp only at h4
              cases hbe : (Nat.beq e' size && ee atom new) with
              | false => rw [hbe] at h4; exact (aa h4).elim
              | true =>
                rw [hbe] at h4
                simp only [Bool.and_eq_true] at hbe
                have hes := aL.1 hbe.1
                subst hes
                have hatom : ∀ q ∈ new, atom q = true := by
                  have := hbe.2
                  rw [bT] at this
                  exact List.all_eq_true.1 this
                simp only at h4
                obtain ⟨cs, s3, h5, h6⟩ := bind_some h4
                obtain ⟨hb0, _, rfl⟩ := bC h5
                obtain ⟨old, s4, h7, h8⟩ := bind_some h6
                obtain ⟨hsub, rfl⟩ := aI h7
                obtain ⟨⟨⟩, s5, h9, h10⟩ := bind_some h8
                obtain ⟨_, _, rfl⟩ := dI h9
                obtain ⟨bn, s6, h11, h12⟩ := bind_some h10
                obtain ⟨rfl, rfl⟩ := ak h12
                obtain ⟨q1, q2, q3⟩ := aN _ _ _ _ hsub
                have hkill : aM G ι ι s2 ⟨s2.h.set b0 none, s2.c, b0 :: s2.rl, b0 :: s2.wl⟩ w w := aM.kill hr2 rfl rfl
                rcases hx.slice_inv with ⟨hh, _⟩ | ⟨e'', he'', L, c', hL, hc, hs, hx'⟩ | ⟨e'', he'', rfl, rfl, a', hx'⟩
                · cases hh
                · cases he''
                  subst hx'
                  obtain ⟨L', hL', c, tt, fr, hH, hcr, hfr⟩ := hr2.obj _ _ hb0
                  rw [hL] at hL'; cases hL'
                  by_cases hroom : ln + n ≤ c'
                  · -- in place
                    have hvA := hv.1
                    have hmul : (ln + n) * e' ≤ c' * e' := Nat.mul_le_mul_right _ hroom
                    rw [Nat.add_mul] at hmul
                    have hcs := hcr.1
                    have hat : ∀ u ∈ A.toList, u.oneCell' = true := by
                      intro u hu'
                      obtain ⟨j, hj⟩ := List.mem_iff_getElem?.1 hu'
                      have hlt : j < A.toList.length := by
                        rcases Nat.lt_or_ge j A.toList.length with hh | hh
                        · exact hh
                        · rw [List.getElem?_eq_none hh] at hj; cases hj
                      have hlt' : j < new.length := by rw [hvA]; exact hlt
                      have hxj : new[j]? = some new[j] := List.getElem?_eq_getElem hlt'
                      exact wJ (hv.2 j _ _ hxj hj) (hatom _ (List.mem_of_getElem? hxj))
                    obtain ⟨w', c2, r1, r2, r3, r4, r5, r6, r7, r8, r9⟩ := nB (P := P) (B := L.blk) (L.off + o + ln * e') A.toList 0 w c hat hH (.inl hfr) (by rw [← hvA, hnl]; omega)
                    obtain ⟨_, _, _, zr2, hk2, A2, hA2, hv2⟩ := fD (P := P) (w := w) ok hr hy hrow h3
                    obtain ⟨w'', c3, t1, t2, t3, t4, t5, t6, t7, t8, t9⟩ := nB (P := P) (B := L.blk) (L.off + o + ln * e') A2.toList 0 w c (by
                      intro u hu'
                      obtain ⟨j, hj⟩ := List.mem_iff_getElem?.1 hu'
                      have hlt : j < A2.toList.length := by
                        rcases Nat.lt_or_ge j A2.toList.length with hh | hh
                        · exact hh
                        · rw [List.getElem?_eq_none hh] at hj; cases hj
                      have hlt' : j < new.length := by rw [hv2.1]; exact hlt
                      have hxj : new[j]? = some new[j] := List.getElem?_eq_getElem hlt'
                      exact wJ (hv2.2 j _ _ hxj hj) (hatom _ (List.mem_of_getElem? hxj))) hH (.inl hfr) (by rw [← hv2.1, hnl]; omega)
                    have hrun := jx (x' := y') (base := some ⟨L.blk, L.off + o, none⟩) (sl := ln) (sc := c') ts ty h0 (ok.und hu) (ok.size hsize w) (ok.info hi w) hib hk2 hA2 hroom (w' := w'') (fun a ha => by cases ha; rw [eY]; exact t1) (fun hh => by cases hh)
                    unfold bq at h11
                    rw [b4] at h11
                    obtain ⟨hn1, rfl, rfl⟩ := dZ h11
                    refine ⟨_, w'', _, hrun, ?_, hpost ((aM.moved (L' := ⟨L.blk, L.off + o, L.size⟩) (o' := .cells (app old new)) (s := s2) hr2 hb0 hL (hf2 _ (Nat.le_refl _) (Nat.lt_succ_self _)) rfl rfl rfl ?_ t5 t6 t7 t8 t9))⟩
                    · exact .sliceI s2.c 0 e' _ _ c' ⟨L.blk, L.off + o, L.size⟩ (aD.upd_same ..) hroom hs
                    · intro ι' hle
                      refine ⟨c3, tt, fr, t2, ⟨by rw [t3]; exact hcs, ?_, ?_⟩, hfr⟩
                      · rw [cP, List.length_append, q1, hnl, t3]
                        show L.off + o + _ ≤ _
                        omega
                      · intro j x hj
                        rw [cP] at hj
                        show ∃ y, c3[L.off + o + j]? = some y ∧ VR ι' x y
                        rw [t4]
                        by_cases hjo : j < old.length
                        · rw [List.getElem?_append_left hjo] at hj
                          rw [if_neg (by omega)]
                          rw [q3 j (by omega)] at hj
                          obtain ⟨y, hy1, hy2⟩ := hcr.2.2 _ _ hj
                          exact ⟨y, by rw [← hy1]; congr 1; omega, hy2.mono hle⟩
                        · rw [List.getElem?_append_right (by omega)] at hj
                          obtain ⟨y, hy1, hy2⟩ := hv2.get hj
                          have hlt : j - old.length < A2.toList.length := by
                            rcases Nat.lt_or_ge (j - old.length) A2.toList.length with hh | hh
                            · exact hh
                            · rw [List.getElem?_eq_none hh] at hy1; cases hy1
                          refine ⟨y, ?_, hy2.mono hle⟩
                          rw [if_pos (by omega), ← hy1]; congr 1; omega
                  · -- grown
                    obtain ⟨r', hv', _, hrun'⟩ := wu (P := P) (w := w.drew) (L := L) (c := c) (t := tt) (fr := fr) hH hcr hsub
                    obtain ⟨m, hm, hrun⟩ := grow (base' := some ⟨L.blk, L.off + o, none⟩) (c' := c') (O := r'.toArray) rfl hrun' (by omega)
                    obtain ⟨rfl, ι', hvr, hp⟩ := mV ok hkill.hr hi hz hcz hlen (O := r'.toArray) hv' hv q1 hnl hm h11 hf2
                    exact ⟨_, _, ι', hrun, hvr, hpost (hkill.trans hp)⟩
                · subst hx'
                  have hold : old = [] := by
                    cases old with
                    | nil => rfl
                    | cons _ _ => simp at q1
                  subst hold
                  obtain ⟨m, hm, hrun⟩ := grow (base' := some a') (c' := 0) (O := #[]) rfl (by simp [Builtin.firstCells, loadCells, loadCellsFrom]) hgt
                  obtain ⟨rfl, ι', hvr, hp⟩ := mV ok hkill.hr hi hz hcz hlen (O := #[]) (bS.nil ι) hv (len := 0) (by simp) hnl hm h11 hf2
                  exact ⟨_, _, ι', hrun, hvr, hpost (hkill.trans hp)⟩
    | _ => exact (aa h).elim
end ops
end Go.Ab
