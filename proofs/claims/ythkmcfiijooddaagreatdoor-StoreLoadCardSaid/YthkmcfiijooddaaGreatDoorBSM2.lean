/- A store as a rising list of records: what its functions do with it (the abstract machine). -/
import Derived.Test.YthkmcfiijooddaaGreatDoorBST8
import Derived.Test.YthkmcfiijooddaaGreatDoorBST10
import Derived.Test.YthkmcfiijooddaaGreatDoorBST7
set_option linter.unusedVariables false
set_option linter.unusedSimpArgs false
namespace Go.Ab.Seat
open Go.Extern Go.Proofs
set_option linter.unusedSimpArgs false
set_option linter.unusedVariables false
variable {sm : Nat → Option (List Value → M Value)}

def It.rc (x : It) : Rc := ⟨x.id, x.xs, x.pay, x.seq, x.gone⟩
theorem strip_rc1 {a b : It} (h : a.strip = b.strip) : a.rc = b.rc := by
  unfold It.strip at h
  simp only [Prod.mk.injEq] at h
  obtain ⟨h1, h2, h3, h4, h5⟩ := h
  unfold It.rc
  rw [h1, h2, h3, h4, h5]
theorem strip_rc : ∀ {a b : List It}, a.map It.strip = b.map It.strip → a.map It.rc = b.map It.rc
  | [], [], _ => rfl
  | [], _ :: _, h => by cases h
  | _ :: _, [], h => by cases h
  | x :: a, y :: b, h => by
    simp only [List.map_cons, List.cons.injEq] at h ⊢
    exact ⟨strip_rc1 h.1, strip_rc h.2⟩

noncomputable def valI (x : Int) (es : List (Value × Value × Nat)) : Option Value := (findI x es).map fun p => p.2

theorem valI_none {x : Int} {es : List (Value × Value × Nat)} : valI x es = none ↔ findI x es = none := by unfold valI; exact Option.map_eq_none_iff
theorem valI_some {x : Int} {es : List (Value × Value × Nat)} {v : Value} (h : valI x es = some v) : ∃ i, findI x es = some (i, v) := by
  unfold valI at h
  obtain ⟨⟨i, w⟩, h1, h2⟩ := Option.map_eq_some_iff.1 h
  cases h2
  exact ⟨i, h1⟩

theorem valI_cons (x : Int) (k v : Value) (b : Nat) (es : List (Value × Value × Nat)) (y : Int) (hk : k = .int .i64 y) : valI x ((k, v, b) :: es) = if x = y then some v else valI x es := by
  subst hk
  unfold valI
  rw [findI]
  by_cases h : x = y
  · rw [if_pos h, if_pos h]; rfl
  · rw [if_neg h, if_neg h]
    cases findI x es <;> rfl

theorem valI_app (x y : Int) (v : Value) (b : Nat) : ∀ {es : List (Value × Value × Nat)} {ids : List Int}, es.map (fun e => e.1) = ids.map (Value.int .i64) → y ∉ ids → valI x (es ++ [(.int .i64 y, v, b)]) = if x = y then some v else valI x es
  | [], _, _, _ => by rw [List.nil_append, valI_cons x _ v b [] y rfl]
  | (k, w, b') :: es, [], h, _ => by cases h
  | (k, w, b') :: es, z :: ids, h, hy => by
    simp only [List.map_cons, List.cons.injEq] at h
    obtain ⟨h1, h2⟩ := h
    rw [List.cons_append, valI_cons x k w b' _ z h1, valI_cons x k w b' _ z h1, valI_app x y v b h2 fun q => hy (List.mem_cons_of_mem _ q)]
    by_cases hz : x = z
    · rw [if_pos hz, if_pos hz, if_neg fun e => hy (by rw [← e, hz]; exact List.mem_cons_self ..)]
    · rw [if_neg hz, if_neg hz]

theorem valI_mod (x y : Int) (v : Value) : ∀ {es : List (Value × Value × Nat)} {ids : List Int} {i : Nat}, es.map (fun e => e.1) = ids.map (Value.int .i64) → ids.Nodup → ids[i]? = some y → valI x (modA (.int .i64 y) v es i) = if x = y then some v else valI x es
  | [], [], _, _, _, h => by cases h
  | [], _ :: _, _, h, _, _ => by cases h
  | _ :: _, [], _, h, _, _ => by cases h
  | (k, w, b) :: es, z :: ids, 0, h, hn, hi => by
    simp only [List.map_cons, List.cons.injEq] at h
    cases hi
    show valI x ((.int .i64 y, v, b) :: es) = _
    rw [valI_cons x _ v b es y rfl, valI_cons x k w b es y h.1]
    by_cases hz : x = y
    · rw [if_pos hz, if_pos hz]
    · rw [if_neg hz, if_neg hz, if_neg hz]
  | (k, w, b) :: es, z :: ids, i + 1, h, hn, hi => by
    simp only [List.map_cons, List.cons.injEq] at h
    obtain ⟨h1, h2⟩ := h
    obtain ⟨n1, n2⟩ := List.nodup_cons.1 hn
    have hi' : ids[i]? = some y := by simpa using hi
    show valI x ((k, w, b) :: modA (.int .i64 y) v es i) = _
    rw [valI_cons x k w b _ z h1, valI_cons x k w b es z h1, valI_mod x y v h2 n2 hi']
    by_cases hz : x = z
    · rw [if_pos hz, if_pos hz, if_neg fun e => n1 (by rw [← hz, e]; exact List.mem_of_getElem? hi')]
    · rw [if_neg hz, if_neg hz]

theorem valI_put {es : List (Value × Value × Nat)} {n : Nat} {ids : List Int} (k : Keyed es n ids) (x y : Int) (v : Value) : valI x (putI .i64 y v n es).1 = if x = y then some v else valI x es := by
  unfold putI
  cases hf : findI y es with
  | none => exact valI_app x y v n k.keys ((findI_none_iff k.keys).1 hf)
  | some p =>
    obtain ⟨i, w⟩ := p
    exact valI_mod x y v k.keys k.nodup (findI_some_get k.keys hf).1

theorem valI_erase (x y : Int) : ∀ {es : List (Value × Value × Nat)} {ids : List Int} {i : Nat}, es.map (fun e => e.1) = ids.map (Value.int .i64) → ids.Nodup → ids[i]? = some y → valI x (es.eraseIdx i) = if x = y then none else valI x es
  | [], [], _, _, _, h => by cases h
  | [], _ :: _, _, h, _, _ => by cases h
  | _ :: _, [], _, h, _, _ => by cases h
  | (k, w, b) :: es, z :: ids, 0, h, hn, hi => by
    simp only [List.map_cons, List.cons.injEq] at h
    cases hi
    obtain ⟨n1, n2⟩ := List.nodup_cons.1 hn
    rw [List.eraseIdx_cons_zero, valI_cons x k w b es y h.1]
    by_cases hz : x = y
    · rw [if_pos hz, hz]
      exact valI_none.2 ((findI_none_iff h.2).2 n1)
    · rw [if_neg hz, if_neg hz]
  | (k, w, b) :: es, z :: ids, i + 1, h, hn, hi => by
    simp only [List.map_cons, List.cons.injEq] at h
    obtain ⟨h1, h2⟩ := h
    obtain ⟨n1, n2⟩ := List.nodup_cons.1 hn
    have hi' : ids[i]? = some y := by simpa using hi
    rw [List.eraseIdx_cons_succ, valI_cons x k w b _ z h1, valI_cons x k w b es z h1, valI_erase x y h2 n2 hi']
    by_cases hz : x = z
    · rw [if_pos hz, if_pos hz, if_neg fun e => n1 (by rw [← hz, e]; exact List.mem_of_getElem? hi')]
    · rw [if_neg hz, if_neg hz]

theorem valI_del {es : List (Value × Value × Nat)} {n : Nat} {ids : List Int} (k : Keyed es n ids) (x y : Int) : valI x (delI y es) = if x = y then none else valI x es := by
  unfold delI
  cases hf : findI y es with
  | none =>
    by_cases hz : x = y
    · rw [if_pos hz, hz]
      exact valI_none.2 hf
    · rw [if_neg hz]
  | some p =>
    obtain ⟨i, w⟩ := p
    simp only
    rw [eraseA_eq]
    exact valI_erase x y k.keys k.nodup (findI_some_get k.keys hf).1

theorem sweep_all {upto : Int} : ∀ (l : List It) {es : List (Value × Value × Nat)} {n : Nat} {ids : List Int}, Keyed es n ids → ∃ ids', Keyed (sweepE upto l es) n ids' ∧ ∀ x, valI x (sweepE upto l es) = if l.any (fun y => swp upto y && decide (y.id = x)) then none else valI x es
  | [], es, n, ids, k => ⟨ids, k, fun x => rfl⟩
  | y :: l, es, n, ids, k => by
    have he : sweepE upto (y :: l) es = sweepE upto l (bif swp upto y then delI y.id es else es) := rfl
    rw [he]
    cases hs : swp upto y with
    | false =>
      obtain ⟨ids', h1, h2⟩ := sweep_all (upto := upto) l k
      refine ⟨ids', h1, fun x => ?_⟩
      rw [cond_false, h2 x, List.any_cons, hs, Bool.false_and, Bool.false_or]
    | true =>
      obtain ⟨ids1, k1, _, _⟩ := k.del y.id
      obtain ⟨ids', h1, h2⟩ := sweep_all (upto := upto) l k1
      refine ⟨ids', h1, fun x => ?_⟩
      rw [cond_true, h2 x, List.any_cons, hs, Bool.true_and, valI_del k x y.id]
      by_cases hz : x = y.id
      · rw [decide_eq_true hz.symm, Bool.true_or, if_pos rfl, if_pos hz, ite_self]
      · rw [decide_eq_false (fun e => hz e.symm), Bool.false_or, if_neg hz]

/-- A record and what the map has of it. -/
def Rep (h : T AObj) (p m : Nat) (U : Nat → Prop) (r : Rc) (v : Value) : Prop := ∃ it : It, v = it.val ∧ it.rc = r ∧ Own h 0 it.vec it.xs.length it.xs ∧ ∀ b, blkOf it.vec = some b → U b ∧ b ≠ p ∧ b ≠ m
def Fits (h : T AObj) (p m : Nat) (U : Nat → Prop) (o : Option Rc) (w : Option Value) : Prop := (o = none ∧ w = none) ∨ ∃ r v, o = some r ∧ w = some v ∧ Rep h p m U r v

theorem Rep.keep {h h' : T AObj} {p m c : Nat} {U U' : Nat → Prop} {r : Rc} {v : Value} (x : Rep h p m U r v) (hf : Fresh h c) (hU : ∀ b, U b → U' b) (k : ∀ b, U b → b < c → b ≠ p → b ≠ m → h'.get b = h.get b) : Rep h' p m U' r v := by
  obtain ⟨it, h1, h2, h3, h4⟩ := x
  exact ⟨it, h1, h2, h3.keep fun b hb => k b (h4 b hb).1 ((h3.blk hb).2.lt hf) (h4 b hb).2.1 (h4 b hb).2.2, fun b hb => ⟨hU b (h4 b hb).1, (h4 b hb).2⟩⟩
theorem Fits.keep {h h' : T AObj} {p m c : Nat} {U U' : Nat → Prop} {o : Option Rc} {w : Option Value} (x : Fits h p m U o w) (hf : Fresh h c) (hU : ∀ b, U b → U' b) (k : ∀ b, U b → b < c → b ≠ p → b ≠ m → h'.get b = h.get b) : Fits h' p m U' o w := by
  rcases x with x | ⟨r, v, h1, h2, h3⟩
  · exact .inl x
  · exact .inr ⟨r, v, h1, h2, h3.keep hf hU k⟩

/-- A store that has just the list's records. -/
structure StM (h : T AObj) (p m : Nat) (M : List Rc) (U : Nat → Prop) : Prop where
  ex : ∃ es n, StoreR h p m es n U ∧ (∃ ids, Keyed es n ids) ∧ ∀ x, Fits h p m U (getM x M) (valI x es)
  rises : Rises M
  rng : ∀ r ∈ M, 1 ≤ r.id ∧ r.id ≤ 1000 ∧ r.xs.length ≤ bigV ∧ ∃ zs : List Int, r.xs = zs.map (Value.int .i32)

theorem StM.keep {h h' : T AObj} {c p m : Nat} {M : List Rc} {U : Nat → Prop} (q : StM h p m M U) (hf : Fresh h c) (k : ∀ b, U b → b < c → h'.get b = h.get b) : StM h' p m M U := by
  obtain ⟨⟨es, n, h1, h2, h3⟩, h4, h5⟩ := q
  exact ⟨⟨es, n, h1.keep hf k, h2, fun x => (h3 x).keep hf (fun _ q => q) fun b hb hc _ _ => k b hb hc⟩, h4, h5⟩
theorem StM.wide {h : T AObj} {p m : Nat} {M : List Rc} {U U' : Nat → Prop} (q : StM h p m M U) (k : ∀ b, U b → U' b) : StM h p m M U' := by
  obtain ⟨⟨es, n, h1, h2, h3⟩, h4, h5⟩ := q
  refine ⟨⟨es, n, h1.wide k, h2, fun x => ?_⟩, h4, h5⟩
  rcases h3 x with h3 | ⟨r, v, e1, e2, it, e3, e4, e5, e6⟩
  · exact .inl h3
  · exact .inr ⟨r, v, e1, e2, it, e3, e4, e5, fun b hb => ⟨k b (e6 b hb).1, (e6 b hb).2⟩⟩
theorem StM.len {h : T AObj} {p m : Nat} {M : List Rc} {U : Nat → Prop} (q : StM h p m M U) : M.length ≤ 1000 := by
  have := rises_len (n := 1000) (lo := 1) q.rises.ids (fun x hx => by
    obtain ⟨r, hr, rfl⟩ := List.mem_map.1 hx
    exact ⟨(q.rng r hr).1, (q.rng r hr).2.1⟩) (by omega)
  rw [List.length_map] at this
  omega
theorem StM.ptr {h : T AObj} {p m : Nat} {M : List Rc} {U : Nat → Prop} (q : StM h p m M U) : Has h p (.cells [.map (some m)]) ∧ U p ∧ U m ∧ p ≠ m := by
  obtain ⟨es, n, h1, _, _⟩ := q.ex
  exact ⟨h1.ptr, h1.pU, h1.mU, h1.ne⟩
theorem StM.mlt {h : T AObj} {c p m : Nat} {M : List Rc} {U : Nat → Prop} (q : StM h p m M U) (hf : Fresh h c) : p < c ∧ m < c := by
  obtain ⟨es, n, h1, _, _⟩ := q.ex
  exact ⟨h1.ptr.lt hf, h1.map.lt hf⟩

theorem StoreR.empty {h : T AObj} {p m : Nat} {U : Nat → Prop} (q : StoreR h p m [] 0 U) : StM h p m [] U := ⟨⟨[], 0, q, ⟨[], .nil 0⟩, fun x => .inl ⟨rfl, rfl⟩⟩, Rises.nil, fun r hr => by cases hr⟩

theorem Rep.id {h : T AObj} {p m : Nat} {U : Nat → Prop} {r : Rc} {v : Value} (x : Rep h p m U r v) : ∃ a k, v = itv r.id (.slice a r.xs.length k) r.pay r.seq r.gone := by
  obtain ⟨it, rfl, rfl, h3, _⟩ := x
  obtain ⟨a, k, h5⟩ := h3.val
  exact ⟨a, k, by unfold It.val It.rc; rw [h5]⟩

/-- The items in order, as the contracts take them. -/
theorem StM.its {h : T AObj} {p m n : Nat} {es : List (Value × Value × Nat)} {ids : List Int} {M : List Rc} {U : Nat → Prop} (hk : Keyed es n ids) (hv : ∀ x, Fits h p m U (getM x M) (valI x es)) (hr : Rises M) (hg : ∀ r ∈ M, r.xs.length ≤ bigV) :
    ∃ its : List It, its.map It.rc = M ∧ sortI ids = its.map It.id ∧ ∀ x ∈ its, InStore h p m es U x := by
  have one : ∀ r ∈ M, ∃ it : It, it.rc = r ∧ InStore h p m es U it := by
    intro r hr'
    rcases hv r.id with ⟨h1, _⟩ | ⟨r', v, h1, h2, it, rfl, h4, h5, h6⟩
    · exact absurd rfl (getM_none.1 h1 r hr')
    · rw [getM_some hr hr' rfl] at h1
      cases h1
      obtain ⟨i, h7⟩ := valI_some h2
      have hid : it.id = r.id := congrArg Rc.id h4
      have hxs : it.xs = r.xs := congrArg Rc.xs h4
      exact ⟨it, h4, i, by rw [hid]; exact h7, by rw [hxs]; exact hg r hr', h5, h6⟩
  have all : ∀ l : List Rc, (∀ x ∈ l, x ∈ M) → ∃ its : List It, its.map It.rc = l ∧ ∀ x ∈ its, InStore h p m es U x := by
    intro l
    induction l with
    | nil => exact fun _ => ⟨[], rfl, fun x hx => by cases hx⟩
    | cons y ys ih =>
      intro hl
      obtain ⟨its, h1, h2⟩ := ih fun x hx => hl x (List.mem_cons_of_mem _ hx)
      obtain ⟨it, h3, h4⟩ := one y (hl y (List.mem_cons_self ..))
      refine ⟨it :: its, by rw [List.map_cons, h3, h1], fun x hx => ?_⟩
      rcases List.mem_cons.1 hx with rfl | hx
      · exact h4
      · exact h2 x hx
  obtain ⟨its, h1, h2⟩ := all M fun x hx => hx
  refine ⟨its, h1, ?_, h2⟩
  have hids : its.map It.id = M.map Rc.id := by rw [← h1, List.map_map]; rfl
  rw [hids]
  refine rises_ext (sortI_rises hk.nodup) hr.ids fun x => ?_
  rw [(sortI_perm ids).mem_iff]
  constructor
  · intro hx
    rcases hv x with ⟨_, h4⟩ | ⟨r, v, h4, _, _⟩
    · exact absurd hx ((findI_none_iff hk.keys).1 (valI_none.1 h4))
    · obtain ⟨h5, h6⟩ := getM_mem h4
      exact List.mem_map.2 ⟨r, h5, h6⟩
  · intro hx
    obtain ⟨r, h5, rfl⟩ := List.mem_map.1 hx
    refine Classical.byContradiction fun hn => ?_
    rcases hv r.id with ⟨h4, _⟩ | ⟨r', v, _, h4, _⟩
    · exact absurd rfl (getM_none.1 h4 r h5)
    · rw [valI_none.2 ((findI_none_iff hk.keys).2 hn)] at h4
      cases h4

/-- An error that says where, or none. -/
def ErrIs (h : T AObj) (c c' : Nat) (r : Value) (z : Int) : Prop := (z = 0 ∧ r = .nilIface) ∨ (z ≠ 0 ∧ codeIn z = true ∧ ∃ b w, r = .iface 122 (.pointer (some ⟨b, 0, none⟩)) ∧ c ≤ b ∧ b < c' ∧ Has h b (.cells [.string w, .iface 35 (.int .i64 z)]))

theorem ErrIs.nil {h : T AObj} {c c' : Nat} {r : Value} {z : Int} (x : ErrIs h c c' r z) (hz : z = 0) : r = .nilIface := by
  rcases x with ⟨_, x⟩ | ⟨x, _⟩
  · exact x
  · exact absurd hz x
theorem ErrIs.err {h : T AObj} {c c' : Nat} {r : Value} {z : Int} (x : ErrIs h c c' r z) (hz : z ≠ 0) : codeIn z = true ∧ ∃ b w, r = .iface 122 (.pointer (some ⟨b, 0, none⟩)) ∧ c ≤ b ∧ b < c' ∧ Has h b (.cells [.string w, .iface 35 (.int .i64 z)]) := by
  rcases x with ⟨x, _⟩ | ⟨_, x⟩
  · exact absurd x hz
  · exact x

noncomputable def putZ (id seq : Int) (pay : ByteArray) (M : List Rc) : Int := if id < 1 ∨ 1000 < id then 2 else if 40 < pay.size then 11 else if seq ≤ seqM id M then 1 else 0
noncomputable def putL (id seq : Int) (xs : List Value) (pay : ByteArray) (M : List Rc) : List Rc := if putZ id seq pay M = 0 then putM ⟨id, xs, pay, seq, false⟩ M else M

theorem StM.cur {h : T AObj} {p m : Nat} {es : List (Value × Value × Nat)} {M : List Rc} {U : Nat → Prop} (id : Int) (hv : Fits h p m U (getM id M) (valI id es)) : ∃ i0 av nv kv p0 g0, curV id es = itv i0 (.slice av nv kv) p0 (seqM id M) g0 ∧ ((findI id es).isSome = false ∧ getM id M = none ∨ (findI id es).isSome = true ∧ ∃ r, getM id M = some r ∧ r.gone = g0) := by
  rcases hv with ⟨h1, h2⟩ | ⟨r, v, h1, h2, h3⟩
  · refine ⟨0, none, 0, 0, .empty, false, ?_, .inl ⟨by rw [valI_none.1 h2]; rfl, h1⟩⟩
    unfold curV seqM
    rw [valI_none.1 h2, h1]
  · obtain ⟨i, h4⟩ := valI_some h2
    obtain ⟨a, k, h5⟩ := h3.id
    refine ⟨r.id, a, r.xs.length, k, r.pay, r.gone, ?_, .inr ⟨by rw [h4]; rfl, r, h1, rfl⟩⟩
    unfold curV seqM
    rw [h4, h1]
    exact h5

theorem mput_spec (H : Std sm) {h : T AObj} {c : Nat} {rl wl : List Nat} (hf : Fresh h c) {p m : Nat} {M : List Rc} {U : Nat → Prop} (q : StM h p m M U) (id seq : Int) (hid : -9223372036854775808 ≤ id ∧ id ≤ 9223372036854775807) (pay : ByteArray)
    {a : Option Addr} {k cap : Nat} {zs : List Int} (hv : Row h (.slice a k cap) k 1 (zs.map (Value.int .i32))) (hx : zs.length = k) (hn : k ≤ bigV) (hz : k = 0 → a = none → cap = 0) (bs : Nat → Prop) (hbs : ∀ b o sp, a = some ⟨b, o, sp⟩ → bs b) (hbm : ¬bs m) :
    ∃ r s', FnTo (Cs sm) eg 12 [.pointer (some ⟨p, 0, none⟩), .int .i64 id, .slice a k cap, .string pay, .int .i64 seq] ⟨h, c, rl, wl⟩ r s' ∧ (ErrIs s'.h c s'.c r (putZ id seq pay M) ∧
      StM s'.h p m (putL id seq (zs.map (Value.int .i32)) pay M) (fun b => U b ∨ c ≤ b ∧ b < s'.c)) ∧ Ext ⟨h, c, rl, wl⟩ s' (fun b => U b ∨ bs b) (fun b => b = m) := by
  obtain ⟨⟨es, n, h1, ⟨ids, h2⟩, h3⟩, h4, h5⟩ := _root_.id q
  obtain ⟨i0, av, nv, kv, p0, g0, hcur, hw⟩ := StM.cur id (h3 id)
  have no : ∀ {s' : St} {r : Value} {z : Int}, putZ id seq pay M = z → z ≠ 0 → codeIn z = true → (∃ b, r = .iface 122 (.pointer (some ⟨b, 0, none⟩)) ∧ c ≤ b ∧ b < s'.c ∧ ∃ w, Has s'.h b (.cells [.string w, .iface 35 (.int .i64 z)])) → Ext ⟨h, c, rl, wl⟩ s' U (fun _ => False) →
      (ErrIs s'.h c s'.c r (putZ id seq pay M) ∧ StM s'.h p m (putL id seq (zs.map (Value.int .i32)) pay M) (fun b => U b ∨ c ≤ b ∧ b < s'.c)) ∧ Ext ⟨h, c, rl, wl⟩ s' (fun b => U b ∨ bs b) (fun b => b = m) := by
    intro s' r z hz0 hz1 hz2 ⟨b, e1, e2, e3, w, e4⟩ hext
    unfold putL
    rw [hz0, if_neg hz1]
    exact ⟨⟨.inr ⟨hz1, hz2, b, w, e1, e2, e3, e4⟩, (q.keep hf fun b hb hc => hext.h b hc (fun q => q)).wide fun b hb => .inl hb⟩, hext.mono (fun b _ hb => .inl hb) fun b _ hb => hb.elim⟩
  by_cases c1 : id < 1 ∨ 1000 < id
  · obtain ⟨r, s', e1, e2, e3⟩ := sput_range H hf h1 id seq pay c1 a k cap (rl := rl) (wl := wl)
    exact ⟨r, s', e1, no (by unfold putZ; rw [if_pos c1]) (by decide) (by decide +kernel) e2 e3⟩
  · by_cases c2 : 40 < pay.size
    · obtain ⟨r, s', e1, e2, e3⟩ := sput_large H hf h1 id seq pay (by omega) (by omega) c2 a k cap (rl := rl) (wl := wl)
      exact ⟨r, s', e1, no (by unfold putZ; rw [if_neg c1, if_pos c2]) (by decide) (by decide +kernel) e2 e3⟩
    · by_cases c3 : seq ≤ seqM id M
      · obtain ⟨r, s', e1, e2, e3⟩ := sput_form H hf h1 id seq pay (by omega) (by omega) (by omega) a k cap hcur c3 (rl := rl) (wl := wl)
        exact ⟨r, s', e1, no (by unfold putZ; rw [if_neg c1, if_neg c2, if_pos c3]) (by decide) (by decide +kernel) e2 e3⟩
      · obtain ⟨r, s', e1, e2, ⟨v', e3, e4⟩, e5⟩ := sput_ok H hf h1 id seq pay (by omega) (by omega) (by omega) hv (by rw [List.length_map]; exact hx) hn hz bs hbs hbm hcur (by omega) (rl := rl) (wl := wl)
        have hz0 : putZ id seq pay M = 0 := by unfold putZ; rw [if_neg c1, if_neg c2, if_neg c3]
        refine ⟨r, s', e1, ⟨.inl ⟨hz0, e2⟩, ?_⟩, e5⟩
        unfold putL
        rw [if_pos hz0]
        refine ⟨⟨_, _, e3, ⟨_, h2.put (by unfold wfI; rw [decide_eq_true hid.1, decide_eq_true hid.2]; rfl) _⟩, fun x => ?_⟩, h4.put _, fun r hr => ?_⟩
        · rw [getM_put, valI_put h2]
          by_cases hxi : id = x
          · rw [if_pos hxi, if_pos hxi.symm]
            have hlen : (zs.map (Value.int .i32)).length = k := by rw [List.length_map]; exact hx
            refine .inr ⟨_, _, rfl, rfl, ⟨id, v', zs.map (Value.int .i32), pay, seq, false⟩, rfl, rfl, by dsimp only; rw [hlen]; exact e4.low (Nat.zero_le _), fun b hb => ?_⟩
            obtain ⟨u1, u2⟩ := e4.blk hb
            obtain ⟨u3, u4⟩ := q.mlt hf
            exact ⟨.inr ⟨u1, u2.lt e5.fresh⟩, by omega, by omega⟩
          · rw [if_neg hxi, if_neg fun e => hxi e.symm]
            exact (h3 x).keep hf (fun b hb => .inl hb) fun b _ hc _ hm => e5.h b hc hm
        · rcases mem_putM hr with rfl | hr
          · exact ⟨by dsimp only; omega, by dsimp only; omega, by dsimp only; rw [List.length_map, hx]; exact hn, zs, rfl⟩
          · exact h5 r hr

noncomputable def delZ (id seq : Int) (M : List Rc) : Int := match getM id M with | none => 3 | some r => if r.gone then 3 else if seq ≤ r.seq then 1 else 0
noncomputable def delL (id seq : Int) (M : List Rc) : List Rc := if delZ id seq M = 0 then putM ⟨id, [], .empty, seq, true⟩ M else M

theorem mdel_spec (H : Std sm) {h : T AObj} {c : Nat} {rl wl : List Nat} (hf : Fresh h c) {p m : Nat} {M : List Rc} {U : Nat → Prop} (q : StM h p m M U) (id seq : Int) :
    ∃ r s', FnTo (Cs sm) eg 29 [.pointer (some ⟨p, 0, none⟩), .int .i64 id, .int .i64 seq] ⟨h, c, rl, wl⟩ r s' ∧ (ErrIs s'.h c s'.c r (delZ id seq M) ∧ StM s'.h p m (delL id seq M) U) ∧ Ext ⟨h, c, rl, wl⟩ s' U (fun b => b = m) := by
  obtain ⟨⟨es, n, h1, ⟨ids, h2⟩, h3⟩, h4, h5⟩ := _root_.id q
  obtain ⟨i0, av, nv, kv, p0, g0, hcur, hw⟩ := StM.cur id (h3 id)
  have no : ∀ {s' : St} {r : Value} {z : Int}, delZ id seq M = z → z ≠ 0 → codeIn z = true → (∃ b, r = .iface 122 (.pointer (some ⟨b, 0, none⟩)) ∧ c ≤ b ∧ b < s'.c ∧ ∃ w, Has s'.h b (.cells [.string w, .iface 35 (.int .i64 z)])) → Ext ⟨h, c, rl, wl⟩ s' U (fun _ => False) →
      (ErrIs s'.h c s'.c r (delZ id seq M) ∧ StM s'.h p m (delL id seq M) U) ∧ Ext ⟨h, c, rl, wl⟩ s' U (fun b => b = m) := by
    intro s' r z hz0 hz1 hz2 ⟨b, e1, e2, e3, w, e4⟩ hext
    unfold delL
    rw [hz0, if_neg hz1]
    exact ⟨⟨.inr ⟨hz1, hz2, b, w, e1, e2, e3, e4⟩, q.keep hf fun b hb hc => hext.h b hc (fun q => q)⟩, hext.mono (fun b _ hb => hb) fun b _ hb => hb.elim⟩
  rcases hw with ⟨w1, w2⟩ | ⟨w1, r0, w2, w3⟩
  · obtain ⟨r, s', e1, e2, e3⟩ := sdel_none H hf h1 id seq hcur (.inl w1) (rl := rl) (wl := wl)
    exact ⟨r, s', e1, no (by unfold delZ; rw [w2]) (by decide) (by decide +kernel) e2 e3⟩
  · have hs : seqM id M = r0.seq := by unfold seqM; rw [w2]
    cases g0 with
    | true =>
      obtain ⟨r, s', e1, e2, e3⟩ := sdel_none H hf h1 id seq hcur (.inr ⟨w1, rfl⟩) (rl := rl) (wl := wl)
      exact ⟨r, s', e1, no (by unfold delZ; rw [w2]; simp only; rw [w3, if_pos rfl]) (by decide) (by decide +kernel) e2 e3⟩
    | false =>
      have hz : delZ id seq M = if seq ≤ r0.seq then 1 else 0 := by unfold delZ; rw [w2]; simp only; rw [w3, if_neg (by decide)]
      rw [hs] at hcur
      by_cases c3 : seq ≤ r0.seq
      · obtain ⟨r, s', e1, e2, e3⟩ := sdel_form H hf h1 id seq hcur w1 c3 (rl := rl) (wl := wl)
        exact ⟨r, s', e1, no (by rw [hz, if_pos c3]) (by decide) (by decide +kernel) e2 e3⟩
      · obtain ⟨r, s', e1, ⟨e2, e3⟩, e5⟩ := sdel_ok H hf h1 id seq hcur w1 (by omega) (rl := rl) (wl := wl)
        have hz0 : delZ id seq M = 0 := by rw [hz, if_neg c3]
        refine ⟨r, s', e1, ⟨.inl ⟨hz0, e2⟩, ?_⟩, e5⟩
        unfold delL
        rw [if_pos hz0]
        obtain ⟨g1, g2⟩ := getM_mem w2
        obtain ⟨g3, g4, _⟩ := h5 r0 g1
        refine ⟨⟨_, _, e3, ⟨_, h2.put (by unfold wfI; rw [decide_eq_true (by omega), decide_eq_true (by omega)]; rfl) _⟩, fun x => ?_⟩, h4.put _, fun r hr => ?_⟩
        · rw [getM_put, valI_put h2]
          by_cases hxi : id = x
          · rw [if_pos hxi, if_pos hxi.symm]
            exact .inr ⟨_, _, rfl, rfl, ⟨id, .slice none 0 0, [], .empty, seq, true⟩, rfl, rfl, .inl ⟨rfl, rfl, rfl⟩, fun b hb => by cases hb⟩
          · rw [if_neg hxi, if_neg fun e => hxi e.symm]
            exact (h3 x).keep hf (fun b hb => hb) fun b _ hc _ hm => e5.h b hc hm
        · rcases mem_putM hr with rfl | hr
          · exact ⟨by dsimp only; omega, by dsimp only; omega, Nat.zero_le _, [], rfl⟩
          · exact h5 r hr

/-- What an item is that is told: one's own copy of it. -/
def Told (h : T AObj) (c : Nat) (r : Rc) (v : Value) : Prop := ∃ w, v = itv r.id w r.pay r.seq r.gone ∧ Own h c w r.xs.length r.xs

noncomputable def liveG (id : Int) (M : List Rc) : Option Rc := match getM id M with | some r => if r.gone then none else some r | none => none

theorem mget_spec (H : Std sm) {h : T AObj} {c : Nat} {rl wl : List Nat} (hf : Fresh h c) {p m : Nat} {M : List Rc} {U : Nat → Prop} (q : StM h p m M U) (id : Int) :
    ∃ r s', FnTo (Cs sm) eg 24 [.pointer (some ⟨p, 0, none⟩), .int .i64 id] ⟨h, c, rl, wl⟩ r s' ∧ ((liveG id M = none ∧ r = .tuple #[it0, .bool false] ∨ ∃ x v, liveG id M = some x ∧ r = .tuple #[v, .bool true] ∧ Told s'.h c x v)) ∧ Ext ⟨h, c, rl, wl⟩ s' U (fun _ => False) := by
  obtain ⟨⟨es, n, h1, ⟨ids, h2⟩, h3⟩, h4, h5⟩ := _root_.id q
  obtain ⟨i0, av, nv, kv, p0, g0, hcur, hw⟩ := StM.cur id (h3 id)
  rcases hw with ⟨w1, w2⟩ | ⟨w1, r0, w2, w3⟩
  · obtain ⟨r, s', e1, e2, e3⟩ := sget_none H hf h1 id hcur (.inl w1) (rl := rl) (wl := wl)
    exact ⟨r, s', e1, .inl ⟨by unfold liveG; rw [w2], e2⟩, e3⟩
  · cases g0 with
    | true =>
      obtain ⟨r, s', e1, e2, e3⟩ := sget_none H hf h1 id hcur (.inr ⟨w1, rfl⟩) (rl := rl) (wl := wl)
      exact ⟨r, s', e1, .inl ⟨by unfold liveG; rw [w2]; simp only; rw [w3, if_pos rfl], e2⟩, e3⟩
    | false =>
      rcases h3 id with ⟨k1, _⟩ | ⟨r1, v, k1, k2, it, rfl, k4, k5, k6⟩
      · rw [w2] at k1; cases k1
      · rw [w2] at k1
        cases k1
        obtain ⟨i, k7⟩ := valI_some k2
        obtain ⟨g1, g2⟩ := getM_mem w2
        have hxs : it.xs = r0.xs := congrArg Rc.xs k4
        obtain ⟨r, s', e1, ⟨v', e2, e3⟩, e4⟩ := sget_some H hf h1 id (it := it) k7 ((congrArg Rc.gone k4).trans w3) (by rw [hxs]; exact (h5 r0 g1).2.2.1) k5 (fun b hb => (k6 b hb).1) (rl := rl) (wl := wl)
        refine ⟨r, s', e1, .inr ⟨r0, _, by unfold liveG; rw [w2]; simp only; rw [w3, if_neg (by decide)], e2, v', ?_, by rw [← hxs]; exact e3⟩, e4⟩
        rw [← k4]
        show itv it.id v' it.pay it.seq false = itv it.id v' it.pay it.seq it.gone
        rw [show it.gone = false from (congrArg Rc.gone k4).trans w3]

theorem mitems_spec {h : T AObj} {c : Nat} {rl wl : List Nat} (hf : Fresh h c) {p m : Nat} {M : List Rc} {U : Nat → Prop} (q : StM h p m M U) :
    ∃ r s', FnTo (Cs smQ) eg 23 [.pointer (some ⟨p, 0, none⟩)] ⟨h, c, rl, wl⟩ r s' ∧ (∃ l, ItemsR s'.h c r l ∧ l.map It.rc = M) ∧ Ext ⟨h, c, rl, wl⟩ s' U (fun _ => False) := by
  have hlen := q.len
  obtain ⟨⟨es, n, h1, ⟨ids, h2⟩, h3⟩, h4, h5⟩ := _root_.id q
  obtain ⟨its, i1, i2, i3⟩ := StM.its h2 h3 h4 fun r hr => (h5 r hr).2.2.1
  have hl : its.length = M.length := by rw [← i1, List.length_map]
  obtain ⟨r, s', e1, ⟨l, e2, e3⟩, e4⟩ := items_spec hf h1 h2.keyInts i2 i3 (by omega) (rl := rl) (wl := wl)
  exact ⟨r, s', e1, ⟨l, e2, (strip_rc e3).trans i1⟩, e4⟩

theorem mlen_spec {h : T AObj} {c : Nat} {rl wl : List Nat} (hf : Fresh h c) {p m : Nat} {M : List Rc} {U : Nat → Prop} (q : StM h p m M U) :
    ∃ r s', FnTo (Cs smQ) eg 27 [.pointer (some ⟨p, 0, none⟩)] ⟨h, c, rl, wl⟩ r s' ∧ r = .int .i64 ((liveM M).length : Int) ∧ Ext ⟨h, c, rl, wl⟩ s' U (fun _ => False) := by
  have hlen := q.len
  obtain ⟨⟨es, n, h1, ⟨ids, h2⟩, h3⟩, h4, h5⟩ := _root_.id q
  obtain ⟨its, i1, i2, i3⟩ := StM.its h2 h3 h4 fun r hr => (h5 r hr).2.2.1
  have hl : its.length = M.length := by rw [← i1, List.length_map]
  obtain ⟨r, s', e1, e2, e4⟩ := slen_spec hf h1 h2.keyInts i2 i3 (by omega) (rl := rl) (wl := wl)
  refine ⟨r, s', e1, ?_, e4⟩
  have : liveN its = (liveM M).length := by
    unfold liveN liveM
    rw [← i1, List.filter_map, List.length_map]
    rfl
  rw [e2, this]

theorem mnext_spec {h : T AObj} {c : Nat} {rl wl : List Nat} (hf : Fresh h c) {p m : Nat} {M : List Rc} {U : Nat → Prop} (q : StM h p m M U) (after : Int) :
    ∃ r s', FnTo (Cs smQ) eg 30 [.pointer (some ⟨p, 0, none⟩), .int .i64 after] ⟨h, c, rl, wl⟩ r s' ∧ ((nextM after M = none ∧ r = .tuple #[it0, .bool false] ∨ ∃ x v, nextM after M = some x ∧ r = .tuple #[v, .bool true] ∧ Told s'.h c x v)) ∧ Ext ⟨h, c, rl, wl⟩ s' U (fun _ => False) := by
  have hlen := q.len
  obtain ⟨⟨es, n, h1, ⟨ids, h2⟩, h3⟩, h4, h5⟩ := _root_.id q
  obtain ⟨its, i1, i2, i3⟩ := StM.its h2 h3 h4 fun r hr => (h5 r hr).2.2.1
  have hl : its.length = M.length := by rw [← i1, List.length_map]
  obtain ⟨r, s', e1, ⟨v, l, e2, e3, e4⟩, e5⟩ := next_spec hf h1 h2.keyInts i2 i3 (by omega) after (rl := rl) (wl := wl)
  refine ⟨r, s', e1, ?_, e5⟩
  have hm : l.map It.rc = M := (strip_rc e3).trans i1
  have hn : nextM after M = (l.find? (nextP after)).map It.rc := by
    unfold nextM
    rw [← hm, List.find?_map]
    rfl
  cases hx : l.find? (nextP after) with
  | none =>
    rw [hx] at e4 hn
    exact .inl ⟨hn, e4⟩
  | some x =>
    rw [hx] at e4 hn
    exact .inr ⟨x.rc, x.val, hn, e4, x.vec, rfl, e2.vec x (List.mem_of_find?_eq_some hx)⟩

theorem msweep_spec {h : T AObj} {c : Nat} {rl wl : List Nat} (hf : Fresh h c) {p m : Nat} {M : List Rc} {U : Nat → Prop} (q : StM h p m M U) (upto : Int) :
    ∃ r s', FnTo (Cs smQ) eg 34 [.pointer (some ⟨p, 0, none⟩), .int .i64 upto] ⟨h, c, rl, wl⟩ r s' ∧ (r = .int .i64 ((M.filter (sweptR upto)).length : Int) ∧ StM s'.h p m (sweepM upto M) U) ∧ Ext ⟨h, c, rl, wl⟩ s' U (fun b => b = m) := by
  have hlen := q.len
  obtain ⟨⟨es, n, h1, ⟨ids, h2⟩, h3⟩, h4, h5⟩ := _root_.id q
  obtain ⟨its, i1, i2, i3⟩ := StM.its h2 h3 h4 fun r hr => (h5 r hr).2.2.1
  have hl : its.length = M.length := by rw [← i1, List.length_map]
  obtain ⟨r, s', e1, ⟨e2, e3⟩, e4⟩ := sweep_spec hf h1 h2.keyInts i2 i3 (by omega) upto (rl := rl) (wl := wl)
  obtain ⟨ids', k1, k2⟩ := sweep_all (upto := upto) its h2
  refine ⟨r, s', e1, ⟨?_, ⟨_, _, e3, ⟨_, k1⟩, fun x => ?_⟩, h4.filter _, fun r hr => h5 r (List.mem_filter.1 hr).1⟩, e4⟩
  · have : sweepN upto its = (M.filter (sweptR upto)).length := by
      unfold sweepN
      rw [← i1, List.filter_map, List.length_map]
      rfl
    rw [e2, this]
  · unfold sweepM
    rw [k2, getM_filter h4]
    have hany : its.any (fun y => swp upto y && decide (y.id = x)) = M.any (fun r => sweptR upto r && decide (r.id = x)) := by
      rw [← i1, List.any_map]
      rfl
    rw [hany]
    cases hg : getM x M with
    | none =>
      rcases h3 x with ⟨_, g2⟩ | ⟨r, v, g1, _⟩
      · rw [g2, ite_self]
        exact .inl ⟨rfl, rfl⟩
      · rw [hg] at g1; cases g1
    | some r0 =>
      obtain ⟨g1, g2⟩ := getM_mem hg
      have hs : M.any (fun r => sweptR upto r && decide (r.id = x)) = sweptR upto r0 := by
        cases hb : sweptR upto r0 with
        | true => exact List.any_eq_true.2 ⟨r0, g1, by rw [hb, decide_eq_true g2]; rfl⟩
        | false =>
          refine List.any_eq_false.2 fun y hy e => ?_
          simp only [Bool.and_eq_true, decide_eq_true_eq] at e
          have := getM_some h4 hy e.2
          rw [hg] at this
          cases this
          rw [hb] at e
          exact absurd e.1 (by decide)
      rw [hs]
      simp only
      cases hb : sweptR upto r0 with
      | true => exact .inl ⟨rfl, rfl⟩
      | false =>
        have := (h3 x).keep (h' := s'.h) hf (fun b hb => hb) fun b _ hc _ hm => e4.h b hc hm
        rw [hg] at this
        exact this
end Go.Ab.Seat
