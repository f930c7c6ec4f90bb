/- Rules over the abstract machine: arithmetic, slots, what a call leaves. -/
import Derived.Test.YtofikbfljjjgeaaGreatDoorE41
import Derived.IntWalk
set_option linter.unusedVariables false
set_option linter.unusedSimpArgs false
namespace Go.Ab
theorem ev_tmp (loc kept : L) (t : Nat) : evalA (.mk loc kept) (.tmp t) = loc.look (kept.look fun _ => top) t := rfl
theorem ev_const (e : Env) (v : Value) : evalA e (.const v) = v := rfl
theorem ev_global (e : Env) (g : Nat) : evalA e (.global g) = .pointer (some ⟨g, 0, none⟩) := rfl
theorem ev_func (e : Env) (f : Nat) : evalA e (.func f) = .func (.func f) #[] #[] := rfl
theorem lk_nil (d : Nat → Value) (t : Nat) : L.nil.look d t = d t := rfl
theorem look_if (k : Nat) (v : Value) (l : L) (d : Nat → Value) (t : Nat) : (L.cons k v l).look d t = if k = t then v else l.look d t := by
 show Bool.rec (motive := fun _ => Value) (l.look d t) v (Nat.beq k t) = _
 by_cases h : k = t
 ·subst h; rw [show Nat.beq k k = true from Nat.beq_refl k, if_pos rfl]
 ·rw [show Nat.beq k t = false from beq_false.2 h, if_neg h]
theorem flushE_mk (km : Nat) (loc kept : L) : flushE km (.mk loc kept) = .mk .nil (flushL km loc kept) := rfl
theorem flL_nil (km : Nat) (kept : L) : flushL km .nil kept = kept := rfl
theorem flL_cons (km k : Nat) (v : Value) (l kept : L) : flushL km (.cons k v l) kept = if Nat.testBit km k = true then L.set k v (flushL km l kept) else flushL km l kept := by
 show Bool.rec (motive := fun _ => L) (flushL km l kept) (L.set k v (flushL km l kept)) (Nat.testBit km k) = _
 cases Nat.testBit km k <;> rfl
theorem st_nil (d : Nat) (v : Value) : L.set d v .nil = .cons d v .nil := rfl
theorem st_cons (d : Nat) (v : Value) (k : Nat) (u : Value) (t : L) : L.set d v (.cons k u t) = if k = d then .cons d v t else .cons k u (L.set d v t) := by
 show Bool.rec (motive := fun _ => L) (.cons k u (L.set d v t)) (.cons d v t) (Nat.beq k d) = _
 by_cases h : k = d
 ·subst h; rw [show Nat.beq k k = true from Nat.beq_refl k, if_pos rfl]
 ·rw [show Nat.beq k d = false from beq_false.2 h, if_neg h]
theorem keepFrom_nil (km i : Nat) (l : L) : keepFrom km [] i l = l := rfl
theorem keepFrom_cons (km : Nat) (v : Value) (vs : List Value) (i : Nat) (l : L) : keepFrom km (v :: vs) i l = if Nat.testBit km i = true then keepFrom km vs (i + 1) (.cons i v l) else keepFrom km vs (i + 1) l := by
 show Bool.rec (motive := fun _ => L) (keepFrom km vs (i + 1) l) (keepFrom km vs (i + 1) (.cons i v l)) (Nat.testBit km i) = _
 cases Nat.testBit km i <;> rfl
theorem wrapA_of {k : IntKind} {z : Int} (h : k.wrap z = z) : wrapA k z = z := by
 unfold wrapA
 split
 ·split
  ·rfl
  ·exact h
 ·exact h
theorem wrapA_i64 {z : Int} (h0 : -9223372036854775808 ≤ z) (h1 : z ≤ 9223372036854775807) : wrapA .i64 z = z := wrapA_of (by have := IntWalk.i64_in z ⟨h0, h1⟩; exact this)
section ops
variable {C : Ctx} {eg : TypeId → Bool} {e : Env} {s : St} {d : Option Nat} {ty : TypeId} {ps : String} {af : Array Edge} {g : Option (Nat × Bool)} {t t2 : TypeId} {x y : Operand} {j : IntKind} {a b : Int}
theorem opBin_int {op : BinOp} (h1 : op ≠ .shl) (h2 : op ≠ .shr) : opBin C eg op t x y (.int j a) (.int j b) = arithA op j a b := by
 unfold opBin
 simp only
 cases op <;> first | exact absurd rfl h1 | exact absurd rfl h2 | (simp only [decide_true])
theorem to_add (hx : evalA e x = .int .i64 a) (hy : evalA e y = .int .i64 b) (h0 : -9223372036854775808 ≤ a + b) (h1 : a + b ≤ 9223372036854775807) : OpTo C eg e ⟨d, .binOp .add t x y t2, ty, ps, af, g⟩ s (.int .i64 (a + b)) s :=
 to_bin hx hy (by rw [opBin_int (by decide) (by decide)]; show some (Value.int .i64 (wrapA .i64 (a + b))) = _; rw [wrapA_i64 h0 h1])
theorem to_sub (hx : evalA e x = .int .i64 a) (hy : evalA e y = .int .i64 b) (h0 : -9223372036854775808 ≤ a - b) (h1 : a - b ≤ 9223372036854775807) : OpTo C eg e ⟨d, .binOp .sub t x y t2, ty, ps, af, g⟩ s (.int .i64 (a - b)) s :=
 to_bin hx hy (by rw [opBin_int (by decide) (by decide)]; show some (Value.int .i64 (wrapA .i64 (a - b))) = _; rw [wrapA_i64 h0 h1])
theorem to_mul (hx : evalA e x = .int .i64 a) (hy : evalA e y = .int .i64 b) (h0 : -9223372036854775808 ≤ a * b) (h1 : a * b ≤ 9223372036854775807) : OpTo C eg e ⟨d, .binOp .mul t x y t2, ty, ps, af, g⟩ s (.int .i64 (a * b)) s :=
 to_bin hx hy (by rw [opBin_int (by decide) (by decide)]; show some (Value.int .i64 (wrapA .i64 (a * b))) = _; rw [wrapA_i64 h0 h1])
theorem to_rem (hx : evalA e x = .int j a) (hy : evalA e y = .int j b) (hb : b ≠ 0) : OpTo C eg e ⟨d, .binOp .rem t x y t2, ty, ps, af, g⟩ s (.int j (a.tmod b)) s :=
 to_bin hx hy (by rw [opBin_int (by decide) (by decide)]; show (match decide (b = 0) with | true => none | false => some (Value.int j (a.tmod b))) = _; rw [decide_eq_false hb])
theorem to_lss (hx : evalA e x = .int j a) (hy : evalA e y = .int j b) : OpTo C eg e ⟨d, .binOp .lss t x y t2, ty, ps, af, g⟩ s (.bool (decide (a < b))) s :=
 to_bin hx hy (by rw [opBin_int (by decide) (by decide)]; rfl)
theorem to_leq (hx : evalA e x = .int j a) (hy : evalA e y = .int j b) : OpTo C eg e ⟨d, .binOp .leq t x y t2, ty, ps, af, g⟩ s (.bool (decide (a ≤ b))) s :=
 to_bin hx hy (by rw [opBin_int (by decide) (by decide)]; rfl)
theorem to_gtr (hx : evalA e x = .int j a) (hy : evalA e y = .int j b) : OpTo C eg e ⟨d, .binOp .gtr t x y t2, ty, ps, af, g⟩ s (.bool (decide (b < a))) s :=
 to_bin hx hy (by rw [opBin_int (by decide) (by decide)]; rfl)
theorem to_geq (hx : evalA e x = .int j a) (hy : evalA e y = .int j b) : OpTo C eg e ⟨d, .binOp .geq t x y t2, ty, ps, af, g⟩ s (.bool (decide (b ≤ a))) s :=
 to_bin hx hy (by rw [opBin_int (by decide) (by decide)]; rfl)
theorem to_eqI (hx : evalA e x = .int j a) (hy : evalA e y = .int j b) : OpTo C eg e ⟨d, .binOp .eql t x y t2, ty, ps, af, g⟩ s (.bool (decide (a = b))) s :=
 to_bin hx hy (by rw [opBin_int (by decide) (by decide)]; rfl)
theorem to_neI (hx : evalA e x = .int j a) (hy : evalA e y = .int j b) : OpTo C eg e ⟨d, .binOp .neq t x y t2, ty, ps, af, g⟩ s (.bool (!decide (a = b))) s :=
 to_bin hx hy (by rw [opBin_int (by decide) (by decide)]; rfl)
theorem to_not {p : Bool} (hx : evalA e x = .bool p) : OpTo C eg e ⟨d, .unOp .not t x, ty, ps, af, g⟩ s (.bool (!p)) s := to_un hx rfl
noncomputable def undIs (C : Ctx) (t : TypeId) (k : Nat) : Bool := match C.und t with | some (.pointer _) => Nat.beq k 0 | some (.slice _) => Nat.beq k 1 | some (.interface _) => Nat.beq k 2 | some .bool => Nat.beq k 3 | some (.map _ _) => Nat.beq k 4 | _ => false
theorem to_eqP {p : Option Addr} (ht : undIs C t 0 = true) (hx : evalA e x = .pointer p) (hy : evalA e y = .pointer none) : OpTo C eg e ⟨d, .binOp .eql t x y t2, ty, ps, af, g⟩ s (.bool p.isNone) s :=
 to_bin hx hy (by
  unfold undIs at ht
  cases hu : C.und t with
  | none => rw [hu] at ht; cases ht
  | some u =>
   rw [hu] at ht
   cases u <;> first | (cases ht; done) | skip
   cases p <;> simp [opBin, guardA, eqA, hu])
theorem to_neP {p : Option Addr} (ht : undIs C t 0 = true) (hx : evalA e x = .pointer p) (hy : evalA e y = .pointer none) : OpTo C eg e ⟨d, .binOp .neq t x y t2, ty, ps, af, g⟩ s (.bool p.isSome) s :=
 to_bin hx hy (by
  unfold undIs at ht
  cases hu : C.und t with
  | none => rw [hu] at ht; cases ht
  | some u =>
   rw [hu] at ht
   cases u <;> first | (cases ht; done) | skip
   cases p <;> simp [opBin, guardA, eqA, hu])
theorem to_eqS {p : Option Addr} {n c : Nat} {n' c' : Nat} (ht : undIs C t 1 = true) (hx : evalA e x = .slice p n c) (hy : evalA e y = .slice none n' c') : OpTo C eg e ⟨d, .binOp .eql t x y t2, ty, ps, af, g⟩ s (.bool p.isNone) s :=
 to_bin hx hy (by
  unfold undIs at ht
  cases hu : C.und t with
  | none => rw [hu] at ht; cases ht
  | some u =>
   rw [hu] at ht
   cases u <;> first | (cases ht; done) | skip
   cases p <;> simp [opBin, guardA, eqA, hu])
end ops
section slices
variable {C : Ctx} {eg : TypeId → Bool} {e : Env} {s : St} {h : T AObj} {c : Nat} {rl wl : List Nat} {d : Option Nat} {ty : TypeId} {ps : String} {af : Array Edge} {g : Option (Nat × Bool)}
theorem to_sliceLo {t : TypeId} {x lo : Operand} {b o len cap n k : Nat} {sp : Option Nat} {j : IntKind} {z : Int} (ht : elemAt C t = some n) (hx : evalA e x = .slice (some ⟨b, o, sp⟩) len cap) (hl : evalA e lo = .int j z) (hz : z = (k : Int)) (hk : k ≤ len) (hc : k < cap) (hlc : len ≤ cap) (hsp : sp = none ∨ sp = some n) :
  OpTo C eg e ⟨d, .slice t x (some lo) none none, ty, ps, af, g⟩ s (.slice (some ⟨b, o + k * n, sp⟩) (len - k) (cap - k)) s := ⟨0, by
 show opSlice C t (evalA e x) ((some lo).map (evalA e)) ((none : Option Operand).map (evalA e)) ((none : Option Operand).map (evalA e)) s = _
 subst hz
 simp only [Option.map_some, Option.map_none]
 rw [hx, hl]
 unfold elemAt at ht
 unfold opSlice
 cases hu : C.und t with
 | none => rw [hu] at ht; cases ht
 | some u =>
  rw [hu] at ht
  cases u <;> first | (cases ht; done) | skip
  simp only at ht ⊢
  rw [bind_run (lift_run ht)]
  have hb : boundsA len cap (some (.int j (k : Int))) none none = some (k, len, cap) := by
   unfold boundsA
   simp only
   show (match boundA none cap cap with | none => none | some m => _) = _
   simp only [boundA]
   rw [show natOf (.int j (k : Int)) = some k from rfl]
   simp only [ble_iff.2 hk]
  rw [bind_run (lift_run hb)]
  have hne : Nat.beq cap k = false := beq_false.2 (by omega)
  rcases hsp with rfl | rfl
  ·simp only [hne]; rfl
  ·simp only [show (Nat.beq n n && Nat.ble len cap) = true by rw [ble_iff.2 hlc, Nat.beq_refl]; rfl]; rfl⟩
theorem fitsA_big {by_ m : Nat} (h : m ≤ big) : fitsA by_ m = true := by
 unfold fitsA
 rw [ble_iff.2 h]; rfl
theorem fitsA_bytes {by_ m : Nat} (h1 : 1 ≤ by_) (h : m * by_ ≤ 140737488355328) : fitsA by_ m = true := by
 unfold fitsA
 rw [ble_iff.2 h1, ble_iff.2 h]
 cases Nat.ble m big <;> rfl
theorem to_appNil {t et xt : TypeId} {a x : Operand} {n by_ k cap : Nat} {z cs r : List Value} {sp : Option Nat} {ob off : Nat} (ht : C.row t = some (et, n, by_, z)) (hu : sliceT C xt = true) (ha : evalA e a = .slice none 0 0) (hx : evalA e x = .slice (some ⟨ob, off, sp⟩) (k + 1) cap)
  (hb : Cel h ob cs) (hc : ob < c) (hs : subN off ((k + 1) * n) cs = some r) (hbig : k + 1 ≤ big) (hf : Fresh h c) :
  OpTo C eg e ⟨d, .call ⟨.builtin .append, #[a, x], #[t, xt]⟩, ty, ps, af, g⟩ ⟨h, c, rl, wl⟩ (.slice (some ⟨c, 0, some n⟩) (k + 1) (k + 1)) ⟨h.set c (some (.cells r)), c + 1, ob :: rl, wl⟩ := ⟨0, by
 show opAppend C #[t, xt] (evalA e a) (evalA e x) _ = _
 rw [ha, hx]
 unfold opAppend
 rw [show nth (#[t, xt] : Array TypeId).toList 0 = some t from rfl]
 simp only
 rw [bind_run (lift_run ht)]
 simp only
 have happ : appended C n z (nth #[t, xt].toList 1) (.slice (some ⟨ob, off, sp⟩) (k + 1) cap) ⟨h, c, rl, wl⟩ = some ((k + 1, r), ⟨h, c, ob :: rl, wl⟩) := by
  show appended C n z (some xt) _ _ = _
  unfold appended
  unfold sliceT at hu
  cases hw : C.und xt with
  | none => rw [hw] at hu; cases hu
  | some w =>
   rw [hw] at hu
   cases w <;> first | (cases hu; done) | skip
   simp only [hw]
   rw [bind_run (lift_run (show lenA (.slice (some ⟨ob, off, sp⟩) (k + 1) cap) = some (k + 1) from rfl))]
   have hfirst : firstA n (k + 1) (.slice (some ⟨ob, off, sp⟩) (k + 1) cap) ⟨h, c, rl, wl⟩ = some (r, ⟨h, c, ob :: rl, wl⟩) := by
    unfold firstA
    simp only [ble_iff.2 (Nat.le_refl (k + 1))]
    exact readCells_run hb hc hs
   rw [bind_run hfirst]; rfl
 rw [bind_run happ]
 simp only [show Nat.ble (0 + (k + 1)) 0 = false from ble_false.2 (by omega), show fitsA by_ (0 + (k + 1)) = true from fitsA_big (by omega)]
 rw [bind_run (newCells_run hf)]; rfl⟩
theorem to_appOwn {t et xt : TypeId} {a x : Operand} {n by_ k cap ln cp b0 : Nat} {z cs r cs0 : List Value} {sp : Option Nat} {ob off : Nat} (ht : C.row t = some (et, n, by_, z)) (hu : sliceT C xt = true) (ha : evalA e a = .slice (some ⟨b0, 0, some n⟩) ln cp) (hx : evalA e x = .slice (some ⟨ob, off, sp⟩) (k + 1) cap)
  (hb : Cel h ob cs) (hc : ob < c) (hs : subN off ((k + 1) * n) cs = some r) (hroom : cp < ln + (k + 1)) (hbig : ln + (k + 1) ≤ big) (h0 : Has h b0 (.cells cs0)) (hc0 : b0 < c) (hs0 : subN 0 (ln * n) cs0 = some cs0) (hat : ∀ v ∈ r, atom v = true) (hf : Fresh h c) :
  OpTo C eg e ⟨d, .call ⟨.builtin .append, #[a, x], #[t, xt]⟩, ty, ps, af, g⟩ ⟨h, c, rl, wl⟩ (.slice (some ⟨c, 0, some n⟩) (ln + (k + 1)) (ln + (k + 1))) ⟨(h.set b0 none).set c (some (.cells (cs0 ++ r))), c + 1, b0 :: ob :: rl, b0 :: wl⟩ := ⟨0, by
 show opAppend C #[t, xt] (evalA e a) (evalA e x) _ = _
 rw [ha, hx]
 unfold opAppend
 rw [show nth (#[t, xt] : Array TypeId).toList 0 = some t from rfl]
 simp only
 rw [bind_run (lift_run ht)]
 simp only
 have happ : appended C n z (nth #[t, xt].toList 1) (.slice (some ⟨ob, off, sp⟩) (k + 1) cap) ⟨h, c, rl, wl⟩ = some ((k + 1, r), ⟨h, c, ob :: rl, wl⟩) := by
  show appended C n z (some xt) _ _ = _
  unfold appended
  unfold sliceT at hu
  cases hw : C.und xt with
  | none => rw [hw] at hu; cases hu
  | some w =>
   rw [hw] at hu
   cases w <;> first | (cases hu; done) | skip
   simp only [hw]
   rw [bind_run (lift_run (show lenA (.slice (some ⟨ob, off, sp⟩) (k + 1) cap) = some (k + 1) from rfl))]
   have hfirst : firstA n (k + 1) (.slice (some ⟨ob, off, sp⟩) (k + 1) cap) ⟨h, c, rl, wl⟩ = some (r, ⟨h, c, ob :: rl, wl⟩) := by
    unfold firstA
    simp only [ble_iff.2 (Nat.le_refl (k + 1))]
    exact readCells_run hb hc hs
   rw [bind_run hfirst]; rfl
 rw [bind_run happ]
 have hall : (Nat.beq n n && allB atom r) = true := by rw [Nat.beq_refl, allB_eq, List.all_eq_true.2 hat]; rfl
 simp only [show Nat.ble (ln + (k + 1)) cp = false from ble_false.2 (by omega), show fitsA by_ (ln + (k + 1)) = true from fitsA_big (by omega), hall]
 rw [bind_run (getCellsW_run h0 hc0), bind_run (lift_run hs0), bind_run (putO_run h0 hc0), app_eq, bind_run (newCells_run (Fresh.put hc0 hf))]; rfl⟩
end slices
structure Ext (s s' : St) (R W : Nat → Prop) : Prop where
 c : s.c ≤ s'.c
 fresh : Fresh s'.h s'.c
 h : ∀ b, b < s.c → ¬W b → s'.h.get b = s.h.get b
 rl : ∀ b ∈ s'.rl, b ∈ s.rl ∨ (b < s.c ∧ R b)
 wl : ∀ b ∈ s'.wl, b ∈ s.wl ∨ (b < s.c ∧ W b)
theorem envOf_eq (km : Nat) (args : List Value) : envOf km args = .mk .nil (keepFrom km args 0 .nil) := rfl
theorem Fn.go {C : Ctx} {eg : TypeId → Bool} {f km : Nat} {fn : Func} {body : Code} {args : List Value} {h : T AObj} {c : Nat} {rl wl : List Nat} {Q : Value → St → Prop} (hsm : C.sm f = none) (hex : C.ex f = none) (hf : C.fn.get f = some fn) (hk : C.km.get f = some km) (hb : fn.body = some body) (hl : Nat.ble (len args) fn.ntmps = true)
  (hh : ∀ e, envOf km args = e → Wx C eg km body e ⟨h, c, [], []⟩
   fun x e' s' => (x = .normal ∨ x = .ret) ∧ Wres C e' fn.results.toList s' fun v s2 => Q v ⟨s2.h, s2.c, s2.rl.filter (fun b => decide (b < c)) ++ rl, s2.wl.filter (fun b => decide (b < c)) ++ wl⟩) :
  ∃ v s', FnTo C eg f args ⟨h, c, rl, wl⟩ v s' ∧ Q v s' := by
 refine Fn.enter hsm hex hf hb hl ?_
 rw [hk]
 exact hh _ rfl
theorem Wx.reg {C : Ctx} {eg : TypeId → Bool} {km id : Nat} {l : List Oper} {e : Env} {s : St} {Q : Ex → Env → St → Prop} (h : Wseq C eg l l e s fun e' s' => ∀ e2, flushE km e' = e2 → Q .normal e2 s') : Wx C eg km (.region id l.toArray false) e s Q := by
 refine Wx.region ?_
 obtain ⟨n, e', s', h1, h2⟩ := h
 exact ⟨n, e', s', h1, h2 _ rfl⟩
theorem Wx.dreg {C : Ctx} {eg : TypeId → Bool} {km id : Nat} {l : List Oper} {bef : List Nat} {e : Env} {s : St} {Q : Ex → Env → St → Prop} (hb : (Region.before l.toArray).toList = bef) (h : Wtr C eg l bef [] 0 l e s fun e' s' => ∀ e2, flushE km e' = e2 → Q .normal e2 s') : Wx C eg km (.region id l.toArray true) e s Q := by
 refine Wx.draw ?_
 rw [hb]
 obtain ⟨n, e', fps, s', h1, h2, h3⟩ := h
 exact ⟨n, e', fps, s', h1, h2, h3 _ rfl⟩
section nav
variable {C : Ctx} {eg : TypeId → Bool} {km id j : Nat} {b : Code} {e : Env} {s : St} {Q : Ex → Env → St → Prop}
theorem Then.go (h : Wx C eg km b e s Q) : Then C eg km b Q .normal e s := h
theorem Then.ex (h : Q (.exit j) e s) : Then C eg km b Q (.exit j) e s := h
theorem Then.rt (h : Q .ret e s) : Then C eg km b Q .ret e s := h
theorem Out.go (h : Q .normal e s) : Out id Q .normal e s := h
theorem Out.rt (h : Q .ret e s) : Out id Q .ret e s := h
theorem Out.hit (h : Q .normal e s) : Out id Q (.exit id) e s := by simpa [Out] using h
theorem Round.go {I : Nat → Env → St → Prop} {m : Nat} (m' : Nat) (h1 : m' < m) (h2 : I m' e s) : Round I m Q .normal e s := ⟨m', h1, h2⟩
theorem Round.ex {I : Nat → Env → St → Prop} {m : Nat} (h : Q (.exit j) e s) : Round I m Q (.exit j) e s := h
theorem Round.rt {I : Nat → Env → St → Prop} {m : Nat} (h : Q .ret e s) : Round I m Q .ret e s := h
end nav
section step
variable {C : Ctx} {eg : TypeId → Bool} {all os : List Oper} {loc kept : L} {s : St} {Q : Env → St → Prop} {d : Nat} {op : Op} {ty : TypeId} {ps : String} {af : Array Edge}
theorem Wseq.st {v : Value} {s1 : St} (ho : OpTo C eg (.mk loc kept) ⟨some d, op, ty, ps, af, none⟩ s v s1) (k : Wseq C eg all os (.mk (.cons d v loc) kept) s1 Q) : Wseq C eg all (⟨some d, op, ty, ps, af, none⟩ :: os) (.mk loc kept) s Q := Wseq.op rfl ho k
theorem Wseq.st0 {v : Value} {s1 : St} (ho : OpTo C eg (.mk loc kept) ⟨none, op, ty, ps, af, none⟩ s v s1) (k : Wseq C eg all os (.mk loc kept) s1 Q) : Wseq C eg all (⟨none, op, ty, ps, af, none⟩ :: os) (.mk loc kept) s Q := Wseq.op rfl ho k
theorem Wseq.stg {g : Option (Nat × Bool)} {v : Value} {s1 : St} (hw : wantedA all (.mk loc kept) ⟨some d, op, ty, ps, af, g⟩ = some true) (ho : OpTo C eg (.mk loc kept) ⟨some d, op, ty, ps, af, g⟩ s v s1) (k : Wseq C eg all os (.mk (.cons d v loc) kept) s1 Q) : Wseq C eg all (⟨some d, op, ty, ps, af, g⟩ :: os) (.mk loc kept) s Q := Wseq.op hw ho k
theorem Wseq.no {g : Option (Nat × Bool)} (hw : wantedA all (.mk loc kept) ⟨some d, op, ty, ps, af, g⟩ = some false) (k : Wseq C eg all os (.mk (.cons d undefA loc) kept) s Q) : Wseq C eg all (⟨some d, op, ty, ps, af, g⟩ :: os) (.mk loc kept) s Q := Wseq.not hw k
end step
section mv
variable {C : Ctx} {eg : TypeId → Bool} {e : Env} {s : St} {d : Option Nat} {ty : TypeId} {ps : String} {af : Array Edge} {g : Option (Nat × Bool)} {x : Operand}
end mv
theorem Wres.one {C : Ctx} {e : Env} {t : Nat} {s : St} {Q : Value → St → Prop} {v : Value} (hv : rd e t = v) (h : Q v s) : Wres C e [.tmp t] s Q := ⟨v, s, by
 show (readVars C e [.tmp t]).bind _ s = _
 have : readVars C e [.tmp t] s = some ([v], s) := by
  show ((M.ret (rd e t)).bind fun v => (M.ret []).bind fun vs => M.ret (v :: vs)) s = _
  rw [hv]; rfl
 rw [bind_run this]; rfl, h⟩
end Go.Ab
