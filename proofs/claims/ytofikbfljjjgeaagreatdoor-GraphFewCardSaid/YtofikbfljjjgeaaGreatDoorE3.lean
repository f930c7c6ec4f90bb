/- How abstract values and an abstract heap stand to values and a world; what a step keeps. -/
import Derived.Test.YtofikbfljjjgeaaGreatDoorE2
set_option linter.unusedVariables false
set_option linter.unusedSimpArgs false
namespace Go.Ab
structure Loc where
 blk : Nat
 off : Nat
 size : Nat
abbrev Iota := Nat → Option Loc
inductive VR (ι : Iota) : Value → Value → Prop
 | top (v : Value) : VR ι (.chan none) v
 | least (k c : Nat) (h : k ≤ c) : VR ι (.chan (some k)) (.int .i64 c)
 | bool (b : Bool) : VR ι (.bool b) (.bool b)
 | int (k : IntKind) (n : Int) : VR ι (.int k n) (.int k n)
 | float (k : FloatKind) (n : Nat) : VR ι (.float k n) (.float k n)
 | complex (k : FloatKind) (n m : Nat) : VR ι (.complex k n m) (.complex k n m)
 | string (s : ByteArray) : VR ι (.string s) (.string s)
 | nilPtr : VR ι (.pointer none) (.pointer none)
 | nilSlice (n c : Nat) : VR ι (.slice none n c) (.slice none n c)
 | nilMap : VR ι (.map none) (.map none)
 | nilFunc : VR ι .nilFunc .nilFunc
 | nilIface : VR ι .nilIface .nilIface
 | ptr (b o : Nat) (L : Loc) (h : ι b = some L) : VR ι (.pointer (some ⟨b, o, none⟩)) (.pointer (some ⟨L.blk, L.off + o, none⟩))
 | sliceX (b o n c : Nat) (L : Loc) (h : ι b = some L) : VR ι (.slice (some ⟨b, o, none⟩) n c) (.slice (some ⟨L.blk, L.off + o, none⟩) n c)
 | sliceI (b o e n c c' : Nat) (L : Loc) (h : ι b = some L) (hc : c ≤ c') (hs : L.off + o + c' * e ≤ L.size) :
   VR ι (.slice (some ⟨b, o, some e⟩) n c) (.slice (some ⟨L.blk, L.off + o, none⟩) n c')
 | sliceZ (b o e : Nat) (a : Addr) : VR ι (.slice (some ⟨b, o, some e⟩) 0 0) (.slice (some a) 0 0)
 | map (b : Nat) (L : Loc) (h : ι b = some L) : VR ι (.map (some b)) (.map (some L.blk))
 | func (f : Fn) (a c a' c' : Array Value) (ha : a.toList.length = a'.toList.length) (hc : c.toList.length = c'.toList.length)
   (ra : ∀ (i : Nat) (x y : Value), a.toList[i]? = some x → a'.toList[i]? = some y → VR ι x y)
   (rc : ∀ (i : Nat) (x y : Value), c.toList[i]? = some x → c'.toList[i]? = some y → VR ι x y) : VR ι (.func f a c) (.func f a' c')
 | iface (t : TypeId) (v v' : Value) (h : VR ι v v') : VR ι (.iface t v) (.iface t v')
 | agg (a a' : Array Value) (ha : a.toList.length = a'.toList.length)
   (ra : ∀ (i : Nat) (x y : Value), a.toList[i]? = some x → a'.toList[i]? = some y → VR ι x y) : VR ι (.agg a) (.agg a')
 | tuple (a a' : Array Value) (ha : a.toList.length = a'.toList.length)
   (ra : ∀ (i : Nat) (x y : Value), a.toList[i]? = some x → a'.toList[i]? = some y → VR ι x y) : VR ι (.tuple a) (.tuple a')
def VRl (ι : Iota) (l l' : List Value) : Prop := l.length = l'.length ∧ ∀ (i : Nat) (x y : Value), l[i]? = some x → l'[i]? = some y → VR ι x y
def Iota.le (ι ι' : Iota) : Prop := ∀ b L, ι b = some L → ι' b = some L
theorem Iota.le_refl (ι : Iota) : ι.le ι := fun _ _ h => h
theorem Iota.le_trans {a b c : Iota} (h : a.le b) (k : b.le c) : a.le c := fun x L hx => k x L (h x L hx)
def Iota.upd (ι : Iota) (c : Nat) (L : Loc) : Iota := fun b => if b = c then some L else ι b
theorem Iota.upd_same (ι : Iota) (c : Nat) (L : Loc) : ι.upd c L c = some L := if_pos rfl
theorem Iota.upd_ne (ι : Iota) {c b : Nat} (L : Loc) (h : b ≠ c) : ι.upd c L b = ι b := if_neg h
theorem Iota.le_upd (ι : Iota) {c : Nat} (L : Loc) (h : ι c = none) : ι.le (ι.upd c L) := fun b K hb => by
 rw [Iota.upd_ne ι L fun e => by rw [e, h] at hb; cases hb]; exact hb
theorem VR.mono {ι ι' : Iota} (hi : ι.le ι') {v v' : Value} (h : VR ι v v') : VR ι' v v' := by
 induction h with
 | top v => exact .top v
 | least k c h => exact .least k c h
 | bool b => exact .bool b
 | int k n => exact .int k n
 | float k n => exact .float k n
 | complex k n m => exact .complex k n m
 | string s => exact .string s
 | nilPtr => exact .nilPtr
 | nilSlice n c => exact .nilSlice n c
 | nilMap => exact .nilMap
 | nilFunc => exact .nilFunc
 | nilIface => exact .nilIface
 | ptr b o L h => exact .ptr b o L (hi _ _ h)
 | sliceX b o n c L h => exact .sliceX b o n c L (hi _ _ h)
 | sliceI b o e n c c' L h hc hs => exact .sliceI b o e n c c' L (hi _ _ h) hc hs
 | sliceZ b o e a => exact .sliceZ b o e a
 | map b L h => exact .map b L (hi _ _ h)
 | func f a c a' c' ha hc _ _ ra rc => exact .func f a c a' c' ha hc ra rc
 | iface t v v' _ ih => exact .iface t v v' ih
 | agg a a' ha _ ra => exact .agg a a' ha ra
 | tuple a a' ha _ ra => exact .tuple a a' ha ra
theorem VRl.mono {ι ι' : Iota} (hi : ι.le ι') {l l' : List Value} (h : VRl ι l l') : VRl ι' l l' := ⟨h.1, fun i x y a b => (h.2 i x y a b).mono hi⟩
theorem VRl.nil (ι : Iota) : VRl ι [] [] := ⟨rfl, fun i x y h => by simp at h⟩
theorem VRl.cons {ι : Iota} {x y : Value} {l l' : List Value} (h : VR ι x y) (t : VRl ι l l') : VRl ι (x :: l) (y :: l') := by
 refine ⟨by simp [t.1], fun i a b ha hb => ?_⟩
 cases i with
 | zero => simp at ha hb; rw [← ha, ← hb]; exact h
 | succ i => exact t.2 i a b (by simpa using ha) (by simpa using hb)
theorem VRl.head {ι : Iota} {x y : Value} {l l' : List Value} (t : VRl ι (x :: l) (y :: l')) : VR ι x y := t.2 0 x y rfl rfl
theorem VRl.tail {ι : Iota} {x y : Value} {l l' : List Value} (t : VRl ι (x :: l) (y :: l')) : VRl ι l l' :=
 ⟨by have := t.1; simpa using this, fun i a b ha hb => t.2 (i + 1) a b (by simpa using ha) (by simpa using hb)⟩
theorem VRl.cons_inv {ι : Iota} {x : Value} {l m : List Value} (t : VRl ι (x :: l) m) : ∃ y l', m = y :: l' ∧ VR ι x y ∧ VRl ι l l' := by
 cases m with
 | nil => exact absurd t.1 (by simp)
 | cons y l' => exact ⟨y, l', rfl, t.head, t.tail⟩
theorem VRl.nil_inv {ι : Iota} {m : List Value} (t : VRl ι [] m) : m = [] := by
 cases m with
 | nil => rfl
 | cons y l' => exact absurd t.1 (by simp)
theorem VRl.append {ι : Iota} {a a' b b' : List Value} (h : VRl ι a a') (k : VRl ι b b') : VRl ι (a ++ b) (a' ++ b') := by
 refine ⟨by simp [h.1, k.1], fun i x y hx hy => ?_⟩
 by_cases hi : i < a.length
 ·rw [List.getElem?_append_left hi] at hx
  rw [List.getElem?_append_left (by rw [← h.1]; exact hi)] at hy
  exact h.2 i x y hx hy
 ·rw [List.getElem?_append_right (by omega)] at hx
  rw [List.getElem?_append_right (by rw [← h.1]; omega)] at hy
  exact k.2 (i - a.length) x y hx (by rw [h.1]; exact hy)
theorem VRl.get {ι : Iota} {l l' : List Value} (h : VRl ι l l') {i : Nat} {x : Value} (hx : l[i]? = some x) : ∃ y, l'[i]? = some y ∧ VR ι x y := by
 have hi : i < l.length := by
  rcases Nat.lt_or_ge i l.length with hh | hh
  ·exact hh
  ·rw [List.getElem?_eq_none hh] at hx; cases hx
 have hi' : i < l'.length := by rw [← h.1]; exact hi
 exact ⟨l'[i], List.getElem?_eq_getElem hi', h.2 i x _ hx (List.getElem?_eq_getElem hi')⟩
noncomputable def flat : Nat → Value → Bool
 | 0, _ => false
 | d + 1, v =>
  match v with
  | .bool _ => true
  | .int _ _ => true
  | .float _ _ => true
  | .complex _ _ _ => true
  | .string _ => true
  | .pointer none => true
  | .slice none _ _ => true
  | .map none => true
  | .chan none => true
  | .nilFunc => true
  | .nilIface => true
  | .iface _ v => flat d v
  | .agg cs => allB (flat d) cs.toList
  | .tuple cs => allB (flat d) cs.toList
  | .func _ a c => allB (flat d) a.toList && allB (flat d) c.toList
  | _ => false
theorem flat_VR (ι : Iota) : ∀ (d : Nat) (v : Value), flat d v = true → VR ι v v := by
 intro d
 induction d with
 | zero => intro v h; cases h
 | succ d ih =>
  intro v h
  have key : ∀ (l : List Value), allB (flat d) l = true → ∀ (i : Nat) (x y : Value), l[i]? = some x → l[i]? = some y → VR ι x y := by
   intro l hl i x y hx hy
   rw [hx] at hy; cases hy
   rw [allB_eq] at hl
   exact ih x (List.all_eq_true.1 hl x (List.mem_of_getElem? hx))
  cases v with
  | bool b => exact .bool b
  | int k n => exact .int k n
  | float k n => exact .float k n
  | complex k n m => exact .complex k n m
  | string s => exact .string s
  | pointer a => cases a with
   | none => exact .nilPtr
   | some a => simp [flat] at h
  | slice a n c => cases a with
   | none => exact .nilSlice n c
   | some a => simp [flat] at h
  | map r => cases r with
   | none => exact .nilMap
   | some a => simp [flat] at h
  | chan r => cases r with
   | none => exact .top _
   | some a => simp [flat] at h
  | func f a c =>
   simp only [flat, Bool.and_eq_true] at h
   exact .func f a c a c rfl rfl (key _ h.1) (key _ h.2)
  | nilFunc => exact .nilFunc
  | iface t v => exact .iface t v v (ih v (by simpa [flat] using h))
  | nilIface => exact .nilIface
  | agg cs => exact .agg cs cs rfl (key _ (by simpa [flat] using h))
  | tuple cs => exact .tuple cs cs rfl (key _ (by simpa [flat] using h))
def keyOk : Value → Bool
 | .int _ _ | .string _ | .bool _ => true
 | _ => false
def ER (ι : Iota) (e : Value × Value × Nat) (e' : MapEntry) : Prop := e'.key = e.1 ∧ keyOk e.1 = true ∧ VR ι e.2.1 e'.val ∧ e'.born = e.2.2
def AObj.wr : AObj → Bool
 | .ro _ => false
 | _ => true
def CellsR (ι : Iota) (L : Loc) (cs : List Value) (c : Array Value) : Prop :=
 L.size = c.size ∧ L.off + cs.length ≤ c.size ∧ ∀ (i : Nat) (x : Value), cs[i]? = some x → ∃ y, c[L.off + i]? = some y ∧ VR ι x y
def OR (ι : Iota) (L : Loc) (H : Array Obj) : AObj → Prop
 | .cells cs => ∃ c t fr, H[L.blk]? = some (.cells c t fr) ∧ CellsR ι L cs c ∧ fr = (0, 0)
 | .bytes cs => ∃ c t fr, H[L.blk]? = some (.cells c t fr) ∧ CellsR ι L cs c ∧ (fr = (0, 0) ∨ fr = (c.size, c.size + 1))
 | .ro cs => ∃ c t fr, H[L.blk]? = some (.cells c t fr) ∧ CellsR ι L cs c
 | .map es k => ∃ es', H[L.blk]? = some (.map es' k) ∧ es.length = es'.size ∧ ∀ (i : Nat) e e', es[i]? = some e → es'[i]? = some e' → ER ι e e'
theorem CellsR.mono {ι ι' : Iota} (hi : ι.le ι') {L : Loc} {cs : List Value} {c : Array Value} (h : CellsR ι L cs c) : CellsR ι' L cs c :=
 ⟨h.1, h.2.1, fun i x hx => let ⟨y, a, b⟩ := h.2.2 i x hx; ⟨y, a, b.mono hi⟩⟩
theorem OR.mono {ι ι' : Iota} (hi : ι.le ι') {L : Loc} {H : Array Obj} {o : AObj} (h : OR ι L H o) : OR ι' L H o := by
 cases o with
 | cells cs => obtain ⟨c, t, fr, a, b, d⟩ := h; exact ⟨c, t, fr, a, b.mono hi, d⟩
 | ro cs => obtain ⟨c, t, fr, a, b⟩ := h; exact ⟨c, t, fr, a, b.mono hi⟩
 | bytes cs => obtain ⟨c, t, fr, a, b, d⟩ := h; exact ⟨c, t, fr, a, b.mono hi, d⟩
 | map es k => obtain ⟨es', a, b, d⟩ := h; exact ⟨es', a, b, fun i e e' x y => let r := d i e e' x y; ⟨r.1, r.2.1, r.2.2.1.mono hi, r.2.2.2⟩⟩
theorem OR.of_block {ι : Iota} {L : Loc} {H H' : Array Obj} {o : AObj} (h : OR ι L H o) (e : H'[L.blk]? = H[L.blk]?) : OR ι L H' o := by
 cases o with
 | cells cs => obtain ⟨c, t, fr, a, b⟩ := h; exact ⟨c, t, fr, e.trans a, b⟩
 | ro cs => obtain ⟨c, t, fr, a, b⟩ := h; exact ⟨c, t, fr, e.trans a, b⟩
 | bytes cs => obtain ⟨c, t, fr, a, b⟩ := h; exact ⟨c, t, fr, e.trans a, b⟩
 | map es k => obtain ⟨es', a, b⟩ := h; exact ⟨es', e.trans a, b⟩
theorem OR.lt {ι : Iota} {L : Loc} {H : Array Obj} {o : AObj} (h : OR ι L H o) : L.blk < H.size := by
 have : ∃ x, H[L.blk]? = some x := by
  cases o with
  | cells cs => obtain ⟨c, t, fr, a, _⟩ := h; exact ⟨_, a⟩
  | ro cs => obtain ⟨c, t, fr, a, _⟩ := h; exact ⟨_, a⟩
  | bytes cs => obtain ⟨c, t, fr, a, _⟩ := h; exact ⟨_, a⟩
  | map es k => obtain ⟨es', a, _⟩ := h; exact ⟨_, a⟩
 obtain ⟨x, hx⟩ := this
 rcases Nat.lt_or_ge L.blk H.size with hh | hh
 ·exact hh
 ·rw [Array.getElem?_eq_none hh] at hx; cases hx
structure HR (G : Nat) (ι : Iota) (h : T AObj) (H : Array Obj) : Prop where
 obj : ∀ b o, h.get b = some o → ∃ L, ι b = some L ∧ OR ι L H o
 inj : ∀ b1 b2 o1 o2 L1 L2, h.get b1 = some o1 → h.get b2 = some o2 → ι b1 = some L1 → ι b2 = some L2 → L1.blk = L2.blk → b1 = b2
 lt : ∀ b L, ι b = some L → L.blk < H.size
 glob : ∀ g, g < G → ∃ L, ι g = some L ∧ L.blk = g ∧ L.off = 0
def Owned (ι : Iota) (h : T AObj) (k : Nat) : Prop := ∃ b o L, h.get b = some o ∧ o.wr = true ∧ ι b = some L ∧ L.blk = k
structure Post (G : Nat) (ι ι' : Iota) (s s' : St) (w w' : World) : Prop where
 ext : ι.le ι'
 new : ∀ b, ι b = none → (b < s.c ∨ s'.c ≤ b) → ι' b = none
 hr : HR G ι' s'.h w'.heap
 os : w'.os = w.os
 tape : w'.tape = w.tape
 output : w'.output = w.output
 size : w.heap.size ≤ w'.heap.size
 frame : ∀ k, k < w.heap.size → ¬ Owned ι s.h k → w'.heap[k]? = w.heap[k]?
 own : ∀ k, k < w.heap.size → Owned ι' s'.h k → Owned ι s.h k
 cle : s.c ≤ s'.c
theorem Post.refl {G : Nat} {ι : Iota} {s s' : St} {w w' : World} (h : HR G ι s.h w.heap) (hh : s'.h = s.h) (hc : s'.c = s.c)
  (e : w'.heap = w.heap := by rfl) (eo : w'.os = w.os := by rfl) (et : w'.tape = w.tape := by rfl) (ep : w'.output = w.output := by rfl) : Post G ι ι s s' w w' :=
 ⟨Iota.le_refl _, fun _ a _ => a, by rw [hh, e]; exact h, eo, et, ep, by rw [e]; exact Nat.le_refl _, fun k _ _ => by rw [e], fun k _ a => by rw [hh] at a; exact a, by omega⟩
theorem Post.trans {G : Nat} {a b c : Iota} {r s t : St} {u v w : World} (h : Post G a b r s u v) (k : Post G b c s t v w) : Post G a c r t u w where
 ext := Iota.le_trans h.ext k.ext
 new := fun x hx hr => by
  have := h.cle; have := k.cle
  exact k.new x (h.new x hx (by omega)) (by omega)
 hr := k.hr
 os := k.os.trans h.os
 tape := k.tape.trans h.tape
 output := k.output.trans h.output
 size := Nat.le_trans h.size k.size
 frame := fun x hx ho => by
  have hs := h.size
  rw [k.frame x (by omega) (fun q => ho (h.own x hx q)), h.frame x hx ho]
 own := fun x hx ho => h.own x hx (k.own x (Nat.lt_of_lt_of_le hx h.size) ho)
 cle := Nat.le_trans h.cle k.cle
theorem Post.log {G : Nat} {ι ι' : Iota} {s s' t t' : St} {w w' : World} (h : Post G ι ι' s s' w w') (a : t.h = s.h) (b : t.c = s.c) (c : t'.h = s'.h) (d : t'.c = s'.c) : Post G ι ι' t t' w w' where
 ext := h.ext
 new := fun x hx hr => h.new x hx (by rw [b, d] at hr; exact hr)
 hr := by rw [c]; exact h.hr
 os := h.os
 tape := h.tape
 output := h.output
 size := h.size
 frame := fun k hk ho => h.frame k hk (by rw [a] at ho; exact ho)
 own := fun k hk ho => by rw [a]; rw [c] at ho; exact h.own k hk ho
 cle := by rw [b, d]; exact h.cle
section steps
variable {G : Nat} {ι : Iota} {s : St} {w : World}
theorem getO_some {b : Nat} {o : AObj} {s' : St} (h : getO b s = some (o, s')) : s.h.get b = some o ∧ b < s.c ∧ s' = ⟨s.h, s.c, b :: s.rl, s.wl⟩ := by
 obtain ⟨h0, c, rl, wl⟩ := s
 have h' : Bool.rec (motive := fun _ => Option (AObj × St)) (Option.rec (motive := fun _ => Option (AObj × St)) none (fun o => some (o, ⟨h0, c, b :: rl, wl⟩)) (h0.get b)) none (Nat.ble c b) = some (o, s') := h
 cases hb : Nat.ble c b with
 | true => rw [hb] at h'; cases h'
 | false =>
  rw [hb] at h'
  cases hg : h0.get b with
  | none => rw [hg] at h'; cases h'
  | some x =>
   rw [hg] at h'
   cases h'
   exact ⟨rfl, ble_false.1 hb, rfl⟩
theorem putO_some {b : Nat} {o : Option AObj} {s' : St} (h : putO b o s = some ((), s')) :
  (∃ x, s.h.get b = some x) ∧ b < s.c ∧ s' = ⟨s.h.set b o, s.c, s.rl, b :: s.wl⟩ := by
 obtain ⟨h0, c, rl, wl⟩ := s
 have h' : Bool.rec (motive := fun _ => Option (Unit × St)) (Option.rec (motive := fun _ => Option (Unit × St)) none (fun _ => (h0.set b o).force fun h => some ((), ⟨h, c, rl, b :: wl⟩)) (h0.get b)) none (Nat.ble c b) = some ((), s') := h
 cases hb : Nat.ble c b with
 | true => rw [hb] at h'; cases h'
 | false =>
  rw [hb] at h'
  cases hg : h0.get b with
  | none => rw [hg] at h'; cases h'
  | some x =>
   rw [hg] at h'
   simp only [T.force_eq] at h'
   cases h'
   exact ⟨⟨x, rfl⟩, ble_false.1 hb, rfl⟩
theorem newO_some {o : AObj} {b : Nat} {s' : St} (h : newO o s = some (b, s')) : s.h.get s.c = none ∧ b = s.c ∧ s' = ⟨s.h.set s.c (some o), s.c + 1, s.rl, s.wl⟩ := by
 obtain ⟨h0, c, rl, wl⟩ := s
 have h' : Option.rec (motive := fun _ => Option (Nat × St)) ((h0.set c (some o)).force fun h => some (c, ⟨h, c + 1, rl, wl⟩)) (fun _ => none) (h0.get c) = some (b, s') := h
 cases hg : h0.get c with
 | some x => rw [hg] at h'; cases h'
 | none =>
  rw [hg] at h'
  simp only [T.force_eq] at h'
  cases h'
  exact ⟨rfl, rfl, rfl⟩
theorem bind_some {α β : Type} {m : M α} {f : α → M β} {b : β} {s' : St} (h : m.bind f s = some (b, s')) : ∃ a s1, m s = some (a, s1) ∧ f a s1 = some (b, s') := by
 have h' : Option.rec (motive := fun _ => Option (β × St)) none (fun p => Prod.rec (motive := fun _ => Option (β × St)) (fun a s => f a s) p) (m s) = some (b, s') := h
 cases hm : m s with
 | none => rw [hm] at h'; cases h'
 | some p => obtain ⟨a, s1⟩ := p; rw [hm] at h'; exact ⟨a, s1, rfl, h'⟩
theorem ret_some {α : Type} {a b : α} {s' : St} (h : M.ret a s = some (b, s')) : b = a ∧ s' = s := by
 cases h; exact ⟨rfl, rfl⟩
theorem fail_some {α : Type} {b : α} {s' : St} (h : (M.fail : M α) s = some (b, s')) : False := by cases h
theorem lift_some {α : Type} {x : Option α} {b : α} {s' : St} (h : M.lift x s = some (b, s')) : x = some b ∧ s' = s := by
 cases x with
 | none => cases h
 | some a => cases h; exact ⟨rfl, rfl⟩
theorem getCells_some {b : Nat} {cs : List Value} {s' : St} (h : getCells b s = some (cs, s')) :
  (s.h.get b = some (.cells cs) ∨ s.h.get b = some (.ro cs) ∨ s.h.get b = some (.bytes cs)) ∧ b < s.c ∧ s' = ⟨s.h, s.c, b :: s.rl, s.wl⟩ := by
 obtain ⟨o, s1, h1, h2⟩ := bind_some h
 obtain ⟨a, b', c⟩ := getO_some h1
 cases o with
 | cells l => obtain ⟨rfl, rfl⟩ := ret_some h2; exact ⟨.inl a, b', c⟩
 | ro l => obtain ⟨rfl, rfl⟩ := ret_some h2; exact ⟨.inr (.inl a), b', c⟩
 | bytes l => obtain ⟨rfl, rfl⟩ := ret_some h2; exact ⟨.inr (.inr a), b', c⟩
 | map es k => exact (fail_some h2).elim
theorem getCellsW_some {b : Nat} {cs : List Value} {s' : St} (h : getCellsW b s = some (cs, s')) :
  s.h.get b = some (.cells cs) ∧ b < s.c ∧ s' = ⟨s.h, s.c, b :: s.rl, s.wl⟩ := by
 obtain ⟨o, s1, h1, h2⟩ := bind_some h
 obtain ⟨a, b', c⟩ := getO_some h1
 cases o with
 | cells l => obtain ⟨rfl, rfl⟩ := ret_some h2; exact ⟨a, b', c⟩
 | ro l => exact (fail_some h2).elim
 | bytes l => exact (fail_some h2).elim
 | map es k => exact (fail_some h2).elim
theorem getCellsB_some {b : Nat} {cs : List Value} {s' : St} (h : getCellsB b s = some (cs, s')) :
  (s.h.get b = some (.cells cs) ∨ s.h.get b = some (.bytes cs)) ∧ b < s.c ∧ s' = ⟨s.h, s.c, b :: s.rl, s.wl⟩ := by
 obtain ⟨o, s1, h1, h2⟩ := bind_some h
 obtain ⟨a, b', c⟩ := getO_some h1
 cases o with
 | cells l => obtain ⟨rfl, rfl⟩ := ret_some h2; exact ⟨.inl a, b', c⟩
 | ro l => exact (fail_some h2).elim
 | bytes l => obtain ⟨rfl, rfl⟩ := ret_some h2; exact ⟨.inr a, b', c⟩
 | map es k => exact (fail_some h2).elim
theorem getMap_some {b : Nat} {p : List (Value × Value × Nat) × Nat} {s' : St} (h : getMap b s = some (p, s')) :
  s.h.get b = some (.map p.1 p.2) ∧ b < s.c ∧ s' = ⟨s.h, s.c, b :: s.rl, s.wl⟩ := by
 obtain ⟨o, s1, h1, h2⟩ := bind_some h
 obtain ⟨a, b', c⟩ := getO_some h1
 cases o with
 | cells l => exact (fail_some h2).elim
 | ro l => exact (fail_some h2).elim
 | bytes l => exact (fail_some h2).elim
 | map es k => obtain ⟨rfl, rfl⟩ := ret_some h2; exact ⟨a, b', c⟩
theorem HR.cells (h : HR G ι s.h w.heap) {b : Nat} {cs : List Value} (hb : s.h.get b = some (.cells cs) ∨ s.h.get b = some (.ro cs) ∨ s.h.get b = some (.bytes cs)) :
  ∃ L c t fr, ι b = some L ∧ w.heap[L.blk]? = some (.cells c t fr) ∧ CellsR ι L cs c := by
 rcases hb with hb | hb | hb
 ·obtain ⟨L, a, c, t, fr, d, e, _⟩ := h.obj _ _ hb; exact ⟨L, c, t, fr, a, d, e⟩
 ·obtain ⟨L, a, c, t, fr, d, e⟩ := h.obj _ _ hb; exact ⟨L, c, t, fr, a, d, e⟩
 ·obtain ⟨L, a, c, t, fr, d, e, _⟩ := h.obj _ _ hb; exact ⟨L, c, t, fr, a, d, e⟩
theorem cell_of {L : Loc} {c : Array Value} {t : TypeId} {fr : Nat × Nat} (h : w.heap[L.blk]? = some (.cells c t fr)) (i : Nat) : w.cell? ⟨L.blk, i, none⟩ = c[i]? := by
 simp [World.cell?, h]
theorem Post.alloc (h : HR G ι s.h w.heap) (hc : ι s.c = none) {o : AObj} {O : Obj} {n : Nat} {s' : St}
  (hs : s'.h = s.h.set s.c (some o)) (hcc : s'.c = s.c + 1)
  (hO : ∀ ι' : Iota, ι.le ι' → OR ι' ⟨w.heap.size, 0, n⟩ (w.heap.push O) o) :
  Post G ι (ι.upd s.c ⟨w.heap.size, 0, n⟩) s s' w (w.alloc O) := by
 have hle := ι.le_upd ⟨w.heap.size, 0, n⟩ hc
 refine ⟨hle, ?_, ⟨?_, ?_, ?_, ?_⟩, rfl, rfl, rfl, by simp, ?_, ?_, by omega⟩
 ·intro b hb hr
  rw [Iota.upd_ne ι _ (by omega)]; exact hb
 ·intro b o' hb
  rw [hs, T.get_set] at hb
  by_cases e : b = s.c
  ·rw [if_pos e] at hb; cases hb
   exact ⟨_, by rw [e]; exact Iota.upd_same .., hO _ hle⟩
  ·rw [if_neg e] at hb
   obtain ⟨L, a, d⟩ := h.obj b o' hb
   refine ⟨L, hle _ _ a, (d.mono hle).of_block ?_⟩
   show (w.heap.push O)[L.blk]? = _
   rw [Array.getElem?_push, if_neg (by have := d.lt; omega)]
 ·intro b1 b2 o1 o2 L1 L2 h1 h2 e1 e2 e
  rw [hs, T.get_set] at h1 h2
  by_cases c1 : b1 = s.c <;> by_cases c2 : b2 = s.c
  ·rw [c1, c2]
  ·rw [c1, Iota.upd_same] at e1; rw [Iota.upd_ne ι _ c2] at e2; cases e1
   have := h.lt _ _ e2
   simp only at e; omega
  ·rw [Iota.upd_ne ι _ c1] at e1; rw [c2, Iota.upd_same] at e2; cases e2
   have := h.lt _ _ e1
   simp only at e; omega
  ·rw [Iota.upd_ne ι _ c1] at e1; rw [Iota.upd_ne ι _ c2] at e2; rw [if_neg c1] at h1; rw [if_neg c2] at h2
   exact h.inj b1 b2 o1 o2 L1 L2 h1 h2 e1 e2 e
 ·intro b L hb
  show L.blk < (w.heap.push O).size
  rw [Array.size_push]
  by_cases c1 : b = s.c
  ·rw [c1, Iota.upd_same] at hb; cases hb; exact Nat.lt_succ_self _
  ·rw [Iota.upd_ne ι _ c1] at hb; have := h.lt _ _ hb; omega
 ·intro g hg
  obtain ⟨L, a, d⟩ := h.glob g hg
  exact ⟨L, hle _ _ a, d⟩
 ·intro k hk _
  show (w.heap.push O)[k]? = _
  rw [Array.getElem?_push, if_neg (by omega)]
 ·rintro k hk ⟨b, o', L, hb, hw, hl, rfl⟩
  rw [hs, T.get_set] at hb
  by_cases c1 : b = s.c
  ·rw [c1, Iota.upd_same] at hl; cases hl; exact absurd hk (Nat.lt_irrefl _)
  ·rw [if_neg c1] at hb; rw [Iota.upd_ne ι _ c1] at hl
   exact ⟨b, o', L, hb, hw, hl, rfl⟩
theorem Post.put (h : HR G ι s.h w.heap) {b : Nat} {o o' : AObj} {L : Loc} {s' : St} {w' : World} (hb : s.h.get b = some o) (hw : o.wr = true) (hl : ι b = some L)
  (hs : s'.h = s.h.set b (some o')) (hcc : s'.c = s.c) (hO : OR ι L w'.heap o') (hother : ∀ k, k ≠ L.blk → w'.heap[k]? = w.heap[k]?) (hsz : w'.heap.size = w.heap.size)
  (eo : w'.os = w.os) (et : w'.tape = w.tape) (ep : w'.output = w.output) : Post G ι ι s s' w w' := by
 refine ⟨Iota.le_refl _, fun _ a _ => a, ⟨?_, ?_, ?_, h.glob⟩, eo, et, ep, by omega, ?_, ?_, by omega⟩
 ·intro b1 o1 h1
  rw [hs, T.get_set] at h1
  by_cases e : b1 = b
  ·rw [if_pos e] at h1; cases h1; rw [e]; exact ⟨L, hl, hO⟩
  ·rw [if_neg e] at h1
   obtain ⟨L1, a, d⟩ := h.obj b1 o1 h1
   exact ⟨L1, a, d.of_block (hother _ fun q => e (h.inj b1 b o1 o L1 L h1 hb a hl q))⟩
 ·intro b1 b2 o1 o2 L1 L2 h1 h2 e1 e2 e
  have key : ∀ b1 o1, s'.h.get b1 = some o1 → ∃ x, s.h.get b1 = some x := by
   intro b1 o1 h1
   rw [hs, T.get_set] at h1
   by_cases e : b1 = b
   ·rw [e]; exact ⟨o, hb⟩
   ·rw [if_neg e] at h1; exact ⟨o1, h1⟩
  obtain ⟨x1, k1⟩ := key b1 o1 h1
  obtain ⟨x2, k2⟩ := key b2 o2 h2
  exact h.inj b1 b2 x1 x2 L1 L2 k1 k2 e1 e2 e
 ·intro b1 L1 h1; rw [hsz]; exact h.lt _ _ h1
 ·intro k _ ho
  exact hother k fun q => ho ⟨b, o, L, hb, hw, hl, q.symm⟩
 ·rintro k hk ⟨b1, o1, L1, h1, hw1, hl1, rfl⟩
  rw [hs, T.get_set] at h1
  by_cases e : b1 = b
  ·exact ⟨b, o, L, hb, hw, hl, by rw [e, hl] at hl1; cases hl1; rfl⟩
  ·rw [if_neg e] at h1; exact ⟨b1, o1, L1, h1, hw1, hl1, rfl⟩
theorem Post.kill (h : HR G ι s.h w.heap) {b : Nat} {s' : St} (hs : s'.h = s.h.set b none) (hcc : s'.c = s.c) : Post G ι ι s s' w w := by
 have key : ∀ b1 o1, s'.h.get b1 = some o1 → s.h.get b1 = some o1 := by
  intro b1 o1 h1
  rw [hs, T.get_set] at h1
  by_cases e : b1 = b
  ·rw [if_pos e] at h1; cases h1
  ·rw [if_neg e] at h1; exact h1
 exact ⟨Iota.le_refl _, fun _ a _ => a, ⟨fun b1 o1 h1 => h.obj b1 o1 (key _ _ h1), fun b1 b2 o1 o2 L1 L2 h1 h2 => h.inj b1 b2 o1 o2 L1 L2 (key _ _ h1) (key _ _ h2), h.lt, h.glob⟩, rfl, rfl, rfl,
  Nat.le_refl _, fun _ _ _ => rfl, fun k _ ⟨b1, o1, L1, h1, r⟩ => ⟨b1, o1, L1, key _ _ h1, r⟩, by omega⟩
theorem Post.moved (h : HR G ι s.h w.heap) {b : Nat} {cs : List Value} {L L' : Loc} {o' : AObj} {s' : St} {w' : World} (hb : s.h.get b = some (.cells cs)) (hl : ι b = some L)
  (hc : ι s.c = none) (hlb : L'.blk = L.blk)
  (hs : s'.h = (s.h.set b none).set s.c (some o')) (hcc : s'.c = s.c + 1)
  (hO : ∀ ι' : Iota, ι.le ι' → OR ι' L' w'.heap o') (hother : ∀ k, k ≠ L.blk → w'.heap[k]? = w.heap[k]?) (hsz : w'.heap.size = w.heap.size)
  (eo : w'.os = w.os) (et : w'.tape = w.tape) (ep : w'.output = w.output) : Post G ι (ι.upd s.c L') s s' w w' := by
 have hle := ι.le_upd L' hc
 have key : ∀ b1 o1, b1 ≠ s.c → s'.h.get b1 = some o1 → s.h.get b1 = some o1 ∧ b1 ≠ b := by
  intro b1 o1 e h1
  rw [hs, T.get_set, if_neg e, T.get_set] at h1
  by_cases e : b1 = b
  ·rw [if_pos e] at h1; cases h1
  ·rw [if_neg e] at h1; exact ⟨h1, e⟩
 refine ⟨hle, ?_, ⟨?_, ?_, ?_, ?_⟩, eo, et, ep, by omega, ?_, ?_, by omega⟩
 ·intro x hx hr
  rw [Iota.upd_ne ι _ (by omega)]; exact hx
 ·intro b1 o1 h1
  by_cases e : b1 = s.c
  ·rw [hs, T.get_set, if_pos e] at h1; cases h1
   exact ⟨L', by rw [e]; exact Iota.upd_same .., hO _ hle⟩
  ·obtain ⟨k1, k2⟩ := key b1 o1 e h1
   obtain ⟨L1, a, d⟩ := h.obj b1 o1 k1
   exact ⟨L1, hle _ _ a, (d.mono hle).of_block (hother _ fun q => k2 (h.inj b1 b o1 _ L1 L k1 hb a hl q))⟩
 ·intro b1 b2 o1 o2 L1 L2 h1 h2 e1 e2 e
  by_cases c1 : b1 = s.c <;> by_cases c2 : b2 = s.c
  ·rw [c1, c2]
  ·rw [c1, Iota.upd_same] at e1; rw [Iota.upd_ne ι _ c2] at e2; cases e1
   obtain ⟨k1, k2⟩ := key b2 o2 c2 h2
   exact absurd (h.inj b2 b o2 _ L2 L k1 hb e2 hl (by rw [← e, hlb])) k2
  ·rw [Iota.upd_ne ι _ c1] at e1; rw [c2, Iota.upd_same] at e2; cases e2
   obtain ⟨k1, k2⟩ := key b1 o1 c1 h1
   exact absurd (h.inj b1 b o1 _ L1 L k1 hb e1 hl (by rw [e, hlb])) k2
  ·rw [Iota.upd_ne ι _ c1] at e1; rw [Iota.upd_ne ι _ c2] at e2
   exact h.inj b1 b2 o1 o2 L1 L2 (key b1 o1 c1 h1).1 (key b2 o2 c2 h2).1 e1 e2 e
 ·intro x K hx
  rw [hsz]
  by_cases c1 : x = s.c
  ·rw [c1, Iota.upd_same] at hx; cases hx; rw [hlb]; exact h.lt _ _ hl
  ·rw [Iota.upd_ne ι _ c1] at hx; exact h.lt _ _ hx
 ·intro g hg
  obtain ⟨K, a, d⟩ := h.glob g hg
  exact ⟨K, hle _ _ a, d⟩
 ·intro k _ ho
  exact hother k fun q => ho ⟨b, _, L, hb, rfl, hl, q.symm⟩
 ·rintro k hk ⟨b1, o1, L1, h1, hw1, hl1, rfl⟩
  by_cases c1 : b1 = s.c
  ·rw [c1, Iota.upd_same] at hl1; cases hl1
   exact ⟨b, _, L, hb, rfl, hl, hlb.symm⟩
  ·rw [Iota.upd_ne ι _ c1] at hl1
   exact ⟨b1, o1, L1, (key b1 o1 c1 h1).1, hw1, hl1, rfl⟩
end steps
end Go.Ab
