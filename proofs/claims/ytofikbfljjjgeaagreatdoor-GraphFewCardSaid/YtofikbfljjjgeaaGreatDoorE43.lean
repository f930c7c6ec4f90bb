/- Rules over the abstract machine: rows of cells, results, what a function leaves. -/
import Derived.Test.YtofikbfljjjgeaaGreatDoorE42
set_option linter.unusedVariables false
set_option linter.unusedSimpArgs false
namespace Go.Ab
def bigV : Nat := 35184372088832
theorem takeN_eq : ∀ (n : Nat) (cs : List Value), n ≤ cs.length → takeN n cs = some (cs.take n) := by
 intro n
 induction n with
 | zero => intro cs _; rw [List.take_zero]; rfl
 | succ n ih =>
  intro cs h
  cases cs with
  | nil => simp at h
  | cons x cs =>
   show Option.rec (motive := fun _ => Option (List Value)) none (fun r => some (x :: r)) (takeN n cs) = _
   rw [ih cs (by simpa using h)]; rfl
theorem subN_eq : ∀ (o n : Nat) (cs : List Value), o + n ≤ cs.length → subN o n cs = some ((cs.drop o).take n) := by
 intro o
 induction o with
 | zero => intro n cs h; rw [List.drop_zero]; exact takeN_eq n cs (by omega)
 | succ o ih =>
  intro n cs h
  cases cs with
  | nil => simp at h
  | cons x cs =>
   show subN o n cs = _
   rw [ih n cs (by simp at h; omega)]; rfl
theorem subN_all (cs : List Value) (n : Nat) (h : n = cs.length) : subN 0 n cs = some cs := by
 subst h
 rw [subN_eq 0 _ cs (by omega)]; simp
theorem subN_app {o a b : Nat} {cs x y : List Value} (h : subN o (a + b) cs = some (x ++ y)) (hx : x.length = a) : subN o a cs = some x ∧ subN (o + a) b cs = some y := by
 obtain ⟨h1, h2, _⟩ := subN_some _ _ _ _ h
 rw [subN_eq o (a + b) cs h2] at h
 have h := Option.some.inj h
 constructor
 ·rw [subN_eq o a cs (by omega)]
  have : ((cs.drop o).take (a + b)).take a = x := by rw [h, ← hx]; simp
  rw [← this, List.take_take, Nat.min_eq_left (by omega)]
 ·rw [subN_eq (o + a) b cs (by omega)]
  have : ((cs.drop o).take (a + b)).drop a = y := by rw [h, ← hx]; simp
  rw [← this, List.drop_take, List.drop_drop, Nat.add_sub_cancel_left]
theorem setHere_eq : ∀ (xs cs : List Value), xs.length ≤ cs.length → (∀ x ∈ xs, atom x = true) → setHere xs cs = some (xs ++ cs.drop xs.length) := by
 intro xs
 induction xs with
 | nil => intro cs _ _; rfl
 | cons x xs ih =>
  intro cs h ha
  cases cs with
  | nil => simp at h
  | cons y cs =>
   show Bool.rec (motive := fun _ => Option (List Value)) none (Option.rec (motive := fun _ => Option (List Value)) none (fun r => some (x :: r)) (setHere xs cs)) (atom x) = _
   rw [ha x (List.mem_cons_self ..), ih cs (by simpa using h) fun z hz => ha z (List.mem_cons_of_mem _ hz)]
   simp
theorem setMany_eq : ∀ (cs : List Value) (o : Nat) (xs : List Value), o + xs.length ≤ cs.length → (∀ x ∈ xs, atom x = true) → setMany xs cs o = some (cs.take o ++ xs ++ cs.drop (o + xs.length)) := by
 intro cs
 induction cs with
 | nil =>
  intro o xs h ha
  simp at h
  obtain ⟨rfl, rfl⟩ := h
  rfl
 | cons c cs ih =>
  intro o xs h ha
  cases o with
  | zero =>
   show setHere xs (c :: cs) = _
   rw [setHere_eq xs _ (by omega) ha]
   simp
  | succ o =>
   show Option.rec (motive := fun _ => Option (List Value)) none (fun r => some (c :: r)) (setMany xs cs o) = _
   rw [ih o xs (by simp at h; omega) ha]
   simp [show o + 1 + xs.length = o + xs.length + 1 by omega]
section cond
variable {C : Ctx} {eg : TypeId → Bool} {km : Nat} {e : Env} {s : St} {Q : Ex → Env → St → Prop} {x : Operand} {a b : Code} {p : Bool}
theorem Wx.condT (hc : evalA e x = .bool p) (hp : p = true) (h : Wx C eg km a e s Q) : Wx C eg km (.cond x a b) e s Q := Wx.cond hc (fun _ => h) (fun hf => by rw [hp] at hf; cases hf)
theorem Wx.condF (hc : evalA e x = .bool p) (hp : p = false) (h : Wx C eg km b e s Q) : Wx C eg km (.cond x a b) e s Q := Wx.cond hc (fun hf => by rw [hp] at hf; cases hf) (fun _ => h)
end cond
section res
variable {C : Ctx} {e : Env} {s : St} {Q : Value → St → Prop} {h : T AObj} {c : Nat} {rl wl : List Nat}
theorem Wres.nil (hq : Q (.tuple #[]) s) : Wres C e [] s Q := ⟨_, s, rfl, hq⟩
theorem opLoadS_run {t : TypeId} {b o n : Nat} {cs r : List Value} (ht : aggT C t = some n) (hb : Cel h b cs) (hc : b < c) (hv : subN o n cs = some r) : opLoad C t (.pointer (some ⟨b, o, none⟩)) ⟨h, c, rl, wl⟩ = some (.agg ⟨r⟩, ⟨h, c, b :: rl, wl⟩) := by
 unfold aggT at ht
 unfold opLoad
 simp only [addrOf]
 cases hu : C.und t with
 | none => rw [hu] at ht; cases ht
 | some u =>
  rw [hu] at ht
  cases u <;> first | (cases ht; done) | (simp only at ht ⊢; rw [ht]; simp only; rw [bind_run (readCells_run hb hc hv)]; rfl)
theorem Wres.cell {a t b o n : Nat} {cs r : List Value} (hx : rd e a = .pointer (some ⟨b, o, none⟩)) (ht : aggT C t = some n) (hb : Cel h b cs) (hc : b < c) (hv : subN o n cs = some r) (hq : Q (.agg ⟨r⟩) ⟨h, c, b :: rl, wl⟩) : Wres C e [.cell a t] ⟨h, c, rl, wl⟩ Q := by
 refine ⟨_, _, ?_, hq⟩
 show (readVars C e [.cell a t]).bind _ _ = _
 have : readVars C e [.cell a t] ⟨h, c, rl, wl⟩ = some ([.agg ⟨r⟩], ⟨h, c, b :: rl, wl⟩) := by
  show ((opLoad C t (rd e a)).bind fun v => (M.ret []).bind fun vs => M.ret (v :: vs)) _ = _
  rw [hx, bind_run (opLoadS_run ht hb hc hv)]; rfl
 rw [bind_run this]; rfl
theorem Wres.two {t u : Nat} {v w : Value} (hv : rd e t = v) (hw : rd e u = w) (hq : Q (.tuple #[v, w]) s) : Wres C e [.tmp t, .tmp u] s Q := by
 refine ⟨_, s, ?_, hq⟩
 show (readVars C e [.tmp t, .tmp u]).bind _ s = _
 have : readVars C e [.tmp t, .tmp u] s = some ([v, w], s) := by
  show ((M.ret (rd e t)).bind fun v => ((M.ret (rd e u)).bind fun v => (M.ret []).bind fun vs => M.ret (v :: vs)).bind fun vs => M.ret (v :: vs)) s = _
  rw [hv, hw]; rfl
 rw [bind_run this]; rfl
end res
theorem Ext.frame {h h2 : T AObj} {c c2 : Nat} {rl wl rl2 wl2 : List Nat} {R W : Nat → Prop} (hc : c ≤ c2) (hf : Fresh h2 c2) (hh : ∀ b, b < c → ¬W b → h2.get b = h.get b) (hr : ∀ b ∈ rl2, c ≤ b ∨ R b) (hw : ∀ b ∈ wl2, c ≤ b ∨ W b) :
  Ext ⟨h, c, rl, wl⟩ ⟨h2, c2, rl2.filter (fun b => decide (b < c)) ++ rl, wl2.filter (fun b => decide (b < c)) ++ wl⟩ R W := by
 refine ⟨hc, hf, hh, ?_, ?_⟩
 ·intro b hb
  rcases List.mem_append.1 hb with hb | hb
  ·obtain ⟨h1, h2⟩ := List.mem_filter.1 hb
   have h2 := of_decide_eq_true h2
   rcases hr b h1 with h3 | h3
   ·omega
   ·exact .inr ⟨h2, h3⟩
  ·exact .inl hb
 ·intro b hb
  rcases List.mem_append.1 hb with hb | hb
  ·obtain ⟨h1, h2⟩ := List.mem_filter.1 hb
   have h2 := of_decide_eq_true h2
   rcases hw b h1 with h3 | h3
   ·omega
   ·exact .inr ⟨h2, h3⟩
  ·exact .inl hb
theorem Ext.refl {h : T AObj} {c : Nat} {rl wl : List Nat} {R W : Nat → Prop} (hf : Fresh h c) : Ext ⟨h, c, rl, wl⟩ ⟨h, c, rl, wl⟩ R W := ⟨Nat.le_refl _, hf, fun _ _ _ => rfl, fun _ h => .inl h, fun _ h => .inl h⟩
theorem Ext.mono {s s' : St} {R W R' W' : Nat → Prop} (x : Ext s s' R W) (hr : ∀ b, b < s.c → R b → R' b) (hw : ∀ b, b < s.c → W b → W' b) : Ext s s' R' W' :=
 ⟨x.c, x.fresh, fun b hb k => x.h b hb fun q => k (hw b hb q), fun b hb => (x.rl b hb).imp id fun ⟨p, q⟩ => ⟨p, hr b p q⟩, fun b hb => (x.wl b hb).imp id fun ⟨p, q⟩ => ⟨p, hw b p q⟩⟩
theorem Ext.get {h h' : T AObj} {c c' : Nat} {rl wl rl' wl' : List Nat} {R W : Nat → Prop} {b : Nat} (x : Ext ⟨h, c, rl, wl⟩ ⟨h', c', rl', wl'⟩ R W) (hb : b < c) (hw : ¬W b) : h'.get b = h.get b := x.h b hb hw
theorem Ext.hs {h h' : T AObj} {c c' : Nat} {rl wl rl' wl' : List Nat} {R W : Nat → Prop} {b : Nat} {o : AObj} (x : Ext ⟨h, c, rl, wl⟩ ⟨h', c', rl', wl'⟩ R W) (k : Has h b o) (hb : b < c) (hw : ¬W b) : Has h' b o := (x.h b hb hw).trans k
theorem Ext.cl {h h' : T AObj} {c c' : Nat} {rl wl rl' wl' : List Nat} {R W : Nat → Prop} {b : Nat} {cs : List Value} (x : Ext ⟨h, c, rl, wl⟩ ⟨h', c', rl', wl'⟩ R W) (k : Cel h b cs) (hb : b < c) (hw : ¬W b) : Cel h' b cs := k.imp (fun q => x.hs q hb hw) (Or.imp (fun q => x.hs q hb hw) (fun q => x.hs q hb hw))
theorem Fresh.up {h : T AObj} {c c' : Nat} (k : Fresh h c) (hc : c ≤ c') : Fresh h c' := fun b hb => k b (by omega)
def Kp (h h' : T AObj) (c : Nat) (W : Nat → Prop) : Prop := ∀ b, b < c → ¬W b → h'.get b = h.get b
def Lg (c : Nat) (R : Nat → Prop) (l : List Nat) : Prop := ∀ b ∈ l, c ≤ b ∨ R b
theorem Kp.refl {h : T AObj} {c : Nat} {W : Nat → Prop} : Kp h h c W := fun _ _ _ => rfl
theorem Kp.set {h h' : T AObj} {c b : Nat} {W : Nat → Prop} {x : Option AObj} (hb : c ≤ b ∨ W b) (k : Kp h h' c W) : Kp h (h'.set b x) c W := fun a ha hw => by
 rw [T.get_set, if_neg, k a ha hw]
 rintro rfl
 rcases hb with hb | hb
 ·omega
 ·exact hw hb
theorem Kp.ext {h h1 h2 : T AObj} {c c1 c2 : Nat} {rl wl rl' wl' : List Nat} {R W W' : Nat → Prop} (k : Kp h h1 c W) (x : Ext ⟨h1, c1, rl, wl⟩ ⟨h2, c2, rl', wl'⟩ R W') (hc : c ≤ c1) (hw : ∀ b, b < c → W' b → W b) : Kp h h2 c W :=
 fun b hb hn => (x.get (by omega) fun q => hn (hw b hb q)).trans (k b hb hn)
theorem Lg.nil {c : Nat} {R : Nat → Prop} : Lg c R [] := fun _ h => absurd h List.not_mem_nil
theorem Lg.cons {c b : Nat} {R : Nat → Prop} {l : List Nat} (hb : c ≤ b ∨ R b) (k : Lg c R l) : Lg c R (b :: l) := fun a ha => by
 rcases List.mem_cons.1 ha with rfl | ha
 ·exact hb
 ·exact k a ha
theorem Lg.app {c : Nat} {R : Nat → Prop} {l l' : List Nat} (k : Lg c R l) (k' : Lg c R l') : Lg c R (l ++ l') := fun a ha => (List.mem_append.1 ha).elim (k a) (k' a)
theorem Lg.extR {h1 h2 : T AObj} {c c1 c2 : Nat} {rl wl rl' wl' : List Nat} {R R' W' : Nat → Prop} (k : Lg c R rl) (x : Ext ⟨h1, c1, rl, wl⟩ ⟨h2, c2, rl', wl'⟩ R' W') (hr : ∀ b, b < c → R' b → R b) : Lg c R rl' := fun b hb => by
 rcases x.rl b hb with q | q
 ·exact k b q
 ·rcases Nat.lt_or_ge b c with hc | hc
  ·exact .inr (hr b hc q.2)
  ·exact .inl hc
theorem Lg.extW {h1 h2 : T AObj} {c c1 c2 : Nat} {rl wl rl' wl' : List Nat} {W R' W' : Nat → Prop} (k : Lg c W wl) (x : Ext ⟨h1, c1, rl, wl⟩ ⟨h2, c2, rl', wl'⟩ R' W') (hr : ∀ b, b < c → W' b → W b) : Lg c W wl' := fun b hb => by
 rcases x.wl b hb with q | q
 ·exact k b q
 ·rcases Nat.lt_or_ge b c with hc | hc
  ·exact .inr (hr b hc q.2)
  ·exact .inl hc
theorem Ext.of {h h2 : T AObj} {c c2 : Nat} {rl wl rl2 wl2 : List Nat} {R W : Nat → Prop} (hc : c ≤ c2) (hf : Fresh h2 c2) (hh : Kp h h2 c W) (hr : Lg c R rl2) (hw : Lg c W wl2) :
  Ext ⟨h, c, rl, wl⟩ ⟨h2, c2, rl2.filter (fun b => decide (b < c)) ++ rl, wl2.filter (fun b => decide (b < c)) ++ wl⟩ R W := Ext.frame hc hf hh hr hw
theorem get_other {h : T AObj} {b b' : Nat} {x : Option AObj} (k : b ≠ b') : (h.set b' x).get b = h.get b := by rw [T.get_set, if_neg k]
def Row (h : T AObj) (v : Value) (n : Nat) (k : Nat) (xs : List Value) : Prop :=
 (n = 0 ∧ xs = [] ∧ ∃ a cap, v = .slice a 0 cap) ∨ ∃ b o sp cap cs, v = .slice (some ⟨b, o, sp⟩) n cap ∧ Cel h b cs ∧ subN o (n * k) cs = some xs
def Own (h : T AObj) (c0 : Nat) (v : Value) (n : Nat) (xs : List Value) : Prop :=
 (v = .slice none 0 0 ∧ n = 0 ∧ xs = []) ∨ ∃ b sp cap, v = .slice (some ⟨b, 0, sp⟩) n cap ∧ n ≤ cap ∧ c0 ≤ b ∧ Has h b (.cells xs)
theorem Own.val {h : T AObj} {c : Nat} {v : Value} {n : Nat} {xs : List Value} (o : Own h c v n xs) : ∃ a k, v = .slice a n k := by
 rcases o with ⟨rfl, rfl, _⟩ | ⟨b, sp, cap, rfl, _⟩
 ·exact ⟨_, _, rfl⟩
 ·exact ⟨_, _, rfl⟩
theorem Row.set {h : T AObj} {v : Value} {n k b' : Nat} {xs : List Value} {x : Option AObj} (hr : Row h v n k xs) (hne : ∀ b o sp m cap, v = .slice (some ⟨b, o, sp⟩) m cap → 0 < m → b ≠ b') : Row (h.set b' x) v n k xs := by
 rcases hr with hr | ⟨b, o, sp, cap, cs, rfl, h2, h3⟩
 ·exact .inl hr
 ·cases n with
  | zero =>
   refine .inl ⟨rfl, ?_, _, _, rfl⟩
   have := (subN_some _ _ _ _ h3).1
   simpa using this
  | succ n => exact .inr ⟨b, o, sp, cap, cs, rfl, h2.other (hne _ _ _ _ _ rfl (by omega)), h3⟩
theorem Row.new {h : T AObj} {c : Nat} {v : Value} {n k : Nat} {xs : List Value} {x : Option AObj} (hf : Fresh h c) (hr : Row h v n k xs) : Row (h.set c x) v n k xs := by
 rcases hr with hr | ⟨b, o, sp, cap, cs, rfl, h2, h3⟩
 ·exact .inl hr
 ·exact .inr ⟨b, o, sp, cap, cs, rfl, h2.other (by have := h2.lt hf; omega), h3⟩
theorem Own.new {h : T AObj} {c c0 : Nat} {v : Value} {n : Nat} {xs : List Value} {x : Option AObj} (hf : Fresh h c) (hr : Own h c0 v n xs) : Own (h.set c x) c0 v n xs := by
 rcases hr with hr | ⟨b, sp, cap, rfl, h1, h2, h3⟩
 ·exact .inl hr
 ·exact .inr ⟨b, sp, cap, rfl, h1, h2, h3.other (by have := h3.lt hf; omega)⟩
theorem Own.set {h : T AObj} {c0 b' : Nat} {v : Value} {n : Nat} {xs : List Value} {x : Option AObj} (hr : Own h c0 v n xs) (hb : b' < c0) : Own (h.set b' x) c0 v n xs := by
 rcases hr with hr | ⟨b, sp, cap, rfl, h1, h2, h3⟩
 ·exact .inl hr
 ·exact .inr ⟨b, sp, cap, rfl, h1, h2, h3.other (by omega)⟩
theorem Own.low {h : T AObj} {c0 c1 : Nat} {v : Value} {n : Nat} {xs : List Value} (hr : Own h c0 v n xs) (hb : c1 ≤ c0) : Own h c1 v n xs := by
 rcases hr with hr | ⟨b, sp, cap, rfl, h1, h2, h3⟩
 ·exact .inl hr
 ·exact .inr ⟨b, sp, cap, rfl, h1, by omega, h3⟩
theorem Own.row {h : T AObj} {c0 : Nat} {v : Value} {n : Nat} {xs : List Value} (hr : Own h c0 v n xs) (hn : xs.length = n) : Row h v n 1 xs := by
 rcases hr with ⟨rfl, rfl, rfl⟩ | ⟨b, sp, cap, rfl, h1, h2, h3⟩
 ·exact .inl ⟨rfl, rfl, _, _, rfl⟩
 ·exact .inr ⟨b, 0, sp, cap, xs, rfl, h3.cel, subN_all xs _ (by omega)⟩
def blkOf : Value → Option Nat
 | .slice (some a) _ _ => some a.block
 | _ => none
theorem Own.blk {h : T AObj} {c0 b : Nat} {v : Value} {n : Nat} {xs : List Value} (o : Own h c0 v n xs) (hb : blkOf v = some b) : c0 ≤ b ∧ Has h b (.cells xs) := by
 rcases o with ⟨rfl, _⟩ | ⟨b', sp, cap, rfl, _, h2, h3⟩
 ·cases hb
 ·cases hb; exact ⟨h2, h3⟩
theorem Own.keep {h h' : T AObj} {c : Nat} {v : Value} {n : Nat} {xs : List Value} (o : Own h c v n xs) (k : ∀ b, blkOf v = some b → h'.get b = h.get b) : Own h' c v n xs := by
 rcases o with o | ⟨b, sp, cap, rfl, h1, h2, h3⟩
 ·exact .inl o
 ·exact .inr ⟨b, sp, cap, rfl, h1, h2, (k b rfl).trans h3⟩
section app
variable {C : Ctx} {eg : TypeId → Bool} {e : Env} {s : St} {h : T AObj} {c : Nat} {rl wl : List Nat} {d : Option Nat} {ty : TypeId} {ps : String} {af : Array Edge} {g : Option (Nat × Bool)}
theorem appended_run {n k cap ob off : Nat} {z cs r : List Value} {xt : TypeId} {sp : Option Nat} (hu : sliceT C xt = true) (hb : Cel h ob cs) (hc : ob < c) (hs : subN off ((k + 1) * n) cs = some r) :
  appended C n z (some xt) (.slice (some ⟨ob, off, sp⟩) (k + 1) cap) ⟨h, c, rl, wl⟩ = some ((k + 1, r), ⟨h, c, ob :: rl, wl⟩) := by
 unfold appended
 unfold sliceT at hu
 cases hw : C.und xt with
 | none => rw [hw] at hu; cases hu
 | some w =>
  rw [hw] at hu
  cases w <;> first | (cases hu; done) | skip
  simp only [hw]
  rw [bind_run (lift_run (show lenA (.slice (some ⟨ob, off, sp⟩) (k + 1) cap) = some (k + 1) from rfl))]
  have hfirst : firstA n (k + 1) (.slice (some ⟨ob, off, sp⟩) (k + 1) cap) ⟨h, c, rl, wl⟩ = some (r, ⟨h, c, ob :: rl, wl⟩) := by
   unfold firstA
   simp only [ble_iff.2 (Nat.le_refl (k + 1))]
   exact readCells_run hb hc hs
  rw [bind_run hfirst]; rfl
theorem to_appZero {t et xt : TypeId} {a x : Operand} {n by_ cap ln cp : Nat} {z : List Value} {oa ob : Option Addr} (ht : C.row t = some (et, n, by_, z)) (hu : sliceT C xt = true) (ha : evalA e a = .slice oa ln cp) (hx : evalA e x = .slice ob 0 cap) (hl : ln ≤ cp) :
  OpTo C eg e ⟨d, .call ⟨.builtin .append, #[a, x], #[t, xt]⟩, ty, ps, af, g⟩ s (.slice oa ln cp) s := ⟨0, by
 show opAppend C #[t, xt] (evalA e a) (evalA e x) _ = _
 rw [ha, hx]
 unfold opAppend
 rw [show nth (#[t, xt] : Array TypeId).toList 0 = some t from rfl]
 simp only
 rw [bind_run (lift_run ht)]
 simp only
 have happ : appended C n z (nth #[t, xt].toList 1) (.slice ob 0 cap) s = some ((0, []), s) := by
  show appended C n z (some xt) _ _ = _
  unfold appended
  unfold sliceT at hu
  cases hw : C.und xt with
  | none => rw [hw] at hu; cases hu
  | some w =>
   rw [hw] at hu
   cases w <;> first | (cases hu; done) | (simp only [hw]; rfl)
 rw [bind_run happ]
 simp only [show Nat.ble (ln + 0) cp = true from ble_iff.2 (by omega)]
 rfl⟩
theorem to_appEx {t et xt : TypeId} {a x : Operand} {n by_ k cap b0 o0 : Nat} {z cs r : List Value} {sp : Option Nat} {ob off : Nat} (ht : C.row t = some (et, n, by_, z)) (hu : sliceT C xt = true) (ha : evalA e a = .slice (some ⟨b0, o0, none⟩) 0 0) (hx : evalA e x = .slice (some ⟨ob, off, sp⟩) (k + 1) cap)
  (hb : Cel h ob cs) (hc : ob < c) (hs : subN off ((k + 1) * n) cs = some r) (hbig : k + 1 ≤ big) (hf : Fresh h c) :
  OpTo C eg e ⟨d, .call ⟨.builtin .append, #[a, x], #[t, xt]⟩, ty, ps, af, g⟩ ⟨h, c, rl, wl⟩ (.slice (some ⟨c, 0, some n⟩) (k + 1) (k + 1)) ⟨h.set c (some (.cells r)), c + 1, ob :: rl, wl⟩ := ⟨0, by
 show opAppend C #[t, xt] (evalA e a) (evalA e x) _ = _
 rw [ha, hx]
 unfold opAppend
 rw [show nth (#[t, xt] : Array TypeId).toList 0 = some t from rfl]
 simp only
 rw [bind_run (lift_run ht)]
 simp only
 have happ : appended C n z (nth #[t, xt].toList 1) (.slice (some ⟨ob, off, sp⟩) (k + 1) cap) ⟨h, c, rl, wl⟩ = _ := appended_run (z := z) hu hb hc hs
 rw [bind_run happ]
 simp only [show Nat.ble (0 + (k + 1)) 0 = false from ble_false.2 (by omega), show fitsA by_ (0 + (k + 1)) = true from fitsA_big (by omega)]
 rw [bind_run (show firstA n 0 (.slice (some ⟨b0, o0, none⟩) 0 0) ⟨h, c, ob :: rl, wl⟩ = some ([], _) from rfl)]
 rw [app_eq, List.nil_append, bind_run (newCells_run hf)]
 simp only [Nat.zero_add]; rfl⟩
theorem to_appExB {t et xt : TypeId} {a x : Operand} {n by_ k cap b0 o0 : Nat} {z cs r : List Value} {sp : Option Nat} {ob off : Nat} (ht : C.row t = some (et, n, by_, z)) (hu : sliceT C xt = true) (ha : evalA e a = .slice (some ⟨b0, o0, none⟩) 0 0) (hx : evalA e x = .slice (some ⟨ob, off, sp⟩) (k + 1) cap)
  (hb : Cel h ob cs) (hc : ob < c) (hs : subN off ((k + 1) * n) cs = some r) (hb1 : 1 ≤ by_) (hbig : (k + 1) * by_ ≤ 140737488355328) (hf : Fresh h c) :
  OpTo C eg e ⟨d, .call ⟨.builtin .append, #[a, x], #[t, xt]⟩, ty, ps, af, g⟩ ⟨h, c, rl, wl⟩ (.slice (some ⟨c, 0, some n⟩) (k + 1) (k + 1)) ⟨h.set c (some (.cells r)), c + 1, ob :: rl, wl⟩ := ⟨0, by
 show opAppend C #[t, xt] (evalA e a) (evalA e x) _ = _
 rw [ha, hx]
 unfold opAppend
 rw [show nth (#[t, xt] : Array TypeId).toList 0 = some t from rfl]
 simp only
 rw [bind_run (lift_run ht)]
 simp only
 have happ : appended C n z (nth #[t, xt].toList 1) (.slice (some ⟨ob, off, sp⟩) (k + 1) cap) ⟨h, c, rl, wl⟩ = _ := appended_run (z := z) hu hb hc hs
 rw [bind_run happ]
 simp only [show Nat.ble (0 + (k + 1)) 0 = false from ble_false.2 (by omega), show fitsA by_ (0 + (k + 1)) = true from fitsA_bytes hb1 (by rw [Nat.zero_add]; exact hbig)]
 rw [bind_run (show firstA n 0 (.slice (some ⟨b0, o0, none⟩) 0 0) ⟨h, c, ob :: rl, wl⟩ = some ([], _) from rfl)]
 rw [app_eq, List.nil_append, bind_run (newCells_run hf)]
 simp only [Nat.zero_add]; rfl⟩
theorem to_sliceOwn {t : TypeId} {x lo : Operand} {b o len cap n k : Nat} {j : IntKind} {z : Int} (ht : elemAt C t = some n) (hx : evalA e x = .slice (some ⟨b, o, some n⟩) len cap) (hl : evalA e lo = .int j z) (hz : z = (k : Int)) (hk : k ≤ len) (hlc : len ≤ cap) :
  OpTo C eg e ⟨d, .slice t x (some lo) none none, ty, ps, af, g⟩ s (.slice (some ⟨b, o + k * n, some n⟩) (len - k) (cap - k)) s := ⟨0, by
 show opSlice C t (evalA e x) ((some lo).map (evalA e)) ((none : Option Operand).map (evalA e)) ((none : Option Operand).map (evalA e)) s = _
 subst hz
 simp only [Option.map_some, Option.map_none]
 rw [hx, hl]
 unfold elemAt at ht
 unfold opSlice
 cases hu : C.und t with
 | none => rw [hu] at ht; cases ht
 | some u =>
  rw [hu] at ht
  cases u <;> first | (cases ht; done) | skip
  simp only at ht ⊢
  rw [bind_run (lift_run ht)]
  have hb : boundsA len cap (some (.int j (k : Int))) none none = some (k, len, cap) := by
   unfold boundsA
   simp only
   show (match boundA none cap cap with | none => none | some m => _) = _
   simp only [boundA]
   rw [show natOf (.int j (k : Int)) = some k from rfl]
   simp only [ble_iff.2 hk]
  rw [bind_run (lift_run hb)]
  simp only [show (Nat.beq n n && Nat.ble len cap) = true by rw [ble_iff.2 hlc, Nat.beq_refl]; rfl]; rfl⟩
end app
theorem cellsA_agg (l : List Value) : cellsA (.agg ⟨l⟩) = some l := rfl
theorem partsOf_arr (e : Env) (l : List (Nat × Operand)) : partsOf e l.toArray = l.map fun p => (p.1, evalA e p.2) := by
 unfold partsOf
 simp only
 induction l with
 | nil => rfl
 | cons x l ih => show (x.1, evalA e x.2) :: mapA _ l = _; rw [ih]; rfl
section step2
variable {C : Ctx} {eg : TypeId → Bool} {all os : List Oper} {loc kept : L} {s : St} {Q : Env → St → Prop} {d : Nat} {ty : TypeId} {ps : String} {af : Array Edge} {g : Option (Nat × Bool)} {h : T AObj} {c : Nat} {rl wl : List Nat}
theorem Wseq.mv {x : Operand} (hw : wantedA all (.mk loc kept) ⟨some d, .move x, ty, ps, af, g⟩ = some true) (k : ∀ v, evalA (.mk loc kept) x = v → Wseq C eg all os (.mk (.cons d v loc) kept) s Q) : Wseq C eg all (⟨some d, .move x, ty, ps, af, g⟩ :: os) (.mk loc kept) s Q := Wseq.op hw (to_move rfl) (k _ rfl)
theorem Wseq.as {x : Operand} (hw : wantedA all (.mk loc kept) ⟨some d, .assign x, ty, ps, af, g⟩ = some true) (k : ∀ v, evalA (.mk loc kept) x = v → Wseq C eg all os (.mk (.cons d v loc) kept) s Q) : Wseq C eg all (⟨some d, .assign x, ty, ps, af, g⟩ :: os) (.mk loc kept) s Q := Wseq.op hw (to_assign rfl) (k _ rfl)
theorem Wseq.pkT {x a b : Operand} (hw : wantedA all (.mk loc kept) ⟨some d, .pick x a b, ty, ps, af, g⟩ = some true) (hc : evalA (.mk loc kept) x = .bool true) (k : ∀ v, evalA (.mk loc kept) a = v → Wseq C eg all os (.mk (.cons d v loc) kept) s Q) : Wseq C eg all (⟨some d, .pick x a b, ty, ps, af, g⟩ :: os) (.mk loc kept) s Q := Wseq.op hw (to_pickT hc rfl) (k _ rfl)
theorem Wseq.pkF {x a b : Operand} (hw : wantedA all (.mk loc kept) ⟨some d, .pick x a b, ty, ps, af, g⟩ = some true) (hc : evalA (.mk loc kept) x = .bool false) (k : ∀ v, evalA (.mk loc kept) b = v → Wseq C eg all os (.mk (.cons d v loc) kept) s Q) : Wseq C eg all (⟨some d, .pick x a b, ty, ps, af, g⟩ :: os) (.mk loc kept) s Q := Wseq.op hw (to_pickF hc rfl) (k _ rfl)
theorem Wseq.bx {t : TypeId} {x : Operand} (hw : wantedA all (.mk loc kept) ⟨some d, .box t x, ty, ps, af, g⟩ = some true) (hf : Fresh h c) (k : ∀ v, evalA (.mk loc kept) x = v → ∃ cs, cellsA v = some cs ∧ Wseq C eg all os (.mk (.cons d (.pointer (some ⟨c, 0, none⟩)) loc) kept) ⟨h.set c (some (.cells cs)), c + 1, rl, wl⟩ Q) : Wseq C eg all (⟨some d, .box t x, ty, ps, af, g⟩ :: os) (.mk loc kept) ⟨h, c, rl, wl⟩ Q := by
 obtain ⟨cs, h1, h2⟩ := k _ rfl
 exact Wseq.op hw (to_box rfl h1 hf) h2
theorem Wseq.bd {t : TypeId} {parts : Array (Nat × Operand)} {pl : List (Nat × Nat)} {zs : List Value} (hw : wantedA all (.mk loc kept) ⟨some d, .build t parts, ty, ps, af, g⟩ = some true) (ht : buildT C t = some (pl, zs)) (k : ∀ vs, partsOf (.mk loc kept) parts = vs → ∃ cs, fillA (nth pl) zs vs = some cs ∧ Wseq C eg all os (.mk (.cons d (.agg ⟨cs⟩) loc) kept) s Q) : Wseq C eg all (⟨some d, .build t parts, ty, ps, af, g⟩ :: os) (.mk loc kept) s Q := by
 obtain ⟨cs, h1, h2⟩ := k _ rfl
 exact Wseq.op hw (to_build ht h1) h2
theorem Wseq.bs {t et : TypeId} {m n by_ : Nat} {z : List Value} {parts : Array (Nat × Operand)} (hw : wantedA all (.mk loc kept) ⟨some d, .buildSlice t m parts, ty, ps, af, g⟩ = some true) (ht : C.row t = some (et, n, by_, z)) (hm : Nat.ble (m * n) big = true) (hf : Fresh h c) (k : ∀ vs, partsOf (.mk loc kept) parts = vs → ∃ cs, fillA (fun i => some (i * n, n)) (rep z m) vs = some cs ∧ Wseq C eg all os (.mk (.cons d (.slice (some ⟨c, 0, none⟩) m m) loc) kept) ⟨h.set c (some (.cells cs)), c + 1, rl, wl⟩ Q) : Wseq C eg all (⟨some d, .buildSlice t m parts, ty, ps, af, g⟩ :: os) (.mk loc kept) ⟨h, c, rl, wl⟩ Q := by
 obtain ⟨cs, h1, h2⟩ := k _ rfl
 exact Wseq.op hw (to_buildSlice ht hm h1 hf) h2
theorem Wseq.so {t : TypeId} {a x : Operand} {b o n : Nat} {cs : List Value} (hw : wantedA all (.mk loc kept) ⟨none, .store t a x, ty, ps, af, g⟩ = some true) (ht : C.size t = some n) (ha : evalA (.mk loc kept) a = .pointer (some ⟨b, o, none⟩)) (hb : Has h b (.cells cs)) (hc : b < c) (k : ∀ v, evalA (.mk loc kept) x = v → ∃ xs r, cellsA v = some xs ∧ Nat.beq (len xs) n = true ∧ setMany xs cs o = some r ∧ Wseq C eg all os (.mk loc kept) ⟨h.set b (some (.cells r)), c, b :: rl, b :: wl⟩ Q) : Wseq C eg all (⟨none, .store t a x, ty, ps, af, g⟩ :: os) (.mk loc kept) ⟨h, c, rl, wl⟩ Q := by
 obtain ⟨xs, r, h1, h2, h3, h4⟩ := k _ rfl
 exact Wseq.op hw (to_store ht ha rfl h1 h2 hb hc h3) h4
theorem Wseq.call {f : Nat} {ar : Array Operand} {ts : Array TypeId} {args : List Value} {P : Value → St → Prop} (hw : wantedA all (.mk loc kept) ⟨some d, .call ⟨.value (.func f), ar, ts⟩, ty, ps, af, g⟩ = some true) (ha : mapA (evalA (.mk loc kept)) ar.toList = args)
  (hc : ∃ v s', FnTo C eg f args s v s' ∧ P v s') (k : ∀ v h' c' rl' wl', P v ⟨h', c', rl', wl'⟩ → Wseq C eg all os (.mk (.cons d v loc) kept) ⟨h', c', rl', wl'⟩ Q) : Wseq C eg all (⟨some d, .call ⟨.value (.func f), ar, ts⟩, ty, ps, af, g⟩ :: os) (.mk loc kept) s Q := by
 obtain ⟨v, ⟨h', c', rl', wl'⟩, h1, h2⟩ := hc
 exact Wseq.op hw (OpTo.ofCall h1 ha) (k v h' c' rl' wl' h2)
end step2
theorem all_nil {α : Type} {P : α → Prop} : ∀ p ∈ ([] : List α), P p := fun _ h => absurd h List.not_mem_nil
theorem all_cons {α : Type} {P : α → Prop} {a : α} {l : List α} (h : P a) (k : ∀ p ∈ l, P p) : ∀ p ∈ a :: l, P p := fun p hp => by
 rcases List.mem_cons.1 hp with rfl | hp
 ·exact h
 ·exact k p hp
theorem ApartP.rr {r r' : List Nat} {a b b' : Nat} : ApartP ⟨r, [], a, a⟩ ⟨r', [], b, b'⟩ :=
 ⟨fun _ h => absurd h List.not_mem_nil, fun _ h => absurd h List.not_mem_nil, fun _ h => absurd h List.not_mem_nil, fun _ _ h => by simp at h; omega, fun _ h => absurd h List.not_mem_nil⟩
theorem ApartP.rn {r w : List Nat} {a a' b b' : Nat} : ApartP ⟨r, w, a, a'⟩ ⟨[], [], b, b'⟩ :=
 ⟨fun _ _ h => absurd h List.not_mem_nil, fun _ _ h => absurd h List.not_mem_nil, fun _ h => absurd h List.not_mem_nil, fun _ h => absurd h List.not_mem_nil, fun _ h => absurd h List.not_mem_nil⟩
theorem ApartP.rc {r r' w : List Nat} {a b b' : Nat} (hw : ∀ x ∈ w, False) : ApartP ⟨r, [], a, a⟩ ⟨r', w, b, b'⟩ :=
 ⟨fun _ h => absurd h List.not_mem_nil, fun _ h => absurd h List.not_mem_nil, fun x h => (hw x h).elim, fun _ _ h => by simp at h; omega, fun x h => (hw x h).elim⟩
theorem Ext.quiet {h h' : T AObj} {c c' : Nat} {r w : List Nat} {R W : Nat → Prop} (x : Ext ⟨h, c, [], []⟩ ⟨h', c', r, w⟩ R W) (hw : ∀ b, b < c → ¬W b) : ∀ b ∈ w, False := fun b hb => by
 rcases x.wl b hb with q | q
 ·exact absurd q List.not_mem_nil
 ·exact hw b q.1 q.2
section trk
variable {C : Ctx} {eg : TypeId → Bool} {all os : List Oper} {loc kept : L} {Q : Env → St → Prop} {d : Nat} {op : Op} {ty : TypeId} {ps : String} {af : Array Edge} {g : Option (Nat × Bool)} {h : T AObj} {c : Nat} {rl wl : List Nat} {bef : List Nat} {done : List (Nat × Fp)} {j : Nat}
theorem Wtr.stq {v : Value} (hw : wantedA all (.mk loc kept) ⟨some d, op, ty, ps, af, g⟩ = some true) (ho : OpTo C eg (.mk loc kept) ⟨some d, op, ty, ps, af, g⟩ ⟨h, c, [], []⟩ v ⟨h, c, [], []⟩)
  (k : Wtr C eg all bef done (j + 1) os (.mk (.cons d v loc) kept) ⟨h, c, rl, wl⟩ Q) : Wtr C eg all bef done j (⟨some d, op, ty, ps, af, g⟩ :: os) (.mk loc kept) ⟨h, c, rl, wl⟩ Q := Wtr.quiet hw ho k
theorem Wtr.stx {v : Value} {h1 : T AObj} {c1 : Nat} {r1 w1 : List Nat} (hw : wantedA all (.mk loc kept) ⟨some d, op, ty, ps, af, g⟩ = some true) (ho : OpTo C eg (.mk loc kept) ⟨some d, op, ty, ps, af, g⟩ ⟨h, c, [], []⟩ v ⟨h1, c1, r1, w1⟩)
  (ha : ∀ p ∈ done, ordB bef j p.1 = true ∨ ApartP p.2 ⟨r1, w1, c, c1⟩)
  (k : Wtr C eg all bef ((j, ⟨r1, w1, c, c1⟩) :: done) (j + 1) os (.mk (.cons d v loc) kept) ⟨h1, c1, r1 ++ rl, w1 ++ wl⟩ Q) : Wtr C eg all bef done j (⟨some d, op, ty, ps, af, g⟩ :: os) (.mk loc kept) ⟨h, c, rl, wl⟩ Q := Wtr.op hw ho ha k
theorem Wtr.no (hw : wantedA all (.mk loc kept) ⟨some d, op, ty, ps, af, g⟩ = some false)
  (k : Wtr C eg all bef done (j + 1) os (.mk (.cons d undefA loc) kept) ⟨h, c, rl, wl⟩ Q) : Wtr C eg all bef done j (⟨some d, op, ty, ps, af, g⟩ :: os) (.mk loc kept) ⟨h, c, rl, wl⟩ Q := Wtr.not hw k
theorem Wtr.mv {x : Operand} (hw : wantedA all (.mk loc kept) ⟨some d, .move x, ty, ps, af, g⟩ = some true) (k : ∀ v, evalA (.mk loc kept) x = v → Wtr C eg all bef done (j + 1) os (.mk (.cons d v loc) kept) ⟨h, c, rl, wl⟩ Q) : Wtr C eg all bef done j (⟨some d, .move x, ty, ps, af, g⟩ :: os) (.mk loc kept) ⟨h, c, rl, wl⟩ Q := Wtr.quiet hw (to_move rfl) (k _ rfl)
theorem Wtr.as {x : Operand} (hw : wantedA all (.mk loc kept) ⟨some d, .assign x, ty, ps, af, g⟩ = some true) (k : ∀ v, evalA (.mk loc kept) x = v → Wtr C eg all bef done (j + 1) os (.mk (.cons d v loc) kept) ⟨h, c, rl, wl⟩ Q) : Wtr C eg all bef done j (⟨some d, .assign x, ty, ps, af, g⟩ :: os) (.mk loc kept) ⟨h, c, rl, wl⟩ Q := Wtr.quiet hw (to_assign rfl) (k _ rfl)
theorem Wtr.pkT {x a b : Operand} (hw : wantedA all (.mk loc kept) ⟨some d, .pick x a b, ty, ps, af, g⟩ = some true) (hc : evalA (.mk loc kept) x = .bool true) (k : ∀ v, evalA (.mk loc kept) a = v → Wtr C eg all bef done (j + 1) os (.mk (.cons d v loc) kept) ⟨h, c, rl, wl⟩ Q) : Wtr C eg all bef done j (⟨some d, .pick x a b, ty, ps, af, g⟩ :: os) (.mk loc kept) ⟨h, c, rl, wl⟩ Q := Wtr.quiet hw (to_pickT hc rfl) (k _ rfl)
theorem Wtr.pkF {x a b : Operand} (hw : wantedA all (.mk loc kept) ⟨some d, .pick x a b, ty, ps, af, g⟩ = some true) (hc : evalA (.mk loc kept) x = .bool false) (k : ∀ v, evalA (.mk loc kept) b = v → Wtr C eg all bef done (j + 1) os (.mk (.cons d v loc) kept) ⟨h, c, rl, wl⟩ Q) : Wtr C eg all bef done j (⟨some d, .pick x a b, ty, ps, af, g⟩ :: os) (.mk loc kept) ⟨h, c, rl, wl⟩ Q := Wtr.quiet hw (to_pickF hc rfl) (k _ rfl)
theorem Wtr.bd {t : TypeId} {parts : Array (Nat × Operand)} {pl : List (Nat × Nat)} {zs : List Value} (hw : wantedA all (.mk loc kept) ⟨some d, .build t parts, ty, ps, af, g⟩ = some true) (ht : buildT C t = some (pl, zs)) (k : ∀ vs, partsOf (.mk loc kept) parts = vs → ∃ cs, fillA (nth pl) zs vs = some cs ∧ Wtr C eg all bef done (j + 1) os (.mk (.cons d (.agg ⟨cs⟩) loc) kept) ⟨h, c, rl, wl⟩ Q) : Wtr C eg all bef done j (⟨some d, .build t parts, ty, ps, af, g⟩ :: os) (.mk loc kept) ⟨h, c, rl, wl⟩ Q := by
 obtain ⟨cs, h1, h2⟩ := k _ rfl
 exact Wtr.quiet hw (to_build ht h1) h2
theorem Wtr.bs {t et : TypeId} {m n by_ : Nat} {z : List Value} {parts : Array (Nat × Operand)} (hw : wantedA all (.mk loc kept) ⟨some d, .buildSlice t m parts, ty, ps, af, g⟩ = some true) (ht : C.row t = some (et, n, by_, z)) (hm : Nat.ble (m * n) big = true) (hf : Fresh h c) (ha : ∀ p ∈ done, ordB bef j p.1 = true ∨ ApartP p.2 ⟨[], [], c, c + 1⟩)
  (k : ∀ vs, partsOf (.mk loc kept) parts = vs → ∃ cs, fillA (fun i => some (i * n, n)) (rep z m) vs = some cs ∧ Wtr C eg all bef ((j, ⟨[], [], c, c + 1⟩) :: done) (j + 1) os (.mk (.cons d (.slice (some ⟨c, 0, none⟩) m m) loc) kept) ⟨h.set c (some (.cells cs)), c + 1, rl, wl⟩ Q) : Wtr C eg all bef done j (⟨some d, .buildSlice t m parts, ty, ps, af, g⟩ :: os) (.mk loc kept) ⟨h, c, rl, wl⟩ Q := by
 obtain ⟨cs, h1, h2⟩ := k _ rfl
 exact Wtr.op (s1 := ⟨h.set c (some (.cells cs)), c + 1, [], []⟩) hw (to_buildSlice ht hm h1 hf) ha h2
theorem Wtr.so {t : TypeId} {a x : Operand} {b o n : Nat} {cs : List Value} (hw : wantedA all (.mk loc kept) ⟨none, .store t a x, ty, ps, af, g⟩ = some true) (ht : C.size t = some n) (ha : evalA (.mk loc kept) a = .pointer (some ⟨b, o, none⟩)) (hb : Has h b (.cells cs)) (hc : b < c) (hap : ∀ p ∈ done, ordB bef j p.1 = true ∨ ApartP p.2 ⟨[b], [b], c, c⟩)
  (k : ∀ v, evalA (.mk loc kept) x = v → ∃ xs r, cellsA v = some xs ∧ Nat.beq (len xs) n = true ∧ setMany xs cs o = some r ∧ Wtr C eg all bef ((j, ⟨[b], [b], c, c⟩) :: done) (j + 1) os (.mk loc kept) ⟨h.set b (some (.cells r)), c, b :: rl, b :: wl⟩ Q) : Wtr C eg all bef done j (⟨none, .store t a x, ty, ps, af, g⟩ :: os) (.mk loc kept) ⟨h, c, rl, wl⟩ Q := by
 obtain ⟨xs, r, h1, h2, h3, h4⟩ := k _ rfl
 exact Wtr.op (s1 := ⟨h.set b (some (.cells r)), c, [b], [b]⟩) hw (to_store ht ha rfl h1 h2 hb hc h3) hap h4
theorem Wtr.call {f : Nat} {ar : Array Operand} {ts : Array TypeId} {args : List Value} {P : Value → St → Prop} (hw : wantedA all (.mk loc kept) ⟨some d, .call ⟨.value (.func f), ar, ts⟩, ty, ps, af, g⟩ = some true) (ha : mapA (evalA (.mk loc kept)) ar.toList = args)
  (hc : ∃ v s', FnTo C eg f args ⟨h, c, [], []⟩ v s' ∧ P v s') (k : ∀ v h' c' r1 w1, P v ⟨h', c', r1, w1⟩ → (∀ p ∈ done, ordB bef j p.1 = true ∨ ApartP p.2 ⟨r1, w1, c, c'⟩) ∧ Wtr C eg all bef ((j, ⟨r1, w1, c, c'⟩) :: done) (j + 1) os (.mk (.cons d v loc) kept) ⟨h', c', r1 ++ rl, w1 ++ wl⟩ Q) :
  Wtr C eg all bef done j (⟨some d, .call ⟨.value (.func f), ar, ts⟩, ty, ps, af, g⟩ :: os) (.mk loc kept) ⟨h, c, rl, wl⟩ Q := by
 obtain ⟨v, ⟨h', c', r1, w1⟩, h1, h2⟩ := hc
 obtain ⟨k1, k2⟩ := k v h' c' r1 w1 h2
 exact Wtr.op hw (OpTo.ofCall h1 ha) k1 k2
end trk
theorem tab_row {κ β : Type} [BEq κ] [LawfulBEq κ] {l : List (κ × β)} {P : κ → β → Prop} (h : ∀ p ∈ l, P p.1 p.2) {k : κ} {v : β} (hk : l.lookup k = some v) : P k v := by
 induction l with
 | nil => cases hk
 | cons p l ih =>
  obtain ⟨a, b⟩ := p
  rw [List.lookup_cons] at hk
  cases hb : k == a with
  | true =>
   rw [hb] at hk
   obtain rfl := eq_of_beq hb
   cases hk
   exact h _ (List.mem_cons_self ..)
  | false =>
   rw [hb] at hk
   exact ih (fun q hq => h q (List.mem_cons_of_mem _ hq)) hk
section dec
variable {C : Ctx} {eg : TypeId → Bool} {e : Env} {s : St} {d : Option Nat} {ty : TypeId} {ps : String} {af : Array Edge} {g : Option (Nat × Bool)} {t t2 : TypeId} {x y : Operand} {j : IntKind} {a b : Int}
theorem to_lssT (hx : evalA e x = .int j a) (hy : evalA e y = .int j b) (h : a < b) : OpTo C eg e ⟨d, .binOp .lss t x y t2, ty, ps, af, g⟩ s (.bool true) s := by have := to_lss (C := C) (eg := eg) (s := s) (d := d) (ty := ty) (ps := ps) (af := af) (g := g) (t := t) (t2 := t2) hx hy; rwa [decide_eq_true h] at this
theorem to_lssF (hx : evalA e x = .int j a) (hy : evalA e y = .int j b) (h : ¬(a < b)) : OpTo C eg e ⟨d, .binOp .lss t x y t2, ty, ps, af, g⟩ s (.bool false) s := by have := to_lss (C := C) (eg := eg) (s := s) (d := d) (ty := ty) (ps := ps) (af := af) (g := g) (t := t) (t2 := t2) hx hy; rwa [decide_eq_false h] at this
theorem to_leqT (hx : evalA e x = .int j a) (hy : evalA e y = .int j b) (h : a ≤ b) : OpTo C eg e ⟨d, .binOp .leq t x y t2, ty, ps, af, g⟩ s (.bool true) s := by have := to_leq (C := C) (eg := eg) (s := s) (d := d) (ty := ty) (ps := ps) (af := af) (g := g) (t := t) (t2 := t2) hx hy; rwa [decide_eq_true h] at this
theorem to_leqF (hx : evalA e x = .int j a) (hy : evalA e y = .int j b) (h : ¬(a ≤ b)) : OpTo C eg e ⟨d, .binOp .leq t x y t2, ty, ps, af, g⟩ s (.bool false) s := by have := to_leq (C := C) (eg := eg) (s := s) (d := d) (ty := ty) (ps := ps) (af := af) (g := g) (t := t) (t2 := t2) hx hy; rwa [decide_eq_false h] at this
theorem to_gtrT (hx : evalA e x = .int j a) (hy : evalA e y = .int j b) (h : b < a) : OpTo C eg e ⟨d, .binOp .gtr t x y t2, ty, ps, af, g⟩ s (.bool true) s := by have := to_gtr (C := C) (eg := eg) (s := s) (d := d) (ty := ty) (ps := ps) (af := af) (g := g) (t := t) (t2 := t2) hx hy; rwa [decide_eq_true h] at this
theorem to_gtrF (hx : evalA e x = .int j a) (hy : evalA e y = .int j b) (h : ¬(b < a)) : OpTo C eg e ⟨d, .binOp .gtr t x y t2, ty, ps, af, g⟩ s (.bool false) s := by have := to_gtr (C := C) (eg := eg) (s := s) (d := d) (ty := ty) (ps := ps) (af := af) (g := g) (t := t) (t2 := t2) hx hy; rwa [decide_eq_false h] at this
theorem to_geqT (hx : evalA e x = .int j a) (hy : evalA e y = .int j b) (h : b ≤ a) : OpTo C eg e ⟨d, .binOp .geq t x y t2, ty, ps, af, g⟩ s (.bool true) s := by have := to_geq (C := C) (eg := eg) (s := s) (d := d) (ty := ty) (ps := ps) (af := af) (g := g) (t := t) (t2 := t2) hx hy; rwa [decide_eq_true h] at this
theorem to_geqF (hx : evalA e x = .int j a) (hy : evalA e y = .int j b) (h : ¬(b ≤ a)) : OpTo C eg e ⟨d, .binOp .geq t x y t2, ty, ps, af, g⟩ s (.bool false) s := by have := to_geq (C := C) (eg := eg) (s := s) (d := d) (ty := ty) (ps := ps) (af := af) (g := g) (t := t) (t2 := t2) hx hy; rwa [decide_eq_false h] at this
theorem to_eqIT (hx : evalA e x = .int j a) (hy : evalA e y = .int j b) (h : a = b) : OpTo C eg e ⟨d, .binOp .eql t x y t2, ty, ps, af, g⟩ s (.bool true) s := by have := to_eqI (C := C) (eg := eg) (s := s) (d := d) (ty := ty) (ps := ps) (af := af) (g := g) (t := t) (t2 := t2) hx hy; rwa [decide_eq_true h] at this
theorem to_eqIF (hx : evalA e x = .int j a) (hy : evalA e y = .int j b) (h : ¬(a = b)) : OpTo C eg e ⟨d, .binOp .eql t x y t2, ty, ps, af, g⟩ s (.bool false) s := by have := to_eqI (C := C) (eg := eg) (s := s) (d := d) (ty := ty) (ps := ps) (af := af) (g := g) (t := t) (t2 := t2) hx hy; rwa [decide_eq_false h] at this
theorem to_neIT (hx : evalA e x = .int j a) (hy : evalA e y = .int j b) (h : ¬(a = b)) : OpTo C eg e ⟨d, .binOp .neq t x y t2, ty, ps, af, g⟩ s (.bool true) s := by have := to_neI (C := C) (eg := eg) (s := s) (d := d) (ty := ty) (ps := ps) (af := af) (g := g) (t := t) (t2 := t2) hx hy; rwa [decide_eq_false h] at this
theorem to_neIF (hx : evalA e x = .int j a) (hy : evalA e y = .int j b) (h : a = b) : OpTo C eg e ⟨d, .binOp .neq t x y t2, ty, ps, af, g⟩ s (.bool false) s := by have := to_neI (C := C) (eg := eg) (s := s) (d := d) (ty := ty) (ps := ps) (af := af) (g := g) (t := t) (t2 := t2) hx hy; rwa [decide_eq_true h] at this
theorem to_notT (hx : evalA e x = .bool true) : OpTo C eg e ⟨d, .unOp .not t x, ty, ps, af, g⟩ s (.bool false) s := to_not hx
theorem to_notF (hx : evalA e x = .bool false) : OpTo C eg e ⟨d, .unOp .not t x, ty, ps, af, g⟩ s (.bool true) s := to_not hx
end dec
theorem kv : type_of% (And.intro @ev_tmp (And.intro @ev_const (And.intro @ev_global (And.intro @ev_func (And.intro @look_if (And.intro @lk_nil @partsOf_arr)))))) := And.intro @ev_tmp (And.intro @ev_const (And.intro @ev_global (And.intro @ev_func (And.intro @look_if (And.intro @lk_nil @partsOf_arr)))))
end Go.Ab
