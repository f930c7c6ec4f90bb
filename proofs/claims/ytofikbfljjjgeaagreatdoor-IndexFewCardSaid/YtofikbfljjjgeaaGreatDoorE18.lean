import Derived.Test.YtofikbfljjjgeaaGreatDoorE16
set_option linter.unusedVariables false
set_option linter.unusedSimpArgs false
section
namespace Go.Ab
def kR (C : aS) (eg : TypeId → Bool) (P : Program) (G n : Nat) (rec : kf) : Prop :=
  ∀ (e : aR) (o : Oper) (s s' : St) (v : Value) (ι : aD) (w : World) (a : Act) (K : Act → World → Prop) (Q : Exit → Act → World → Prop),
    ed C G n o = true → dp C eg rec e o s = some (v, s') → (∀ x ∈ o.op.operands, VR ι (ae e x) (a.eval x)) → HR G ι s.h w.heap →
    (∀ b, s.c ≤ b → b < s'.c → ι b = none) → (∀ v' w' ι', VR ι' v v' → aM G ι ι' s s' w w' → K (a.put o.dst v') w') → o.wp P a w K Q
theorem HR.congr {G : Nat} {ι : aD} {h h' : T ag} {H : Array Obj} (e : ∀ b, h'.get b = h.get b) (hr : HR G ι h H) : HR G ι h' H where
  obj := fun b o hb => hr.obj b o (by rw [← e]; exact hb)
  inj := fun b1 b2 o1 o2 L1 L2 h1 h2 => hr.inj b1 b2 o1 o2 L1 L2 (by rw [← e]; exact h1) (by rw [← e]; exact h2)
  lt := hr.lt
  glob := hr.glob
theorem k9.congr {ι : aD} {h h' : T ag} {k : Nat} (e : ∀ b, h'.get b = h.get b) (q : k9 ι h' k) : k9 ι h k := by
  obtain ⟨b, o, L, h1, h2⟩ := q
  exact ⟨b, o, L, by rw [← e]; exact h1, h2⟩
theorem aM.congr {G : Nat} {ι ι' : aD} {s s' t : St} {w w' : World} (e : ∀ b, t.h.get b = s'.h.get b) (c : t.c = s'.c) (h : aM G ι ι' s s' w w') : aM G ι ι' s t w w' where
  ext := h.ext
  new := fun b hb hc => h.new b hb (by rw [c] at hc; exact hc)
  hr := h.hr.congr e
  os := h.os
  tape := h.tape
  output := h.output
  size := h.size
  frame := h.frame
  own := fun k hk ho => h.own k hk (ho.congr e)
  cle := by rw [c]; exact h.cle
theorem aM.join {G : Nat} {ι ι' ι2 : aD} {s s1 t t' : St} {w w' w2 : World} {N : Nat} (h : aM G ι ι' s ⟨s1.h, N, [], []⟩ w w') (k : aM G ι' ι2 t t' w' w2) (ht : t.h = s1.h) (h1 : s.c ≤ t.c) (h2 : t'.c ≤ N) :
    aM G ι ι2 s ⟨t'.h, N, [], []⟩ w w2 where
  ext := aD.le_trans h.ext k.ext
  new := fun b hb hc => by
    have := k.cle
    exact k.new b (h.new b hb hc) (by simp only at hc; omega)
  hr := k.hr
  os := k.os.trans h.os
  tape := k.tape.trans h.tape
  output := k.output.trans h.output
  size := Nat.le_trans h.size k.size
  frame := fun x hx ho => by
    have hs := h.size
    rw [k.frame x (by omega) (fun q => ho (h.own x hx (by rw [ht] at q; exact q))), h.frame x hx ho]
  own := fun x hx ho => h.own x hx (by have := k.own x (Nat.lt_of_lt_of_le hx h.size) ho; rw [ht] at this; exact this)
  cle := h.cle
section
variable {C : aS} {eg : TypeId → Bool} {P : Program} {G n : Nat} {rec : kf} {ops : Array Oper} {E : Nat → aR} {S : Nat → St} {V : Nat → Value} {F : Nat → Fp}
structure IV (G : Nat) (ops : Array Oper) (E : Nat → aR) (S : Nat → St) (V : Nat → Value) (F : Nat → Fp) (n : Nat) (df : List Deferred) (ι : aD) (w : World) (D : Nat → Bool) (ι' : aD) (h' : T ag) (a' : Act) (w' : World) : Prop where
  post : aM G ι ι' (S 0) ⟨h', (S ops.size).c, [], []⟩ w w'
  heap : ∀ b, h'.get b = BX S F D ops.size b
  env : ∀ t, VR ι' (B2 ops E V D ops.size t) (a'.tmps.getD t undef)
  fresh : ∀ b, ι b = none → (∀ k, k < ops.size → D k = true → ¬((S k).c ≤ b ∧ b < (S (k + 1)).c)) → ι' b = none
  size : a'.tmps.size = n
  defers : a'.defers = df
theorem IV.step {df : List Deferred} {ι ι' : aD} {w w' : World} {D : Nat → Bool} {h' : T ag} {a' : Act} {i : Nat} {oi : Oper} (hs : cM C) (hrl : bZ rec) (sound : kR C eg P G n rec) (R : AF C eg rec ops E S V F)
    (N : kx ops D i oi) (hok : ed C G n oi = true) (frs : ∀ b, (S 0).c ≤ b → b < (S ops.size).c → ι b = none) (I : IV G ops E S V F n df ι w D ι' h' a' w')
    {K : Act → World → Prop} {Q : Exit → Act → World → Prop} (hK : ∀ ι2 h2 a2 w2, IV G ops E S V F n df ι w (fun j => D j || j == i) ι2 h2 a2 w2 → K a2 w2) : wpOp P ops Q i K a' w' := by
  have hlt := N.lt
  have tr := R.tr i oi N.op
  have sl := R.l i oi N.op
  have m0 := R.mono (i := 0) (j := i) (by omega) (by omega)
  have m1 := R.mono (i := i + 1) (j := ops.size) (by omega) (by omega)
  have hmin : Nat.min ops.size i = i := Nat.min_eq_right (by omega)
  have hdst : ∀ d, oi.dst = some d → d < a'.tmps.size := fun d hd => by rw [I.size]; exact ed.dst hok hd
  -- what it looks at
  have look : ∀ t, t ∈ oi.looksAt ops → VR ι' (rd (E i) t) (a'.tmps.getD t undef) := by
    intro t ht
    have := I.env t
    rw [N.env R ht ops.size (Nat.le_refl _), hmin] at this
    exact this
  have opr : ∀ x ∈ oi.op.operands, VR ι' (ae (E i) x) (a'.eval x) := by
    intro x hx
    refine s9 I.post.hr (ed.operand hok hx) fun t ht => look t ?_
    subst ht
    exact List.mem_append_left _ (List.mem_filterMap.2 ⟨.tmp t, by simpa using hx, rfl⟩)
  have fin : ∀ (ι2 : aD) (h2 : T ag) (w2 : World) (v' : Value), aM G ι' ι2 ⟨h', (S i).c, [], []⟩ ⟨h2, (S (i + 1)).c, [], []⟩ w' w2 → VR ι2 (V i) v' →
      (∀ b, Tc S F i b → h2.get b = (S (i + 1)).h.get b) → (∀ b, ¬Wr S F i b → h2.get b = h'.get b) → K (a'.put oi.dst v') w2 := by
    intro ι2 h2 w2 v' hp hv ht hu
    refine hK ι2 h2 _ w2 ⟨I.post.join hp rfl m0 m1, ?_, ?_, ?_, by rw [td]; exact I.size, by rw [lH]; exact I.defers⟩
    · intro b
      by_cases hw : Wr S F i b
      · rw [N.heap_in R hw _ hlt (Nat.le_refl _)]; exact ht b hw.tc
      · rw [N.heap_out hw, ← I.heap b]; exact hu b hw
    · intro t
      rw [x8 hdst]
      by_cases hd : oi.dst = some t
      · rw [if_pos hd, N.env_in R hd _ hlt (Nat.le_refl _)]; exact hv
      · rw [if_neg hd, N.env_out hd]; exact (I.env t).mono hp.ext
    · intro b hb hk
      refine hp.new b (I.fresh b hb fun k hk1 hk2 => hk k hk1 (by simp [hk2])) ?_
      have := hk i hlt (by simp)
      simp only
      omega
  unfold wpOp
  rw [N.op]
  simp only
  rcases tr.run with ⟨hw, _⟩ | ⟨hw, hv, h1, h2, h3, h4⟩
  · rw [if_pos (pq hw look)]
    obtain ⟨h2, hrun, e1, e2⟩ := tr.move hs hrl hw h' fun b hb => by
      rw [I.heap b, N.heap R hb ops.size (Nat.le_refl _), hmin]
    refine .inl (sound (E i) oi ⟨h', (S i).c, [], []⟩ _ (V i) ι' w' a' K Q hok hrun opr I.post.hr ?_ ?_)
    · intro b hb1 hb2
      simp only at hb1 hb2
      refine I.fresh b (frs b (by omega) (by omega)) fun k hk hDk => ?_
      have hki : k ≠ i := fun e => by subst e; rw [N.no] at hDk; cases hDk
      rcases Nat.lt_or_ge k i with h | h
      · have := R.mono (i := k + 1) (j := i) (by omega) (by omega)
        omega
      · have := R.mono (i := i + 1) (j := k) (by omega) (by omega)
        omega
    · intro v' w2 ι2 hv' hp
      exact fin ι2 h2 w2 v' (hp.log rfl rfl rfl rfl) hv' e1 (fun b hb => by simp only [Wr, not_or] at hb; exact e2 b hb.1 hb.2)
  · rw [if_neg (by rw [pq hw look]; simp)]
    refine fin ι' h' w' undef (aM.refl I.post.hr rfl h4) (by rw [hv]; exact dK ι' 1 _ rfl) ?_ (fun _ _ => rfl)
    intro b hb
    rw [h3, I.heap b, N.heap R hb ops.size (Nat.le_refl _), hmin]
theorem wU {l : Array Bool} {j : Nat} (h : j < l.size) : l.getD j true = l.getD j false := by
  simp [h]
theorem Dw {p q : Nat → Bool} : ∀ (l : List Nat) (i : Nat), i ∈ l → p i = true → q i = false → (∀ j, q j = true → p j = true) → (l.filter q).length < (l.filter p).length := by
  intro l
  induction l with
  | nil => intro i h; cases h
  | cons x l ih =>
    intro i hi hp hq hpq
    have le : ∀ l : List Nat, (l.filter q).length ≤ (l.filter p).length := by
      intro l
      induction l with
      | nil => exact Nat.le_refl _
      | cons x l ih =>
        simp only [List.filter_cons]
        by_cases hx : q x = true
        · rw [if_pos hx, if_pos (hpq x hx)]; simpa using ih
        · rw [if_neg hx]
          split
          · simp; omega
          · exact ih
    simp only [List.filter_cons]
    rcases List.mem_cons.1 hi with rfl | hi
    · rw [if_neg (by rw [hq]; simp), if_pos hp]
      have := le l
      simp; omega
    · have := ih i hi hp hq hpq
      by_cases hx : q x = true
      · rw [if_pos hx, if_pos (hpq x hx)]; simpa using this
      · rw [if_neg hx]
        split
        · simp; omega
        · exact this
theorem F7 {df : List Deferred} {ι : aD} {w : World} (hs : cM C) (hrl : bZ rec) (sound : kR C eg P G n rec) (R : AF C eg rec ops E S V F)
    (hok : ∀ (i : Nat) o, ops[i]? = some o → ed C G n o = true) (frs : ∀ b, (S 0).c ≤ b → b < (S ops.size).c → ι b = none) {Q : Exit → Act → World → Prop}
    (hQ : ∀ ι2 a2 w2, gN ι2 (E ops.size) a2 → aM G ι ι2 (S 0) (S ops.size) w w2 → a2.tmps.size = n → a2.defers = df → Q .normal a2 w2) :
    ∀ (fuel : Nat) (listed : Array Bool) (ι' : aD) (h' : T ag) (a' : Act) (w' : World), IV G ops E S V F n df ι w (fun i => listed.getD i false) ι' h' a' w' → vO ops (fun i => listed.getD i false) →
      listed.size = ops.size → ((List.range ops.size).filter fun i => !listed.getD i false).length ≤ fuel → wpAny P .any ops Q fuel listed a' w' := by
  have all : ∀ (listed : Array Bool), listed.size = ops.size → Region.ready .any ops listed = [] → ∀ k, k < ops.size → listed.getD k false = true := by
    intro listed hsz hr k
    induction k using Nat.strongRecOn with
    | _ k ih =>
      intro hk
      cases hD : listed.getD k false with
      | true => rfl
      | false =>
        have : k ∈ Region.ready .any ops listed := mem_ready.2 ⟨by rw [wU (by omega)]; exact hD, ops[k], Array.getElem?_eq_getElem hk, fun e he hb => by
          have hlt := R.back k _ (Array.getElem?_eq_getElem hk) e he hb
          exact ih e.on hlt (by omega)⟩
        rw [hr] at this; cases this
  have done : ∀ (listed : Array Bool) (ι' : aD) (h' : T ag) (a' : Act) (w' : World), IV G ops E S V F n df ι w (fun i => listed.getD i false) ι' h' a' w' →
      (∀ k, k < ops.size → listed.getD k false = true) → Q .normal a' w' := by
    intro listed ι' h' a' w' I hall
    refine hQ ι' a' w' (fun t => ?_) (aM.congr (s' := ⟨h', (S ops.size).c, [], []⟩) (t := S ops.size) (fun b => ?_) rfl I.post) I.size I.defers
    · have := I.env t
      rw [R.env_all hall t _ (Nat.le_refl _)] at this; exact this
    · show (S ops.size).h.get b = h'.get b
      rw [I.heap b, R.heap_all hall b _ (Nat.le_refl _)]
  intro fuel
  induction fuel with
  | zero =>
    intro listed ι' h' a' w' I _ hsz hf
    have hall : ∀ k, k < ops.size → listed.getD k false = true := by
      intro k hk
      have : ((List.range ops.size).filter fun i => !listed.getD i false) = [] := List.length_eq_zero_iff.1 (by omega)
      rw [List.filter_eq_nil_iff] at this
      have := this k (List.mem_range.2 hk)
      simpa using this
    refine ⟨?_, done listed ι' h' a' w' I hall⟩
    cases hr : Region.ready .any ops listed with
    | nil => rfl
    | cons x xs =>
      have hx : x ∈ Region.ready .any ops listed := by rw [hr]; exact List.mem_cons_self ..
      obtain ⟨h0, o, ho, _⟩ := mem_ready.1 hx
      have hlt := (Array.getElem?_eq_some_iff.1 ho).1
      rw [wU (by omega), hall x hlt] at h0; cases h0
  | succ fuel ih =>
    intro listed ι' h' a' w' I hcl hsz hf
    refine ⟨fun hr => done listed ι' h' a' w' I (all listed hsz hr), fun i hi => ?_⟩
    obtain ⟨h0, oi, ho, hpre⟩ := mem_ready.1 hi
    have hlt := (Array.getElem?_eq_some_iff.1 ho).1
    rw [wU (by omega)] at h0
    have hfun : (fun j => (listed.setIfInBounds i true).getD j false) = fun j => listed.getD j false || j == i := by
      funext j
      by_cases hji : j = i
      · subst hji; simp [hsz, hlt]
      · rw [getD_set_ne false (Ne.symm hji)]; simp [hji]
    refine IV.step hs hrl sound R (D := fun j => listed.getD j false) ⟨hcl, ho, h0, hpre⟩ (hok i oi ho) frs I fun ι2 h2 a2 w2 I2 => ?_
    refine ih _ ι2 h2 a2 w2 (by rw [hfun]; exact I2) ?_ (by simpa using hsz) ?_
    · rw [hfun]
      intro j o hj hD e he hb
      simp only [Bool.or_eq_true, beq_iff_eq] at hD ⊢
      rcases hD with hD | hD
      · exact .inl (hcl j o hj hD e he hb)
      · subst hD
        rw [ho] at hj; cases hj
        exact .inl (hpre e he hb)
    · have := Dw (p := fun j => !listed.getD j false) (q := fun j => !(listed.setIfInBounds i true).getD j false) (List.range ops.size) i (List.mem_range.2 hlt) (by simpa using h0)
        (by have := congrFun hfun i; rw [this]; simp) (fun j hj => by have := congrFun hfun j; rw [this] at hj; simp at hj ⊢; exact hj.1)
      omega
end
theorem yw {f : Fp} (h : f.silent = true) : f.r = [] ∧ f.w = [] ∧ f.c0 = f.c1 := by
  obtain ⟨r, w, c0, c1⟩ := f
  cases r <;> cases w <;> first
    | exact ⟨rfl, rfl, aL.1 h⟩
    | cases h
theorem yl {ops : Array Oper} (h : pN ops = true) : lu ops (Region.before ops).toList [] 0 ops.toList = true := by
  unfold pN at h
  rw [Bool.and_eq_true] at h
  exact h.1
theorem Iv {C : aS} {eg : TypeId → Bool} {rec : kf} {ops : Array Oper} {E : Nat → aR} {S : Nat → St} {V : Nat → Value} {F : Nat → Fp} {fps : List Fp} (hs : cM C) (hrl : bZ rec)
    (tr : ∀ k o, ops[k]? = some o → kQ C eg rec ops.toList (E k) (S k) (V k) (F k) (E (k + 1)) (S (k + 1)) o) (hF : ∀ k, k < ops.size → fps[k]? = some (F k))
    (hd : pN ops = true) (hc : bJ (Region.before ops).toList [] 0 fps = true) : AF C eg rec ops E S V F := by
  have l : ∀ k o, ops[k]? = some o → Ea C eg rec (E k) (S k) (V k) (F k) (S (k + 1)) o := fun k o ho => (tr k o ho).l hs hrl
  obtain ⟨_, a2, a3⟩ := ud _ _ _ (yl hd)
  obtain ⟨_, c2⟩ := AD _ _ _ hc
  have mono : ∀ i j, i ≤ j → j ≤ ops.size → (S i).c ≤ (S j).c := by
    intro i j hij
    induction j with
    | zero => intro _; have : i = 0 := by omega
              subst this; exact Nat.le_refl _
    | succ j ih =>
      intro hj
      rcases Nat.lt_or_ge i (j + 1) with h | h
      · have := ih (by omega) (by omega)
        have := (l j ops[j] (Array.getElem?_eq_getElem (by omega))).cle
        omega
      · have : i = j + 1 := by omega
        subst this; exact Nat.le_refl _
  refine ⟨tr, l, fun i j hij hj => ?_, fun i j oi oj hij hi hj => ?_, fun k o ho e he hb => ?_⟩
  · have hti := tr i ops[i] (Array.getElem?_eq_getElem (by omega))
    have htj := tr j ops[j] (Array.getElem?_eq_getElem hj)
    have hli := l i ops[i] (Array.getElem?_eq_getElem (by omega))
    have hlj := l j ops[j] (Array.getElem?_eq_getElem hj)
    have hm := mono (i + 1) j (by omega) (by omega)
    have hmi := hli.cle
    have hmj := hlj.cle
    have hi' : ∀ b, Tc S F i b → b < (S (i + 1)).c := by
      intro b hb
      rcases hb with hb | hb | hb
      · exact hli.rlt b hb
      · exact hli.wlt b hb
      · exact hb.2
    have noS : ∀ k o, ops[k]? = some o → (F k).silent = true → ∀ b, ¬Tc S F k b := by
      intro k o hk hsil b hb
      obtain ⟨h1, h2, h3⟩ := yw hsil
      rw [(tr k o hk).c0, (tr k o hk).c1] at h3
      rcases hb with hb | hb | hb
      · rw [h1] at hb; cases hb
      · rw [h2] at hb; cases hb
      · omega
    cases hsi : (F i).silent with
    | true => exact .inr fun b => ⟨fun q _ => noS i _ (Array.getElem?_eq_getElem (by omega)) hsi b q.tc, fun _ q => noS i _ (Array.getElem?_eq_getElem (by omega)) hsi b q⟩
    | false =>
      cases hsj : (F j).silent with
      | true => exact .inr fun b => ⟨fun _ q => noS j _ (Array.getElem?_eq_getElem hj) hsj b q, fun q _ => noS j _ (Array.getElem?_eq_getElem hj) hsj b q.tc⟩
      | false =>
        have := c2 i j (F i) (F j) hij (hF i (by omega)) (hF j hj) hsi hsj
        simp only [Nat.zero_add] at this
        refine this.imp id fun hap b => ?_
        unfold jc at hap
        simp only [Bool.and_eq_true, Bool.not_eq_true'] at hap
        obtain ⟨⟨⟨⟨q1, q2⟩, q3⟩, q4⟩, q5⟩ := hap
        rw [EW] at q1 q2 q3
        rw [Dn, hti.c0, hti.c1] at q4 q5
        constructor
        · rintro (hw | hw) (ht | ht | ht)
          · exact q1 b hw ht
          · exact q2 b hw ht
          · have := hli.wlt b hw; omega
          · exact q4 b ht hw
          · exact q5 b ht hw
          · omega
        · rintro (hw | hw) ht
          · rcases ht with ht | ht | ht
            · exact q3 b hw ht
            · exact q2 b ht hw
            · exact q5 b hw ht
          · have := hi' b ht; omega
  · have := a2 i j oi oj hij (by rw [Array.getElem?_toList]; exact hi) (by rw [Array.getElem?_toList]; exact hj)
    simpa using this
  · have := a3 k o (by rw [Array.getElem?_toList]; exact ho) e he hb
    simpa using this
theorem D9 {S : Nat → St} {F : Nat → Fp} {D : Nat → Bool} (h : ∀ k, D k = false) (b : Nat) : ∀ k, BX S F D k b = (S 0).h.get b := by
  intro k
  induction k with
  | zero => rfl
  | succ k ih => unfold BX; rw [if_neg (fun q => by rw [h k] at q; cases q.1), ih]
theorem Ez {ops : Array Oper} {E : Nat → aR} {V : Nat → Value} {D : Nat → Bool} (h : ∀ k, D k = false) (t : Nat) : ∀ k, B2 ops E V D k t = rd (E 0) t := by
  intro k
  induction k with
  | zero => rfl
  | succ k ih => unfold B2; rw [if_neg (fun q => by rw [h k] at q; cases q.1), ih]
theorem GS {C : aS} {eg : TypeId → Bool} {P : Program} {G n : Nat} {rec : kf} {ops : Array Oper} {id : Nat} {e e' : aR} {s s' : St} {ι : aD} {w : World} {a : Act} {Q : Exit → Act → World → Prop}
    (hm : P.follows .mixedOrders = true) (hs : cM C) (hrl : bZ rec) (sound : kR C eg P G n rec) (hok : ∀ (i : Nat) o, ops[i]? = some o → ed C G n o = true) (hd : pN ops = true)
    (h : kZ C eg rec ops e s = some (e', s')) (hr : HR G ι s.h w.heap) (he : gN ι e a) (hn : a.tmps.size = n) (frs : ∀ b, s.c ≤ b → b < s'.c → ι b = none)
    (hQ : ∀ ι' a' w', gN ι' e' a' → aM G ι ι' s s' w w' → a'.tmps.size = n → a'.defers = a.defers → Q .normal a' w') : (Code.region id ops true).wp P Q a w := by
  unfold kZ at h
  obtain ⟨⟨e1, fps⟩, s1, h1, h2⟩ := bind_some h
  unfold ii at h2
  cases hc : bJ (Region.before ops).toList [] 0 fps with
  | false => rw [hc] at h2; exact (aa h2).elim
  | true =>
    rw [hc] at h2
    obtain ⟨rfl, rfl⟩ := ak h2
    obtain ⟨E, S, V, F, r1, r2, r3, r4, r5, _, r6⟩ := m8 _ _ _ _ _ h1
    simp only [Array.length_toList] at r3 r4 r5
    have R := Iv (E := E) (S := S) (V := V) (F := F) hs hrl (fun k o ho => r6 k o (by rw [Array.getElem?_toList]; exact ho)) r5 hd hc
    have hmono := R.mono (i := 0) (j := ops.size) (by omega) (Nat.le_refl _)
    refine wp_region_any hm ?_
    have hfalse : ∀ k, (Array.replicate ops.size false).getD k false = false := by
      intro k
      by_cases hk : k < ops.size <;> simp [hk]
    refine F7 (df := a.defers) (ι := ι) (w := w) hs hrl sound R hok (by rw [r2, r4]; exact frs) (fun ι2 a2 w2 x1 x2 x3 x4 => hQ ι2 a2 w2 (by rw [← r3]; exact x1) (by rw [r2, r4] at x2; exact x2) x3 x4)
      ops.size _ ι s.h a _ ⟨?_, ?_, ?_, fun b hb _ => hb, hn, rfl⟩ ?_ (by simp) ?_
    · rw [r2, r4] at hmono ⊢
      exact ⟨aD.le_refl _, fun _ q _ => q, hr, rfl, rfl, rfl, Nat.le_refl _, fun _ _ _ => rfl, fun _ _ q => q, hmono⟩
    · intro b; rw [D9 hfalse, r2]
    · intro t; rw [Ez hfalse, r1]; exact he t
    · intro j o _ hj
      have hj' : (Array.replicate ops.size false).getD j false = true := hj
      rw [hfalse j] at hj'; cases hj'
    · exact Nat.le_trans (List.length_filter_le _ _) (by simp)
end Go.Ab
end
section
namespace Go.Ab
def dO (P : Program) (f : Nat) : Prop := ∃ fn b, P.funcs[f]? = some fn /\ fn.body = some b /\ (fn.name == "runtime.NumGoroutine") = false
theorem dO.run {P:Program}{f:Nat} (h:dO P f) (args:Array Value) (w:World):(callFunc f args).run P w=.ok (.enter f args) w:=by
 obtain⟨fn,b,h1,h2,h3⟩:=h
 unfold callFunc
 simp only[Sem.run_bind,run_program,Result.andThen_ok,h1,h3,h2,Option.isNone_some,Bool.false_eq_true,if_false,Sem.run_pure]
def Qj (P:Program) (f:Nat) (args:Array Value) (w:World) (R:Ending->World->Prop):Prop :=
 (∃v' w',(callFunc f args).run P w=.ok (.value v') w'/\R (.returned v') w')\/(dO P f/\Calls P f args w R)
def ri (C:aS) (P:Program) (G:Nat):Prop :=
 ∀(t:Nat) (name:String) g,C.vi t name=some g->∀(x x':Value) (args args':List Value) (s s':St) (v:Value) (ι:aD) (w:World),
  g (x::args) s=some (v,s')->VR ι x x'->bS ι args args'->HR G ι s.h w.heap->(∀b,s.c<=b->b<s'.c->ι b=none) ->
  ∃v' w' ι',(callMethod (.iface t x') name args'.toArray).run P w=.ok (.value v') w'/\VR ι' v v'/\aM G ι ι' s s' w w'
def mP (C:aS) (P:Program) (G:Nat) (rec:kf):Prop :=
 ∀(f:Nat) (args:List Value) (s s':St) (v:Value) (ι:aD) (w:World) (args':List Value) (R:Ending->World->Prop),
  cr C rec f args s=some (v,s')->bS ι args args'->HR G ι s.h w.heap->(∀b,s.c<=b->b<s'.c->ι b=none) ->
  (∀v' w' ι',VR ι' v v'->aM G ι ι' s s' w w'->R (.returned v') w')->Qj P f args'.toArray w R
section
variable {C:aS}{eg:TypeId->Bool}{P:Program}{G n:Nat}{rec:kf}{ι:aD}{s s':St}{w:World}{v:Value}{a:Act}{K:Act->World->Prop}{Q:Exit->Act->World->Prop}{o:Oper}{e:aR}
theorem b9 {m:M Value}{x:Sem Value} (hx:execOp a.eval o=do pure (.value (<- x))) (hsim:d8 G P ι s w m x) (h:m s=some (v,s')) (fr:∀b,s.c<=b->b<s'.c->ι b=none)
  (hK:∀v' w' ι',VR ι' v v'->aM G ι ι' s s' w w'->K (a.put o.dst v') w'):o.wp P a w K Q:=by
 obtain⟨v',w',ι',hrun,hv,hp⟩:=hsim v s' h fr
 unfold Oper.wp
 rw[hx]
 simp only[Sem.run_bind,hrun,Result.andThen_ok,Sem.run_pure]
 exact hK v' w' ι' hv hp
theorem mw {m:M Value}{x:Sem Unit} (hx:execOp a.eval o=do x;pure .skip) (hsim:d8 G P ι s w m (do x;pure undef)) (h:m s=some (v,s')) (fr:∀b,s.c<=b->b<s'.c->ι b=none)
  (hK:∀v' w' ι',VR ι' v v'->aM G ι ι' s s' w w'->K (a.put o.dst v') w'):o.wp P a w K Q:=by
 obtain⟨v',w',ι',hrun,hv,hp⟩:=hsim v s' h fr
 unfold Oper.wp
 rw[hx]
 simp only[Sem.run_bind,Sem.run_pure] at hrun ⊢
 cases hxr:x.run P w with
 |halt q w1=>rw[hxr] at hrun;cases hrun
 |ok u w1 =>
  rw[hxr] at hrun
  simp only[Result.andThen_ok,Result.ok.injEq] at hrun ⊢
  obtain⟨rfl,rfl⟩:=hrun
  exact hK _ _ ι' hv hp
theorem bS.map {ι:aD}{f g:Operand->Value}:∀(l:List Operand),(∀x∈l,VR ι (f x) (g x))->bS ι (gO f l) (l.map g):=by
 intro l
 induction l with
 |nil=>intro _;exact bS.nil ι
 |cons x l ih =>
  intro h
  exact bS.cons (h x (List.mem_cons_self ..)) (ih fun y hy=>h y (List.mem_cons_of_mem _ hy))
theorem vu {ps:Array (Nat×Operand)} (h:∀x∈(ps.toList.map (·.2)).toArray,VR ι (ae e x) (a.eval x)):Iw ι (dA e ps) (ps.map fun(i,x)=>(i,a.eval x)).toList:=by
 unfold dA
 rw[fm]
 refine⟨by simp,fun i p p' hp hp'=>?_⟩
 simp only[List.getElem?_map,Array.toList_map,Array.getElem?_toList] at hp hp'
 cases hi:ps[i]? with
 |none=>rw[hi] at hp;cases hp
 |some q =>
  rw[hi] at hp hp'
  simp only[Option.map_some,Option.some.injEq] at hp hp'
  subst hp;subst hp'
  refine⟨rfl,h q.2 ?_⟩
  simp only[List.mem_toArray,List.mem_map]
  exact⟨q,List.mem_of_getElem? (by rw[Array.getElem?_toList];exact hi),rfl⟩
theorem vK {x:Option Operand} (h:∀y∈x.toArray,VR ι (ae e y) (a.eval y)):tL ι (x.map (ae e)) (x.map a.eval):=by
 cases x with
 |none=>trivial
 |some y=>exact h y (by simp)
theorem wt (hr:HR G ι s.h w.heap) {x x':Value} (hx:VR ι x x'):d8 G P ι s w (eW x) (pure x'):=by
 intro v s' h _
 have:v=x/\s'=s:=by
  unfold eW at h
  split at h<;>first|exact ak h|exact(aa h).elim
 obtain⟨rfl,rfl⟩:=this
 exact⟨x',w,ι,rfl,hx,aM.refl hr rfl rfl⟩
theorem Ec (sc:mP C P G rec) (hr:HR G ι s.h w.heap) {x x':Value}{args args':List Value} (hx:VR ι x x') (ha:bS ι args args')
  (ho:execOp a.eval o=(do let d<-Deferred.ofValue x' args'.toArray;invoke d.target d.args)) (h:callV C rec x args s=some (v,s')) (fr:∀b,s.c<=b->b<s'.c->ι b=none)
  (hK:∀v' w' ι',VR ι' v v'->aM G ι ι' s s' w w'->K (a.put o.dst v') w'):o.wp P a w K Q:=by
 unfold callV at h
 split at h
 ·rename_i g first cap
  cases hx with
  |func _ _ _ first' cap' h1 h2 h3 h4 =>
   rw[cP,cP] at h
   have hargs:bS ι (first.toList++(args++cap.toList)) (first'.toList++(args'++cap'.toList)):=bS.append ⟨h1,h3⟩ (bS.append ha ⟨h2,h4⟩)
   have hran:=sc g _ s s' v ι w _ (fun e w''=>match e with|.returned v=>K (a.put o.dst v) w''|.panicked chain=>Q (.panic chain) a w''|.outgrown=>LetsOut Q) h hargs hr fr hK
   unfold Oper.wp
   rw[ho]
   have e1:(first'++args'.toArray)++cap'=(first'.toList++(args'++cap'.toList)).toArray:=by
    apply Array.ext'
    simp
   have hinv:(Sem.run P (do let d<-Deferred.ofValue (.func (.func g) first' cap') args'.toArray;invoke d.target d.args) w)=(callFunc g (first'.toList++(args'++cap'.toList)).toArray).run P w:=by
    rw[<- e1]
    rfl
   rw[hinv]
   rcases hran with⟨v',w',hrun,hR⟩|⟨hc,hcalls⟩
   ·rw[hrun]
    exact hR
   ·rw[hc.run]
    exact Calls.mono hcalls fun e w'' he=>by cases e<;>exact he
 ·exact(aa h).elim
theorem Fb (ok:C.Ok eg P) (sc:mP C P G rec) (sv:ri C P G) (hr:HR G ι s.h w.heap) {x x':Value}{name:String}{args args':List Value} (hx:VR ι x x') (ha:bS ι args args')
  (ho:execOp a.eval o=invoke (.fn (.method name) #[]) (#[x']++args'.toArray)) (h:vE C rec x name args s=some (v,s')) (fr:∀b,s.c<=b->b<s'.c->ι b=none)
  (hK:∀v' w' ι',VR ι' v v'->aM G ι ι' s s' w w'->K (a.put o.dst v') w'):o.wp P a w K Q:=by
 have hinv:∀(t:Nat) (y':Value),x'=.iface t y'->(invoke (.fn (.method name) #[]) (#[x']++args'.toArray)).run P w=(callMethod (.iface t y') name args'.toArray).run P w:=by
  intro t y' e
  subst e
  unfold invoke
  have e0:(#[Value.iface t y']++args'.toArray)[0]?=some (.iface t y'):=by simp
  simp only[e0]
  have e2:(#[Value.iface t y']++args'.toArray).extract 1 (#[Value.iface t y']++args'.toArray).size=args'.toArray:=by
   apply Array.ext'
   simp
  rw[e2]
 unfold vE at h
 split at h
 ·rename_i t y
  cases hx with
  |iface _ _ y' hy =>
   cases hvi:C.vi t name with
   |some g =>
    rw[hvi] at h
    obtain⟨v',w',ι',hrun,hv,hp⟩:=sv t name g hvi y y' args args' s s' v ι w h hy ha hr fr
    unfold Oper.wp
    rw[ho,hinv t y' rfl,hrun]
    exact hK v' w' ι' hv hp
   |none =>
    rw[hvi] at h
    simp only at h
    cases hm:oN C t y name with
    |none=>rw[hm] at h;exact(aa h).elim
    |some p =>
     obtain⟨f,r⟩:=p
     rw[hm] at h
     simp only at h
     obtain⟨hry,_⟩:=qx hm
     subst hry
     have hran:=sc f _ s s' v ι w (y'::args') (fun e w''=>match e with|.returned v=>K (a.put o.dst v) w''|.panicked chain=>Q (.panic chain) a w''|.outgrown=>LetsOut Q) h (bS.cons hy ha) hr fr hK
     unfold Oper.wp
     have hd:P.types.size+Made.depth=(P.types.size+99)+1:=rfl
     have hcm:(callMethod (.iface t y') name args'.toArray).run P w=(callFunc f (y'::args').toArray).run P w:=by
      unfold callMethod
      simp only[Sem.run_bind,run_program,Result.andThen_ok,hd,As (v':=y') ok hm]
      have e3:#[y']++args'.toArray=(y'::args').toArray:=by
       apply Array.ext'
       simp
      rw[e3]
     rw[ho,hinv t y' rfl,hcm]
     rcases hran with⟨v',w',hrun,hR⟩|⟨hc,hcalls⟩
     ·rw[hrun]
      exact hR
     ·rw[hc.run]
      exact Calls.mono hcalls fun e w'' he=>by cases e<;>exact he
 ·exact(aa h).elim
theorem yc (ok:C.Ok eg P) (hr:HR G ι s.h w.heap) (b:Builtin) (ts:Array TypeId) (ty:TypeId) (cs:Array Bool) {args:List Value}{args':Array Value} (ha:bS ι args args'.toList)
  (hcl:b=.clear->∀t,ts[0]?=some t->(C.und t).isSome=true) (ho:execOp a.eval o=builtin b ts ty cs args') (h:gg C b ts args s=some (v,s')) (fr:∀b,s.c<=b->b<s'.c->ι b=none)
  (hK:∀v' w' ι',VR ι' v v'->aM G ι ι' s s' w w'->K (a.put o.dst v') w'):o.wp P a w K Q:=by
 have two:∀ {x y:Value},args=[x,y]->∃x' y',args'=#[x',y']/\VR ι x x'/\VR ι y y':=by
  intro x y e
  subst e
  obtain⟨x',l,h1,h2,h3⟩:=ha.cons_inv
  obtain⟨y',l',h4,h5,h6⟩:=h3.cons_inv
  have:=h6.nil_inv
  subst this
  exact⟨x',y',Array.ext' (by rw[h1,h4]),h2,h5⟩
 have one:∀ {x:Value},args=[x]->∃x',args'=#[x']/\VR ι x x':=by
  intro x e
  subst e
  obtain⟨x',l,h1,h2,h3⟩:=ha.cons_inv
  have:=h3.nil_inv
  subst this
  exact⟨x',Array.ext' h1,h2⟩
 have h0:∀ {f:TypeId->M Value},((M.lift (cu ts.toList 0)).bind f) s=some (v,s')->∃t,ts[0]?=some t/\f t s=some (v,s'):=by
  intro f hh
  obtain⟨t,s1,q1,q2⟩:=bind_some hh
  obtain⟨q3,rfl⟩:=aI q1
  rw[b8,Array.getElem?_toList] at q3
  exact⟨t,q3,q2⟩
 unfold gg at h
 split at h
 ·obtain⟨x',y',rfl,hx,hy⟩:=two rfl
  exact b9 ho (AT ok hr ts ty hx hy) h fr hK
 ·obtain⟨x',rfl,hx⟩:=one rfl
  obtain⟨t,ht,h⟩:=h0 h
  exact b9 ho (Hu ok hr t ty ts ht hx) h fr hK
 ·obtain⟨x',rfl,hx⟩:=one rfl
  obtain⟨t,ht,h⟩:=h0 h
  exact b9 ho (Hr ok hr t ty ts ht hx) h fr hK
 ·obtain⟨x',y',rfl,hx,hy⟩:=two rfl
  exact b9 ho (FV ok hr ts ty hx hy) h fr hK
 ·obtain⟨x',rfl,hx⟩:=one rfl
  exact b9 ho (C5 ok hr ts ty hx (hcl rfl)) h fr hK
 ·obtain⟨x',y',rfl,hx,hy⟩:=two rfl
  obtain⟨t,ht,h⟩:=h0 h
  exact b9 ho (Bg ok hr t ty ts ht hx hy) h fr hK
 ·obtain⟨x',l,h1,h2,h3⟩:=ha.cons_inv
  refine b9 (x:=Builtin.max_ ts ty args') ho (d8.lift hr fun z hz=>?_) h fr hK
  unfold Builtin.max_
  rw[h1]
  exact xP (fun a b c=>F4 a b c) _ _ _ _ _ h2 h3 hz
 ·obtain⟨x',l,h1,h2,h3⟩:=ha.cons_inv
  refine b9 (x:=Builtin.min_ ts ty args') ho (d8.lift hr fun z hz=>?_) h fr hK
  unfold Builtin.min_
  rw[h1]
  exact xP (fun a b c=>D8 a b c) _ _ _ _ _ h2 h3 hz
 ·exact(aa h).elim
theorem vT {c:Call} (hc:c.callee=.builtin .clear) (h:re C (.call c)=true):∀t,c.argTypes[0]?=some t->(C.und t).isSome=true:=by
 intro t ht
 unfold re at h
 simp only[hc] at h
 rw[b8,Array.getElem?_toList,ht] at h
 exact h
theorem Hg (ok:C.Ok eg P) (sc:mP C P G rec) (sv:ri C P G):kR C eg P G n rec:=by
 intro e o s s' v ι w a K Q hok h hv hr fr hK
 obtain⟨dst,op,ty,pos,after,guard⟩:=o
 have hcl:re C op=true:=by
  unfold ed at hok
  rw[Bool.and_eq_true] at hok
  exact hok.2
 unfold dp at h
 cases op
 case move x=>exact b9 (x:=pure (a.eval x)) rfl (d8.pure hr rfl (hv x (by simp [Op.operands]))) h fr hK
 case assign x=>exact b9 (x:=pure (a.eval x)) rfl (d8.pure hr rfl (hv x (by simp [Op.operands]))) h fr hK
 case pick c x y =>
  have hc:=hv c (by simp [Op.operands])
  have hx:=hv x (by simp [Op.operands])
  have hy:=hv y (by simp [Op.operands])
  have h':oI e c x y s=some (v,s'):=h
  unfold oI at h'
  unfold Oper.wp
  generalize ae e c=q at h' hc
  cases q with
  |bool b =>
   have hb:a.eval c=.bool b:=by generalize a.eval c=q at hc;cases hc;rfl
   cases b with
   |true =>
    obtain⟨rfl,rfl⟩:=ak h'
    simp only[execOp,hb,asBool,Sem.run_bind,Sem.run_pure,Result.andThen_ok,if_true]
    exact hK _ w ι hx (aM.refl hr rfl rfl)
   |false =>
    obtain⟨rfl,rfl⟩:=ak h'
    simp only[execOp,hb,asBool,Sem.run_bind,Sem.run_pure,Result.andThen_ok,Bool.false_eq_true,if_false]
    exact hK _ w ι hy (aM.refl hr rfl rfl)
  |_=>exact(aa (s:=s) h').elim
 case alloc t=>exact b9 rfl (Dj ok hr t) h fr hK
 case box t x=>exact b9 rfl (BK hr t (hv x (by simp [Op.operands]))) h fr hK
 case build t ps=>exact b9 rfl (Cy ok hr t (vu hv)) h fr hK
 case buildSlice t k ps=>exact b9 rfl (rE ok hr t k (vu hv)) h fr hK
 case insert t m k x=>exact mw rfl (nh ok hr t (hv m (by simp [Op.operands])) (hv k (by simp [Op.operands])) (hv x (by simp [Op.operands]))) h fr hK
 case load t x=>exact b9 rfl (Eb ok hr t (hv x (by simp [Op.operands]))) h fr hK
 case store t x y=>exact mw rfl (CH ok hr t (hv x (by simp [Op.operands])) (hv y (by simp [Op.operands]))) h fr hK
 case nilCheck x =>
  have hx:=hv x (by simp [Op.operands])
  have h':eW (ae e x) s=some (v,s'):=h
  refine b9 (x:=pure (a.eval x)) ?_ (wt hr hx) h fr hK
  unfold eW at h'
  simp only[execOp]
  generalize ae e x=q at h' hx
  generalize a.eval x=q' at hx
  cases q with
  |pointer p =>
   cases p with
   |none=>exact(aa (s:=s) h').elim
   |some p=>cases hx;rfl
  |map r=>cases hx<;>rfl
  |iface t y=>cases hx;rfl
  |func f x y =>
   cases f with
   |func f=>cases hx;rfl
   |_=>exact(aa (s:=s) h').elim
  |_=>exact(aa (s:=s) h').elim
 case binOp op t x y z=>exact b9 rfl (G5 ok hr op t x y (hv x (by simp [Op.operands])) (hv y (by simp [Op.operands]))) h fr hK
 case unOp op t x=>exact b9 rfl (Ih hr op (hv x (by simp [Op.operands]))) h fr hK
 case convert t u x=>exact b9 rfl (zd ok hr t u (hv x (by simp [Op.operands]))) h fr hK
 case makeInterface t x=>exact b9 rfl (n3 ok hr t (hv x (by simp [Op.operands]))) h fr hK
 case makeFunc f x y =>
  refine b9 (x:=Instr.makeFunc f (x.map a.eval) (y.map a.eval)) rfl (d8.pure hr rfl ?_) h fr hK
  have h1:=bS.map (ι:=ι) (f:=ae e) (g:=a.eval) x.toList fun z hz=>hv z (by simp only[Op.operands,Array.mem_append];exact .inl (Array.mem_toList_iff.1 hz))
  have h2:=bS.map (ι:=ι) (f:=ae e) (g:=a.eval) y.toList fun z hz=>hv z (by simp only[Op.operands,Array.mem_append];exact .inr (Array.mem_toList_iff.1 hz))
  rw[<- Array.toList_map] at h1 h2
  exact .func _ _ _ _ _ h1.1 h2.1 h1.2 h2.2
 case makeMap t r =>
  cases r with
  |some x=>exact(aa (s:=s) h).elim
  |none =>
   have h':((newO (ag.map [] 0)).bind fun b=>M.ret (Value.map (some b))) s=some (v,s'):=h
   obtain⟨b,s1,q1,q2⟩:=bind_some h'
   obtain⟨rfl,rfl⟩:=ak q2
   obtain⟨q3,rfl,rfl⟩:=dZ q1
   have hp:aM G ι (ι.upd s.c ⟨w.heap.size,0,0⟩) s ⟨s.h.set s.c (some (.map [] 0)),s.c+1,s.rl,s.wl⟩ w (w.alloc (.map #[] 0)) :=
    aM.alloc hr (fr _ (Nat.le_refl _) (Nat.lt_succ_self _)) rfl rfl fun ι' hle=>⟨#[],by show (w.heap.push _)[w.heap.size]?=_;simp,rfl,by simp⟩
   unfold Oper.wp
   have hrun:Sem.run P (execOp a.eval ⟨dst,.makeMap t none,ty,pos,after,guard⟩) w=.ok (.value (.map (some w.heap.size))) (w.alloc (.map #[] 0)):=by
    simp only[execOp,Instr.makeMap,Option.map_none,Sem.run_bind,Sem.run_pure,Result.andThen_ok,run_newObj]
    rfl
   rw[hrun]
   exact hK _ _ _ (.map s.c ⟨w.heap.size,0,0⟩ (aD.upd_same ..)) hp
 case makeSlice t l c=>exact b9 rfl (tY ok hr t (hv l (by simp [Op.operands])) (hv c (by simp [Op.operands]))) h fr hK
 case slice t x lo hi mx =>
  exact b9 rfl (DJ ok hr t (hv x (by simp [Op.operands])) (vK fun y hy=>hv y (by simp only[Op.operands,Array.mem_append];exact .inl (.inl (.inr hy))))
   (vK fun y hy=>hv y (by simp only[Op.operands,Array.mem_append];exact .inl (.inr hy))) (vK fun y hy=>hv y (by simp only[Op.operands,Array.mem_append];exact .inr hy))) h fr hK
 case fieldAddr t x f=>exact b9 rfl (ub ok hr t f (hv x (by simp [Op.operands]))) h fr hK
 case field t x f=>exact b9 rfl (CR ok hr t f (hv x (by simp [Op.operands]))) h fr hK
 case indexAddr t x i=>exact b9 rfl (tH ok hr t (hv x (by simp [Op.operands])) (hv i (by simp [Op.operands]))) h fr hK
 case index t x i=>exact b9 rfl (Dl ok hr t (hv x (by simp [Op.operands])) (hv i (by simp [Op.operands]))) h fr hK
 case lookup t m k c=>exact b9 rfl (AS ok hr t c (hv m (by simp [Op.operands])) (hv k (by simp [Op.operands]))) h fr hK
 case mapUpdate t m k x=>exact mw rfl (nh ok hr t (hv m (by simp [Op.operands])) (hv k (by simp [Op.operands])) (hv x (by simp [Op.operands]))) h fr hK
 case typeAssert x t u c=>exact b9 rfl (tp ok hr t u c (hv x (by simp [Op.operands]))) h fr hK
 case extract x i=>exact b9 rfl (yg hr i (hv x (by simp [Op.operands]))) h fr hK
 case call c =>
  obtain⟨callee,cargs,cts⟩:=c
  have hargs:=bS.map (ι:=ι) (f:=ae e) (g:=a.eval) cargs.toList fun z hz=>hv z (by simp only[Op.operands,Call.operands,Array.mem_append];exact .inr (Array.mem_toList_iff.1 hz))
  rw[<- Array.toList_map] at hargs
  cases callee with
  |builtin b =>
   exact yc ok hr b cts ty _ hargs (fun hb=>by subst hb;exact vT rfl hcl) rfl h fr hK
  |value f =>
   exact Ec sc hr (hv f (by simp [Op.operands,Call.operands])) hargs rfl h fr hK
  |invoke r name =>
   exact Fb ok sc sv hr (hv r (by simp [Op.operands,Call.operands])) hargs rfl h fr hK
 all_goals exact(aa (s:=s) h).elim
end
end Go.Ab
end
