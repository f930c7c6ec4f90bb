import Derived.Test.YtofikbfljjjgeaaGreatDoorDX1
import Derived.Test.YtofikbfljjjgeaaGreatDoorDF2
set_option linter.unusedVariables false
set_option linter.unusedSimpArgs false
section
/- Hits put in order by a closure: slices.SortFunc of a dozen or fewer (the abstract machine). -/
namespace Go.Ab
section
variable {C : Ctx} {eg : TypeId → Bool} {all os : List Oper} {loc kept : L} {h : T AObj} {c : Nat} {rl wl : List Nat} {Q : Env → St → Prop} {d : Nat} {ty : TypeId} {ps : String} {af : Array Edge} {g : Option (Nat × Bool)} {bef : List Nat} {done : List (Nat × Fp)} {j : Nat}
theorem Wtr.callV {f : Nat} {fo : Operand} {first cap : Array Value} {ar : Array Operand} {ts : Array TypeId} {args : List Value} {P : Value → St → Prop} (hw : wantedA all (.mk loc kept) ⟨some d, .call ⟨.value fo, ar, ts⟩, ty, ps, af, g⟩ = some true) (hf : evalA (.mk loc kept) fo = .func (.func f) first cap) (ha : mapA (evalA (.mk loc kept)) ar.toList = args)
  (hc : ∃ v s', FnTo C eg f (app first.toList (app args cap.toList)) ⟨h, c, [], []⟩ v s' ∧ P v s') (k : ∀ v h' c' r1 w1, P v ⟨h', c', r1, w1⟩ → (∀ p ∈ done, ordB bef j p.1 = true ∨ ApartP p.2 ⟨r1, w1, c, c'⟩) ∧ Wtr C eg all bef ((j, ⟨r1, w1, c, c'⟩) :: done) (j + 1) os (.mk (.cons d v loc) kept) ⟨h', c', r1 ++ rl, w1 ++ wl⟩ Q) :
  Wtr C eg all bef done j (⟨some d, .call ⟨.value fo, ar, ts⟩, ty, ps, af, g⟩ :: os) (.mk loc kept) ⟨h, c, rl, wl⟩ Q := by
 obtain ⟨v, ⟨h', c', r1, w1⟩, h1, h2⟩ := hc
 obtain ⟨k1, k2⟩ := k v h' c' r1 w1 h2
 exact Wtr.op hw (OpTo.ofCallV hf ha h1) k1 k2
end
end Go.Ab
namespace Go.Ab.Seat
open Go.Extern Go.Proofs
set_option maxRecDepth 4000
variable {sm : Nat → Option (List Value → M Value)}
theorem cmp_spec (H : Std sm) {h : T AObj} {c : Nat} {rl wl : List Nat} (hf : Fresh h c) (a b : Ht) :
  ∃ r s', FnTo (Cs sm) eg 186 [hitv a.id a.sc, hitv b.id b.sc] ⟨h, c, rl, wl⟩ r s' ∧ r = .int .i64 (if lessH a b then -1 else 1) ∧ Ext ⟨h, c, rl, wl⟩ s' (fun _ => False) (fun _ => False) := by
 refine Fn.go (H 186 rfl) ex186 fn186 km186 rfl rfl ?_
 refine Zev ?_
 refine Zgo ?_
 refine Wseq.call rfl rfl (less_spec H Zfr a b) ?_
 rintro v h1 c1 r1 w1 ⟨rfl, hext⟩
 have q1 := hext.c
 dsimp only at q1
 have hf1 : Fresh h1 c1 := hext.fresh
 have kp := Kp.ext (W := fun _ => False) (h := h) (c := c) Zkp hext (by omega) (fun _ _ q => q)
 have lr := Lg.extR (R := fun _ => False) (c := c) Zlg hext (fun _ _ q => q)
 have lw := Lg.extW (W := fun _ => False) (c := c) Zlg hext (fun _ _ q => q)
 cases hl : lessH a b
 ·refine Zgo ?_
  refine ⟨.inr rfl, Wres.one rfl ⟨rfl, ?_⟩⟩
  exact Zex
 ·refine Zgo ?_
  refine ⟨.inr rfl, Wres.one rfl ⟨rfl, ?_⟩⟩
  exact Zex
theorem setH {A B : List Ht} {y x : Ht} : setMany [.int .i64 y.id, .int .i64 y.sc] (flatH (A ++ x :: B)) (0 + A.length * 2) = some (flatH (A ++ y :: B)) := by
 rw [setMany_eq _ _ _ (by rw [flatH_len, List.length_append, List.length_cons]; simp; omega) (by intro v hv; simp only [List.mem_cons, List.not_mem_nil, or_false] at hv; rcases hv with rfl | rfl <;> rfl)]
 have e1 : 0 + A.length * 2 = A.length * 2 := by omega
 have e2 : 0 + A.length * 2 + [Value.int .i64 y.id, .int .i64 y.sc].length = (A.length + 1) * 2 := by simp; omega
 rw [e2, e1, flatH_take, flatH_drop, List.take_left]
 have e3 : (A ++ x :: B).drop (A.length + 1) = B := by
  rw [show A ++ x :: B = (A ++ [x]) ++ B by simp, show A.length + 1 = (A ++ [x]).length by simp, List.drop_left]
 rw [e3, flatH_app]
 show some (flatH A ++ [Value.int .i64 y.id, .int .i64 y.sc] ++ flatH B) = some (flatH A ++ flatH (y :: B))
 rw [List.append_assoc]; rfl
theorem subH {A B : List Ht} {x : Ht} : subN (0 + A.length * 2) 2 (flatH (A ++ x :: B)) = some [.int .i64 x.id, .int .i64 x.sc] :=
 sub_hit (subN_all _ _ (by rw [flatH_len])) (by rw [List.getElem?_append_right (Nat.le_refl _), Nat.sub_self]; rfl)
def EI (b n : Nat) (i : Int) (j9 j14 j34 : Value) : L :=
 .cons 3 (.func (.func 186) #[] #[]) (.cons 2 (.int .i64 (n : Int)) (.cons 1 (.int .i64 0) (.cons 0 (.slice (some ⟨b, 0, none⟩) n n) (.cons 8 (.int .i64 i) (.cons 9 j9 (.cons 14 j14 (.cons 34 j34 .nil)))))))
set_option maxHeartbeats 4000000 in
theorem isort_spec (H : Std sm) {h : T AObj} {c : Nat} {rl wl : List Nat} (hf : Fresh h c) {b n : Nat} {l : List Ht} (hb : Has h b (.cells (flatH l))) (hn : l.length = n) (hn' : n ≤ 1000) (hd : (l.map Ht.id).Nodup) :
  ∃ r s', FnTo (Cs sm) eg 241 [.slice (some ⟨b, 0, none⟩) n n, .int .i64 0, .int .i64 (n : Int), .func (.func 186) #[] #[]] ⟨h, c, rl, wl⟩ r s' ∧ Has s'.h b (.cells (flatH (bestOf n l))) ∧ Ext ⟨h, c, rl, wl⟩ s' (fun x => x = b) (fun x => x = b) := by
 have lb := hb.lt hf
 refine Fn.go (H 241 rfl) ex241 fn241 km241 rfl rfl ?_
 refine Zev ?_
 refine Zgo ?_
 refine Wx.loopE (fun k1 e s => ∃ (i : Nat) (z : Int) (j9 j14 j34 : Value) (h' : T AObj) (c' : Nat) (rl' wl' : List Nat), e = EI b n z j9 j14 j34 ∧ z = i ∧ s = ⟨h', c', rl', wl'⟩ ∧ Fresh h' c' ∧ c ≤ c' ∧ Kp h h' c (fun x => x = b) ∧ Has h' b (.cells (flatH (bestOf n (l.take i) ++ l.drop i))) ∧ Lg c (fun x => x = b) rl' ∧ Lg c (fun x => x = b) wl' ∧ k1 = n - i) (n - 1) (EI b n 1 top top top) Zrs ?_ ?_ ?_
 ·unfold EI
  exact Zek
 ·refine ⟨1, 1, _, _, _, _, _, _, _, rfl, rfl, rfl, Zfr, by omega, Zkp, ?_, Zlg, Zlg, rfl⟩
  have : bestOf n (l.take 1) ++ l.drop 1 = l := by
   cases l with
   | nil => rfl
   | cons x r =>
    have : bestOf n ((x :: r).take 1) = [x] := by
     show putB n [] x = [x]
     rw [putB_ins (fun _ h => absurd h List.not_mem_nil) (by rw [← hn]; simp)]; rfl
    rw [this]; rfl
  rw [this]; exact hb
 ·rintro k1 e s ⟨i, z, j9, j14, j34, h', c', rl', wl', rfl, hz, rfl, hf', hcc, hkp, hB, hlr, hlw, rfl⟩
  unfold EI
  by_cases hi : i < n
  ·have hp2 := bestOf_ord (k := n) hd i (by omega) (by omega)
   have hp3 := bestOf_len_eq (k := n) hd (m := i) (by omega) (by omega)
   have hp4 : bestOf n (l.take (i + 1)) = insB (l[i]'(by omega)) (bestOf n (l.take i)) := by
    rw [bestOf_take (by omega), putB_ins (fun y hy => ids_ne hd (by omega) y (hp2.1.mem_iff.1 hy)) (by omega)]
   have hp5 : ∀ y ∈ bestOf n (l.take i), y.id ≠ (l[i]'(by omega)).id := fun y hy => ids_ne hd (by omega) y (hp2.1.mem_iff.1 hy)
   have hp6 : l.drop i = l[i]'(by omega) :: l.drop (i + 1) := List.drop_eq_getElem_cons (by omega)
   rw [hp6] at hB
   clear hp6
   revert hB hp4 hp5
   generalize (l[i]'(by omega)) = x
   intro hB hp4 hp5
   have hp2' := hp2.2
   clear hp2
   revert hB hp4 hp5 hp2' hp3
   generalize bestOf n (l.take i) = p
   intro hp3 hB hp4 hp5 hp2'
   refine Zgo ?_
   refine Wx.loopE (fun k1 e s => ∃ (A q : List Ht) (z9 : Int) (j14 j34 : Value) (h2 : T AObj) (c2 : Nat) (rl2 wl2 : List Nat), e = EI b n z (.int .i64 z9) j14 j34 ∧ z9 = A.length ∧ s = ⟨h2, c2, rl2, wl2⟩ ∧ Fresh h2 c2 ∧ c ≤ c2 ∧ Kp h h2 c (fun x => x = b) ∧ Has h2 b (.cells (flatH (A ++ x :: (q ++ l.drop (i + 1))))) ∧ p = A ++ q ∧ (∀ y ∈ q, lessH x y = true) ∧ Lg c (fun x => x = b) rl2 ∧ Lg c (fun x => x = b) wl2 ∧ k1 = A.length) p.length (EI b n z (.int .i64 z) (.bool true) j34) Zrs ?_ ?_ ?_
   ·unfold EI
    exact Zek
   ·exact ⟨p, [], z, _, _, _, _, _, _, rfl, by omega, rfl, hf', hcc, hkp, hB, (List.append_nil p).symm, fun _ h => absurd h List.not_mem_nil, hlr, hlw, rfl⟩
   ·rintro k1 e s ⟨A, q, z9, j14, j34, h2, c2, rl2, wl2, rfl, hz9, rfl, hf2, hcc2, hkp2, hB2, hpq, hq, hlr2, hlw2, rfl⟩
    unfold EI
    rcases List.eq_nil_or_concat A with rfl | ⟨A', y, hAA⟩
    ·simp only [List.length_nil] at hz9
     refine Zgo ?_
     refine RoundE.go (n - (i + 1)) (EI b n (z + 1) _ _ _) (by omega) Zek ⟨i + 1, z + 1, _, _, _, _, _, _, _, rfl, by omega, rfl, hf2, hcc2, hkp2, ?_, hlr2, hlw2, rfl⟩
     have e : insB x p = x :: q := by
      rw [hpq]
      exact insB_at (A := []) (by rw [← hpq]; exact hp2') (by rw [← hpq]; exact hp5) hq (fun y hy => by cases hy)
     rw [hp4, e]
     exact hB2
    ·obtain rfl : A = A' ++ [y] := by rw [hAA]; simp
     clear hAA
     have hA1 : (A' ++ [y]).length = A'.length + 1 := by simp
     have hB3 : Has h2 b (.cells (flatH (A' ++ y :: x :: (q ++ l.drop (i + 1))))) := by
      have e : A' ++ [y] ++ x :: (q ++ l.drop (i + 1)) = A' ++ y :: x :: (q ++ l.drop (i + 1)) := by simp
      rwa [e] at hB2
     have hs1 : subN (0 + (A'.length + 1) * 2) 2 (flatH (A' ++ y :: x :: (q ++ l.drop (i + 1)))) = some [.int .i64 x.id, .int .i64 x.sc] := by
      have := subH (A := A' ++ [y]) (x := x) (B := q ++ l.drop (i + 1))
      rwa [hA1, List.append_assoc] at this
     have hs2 : subN (0 + A'.length * 2) 2 (flatH (A' ++ y :: x :: (q ++ l.drop (i + 1)))) = some [.int .i64 y.id, .int .i64 y.sc] := subH
     have hlen : A'.length + 1 + q.length = i := by rw [← hp3, hpq]; simp; omega
     have lb2 := hB3.lt hf2
     refine Zgo ?_
     refine Zq (to_indexAddr (k := A'.length + 1) el37 rfl rfl (by omega) (by omega)) ?_
     refine Zd (to_loadS (ag_ rfl) rfl hB3.cel (by omega) hs1) ?_
     refine Zgo ?_
     refine Zq (to_indexAddr (k := A'.length) el37 rfl rfl (by omega) (by omega)) ?_
     refine Zd (to_loadS (ag_ rfl) rfl hB3.cel (by omega) hs2) ?_
     cases hl : lessH x y
     ·refine Wtr.callV rfl rfl rfl (cmp_spec H Zfr x y) ?_
      rintro v h3 c3 r3 w3 ⟨rfl, hext⟩
      have hqt := hext.quiet (fun _ _ q => q)
      have kp3 := Kp.ext (W := fun x => x = b) (h := h) (c := c) Zkp hext (by omega) (fun _ _ q => q.elim)
      have lr3 := Lg.extR (R := fun x => x = b) (c := c) Zlg hext (fun _ _ q => q.elim)
      have lw3 := Lg.extW (W := fun x => x = b) (c := c) Zlg hext (fun _ _ q => q.elim)
      have fr3 := hext.fresh
      have le3 := hext.c
      simp only at le3 fr3
      have hB4 := hext.hs hB3 lb2 (fun q => q)
      rw [hl]
      simp only [Bool.false_eq_true, ↓reduceIte]
      refine ⟨Zap, ?_⟩
      refine Zgo ?_
      refine RoundE.go (n - (i + 1)) (EI b n (z + 1) _ _ _) (by omega) Zek ⟨i + 1, z + 1, _, _, _, _, _, _, _, rfl, by omega, rfl, fr3, by omega, kp3, ?_, Zlg, Zlg, rfl⟩
      have e : insB x p = A' ++ y :: x :: q := by
       rw [hpq, insB_at (by rw [← hpq]; exact hp2') (by rw [← hpq]; exact hp5) hq (fun y' hy => by
        rw [List.getLast?_concat] at hy
        cases hy; exact hl)]
       simp
      rw [hp4, e, List.append_assoc]
      exact hB4
     ·refine Wtr.callV rfl rfl rfl (cmp_spec H Zfr x y) ?_
      rintro v h3 c3 r3 w3 ⟨rfl, hext⟩
      have hqt := hext.quiet (fun _ _ q => q)
      have kp3 := Kp.ext (W := fun x => x = b) (h := h) (c := c) Zkp hext (by omega) (fun _ _ q => q.elim)
      have lr3 := Lg.extR (R := fun x => x = b) (c := c) Zlg hext (fun _ _ q => q.elim)
      have lw3 := Lg.extW (W := fun x => x = b) (c := c) Zlg hext (fun _ _ q => q.elim)
      have fr3 := hext.fresh
      have le3 := hext.c
      simp only at le3 fr3
      have hB4 := hext.hs hB3 lb2 (fun q => q)
      have hset1 : setMany [.int .i64 y.id, .int .i64 y.sc] (flatH (A' ++ y :: x :: (q ++ l.drop (i + 1)))) (0 + (A'.length + 1) * 2) = some (flatH (A' ++ y :: y :: (q ++ l.drop (i + 1)))) := by
       have := setH (A := A' ++ [y]) (B := q ++ l.drop (i + 1)) (y := y) (x := x)
       rwa [hA1, List.append_assoc, List.append_assoc] at this
      have hset2 : setMany [.int .i64 x.id, .int .i64 x.sc] (flatH (A' ++ y :: y :: (q ++ l.drop (i + 1)))) (0 + A'.length * 2) = some (flatH (A' ++ x :: y :: (q ++ l.drop (i + 1)))) := setH
      rw [hl]
      simp only [↓reduceIte]
      refine ⟨Zap, ?_⟩
      refine Zgo ?_
      refine Zq (to_indexAddr (k := A'.length) el37 rfl rfl (by omega) (by omega)) ?_
      refine Zd (to_loadS (ag_ rfl) rfl hB4.cel (by omega) hs2) ?_
      refine Zgo ?_
      refine Zq (to_indexAddr (k := A'.length + 1) el37 rfl rfl (by omega) (by omega)) ?_
      refine Zd (to_loadS (ag_ rfl) rfl hB4.cel (by omega) hs1) ?_
      refine Zgo ?_
      refine Zq (to_indexAddr (k := A'.length + 1) el37 rfl rfl (by omega) (by omega)) ?_
      ((with_reducible apply Wtr.so); rfl; exact (sz_ rfl); rfl; exact hB4; omega; exact Zap; refine Znv ?_; refine ⟨_, _, (by (first | exact cellsA_agg _ | rfl)), rfl, hset1, ?_⟩)
      refine Zgo ?_
      refine Zq (to_indexAddr (k := A'.length) el37 rfl rfl (by omega) (by omega)) ?_
      ((with_reducible apply Wtr.so); rfl; exact (sz_ rfl); rfl; exact Has.same; omega; exact Zap; refine Znv ?_; refine ⟨_, _, (by (first | exact cellsA_agg _ | rfl)), rfl, hset2, ?_⟩)
      refine Zgo ?_
      refine RoundE.go A'.length (EI b n z (.int .i64 (z9 - 1)) _ _) (by omega) Zek ⟨A', y :: q, z9 - 1, _, _, _, _, _, _, rfl, by omega, rfl, Zfr, by omega, Zkp, Has.same, by rw [hpq]; simp, fun y' hy => ?_, Zlg, Zlg, rfl⟩
      rcases List.mem_cons.1 hy with rfl | hy
      ·exact hl
      ·exact hq y' hy
  ·refine Zgo ?_
   refine ⟨.inl rfl, Wres.nil ⟨?_, ?_⟩⟩
   ·rw [List.take_of_length_le (by omega), List.drop_of_length_le (by omega), List.append_nil] at hB
    exact hB
   ·exact Zex
end Go.Ab.Seat
end
section
/- slices.Insert of one hit, where there is room (the abstract machine). -/
namespace Go.Ab.Seat
open Go.Extern Go.Proofs
set_option maxRecDepth 4000
variable {sm : Nat → Option (List Value → M Value)}
theorem it3 : intT (Cs sm) 3 = true := by kernel_rfl
theorem exOver : (Cs sm).ex 227 = some xOverlaps := by kernel_rfl
theorem over_spec (H : sm 227 = none) {h : T AObj} {c : Nat} {rl wl : List Nat} {va vb : Addr} {n m vc cap : Nat} {ws cs : List Value} {y : Value} (hv : Has h va.block (.cells ws)) (hc : va.block < c) (hb : Has h vb.block (.cells cs)) (hcb : vb.block < c) (hne : va.block ≠ vb.block) (hy : nth cs 0 = some y) (hm : m = n + 1) :
  ∃ r s', FnTo (Cs sm) eg 227 [.slice (some va) 1 vc, .slice (some vb) m cap] ⟨h, c, rl, wl⟩ r s' ∧ (r = .bool false ∧ s' = ⟨h, c, vb.block :: va.block :: rl, wl⟩) := by
 subst hm
 refine ⟨_, _, FnTo.of_ex H exOver ?_, rfl, rfl⟩
 show (bif Nat.beq va.block vb.block then M.fail else (getCellsW va.block).bind fun _ => (getCellsW vb.block).bind fun cs => match nth cs 0 with | some _ => M.ret (Value.bool false) | none => M.fail) _ = _
 rw [beq_false.2 hne, cond_false, bind_run (getCellsW_run hv hc), bind_run (getCellsW_run hb hcb), hy]
 rfl
theorem nth_sub {o n : Nat} {cs xs : List Value} (h : subN o (n + 1) cs = some xs) : ∃ y, nth cs 0 = some y := by
 cases cs with
 | nil =>
  have := (subN_some _ _ _ _ h).2.1
  simp at this
 | cons y cs => exact ⟨y, rfl⟩
set_option maxHeartbeats 4000000 in
theorem ins_room (H : sm 200 = none) (H' : sm 227 = none) {h : T AObj} {c : Nat} {rl wl : List Nat} (hf : Fresh h c) {b o i m vb vo vc : Nat} {sp : Option Nat} {cs ws vv A B t2 : List Value} (hb : Has h b (.cells cs)) (hs : subN o ((i + 1 + m + 1) * 2) cs = some (A ++ B ++ t2)) (hA : A.length = i * 2) (hB : B.length = (m + 1) * 2)
  (hv : Has h vb (.cells ws)) (hvs : subN vo 2 ws = some vv) (hne : vb ≠ b) (hat : ∀ x ∈ B, atom x = true) (hat' : ∀ x ∈ vv, atom x = true) (hbig : i + 1 + m + 1 ≤ big) :
  ∃ r s', FnTo (Cs sm) eg 200 [.slice (some ⟨b, o, some 2⟩) (i + 1 + m) (i + 1 + m + 1), .int .i64 (i : Int), .slice (some ⟨vb, vo, sp⟩) 1 vc] ⟨h, c, rl, wl⟩ r s' ∧ (r = .slice (some ⟨b, o, some 2⟩) (i + 1 + m + 1) (i + 1 + m + 1) ∧ s'.c = c ∧ ∃ cs', Has s'.h b (.cells cs') ∧ subN o ((i + 1 + m + 1) * 2) cs' = some (A ++ vv ++ B)) ∧ Ext ⟨h, c, rl, wl⟩ s' (fun x => x = b ∨ x = vb) (fun x => x = b) := by
 have l1 := hb.lt hf
 have l2 := hv.lt hf
 have hbg : big = 1048576 := rfl
 have lv : vv.length = 2 := (subN_some _ _ _ _ hvs).1
 have lt2 : t2.length = 2 := by
  have := (subN_some _ _ _ _ hs).1
  simp only [List.length_append] at this
  omega
 -- the row, cut elsewhere
 obtain ⟨X, Y, hXY, hX, hY⟩ : ∃ X Y : List Value, B ++ t2 = X ++ Y ∧ X.length = 2 ∧ Y.length = (m + 1) * 2 := by
  refine ⟨(B ++ t2).take 2, (B ++ t2).drop 2, (List.take_append_drop 2 _).symm, ?_, ?_⟩
  ·rw [List.length_take, List.length_append]; omega
  ·rw [List.length_drop, List.length_append]; omega
 obtain ⟨c1, s1, s2⟩ := setMany_row (o := o) (k := (i + 1) * 2) (A := A ++ X) (B := Y) (B' := B) (D := []) (cs := cs) (n := (i + 1 + m + 1) * 2) (by rw [hs, List.append_assoc, hXY]; simp) (by rw [List.length_append]; omega) (by omega) hat
 obtain ⟨c2, s3, s4⟩ := setMany_row (o := o) (k := i * 2) (A := A) (B := X) (B' := vv) (D := B) (cs := c1) (n := (i + 1 + m + 1) * 2) (by rw [s2]; simp) hA (by omega) hat'
 have hsB : subN (o + i * 2) ((m + 1) * 2) cs = some B := by
  have e : subN o (i * 2 + ((m + 1) * 2 + 2)) cs = some (A ++ (B ++ t2)) := by rw [← List.append_assoc, ← hs]; congr 1; omega
  exact (subN_app (subN_app e hA).2 hB).1
 have hneB : B ≠ [] := by rintro rfl; simp at hB
 have hneV : vv ≠ [] := by rintro rfl; simp at lv
 obtain ⟨y, hy⟩ := nth_sub (n := (i + 1 + m) * 2 + 1) (o := o) (cs := cs) (xs := A ++ B ++ t2) (by rw [show (i + 1 + m) * 2 + 1 + 1 = (i + 1 + m + 1) * 2 by omega]; exact hs)
 refine Fn.go H ex200 fn200 km200 rfl rfl ?_
 refine Zev ?_
 refine Zgo ?_
 refine Zu (to_sliceOwn el37 rfl rfl rfl (by omega) (by omega)) ?_
 refine Zgo ?_
 refine Zu (to_capI sl37 rfl) ?_
 refine Zu (to_gtrLeast rfl rfl (m := i + 1 + m + 1) (by omega) (by omega)) ?_
 refine Zgo ?_
 refine Zu (to_sliceHi el37 rfl rfl (k := i + 1 + m + 1) (by omega) (by omega) (fun a ha => by cases ha; exact .inr rfl)) ?_
 refine Zgo ?_
 refine Zu (to_sliceOwn el37 rfl rfl (k := i + 1) (by omega) (by omega) (by omega)) ?_
 refine Wseq.call rfl rfl (over_spec (n := m) H' hv (by omega) hb (by omega) hne hy (by omega)) ?_
 rintro v h1 c1' r1 w1 ⟨rfl, e1⟩
 cases e1
 refine Zgo ?_
 refine Zq (to_sliceOwn el37 rfl rfl (k := i + 1) (by omega) (by omega) (by omega)) ?_
 refine Zgo ?_
 refine Zq (to_sliceOwn el37 rfl rfl (k := i) (by omega) (by omega) (by omega)) ?_
 refine Zd (to_copy ro37 rfl rfl (j := m) (by show min _ _ = _; omega) hb.cel (by omega) hsB hneB hb (by omega) s1) ?_
 refine Zgo ?_
 refine Zu (to_sliceOwn el37 rfl rfl (k := i) (by omega) (by omega) (by omega)) ?_
 refine Zgo ?_
 refine Zu (to_copy ro37 rfl rfl (j := 0) (by show min _ _ = _; omega) (hv.other hne).cel (by omega) hvs hneV Has.same (by omega) s3) ?_
 refine Zgo ?_
 refine ⟨.inr rfl, Wres.one rfl ⟨⟨rfl, rfl, _, Has.same, s4⟩, ?_⟩⟩
 exact Zex
theorem ins_roomE (H : sm 200 = none) {h : T AObj} {c : Nat} {rl wl : List Nat} (hf : Fresh h c) {b o n vb vo vc : Nat} {sp : Option Nat} {cs ws vv A t2 : List Value} (hb : Has h b (.cells cs)) (hs : subN o ((n + 1) * 2) cs = some (A ++ t2)) (hA : A.length = n * 2)
  (hv : Has h vb (.cells ws)) (hvs : subN vo 2 ws = some vv) (hat' : ∀ x ∈ vv, atom x = true) (hbig : n + 1 ≤ big) :
  ∃ r s', FnTo (Cs sm) eg 200 [.slice (some ⟨b, o, some 2⟩) n (n + 1), .int .i64 (n : Int), .slice (some ⟨vb, vo, sp⟩) 1 vc] ⟨h, c, rl, wl⟩ r s' ∧ (r = .slice (some ⟨b, o, some 2⟩) (n + 1) (n + 1) ∧ s'.c = c ∧ ∃ cs', Has s'.h b (.cells cs') ∧ subN o ((n + 1) * 2) cs' = some (A ++ vv)) ∧ Ext ⟨h, c, rl, wl⟩ s' (fun x => x = b ∨ x = vb) (fun x => x = b) := by
 have l1 := hb.lt hf
 have l2 := hv.lt hf
 have hbg : big = 1048576 := rfl
 have lv : vv.length = 2 := (subN_some _ _ _ _ hvs).1
 have lt2 : t2.length = 2 := by
  have := (subN_some _ _ _ _ hs).1
  simp only [List.length_append] at this
  omega
 obtain ⟨c2, s3, s4⟩ := setMany_row (o := o) (k := n * 2) (A := A) (B := t2) (B' := vv) (D := []) (cs := cs) (n := (n + 1) * 2) (by rw [hs]; simp) hA (by omega) hat'
 have hneV : vv ≠ [] := by rintro rfl; simp at lv
 refine Fn.go H ex200 fn200 km200 rfl rfl ?_
 refine Zev ?_
 refine Zgo ?_
 refine Zu (to_sliceOwn el37 rfl rfl rfl (by omega) (by omega)) ?_
 refine Zgo ?_
 refine Zu (to_appRoom ro37 sl37 rfl rfl (k := 0) hv.cel (by omega) hvs hneV (by omega) hb (by omega) s3) ?_
 refine Zgo ?_
 refine ⟨.inr rfl, Wres.one rfl ⟨⟨rfl, rfl, _, Has.same, by rw [s4, List.append_nil]⟩, ?_⟩⟩
 exact Zex
theorem ins_fullE (H : sm 200 = none) {h : T AObj} {c : Nat} {rl wl : List Nat} (hf : Fresh h c) {b o n vb vo vc : Nat} {sp : Option Nat} {cs ws vv A : List Value} (hb : Has h b (.cells cs)) (hs : subN o ((n + 1) * 2) cs = some A)
  (hv : Has h vb (.cells ws)) (hvs : subN vo 2 ws = some vv) (hbig : n + 2 ≤ big) :
  ∃ r s', FnTo (Cs sm) eg 200 [.slice (some ⟨b, o, none⟩) (n + 1) (n + 1), .int .i64 ((n + 1 : Nat) : Int), .slice (some ⟨vb, vo, sp⟩) 1 vc] ⟨h, c, rl, wl⟩ r s' ∧ (r = .slice (some ⟨c, 0, some 2⟩) (n + 2) (n + 2) ∧ s'.c = c + 1 ∧ Has s'.h c (.cells (A ++ vv))) ∧ Ext ⟨h, c, rl, wl⟩ s' (fun x => x = b ∨ x = vb) (fun _ => False) := by
 have l1 := hb.lt hf
 have l2 := hv.lt hf
 have hbg : big = 1048576 := rfl
 refine Fn.go H ex200 fn200 km200 rfl rfl ?_
 refine Zev ?_
 refine Zgo ?_
 refine Zu (to_sliceEnd el37 rfl rfl rfl) ?_
 refine Zgo ?_
 refine Zu (to_appFull ro37 sl37 rfl rfl (k := 0) hv.cel (by omega) hvs (by omega) (by omega) hb.cel (by omega) hs Zfr) ?_
 refine Zgo ?_
 refine ⟨.inr rfl, Wres.one rfl ⟨⟨rfl, rfl, Has.same⟩, ?_⟩⟩
 exact Zex
theorem ins_full0 (H : sm 200 = none) {h : T AObj} {c : Nat} {rl wl : List Nat} (hf : Fresh h c) {b o m vb vo vc : Nat} {sp : Option Nat} {cs ws vv B : List Value} (hb : Has h b (.cells cs)) (hs : subN o ((m + 1) * 2) cs = some B)
  (hv : Has h vb (.cells ws)) (hvs : subN vo 2 ws = some vv) (hat : ∀ x ∈ B, atom x = true) (hat' : ∀ x ∈ vv, atom x = true) (hbig : m + 2 ≤ big) :
  ∃ r s', FnTo (Cs sm) eg 200 [.slice (some ⟨b, o, none⟩) (m + 1) (m + 1), .int .i64 0, .slice (some ⟨vb, vo, sp⟩) 1 vc] ⟨h, c, rl, wl⟩ r s' ∧ (r = .slice (some ⟨c, 0, some 2⟩) (m + 2) (m + 2) ∧ s'.c = c + 1 ∧ ∃ cs', Has s'.h c (.cells cs') ∧ subN 0 ((m + 2) * 2) cs' = some (vv ++ B)) ∧ Ext ⟨h, c, rl, wl⟩ s' (fun x => x = b ∨ x = vb) (fun _ => False) := by
 have l1 := hb.lt hf
 have l2 := hv.lt hf
 have hbg : big = 1048576 := rfl
 have lv : vv.length = 2 := (subN_some _ _ _ _ hvs).1
 have lB : B.length = (m + 1) * 2 := (subN_some _ _ _ _ hs).1
 have hneB : B ≠ [] := by rintro rfl; simp at lB
 have hneV : vv ≠ [] := by rintro rfl; simp at lv
 obtain ⟨X, Y, hXY, hX, hY⟩ : ∃ X Y : List Value, [] ++ rep [Value.int .i64 0, Value.int .i64 0] (m + 2) = X ++ Y ∧ X.length = 2 ∧ Y.length = (m + 1) * 2 := by
  have hr : (rep [Value.int .i64 0, Value.int .i64 0] (m + 2)).length = (m + 2) * 2 := by rw [rep_length]; rfl
  refine ⟨(rep [Value.int .i64 0, Value.int .i64 0] (m + 2)).take 2, (rep [Value.int .i64 0, Value.int .i64 0] (m + 2)).drop 2, ?_, ?_, ?_⟩
  ·rw [List.take_append_drop]; rfl
  ·rw [List.length_take, hr]; omega
  ·rw [List.length_drop, hr]; omega
 have hc0 : subN 0 ((m + 2) * 2) ([] ++ rep [Value.int .i64 0, Value.int .i64 0] (m + 2)) = some (X ++ Y) := by
  rw [hXY]; exact subN_all _ _ (by rw [List.length_append]; omega)
 obtain ⟨c1, s1, s2⟩ := setMany_row (o := 0) (k := 0) (A := []) (B := X) (B' := vv) (D := Y) hc0 rfl (by omega) hat'
 obtain ⟨c2, s3, s4⟩ := setMany_row (o := 0) (k := 2) (A := vv) (B := Y) (B' := B) (D := []) (cs := c1) (n := (m + 2) * 2) (by rw [s2]; simp) lv (by omega) hat
 refine Fn.go H ex200 fn200 km200 rfl rfl ?_
 refine Zev ?_
 refine Zgo ?_
 refine Zu (to_sliceLo el37 rfl rfl (k := 0) rfl (by omega) (by omega) (by omega) (.inl rfl)) ?_
 refine Zgo ?_
 refine Zu (to_capX sl37 rfl) ?_
 refine Zgo ?_
 refine Zu (to_sliceHi el37 rfl rfl (k := 0) rfl (by omega) (fun a ha => by cases ha; exact .inl rfl)) ?_
 refine Zgo ?_
 refine Zu (to_appMake0 ro37 it3 rfl rfl (m := m + 2) (by omega) (by omega) (by omega) Zfr) ?_
 refine Zgo ?_
 refine Zu (to_sliceOwn el37 rfl rfl (k := 0) rfl (by omega) (by omega)) ?_
 refine Zgo ?_
 refine Zu (to_copy ro37 rfl rfl (j := 0) (by show min _ _ = _; omega) (hv.other (by omega)).cel (by omega) hvs hneV Has.same (by omega) (by rw [Nat.zero_mul]; exact s1)) ?_
 refine Zgo ?_
 refine Zq (to_sliceOwn el37 rfl rfl (k := 1) (by omega) (by omega) (by omega)) ?_
 refine Zgo ?_
 refine Zq (to_sliceLo el37 rfl rfl (k := 0) rfl (by omega) (by omega) (by omega) (.inl rfl)) ?_
 refine Zd (to_copy ro37 rfl rfl (j := m) (by show min _ _ = _; omega) ((hb.other (by omega)).other (by omega)).cel (by omega) (by rw [Nat.zero_mul]; exact hs) hneB Has.same (by omega) s3) ?_
 refine Zgo ?_
 refine ⟨.inr rfl, Wres.one rfl ⟨⟨congrArg (fun q => Value.slice (some ⟨c, 0, some 2⟩) q q) (Nat.zero_add (m + 2)), rfl, _, Has.same, by rw [s4, List.append_nil]⟩, ?_⟩⟩
 exact Zex
theorem ins_full (H : sm 200 = none) {h : T AObj} {c : Nat} {rl wl : List Nat} (hf : Fresh h c) {b o i m vb vo vc : Nat} {sp : Option Nat} {cs ws vv A B : List Value} (hb : Has h b (.cells cs)) (hs : subN o ((i + 1 + m + 1) * 2) cs = some (A ++ B)) (hA : A.length = (i + 1) * 2)
  (hv : Has h vb (.cells ws)) (hvs : subN vo 2 ws = some vv) (hat : ∀ x ∈ B, atom x = true) (hat' : ∀ x ∈ vv, atom x = true) (hbig : i + m + 3 ≤ big) :
  ∃ r s', FnTo (Cs sm) eg 200 [.slice (some ⟨b, o, none⟩) (i + 1 + m + 1) (i + 1 + m + 1), .int .i64 ((i + 1 : Nat) : Int), .slice (some ⟨vb, vo, sp⟩) 1 vc] ⟨h, c, rl, wl⟩ r s' ∧ (r = .slice (some ⟨c, 0, some 2⟩) (i + 1 + (m + 2)) (i + 1 + (m + 2)) ∧ s'.c = c + 1 ∧ ∃ cs', Has s'.h c (.cells cs') ∧ subN 0 ((i + 1 + (m + 2)) * 2) cs' = some (A ++ vv ++ B)) ∧ Ext ⟨h, c, rl, wl⟩ s' (fun x => x = b ∨ x = vb) (fun _ => False) := by
 have l1 := hb.lt hf
 have l2 := hv.lt hf
 have hbg : big = 1048576 := rfl
 have lv : vv.length = 2 := (subN_some _ _ _ _ hvs).1
 have lB : B.length = (m + 1) * 2 := by
  have := (subN_some _ _ _ _ hs).1
  simp only [List.length_append] at this
  omega
 have hneB : B ≠ [] := by rintro rfl; simp at lB
 have hneV : vv ≠ [] := by rintro rfl; simp at lv
 have hsB : subN o ((i + 1) * 2) cs = some A ∧ subN (o + (i + 1) * 2) ((m + 1) * 2) cs = some B := subN_app (by rw [← hs]; congr 1; omega) hA
 obtain ⟨X, Y, hXY, hX, hY⟩ : ∃ X Y : List Value, rep [Value.int .i64 0, Value.int .i64 0] (m + 2) = X ++ Y ∧ X.length = 2 ∧ Y.length = (m + 1) * 2 := by
  have hr : (rep [Value.int .i64 0, Value.int .i64 0] (m + 2)).length = (m + 2) * 2 := by rw [rep_length]; rfl
  refine ⟨(rep [Value.int .i64 0, Value.int .i64 0] (m + 2)).take 2, (rep [Value.int .i64 0, Value.int .i64 0] (m + 2)).drop 2, ?_, ?_, ?_⟩
  ·rw [List.take_append_drop]
  ·rw [List.length_take, hr]; omega
  ·rw [List.length_drop, hr]; omega
 have hc0 : subN 0 ((i + 1 + (m + 2)) * 2) (A ++ rep [Value.int .i64 0, Value.int .i64 0] (m + 2)) = some (A ++ X ++ Y) := by
  rw [hXY, List.append_assoc]; exact subN_all _ _ (by simp only [List.length_append]; omega)
 obtain ⟨c1, s1, s2⟩ := setMany_row (o := 0) (k := (i + 1) * 2) (A := A) (B := X) (B' := vv) (D := Y) hc0 hA (by omega) hat'
 obtain ⟨c2, s3, s4⟩ := setMany_row (o := 0) (k := (i + 1 + 1) * 2) (A := A ++ vv) (B := Y) (B' := B) (D := []) (cs := c1) (n := (i + 1 + (m + 2)) * 2) (by rw [s2]; simp) (by rw [List.length_append]; omega) (by omega) hat
 refine Fn.go H ex200 fn200 km200 rfl rfl ?_
 refine Zev ?_
 refine Zgo ?_
 refine Zu (to_sliceLo el37 rfl rfl (k := i + 1) (by omega) (by omega) (by omega) (by omega) (.inl rfl)) ?_
 refine Zgo ?_
 refine Zu (to_capX sl37 rfl) ?_
 refine Zgo ?_
 refine Zu (to_sliceHi el37 rfl rfl (k := i + 1) (by omega) (by omega) (fun a ha => by cases ha; exact .inl rfl)) ?_
 refine Zgo ?_
 refine Zu (to_appMake ro37 it3 rfl rfl (m := m + 2) (by omega) (by omega) (by omega) hb.cel (by omega) hsB.1 Zfr) ?_
 refine Zgo ?_
 refine Zu (to_sliceOwn el37 rfl rfl (k := i + 1) (by omega) (by omega) (by omega)) ?_
 refine Zgo ?_
 refine Zu (to_copy ro37 rfl rfl (j := 0) (by show min _ _ = _; omega) (hv.other (by omega)).cel (by omega) hvs hneV Has.same (by omega) s1) ?_
 refine Zgo ?_
 refine Zq (to_sliceOwn el37 rfl rfl (k := i + 1 + 1) (by omega) (by omega) (by omega)) ?_
 refine Zgo ?_
 refine Zq (to_sliceLo el37 rfl rfl (k := i + 1) (by omega) (by omega) (by omega) (by omega) (.inl rfl)) ?_
 refine Zd (to_copy ro37 rfl rfl (j := m) (by show min _ _ = _; omega) ((hb.other (by omega)).other (by omega)).cel (by omega) hsB.2 hneB Has.same (by omega) s3) ?_
 refine Zgo ?_
 refine ⟨.inr rfl, Wres.one rfl ⟨⟨rfl, rfl, _, Has.same, by rw [s4, List.append_nil]⟩, ?_⟩⟩
 exact Zex
theorem ins_nil (H : sm 200 = none) {h : T AObj} {c : Nat} {rl wl : List Nat} (hf : Fresh h c) {vb vo vc : Nat} {sp : Option Nat} {ws vv : List Value}
  (hv : Has h vb (.cells ws)) (hvs : subN vo 2 ws = some vv) :
  ∃ r s', FnTo (Cs sm) eg 200 [.slice none 0 0, .int .i64 0, .slice (some ⟨vb, vo, sp⟩) 1 vc] ⟨h, c, rl, wl⟩ r s' ∧ (r = .slice (some ⟨c, 0, some 2⟩) 1 1 ∧ s'.h = h.set c (some (.cells vv)) ∧ s'.c = c + 1 ∧ Has s'.h c (.cells vv)) ∧ Ext ⟨h, c, rl, wl⟩ s' (fun x => x = vb) (fun _ => False) := by
 have l2 := hv.lt hf
 have hbg : big = 1048576 := rfl
 refine Fn.go H ex200 fn200 km200 rfl rfl ?_
 refine Zev ?_
 refine Zgo ?_
 refine Zu (to_sliceLoNil el37 rfl rfl rfl) ?_
 refine Zgo ?_
 refine Zu (to_appNil ro37 sl37 rfl rfl (k := 0) hv.cel (by omega) hvs (by omega) Zfr) ?_
 refine Zgo ?_
 refine ⟨.inr rfl, Wres.one rfl ⟨⟨rfl, rfl, rfl, Has.same⟩, ?_⟩⟩
 exact Zex
end Go.Ab.Seat
end
