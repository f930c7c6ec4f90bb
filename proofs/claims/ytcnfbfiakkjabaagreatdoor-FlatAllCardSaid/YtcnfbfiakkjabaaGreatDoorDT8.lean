import Derived.Test.YtcnfbfiakkjabaaGreatDoorDT1
import Derived.Test.YtcnfbfiakkjabaaGreatDoorDF3
set_option linter.unusedVariables false
set_option linter.unusedSimpArgs false
section
/- The reference's score; a member's place; ids, a vector, a hit (the abstract machine). -/
namespace Go.Ab.Seat
open Go.Extern Go.Proofs
set_option linter.unusedSimpArgs false
set_option linter.unusedVariables false
set_option maxRecDepth 4000
set_option pp.deepTerms false
set_option pp.deepTerms.threshold 6

def ERs (m : Int) (a : Option Addr) (n k : Nat) (b : Option Addr) (k' : Nat) (s z : Int) (j9 j10 j17 j30 j31 j42 : Value) : L :=
  .cons 0 (.int .i64 m) (.cons 1 (.slice a n k) (.cons 2 (.slice b n k') (.cons 6 (.int .i64 0) (.cons 7 (.int .i64 s) (.cons 8 (.int .i64 z) (.cons 9 j9 (.cons 10 j10 (.cons 17 j17 (.cons 30 j30 (.cons 31 j31 (.cons 42 j42 .nil)))))))))))

set_option maxHeartbeats 4000000 in
theorem rscore_spec {h : T AObj} {c : Nat} {rl wl : List Nat} (hf : Fresh h c) {m : Int} (hm : m = 1 ∨ m = 2) {a b : Option Addr} {n k k' : Nat} {zs ys : List Int} (hn : zs.length = n) (hn' : ys.length = n) (hx : Row h (.slice a n k) n 1 (zs.map (Value.int .i32))) (hy : Row h (.slice b n k') n 1 (ys.map (Value.int .i32))) (bx : Bnd zs) (by_ : Bnd ys) (hb : n ≤ 1000) (R : Nat → Prop) (hR : ∀ x, blkOf (.slice a n k) = some x ∨ blkOf (.slice b n k') = some x → R x) :
    ∃ r s', FnTo (Cs smQ) eg 112 [.int .i64 m, .slice a n k, .slice b n k'] ⟨h, c, rl, wl⟩ r s' ∧ (r = .int .i64 (scoreZ m zs ys) ∧ s'.h = h ∧ s'.c = c) ∧ Ext ⟨h, c, rl, wl⟩ s' R (fun _ => False) := by
  refine Fn.go (stdQ 112 rfl) ex112 fn112 km112 rfl rfl ?_
  refine Zev ?_
  refine Zgo ?_
  refine Wx.loopE (fun k1 e s => ∃ (i : Nat) (z : Int) (j9 j10 j17 j30 j31 j42 : Value) (rl' : List Nat), e = ERs m a n k b k' (scoreN m zs ys i) z j9 j10 j17 j30 j31 j42 ∧ z = i ∧ s = ⟨h, c, rl', []⟩ ∧ Lg c R rl' ∧ i ≤ n ∧ k1 = n - i) n (ERs m a n k b k' 0 0 top top top top top top) Zrs ?_ ?_ ?_
  · unfold ERs
    exact Zek
  · exact ⟨0, 0, _, _, _, _, _, _, _, rfl, rfl, rfl, Zlg, by omega, rfl⟩
  · rintro k1 e s ⟨i, z, j9, j10, j17, j30, j31, j42, rl', rfl, hz, rfl, hlr, hid, rfl⟩
    unfold ERs
    by_cases hi : i < n
    · have hzs : (zs.map (Value.int .i32))[i]? = some (.int .i32 (zs.getD i 0)) := by
        rw [List.getElem?_map, List.getD_eq_getElem?_getD, List.getElem?_eq_getElem (by omega : i < zs.length)]; rfl
      have hys : (ys.map (Value.int .i32))[i]? = some (.int .i32 (ys.getD i 0)) := by
        rw [List.getElem?_map, List.getD_eq_getElem?_getD, List.getElem?_eq_getElem (by omega : i < ys.length)]; rfl
      obtain ⟨b1, o1, sp1, cs1, rfl, hc1, hn1⟩ := rowCell hx (j := i * 1) (by omega) (by rw [Nat.mul_one]; exact hzs)
      obtain ⟨b2, o2, sp2, cs2, rfl, hc2, hn2⟩ := rowCell hy (j := i * 1) (by omega) (by rw [Nat.mul_one]; exact hys)
      have hR1 := hR b1 (.inl rfl)
      have hR2 := hR b2 (.inr rfl)
      have l1 := hc1.lt hf
      have l2 := hc2.lt hf
      have q1 := bx i
      have q2 := by_ i
      have q3 := score_bnd (m := m) bx by_ i
      obtain ⟨t1, t2, _⟩ := term_bnd (m := m) q1 q2
      refine Zgo ?_
      ((with_reducible apply Wtr.stq); rfl; exact to_indexAddr (k := i) el24 rfl rfl hz (by omega))
      ((with_reducible apply Wtr.stx); rfl; exact to_load (pl_ rfl) rfl hc1 (by omega) hn1; exact Zap)
      refine Zgo ?_
      ((with_reducible apply Wtr.stq); rfl; exact to_indexAddr (k := i) el24 rfl rfl hz (by omega))
      ((with_reducible apply Wtr.stx); rfl; exact to_load (pl_ rfl) rfl hc2 (by omega) hn2; exact Zap)
      refine Zgo ?_
      simp only [wrapA_i64 (show (-9223372036854775808 : Int) ≤ zs.getD i 0 by omega) (by omega), wrapA_i64 (show (-9223372036854775808 : Int) ≤ ys.getD i 0 by omega) (by omega)]
      rcases hm with rfl | rfl
      · refine Zgo ?_
        refine RoundE.go (n - (i + 1)) (ERs 1 _ n k _ k' (scoreN 1 zs ys (i + 1)) (z + 1) _ _ _ _ _ _) (by omega) Zek ⟨i + 1, z + 1, _, _, _, _, _, _, _, rfl, by omega, rfl, Zlg, by omega, rfl⟩
      · refine Zgo ?_
        have e : scoreN 2 zs ys (i + 1) = scoreN 2 zs ys i - zs.getD i 0 * ys.getD i 0 := by
          show _ + termZ 2 _ _ = _
          unfold termZ
          rw [if_neg (by decide)]; omega
        refine RoundE.go (n - (i + 1)) (ERs 2 _ n k _ k' (scoreN 2 zs ys i - zs.getD i 0 * ys.getD i 0) (z + 1) _ _ _ _ _ _) (by omega) Zek ⟨i + 1, z + 1, _, _, _, _, _, _, _, (by rw [e]; rfl), by omega, rfl, Zlg, by omega, rfl⟩
    · refine Zgo ?_
      obtain rfl : i = n := by omega
      refine ⟨.inr rfl, Wres.one rfl ⟨⟨?_, rfl, rfl⟩, ?_⟩⟩
      · unfold scoreZ; rw [hn]; rfl
      · exact Zex

theorem at_spec {h : T AObj} {c : Nat} {rl wl : List Nat} (hf : Fresh h c) {p bl : Nat} {mt dm : Int} {l : List On} (hp : Has h p (.cells (refC mt dm (.slice (some ⟨bl, 0, some 8⟩) l.length l.length)))) (hne : l ≠ []) (hbl : Has h bl (.cells (flatO l))) (hb : l.length ≤ 1000) {id : Int} (hid : getM id (l.map On.rc) ≠ none) (R : Nat → Prop) (hRp : R p) (hRl : R bl) :
    ∃ r s', FnTo (Cs smQ) eg 166 [.pointer (some ⟨p, 0, none⟩), .int .i64 id] ⟨h, c, rl, wl⟩ r s' ∧ ((∃ (k : Nat) (x : On), r = .pointer (some ⟨bl, 0 + k * 8, none⟩) ∧ l[k]? = some x ∧ x.id = id ∧ getM id (l.map On.rc) = some x.rc) ∧ s'.h = h ∧ s'.c = c) ∧ Ext ⟨h, c, rl, wl⟩ s' R (fun _ => False) := by
  have hpc := hp.lt hf
  refine Fn.go (stdQ 166 rfl) ex166 fn166 km166 rfl rfl ?_
  refine Zev ?_
  have hp' := hp
  unfold refC at hp'
  refine Zgo ?_
  refine Wtr.call rfl rfl (place_spec Zfr hp (.inr ⟨bl, rfl, hne, hbl⟩) hb id R hRp (fun b q => by cases q; exact hRl)) ?_
  rintro v1 h1 c1 r1 w1 ⟨⟨hr, e1, e2⟩, hext⟩
  simp only at e1 e2
  subst e1 e2
  have hqt := hext.quiet (fun _ _ q => q)
  have lr := Lg.extR (R := R) (c := c1) Zlg hext (fun _ _ q => q)
  have lw := Lg.extW (W := fun _ => False) (c := c1) Zlg hext (fun _ _ q => q)
  refine ⟨Zap, ?_⟩
  rcases hr with ⟨q, _⟩ | ⟨k, x, rfl, hk, hx, hg⟩
  · exact absurd q hid
  · have hkl := (List.getElem?_eq_some_iff.1 hk).1
    refine Zgo ?_
    ((with_reducible apply Wtr.stq); rfl; exact to_indexAddr (k := k) el148 rfl rfl rfl (by omega))
    refine Zgo ?_
    refine ⟨.inr rfl, Wres.one rfl ⟨⟨⟨k, x, rfl, hk, hx, hg⟩, rfl, rfl⟩, ?_⟩⟩
    exact Zex

/-- A member's vector: it lies in the index. -/
theorem rvec_spec {h : T AObj} {c : Nat} {rl wl : List Nat} (hf : Fresh h c) {p : Nat} {mt dm : Int} {lv : Value} {l : List On} (hp : Has h p (.cells (refC mt dm lv))) (hl : LRow8 h lv l) (hb : l.length ≤ 1000) (hvs : ∀ x ∈ l, ∃ a n k, x.vec = .slice a n k) (id : Int) (R : Nat → Prop) (hRp : R p) (hRl : ∀ b, blkOf lv = some b → R b) :
    ∃ r s', FnTo (Cs smQ) eg 64 [.pointer (some ⟨p, 0, none⟩), .int .i64 id] ⟨h, c, rl, wl⟩ r s' ∧ (((getM id (l.map On.rc) = none ∧ r = .tuple #[.slice none 0 0, .bool false]) ∨ ∃ (k : Nat) (x : On), r = .tuple #[x.vec, .bool true] ∧ l[k]? = some x ∧ x.id = id ∧ getM id (l.map On.rc) = some x.rc) ∧ s'.h = h ∧ s'.c = c) ∧ Ext ⟨h, c, rl, wl⟩ s' R (fun _ => False) := by
  have hpc := hp.lt hf
  refine Fn.go (stdQ 64 rfl) ex64 fn64 km64 rfl rfl ?_
  refine Zev ?_
  have hp' := hp
  unfold refC at hp'
  refine Zgo ?_
  refine Wseq.call rfl rfl (place_spec Zfr hp hl hb id R hRp hRl) ?_
  rintro v1 h1 c1 r1 w1 ⟨⟨hr, e1, e2⟩, hext⟩
  simp only at e1 e2
  subst e1 e2
  have lr := Lg.extR (R := R) (c := c1) Zlg hext (fun _ _ q => q)
  have lw := Lg.extW (W := fun _ => False) (c := c1) Zlg hext (fun _ _ q => q)
  rcases hr with ⟨q, rfl⟩ | ⟨k, x, rfl, hk, hx, hg⟩
  · refine Zgo ?_
    refine ⟨.inr rfl, Wres.two rfl rfl ⟨⟨.inl ⟨q, rfl⟩, rfl, rfl⟩, ?_⟩⟩
    exact Zex
  · have hkl := (List.getElem?_eq_some_iff.1 hk).1
    rcases hl with ⟨_, rfl⟩ | ⟨bl, rfl, hne, hbl⟩
    · cases hk
    obtain ⟨g0, g1⟩ := on_nth (sub_on hk)
    obtain ⟨va, vn, vk, hv⟩ := hvs x (List.mem_of_getElem? hk)
    have rb := hRl bl rfl
    have l1 := hbl.lt hf
    rw [hv] at g1
    refine Zgo ?_
    ((with_reducible apply Wseq.stg); rfl; exact to_indexAddr (k := k) el148 rfl rfl rfl (by omega))
    refine Zgo ?_
    ((with_reducible apply Wseq.stg); rfl; exact to_load (pl_ rfl) rfl hbl.cel (by omega) g1)
    refine Zgo ?_
    refine ⟨.inr rfl, Wres.two rfl rfl ⟨⟨.inr ⟨k, x, by rw [hv]; rfl, hk, hx, hg⟩, rfl, rfl⟩, ?_⟩⟩
    exact Zex

/-- Numbers that grow. -/
def HJ (h : T AObj) (c0 : Nat) (v : Value) (l : List Int) : Prop := (v = .slice none 0 0 ∧ l = []) ∨ ∃ b, v = .slice (some ⟨b, 0, some 1⟩) l.length l.length ∧ l ≠ [] ∧ c0 ≤ b ∧ Has h b (.cells (l.map (Value.int .i64)))
theorem HJ.val {h : T AObj} {c : Nat} {v : Value} {l : List Int} (x : HJ h c v l) : ∃ oa, v = .slice oa l.length l.length ∧ Row h v l.length 1 (l.map (Value.int .i64)) ∧ ∀ b, blkOf v = some b → c ≤ b := by
  rcases x with ⟨rfl, rfl⟩ | ⟨b, rfl, _, h1, h2⟩
  · exact ⟨_, rfl, .inl ⟨rfl, rfl, _, _, rfl⟩, fun b hb => by cases hb⟩
  · exact ⟨_, rfl, .inr ⟨b, 0, _, _, _, rfl, h2.cel, subN_all _ _ (by simp)⟩, fun b hb => by cases hb; exact h1⟩
theorem HJ.lt {h : T AObj} {c c0 : Nat} {v : Value} {l : List Int} (x : HJ h c0 v l) (hf : Fresh h c) {b : Nat} (hb : blkOf v = some b) : c0 ≤ b ∧ b < c := by
  rcases x with ⟨rfl, _⟩ | ⟨b', rfl, _, h3, h4⟩
  · cases hb
  · cases hb; exact ⟨h3, h4.lt hf⟩

/-- Numbers that grow: one more. -/
theorem Wseq.appJ {all os : List Oper} {loc kept : L} {h : T AObj} {c : Nat} {rl wl : List Nat} {Q : Env → St → Prop} {d : Nat} {ty : TypeId} {ps : String} {af : Array Edge} {g : Option (Nat × Bool)} {a x : Operand} {v : Value} {c0 ob cap : Nat} {sp : Option Nat} {y : Int} {l : List Int}
    (hw : wantedA all (.mk loc kept) ⟨some d, .call ⟨.builtin .append, #[a, x], #[35, 35]⟩, ty, ps, af, g⟩ = some true) (ha : evalA (.mk loc kept) a = v) (hx : evalA (.mk loc kept) x = .slice (some ⟨ob, 0, sp⟩) 1 cap) (hHJ : HJ h c0 v l) (hb : Has h ob (.cells [.int .i64 y])) (hob : c0 ≤ ob) (hn : l.length ≤ 10000) (hf : Fresh h c) (hc0 : c0 ≤ c)
    (k : ∀ h2 rl2 wl2, Fresh h2 (c + 1) → Kp h h2 c (fun b => blkOf v = some b) → Has h2 c (.cells ((l ++ [y]).map (Value.int .i64))) → (∀ b ∈ rl2, b ∈ rl ∨ c0 ≤ b) → (∀ b ∈ wl2, b ∈ wl ∨ c0 ≤ b) → Wseq (Cs smQ) eg all os (.mk (.cons d (.slice (some ⟨c, 0, some 1⟩) (l.length + 1) (l.length + 1)) loc) kept) ⟨h2, c + 1, rl2, wl2⟩ Q) :
    Wseq (Cs smQ) eg all (⟨some d, .call ⟨.builtin .append, #[a, x], #[35, 35]⟩, ty, ps, af, g⟩ :: os) (.mk loc kept) ⟨h, c, rl, wl⟩ Q := by
  have lo := hb.lt hf
  have hbg : big = 1048576 := rfl
  rcases hHJ with ⟨rfl, rfl⟩ | ⟨bl, rfl, hne, hbl, hbc⟩
  · refine Wseq.stg hw (to_appNil (k := 0) ro35 sl35 ha hx hb.cel lo (subN_all _ _ rfl) (by omega) hf) (k _ _ _ Zfr Zkp Has.same ?_ (fun b hb => .inl hb))
    intro b hb
    rcases List.mem_cons.1 hb with rfl | hb
    · exact .inr hob
    · exact .inl hb
  · have l3 := hbc.lt hf
    refine Wseq.stg hw (to_appOwn (k := 0) ro35 sl35 ha hx hb.cel lo (subN_all _ _ rfl) (by omega) (by omega) hbc l3 (subN_all _ _ (by simp)) (all_cons rfl all_nil) hf) (k _ _ _ Zfr Zkp ?_ ?_ ?_)
    · rw [List.map_append]; exact Has.same
    · intro b hb
      rcases List.mem_cons.1 hb with rfl | hb
      · exact .inr hbl
      · rcases List.mem_cons.1 hb with rfl | hb
        · exact .inr hob
        · exact .inl hb
    · intro b hb
      rcases List.mem_cons.1 hb with rfl | hb
      · exact .inr hbl
      · exact .inl hb


def ERi (p : Nat) (n : Nat) (lv : Value) (z : Int) (j4 j11 : Value) : L :=
  .cons 0 (.pointer (some ⟨p, 0, none⟩)) (.cons 2 (.slice none 0 0) (.cons 3 lv (.cons 9 (.int .i64 (n : Int)) (.cons 10 (.int .i64 z) (.cons 4 j4 (.cons 11 j11 .nil))))))

set_option maxHeartbeats 4000000 in
theorem rids_spec {h : T AObj} {c : Nat} {rl wl : List Nat} (hf : Fresh h c) {p : Nat} {mt dm : Int} {lv : Value} {l : List On} (hp : Has h p (.cells (refC mt dm lv))) (hl : LRow8 h lv l) (hb : l.length ≤ 1000) (R : Nat → Prop) (hRp : R p) (hRl : ∀ b, blkOf lv = some b → R b) :
    ∃ r s', FnTo (Cs smQ) eg 66 [.pointer (some ⟨p, 0, none⟩)] ⟨h, c, rl, wl⟩ r s' ∧ HJ s'.h c r (l.map On.id) ∧ Ext ⟨h, c, rl, wl⟩ s' R (fun _ => False) := by
  have hpc := hp.lt hf
  obtain ⟨oa, rfl⟩ := hl.val
  have hlb : ∀ b, blkOf (.slice oa l.length l.length) = some b → b < c := fun b q => by
    rcases hl with ⟨e, _⟩ | ⟨bl, e, _, hbl⟩
    · rw [e] at q; cases q
    · rw [e] at q; cases q; exact hbl.lt hf
  refine Fn.go (stdQ 66 rfl) ex66 fn66 km66 rfl rfl ?_
  refine Zev ?_
  unfold refC at hp
  refine Zgo ?_
  refine Wx.loopE (fun k1 e s => ∃ (i : Nat) (z : Int) (lv j4 j11 : Value) (h' : T AObj) (c' : Nat) (rl' wl' : List Nat), e = ERi p l.length lv z j4 j11 ∧ z = i ∧ s = ⟨h', c', rl', wl'⟩ ∧ c ≤ c' ∧ Fresh h' c' ∧ Kp h h' c (fun _ => False) ∧ HJ h' c lv ((l.take i).map On.id) ∧ Lg c R rl' ∧ Lg c (fun _ => False) wl' ∧ i ≤ l.length ∧ k1 = l.length - i) l.length (ERi p l.length (.slice none 0 0) 0 top top) Zrs ?_ ?_ ?_
  · unfold ERi
    exact Zek
  · exact ⟨0, 0, _, _, _, _, _, _, _, rfl, rfl, rfl, Nat.le_refl _, Zfr, Zkp, .inl ⟨rfl, rfl⟩, Zlg, Zlg, by omega, rfl⟩
  · rintro k1 e s ⟨i, z, lv, j4, j11, h', c', rl', wl', rfl, hz, rfl, hcc, hf', hkp, hHJ, hlr, hlw, hid, rfl⟩
    unfold ERi
    by_cases hi : i < l.length
    · have hxi : l[i]? = some l[i] := List.getElem?_eq_getElem hi
      rcases hl with ⟨_, rfl⟩ | ⟨bl, e, hne, hbl⟩
      · cases hxi
      obtain rfl : oa = some ⟨bl, 0, some 8⟩ := by simp only [Value.slice.injEq] at e; exact e.1
      obtain ⟨g0, g1⟩ := on_nth (sub_on hxi)
      have lbl := hlb bl rfl
      have rb := hRl bl rfl
      have hbl' : Has h' bl (.cells (flatO l)) := (hkp bl lbl (fun q => q)).trans hbl
      have hp' : Has h' p (.cells [.int .i64 1, .int .i64 mt, .int .i64 dm, .slice (some ⟨bl, 0, some 8⟩) l.length l.length, .slice none 0 0, .slice none 0 0, .slice none 0 0]) := (hkp p hpc (fun q => q)).trans hp
      have hmap : (l.take (i + 1)).map On.id = (l.take i).map On.id ++ [l[i].id] := by rw [List.take_succ_eq_append_getElem hi, List.map_append]; rfl
      have hl0 : ((l.take i).map On.id).length = i := by rw [List.length_map, List.length_take]; omega
      refine Zgo ?_
      ((with_reducible apply Wseq.stg); rfl; exact to_indexAddr (k := i) el148 rfl rfl hz (by omega))
      refine Zgo ?_
      ((with_reducible apply Wseq.stg); rfl; exact to_load (pl_ rfl) rfl hbl'.cel (by omega) g0)
      refine Zgo ?_
      have hlv : ∀ b, blkOf lv = some b → c ≤ b ∧ b < c' := fun b q => hHJ.lt hf' q
      refine Wseq.appJ (v := lv) rfl rfl rfl (l := (l.take i).map On.id) (c0 := c) (y := l[i].id) (hHJ.imp (fun q => q) (fun ⟨b, e1, e2, e3, e4⟩ => ⟨b, e1, e2, e3, e4.other (by have := e4.lt hf'; omega)⟩)) Has.same (by omega) (by omega) Zfr (by omega) ?_
      intro h2 rl2 wl2 fr2 kp2 hN hrl2 hwl2
      have kp2' : Kp h h2 c (fun _ => False) := fun b hb _ => by
        rw [kp2 b (by omega) (fun q => by have := hlv b q; omega), get_other (by omega)]
        exact hkp b hb (fun q => q)
      have lr2 : Lg c R rl2 := fun b hb => (hrl2 b hb).elim (fun u => (show Lg c R _ from Zlg) b u) (fun u => .inl u)
      have lw2 : Lg c (fun _ => False) wl2 := fun b hb => (hwl2 b hb).elim (fun u => hlw b u) (fun u => .inl u)
      rw [hl0]
      refine Zgo ?_
      refine RoundE.go (l.length - (i + 1)) (ERi p l.length _ (z + 1) _ _) (by omega) Zek ⟨i + 1, z + 1, _, _, _, _, _, _, _, rfl, by omega, rfl, by omega, fr2, kp2', .inr ⟨c' + 1, ?_, ?_, by omega, ?_⟩, lr2, lw2, by omega, rfl⟩
      · rw [hmap, List.length_append, hl0]; rfl
      · rw [hmap]; intro e; have := congrArg List.length e; rw [List.length_append] at this; cases this
      · rw [hmap]; exact hN
    · refine Zgo ?_
      obtain rfl : i = l.length := by omega
      rw [List.take_length] at hHJ
      refine ⟨.inr rfl, Wres.one rfl ⟨hHJ, ?_⟩⟩
      exact Zex
end Go.Ab.Seat
end
section
/- flat.Vec; the five ways of a Face that has a flat index (the abstract machine). -/
namespace Go.Ab.Seat
open Go.Extern Go.Proofs
set_option linter.unusedSimpArgs false
set_option linter.unusedVariables false
set_option maxRecDepth 4000
set_option pp.deepTerms false
set_option pp.deepTerms.threshold 6

theorem fvec_spec {h : T AObj} {c : Nat} {rl wl : List Nat} (hf : Fresh h c) {p m dim : Nat} {mt : Int} {M : List Rc} {U : Nat → Prop} (q : FlatM h p m mt dim M U) (hd1 : 1 ≤ dim) (hd : dim ≤ 1000) (id : Int) :
    ∃ r s', FnTo (Cs smQ) eg 116 [.pointer (some ⟨p, 0, none⟩), .int .i64 id] ⟨h, c, rl, wl⟩ r s' ∧ (∃ w, r = .tuple #[w, .bool (getM id M).isSome] ∧ ((getM id M = none ∧ Own s'.h c w 0 []) ∨ ∃ r0, getM id M = some r0 ∧ Own s'.h c w dim r0.xs)) ∧ Ext ⟨h, c, rl, wl⟩ s' U (fun _ => False) := by
  obtain ⟨es, n, hm, ⟨ids, h2⟩, h3⟩ := q.ex
  have hp := q.ptr
  obtain ⟨lp, lm⟩ := q.lt hf
  have hpU := q.pU
  have hmU := q.mU
  have his : (findI id es).isSome = (getM id M).isSome := by
    rcases h3 id with ⟨e1, e2⟩ | ⟨r, v, e1, e2, _⟩
    · rw [e1, valI_none.1 e2]; rfl
    · obtain ⟨i, e3⟩ := valI_some e2
      rw [e1, e3]; rfl
  obtain ⟨xa, xn, xk, hv, hcase⟩ : ∃ a n k, (match findI id es with | some p => p.2 | none => .slice none 0 0) = Value.slice a n k ∧ ((getM id M = none ∧ a = none ∧ n = 0 ∧ k = 0) ∨ ∃ r0, getM id M = some r0 ∧ n = dim ∧ r0.xs.length = dim ∧ Own h 0 (.slice a n k) dim r0.xs ∧ ∀ b, blkOf (.slice a n k) = some b → U b) := by
    rcases h3 id with ⟨e1, e2⟩ | ⟨r, v, e1, e2, e3, e4⟩
    · rw [valI_none.1 e2]; exact ⟨_, _, _, rfl, .inl ⟨e1, rfl, rfl, rfl⟩⟩
    · obtain ⟨i, e5⟩ := valI_some e2
      obtain ⟨zs, e6, e7, _⟩ := q.ok r (getM_mem e1).1
      have e8 : r.xs.length = dim := by rw [e6, List.length_map, e7]
      rw [e8] at e3
      obtain ⟨a, k, rfl⟩ := e3.val
      rw [e5]
      exact ⟨_, _, _, rfl, .inr ⟨r, e1, rfl, e8, e3, fun b hb => (e4 b hb).1⟩⟩
  refine Fn.go (stdQ 116 rfl) ex116 fn116 km116 rfl rfl ?_
  refine Zev ?_
  refine Zgo ?_
  ((with_reducible apply Wseq.stg); rfl; exact to_lookupOk (mi_ rfl) (ze_ rfl) rfl rfl hm (by omega) h2.ks hv his)
  refine Zgo ?_
  rcases hcase with ⟨hg, rfl, rfl, rfl⟩ | ⟨r0, hg, rfl, hl, hown, hub⟩
  · refine Wseq.call rfl rfl (copy_spec stdQ Zfr (xs := []) (.inl ⟨rfl, rfl, _, _, rfl⟩) (by unfold bigV; omega) (fun e => ⟨_, _, rfl, fun _ => rfl⟩) U (fun b o sp n' cap e => by cases e)) ?_
    rintro w h1 c1 r1 w1 ⟨hw, hext⟩
    have fr1 := hext.fresh
    have le1 := hext.c
    simp only at le1 fr1 hw
    have kp := Kp.ext (W := fun _ => False) (h := h) (c := c) Zkp hext (by omega) (fun _ _ q => q)
    have lr := Lg.extR (R := U) (c := c) Zlg hext (fun _ _ q => q)
    have lw := Lg.extW (W := fun _ => False) (c := c) Zlg hext (fun _ _ q => q)
    refine Zgo ?_
    refine ⟨.inr rfl, Wres.two rfl rfl ⟨⟨w, rfl, .inl ⟨hg, hw⟩⟩, ?_⟩⟩
    exact Zex
  · refine Wseq.call rfl rfl (copy_spec stdQ Zfr (hown.row hl) (by unfold bigV; omega) (fun e => by omega) U (fun b o sp n' cap e => hub b (by rw [e]; rfl))) ?_
    rintro w h1 c1 r1 w1 ⟨hw, hext⟩
    have fr1 := hext.fresh
    have le1 := hext.c
    simp only at le1 fr1 hw
    have kp := Kp.ext (W := fun _ => False) (h := h) (c := c) Zkp hext (by omega) (fun _ _ q => q)
    have lr := Lg.extR (R := U) (c := c) Zlg hext (fun _ _ q => q)
    have lw := Lg.extW (W := fun _ => False) (c := c) Zlg hext (fun _ _ q => q)
    refine Zgo ?_
    refine ⟨.inr rfl, Wres.two rfl rfl ⟨⟨w, rfl, .inr ⟨r0, hg, hw⟩⟩, ?_⟩⟩
    exact Zex

def faceF (p : Nat) : Value := .agg ⟨[.pointer (some ⟨p, 0, none⟩), .pointer none, .pointer none, .pointer none]⟩

theorem facedel_spec {h : T AObj} {c : Nat} {rl wl : List Nat} (hf : Fresh h c) {p m dim : Nat} {mt : Int} {M : List Rc} {U : Nat → Prop} (q : FlatM h p m mt dim M U) (id : Int) :
    ∃ r s', FnTo (Cs smQ) eg 59 [faceF p, .int .i64 id] ⟨h, c, rl, wl⟩ r s' ∧ (r = .bool (getM id M).isSome ∧ FlatM s'.h p m mt dim (delM id M) U) ∧ Ext ⟨h, c, rl, wl⟩ s' U (fun b => b = m) := by
  obtain ⟨lp, lm⟩ := q.lt hf
  refine Fn.go (stdQ 59 rfl) ex59 fn59 km59 rfl rfl ?_
  intro e he
  unfold faceF at he
  (simp (decide := true) only [kz] at he; subst he)
  refine Zgo ?_
  refine Wseq.call rfl rfl (fdel_spec Zfr (q.keep hf (fun b _ hb => get_other (by omega))) id) ?_
  rintro v1 h1 c1 r1 w1 ⟨⟨rfl, q1⟩, hext⟩
  have fr1 := hext.fresh
  have le1 := hext.c
  simp only at le1 fr1 q1
  have kp := Kp.ext (W := fun b => b = m) (h := h) (c := c) Zkp hext (by omega) (fun _ _ q => q)
  have lr := Lg.extR (R := U) (c := c) Zlg hext (fun _ _ q => q)
  have lw := Lg.extW (W := fun b => b = m) (c := c) Zlg hext (fun _ _ q => q)
  refine Zgo ?_
  refine ⟨.inr rfl, Wres.one rfl ⟨⟨rfl, q1⟩, ?_⟩⟩
  exact Zex

theorem faceids_spec {h : T AObj} {c : Nat} {rl wl : List Nat} (hf : Fresh h c) {p m dim : Nat} {mt : Int} {M : List Rc} {U : Nat → Prop} (q : FlatM h p m mt dim M U) (hn : M.length ≤ 1000) :
    ∃ r s', FnTo (Cs smQ) eg 65 [faceF p] ⟨h, c, rl, wl⟩ r s' ∧ Own s'.h c r M.length ((M.map Rc.id).map (Value.int .i64)) ∧ Ext ⟨h, c, rl, wl⟩ s' U (fun _ => False) := by
  obtain ⟨lp, lm⟩ := q.lt hf
  refine Fn.go (stdQ 65 rfl) ex65 fn65 km65 rfl rfl ?_
  intro e he
  unfold faceF at he
  (simp (decide := true) only [kz] at he; subst he)
  refine Zgo ?_
  refine Wseq.call rfl rfl (fids_spec Zfr (q.keep hf (fun b _ hb => get_other (by omega))) hn) ?_
  rintro v1 h1 c1 r1 w1 ⟨hids, hext⟩
  have fr1 := hext.fresh
  have le1 := hext.c
  simp only at le1 fr1 hids
  have kp := Kp.ext (W := fun _ => False) (h := h) (c := c) Zkp hext (by omega) (fun _ _ q => q)
  have lr := Lg.extR (R := U) (c := c) Zlg hext (fun _ _ q => q)
  have lw := Lg.extW (W := fun _ => False) (c := c) Zlg hext (fun _ _ q => q)
  refine Zgo ?_
  refine ⟨.inr rfl, Wres.one rfl ⟨hids.low (by omega), ?_⟩⟩
  exact Zex

theorem facevec_spec {h : T AObj} {c : Nat} {rl wl : List Nat} (hf : Fresh h c) {p m dim : Nat} {mt : Int} {M : List Rc} {U : Nat → Prop} (q : FlatM h p m mt dim M U) (hd1 : 1 ≤ dim) (hd : dim ≤ 1000) (id : Int) :
    ∃ r s', FnTo (Cs smQ) eg 63 [faceF p, .int .i64 id] ⟨h, c, rl, wl⟩ r s' ∧ (∃ w, r = .tuple #[w, .bool (getM id M).isSome] ∧ ((getM id M = none ∧ Own s'.h c w 0 []) ∨ ∃ r0, getM id M = some r0 ∧ Own s'.h c w dim r0.xs)) ∧ Ext ⟨h, c, rl, wl⟩ s' U (fun _ => False) := by
  obtain ⟨lp, lm⟩ := q.lt hf
  refine Fn.go (stdQ 63 rfl) ex63 fn63 km63 rfl rfl ?_
  intro e he
  unfold faceF at he
  (simp (decide := true) only [kz] at he; subst he)
  refine Zgo ?_
  refine Wseq.call rfl rfl (fvec_spec Zfr (q.keep hf (fun b _ hb => get_other (by omega))) hd1 hd id) ?_
  rintro v1 h1 c1 r1 w1 ⟨⟨w, rfl, hw⟩, hext⟩
  have fr1 := hext.fresh
  have le1 := hext.c
  simp only at le1 fr1 hw
  have kp := Kp.ext (W := fun _ => False) (h := h) (c := c) Zkp hext (by omega) (fun _ _ q => q)
  have lr := Lg.extR (R := U) (c := c) Zlg hext (fun _ _ q => q)
  have lw := Lg.extW (W := fun _ => False) (c := c) Zlg hext (fun _ _ q => q)
  refine Zgo ?_
  refine ⟨.inr rfl, Wres.two rfl rfl ⟨⟨w, rfl, ?_⟩, ?_⟩⟩
  · rcases hw with ⟨a, b⟩ | ⟨r0, a, b⟩
    · exact .inl ⟨a, b.low (by omega)⟩
    · exact .inr ⟨r0, a, b.low (by omega)⟩
  · exact Zex

theorem facesearch_spec {h : T AObj} {c : Nat} {rl wl : List Nat} (hf : Fresh h c) {p m dim : Nat} {mt : Int} {M : List Rc} {U : Nat → Prop} (q : FlatM h p m mt dim M U) (hmt : mt = 1 ∨ mt = 2) {qa : Option Addr} {qc : Nat} {qs : List Int} (hq : Row h (.slice qa dim qc) dim 1 (qs.map (Value.int .i32))) (hqn : qs.length = dim) (hqb : Bnd qs) (hd : dim ≤ 1000) (k : Int) {kk : Nat} (hk : max k 0 = (kk : Int)) (hkk : kk ≤ 1000) (hn : M.length ≤ 800) (R : Nat → Prop) (hUR : ∀ b, U b → R b) (hqR : ∀ b, blkOf (.slice qa dim qc) = some b → R b) :
    ∃ r s', FnTo (Cs smQ) eg 61 [faceF p, .slice qa dim qc, .int .i64 k] ⟨h, c, rl, wl⟩ r s' ∧ (Best s'.h r (bestOf kk (hitsM mt qs M)).length (flatH (bestOf kk (hitsM mt qs M))) ∧ ∀ b, blkOf r = some b → c ≤ b) ∧ Ext ⟨h, c, rl, wl⟩ s' R (fun _ => False) := by
  obtain ⟨lp, lm⟩ := q.lt hf
  refine Fn.go (stdQ 61 rfl) ex61 fn61 km61 rfl rfl ?_
  intro e he
  unfold faceF at he
  (simp (decide := true) only [kz] at he; subst he)
  refine Zgo ?_
  refine Wseq.call rfl rfl (fsearch_spec Zfr (q.keep hf (fun b _ hb => get_other (by omega))) hmt (Row.keepF hq hf (fun b hb => get_other (by omega))) hqn hqb hd k hk hkk hn R hUR hqR) ?_
  rintro v1 h1 c1 r1 w1 ⟨⟨g1, g2⟩, hext⟩
  have fr1 := hext.fresh
  have le1 := hext.c
  simp only at le1 fr1 g1
  have kp := Kp.ext (W := fun _ => False) (h := h) (c := c) Zkp hext (by omega) (fun _ _ q => q)
  have lr := Lg.extR (R := R) (c := c) Zlg hext (fun _ _ q => q)
  have lw := Lg.extW (W := fun _ => False) (c := c) Zlg hext (fun _ _ q => q)
  refine Zgo ?_
  refine ⟨.inr rfl, Wres.one rfl ⟨⟨g1, fun b hb => by have := g2 b hb; omega⟩, ?_⟩⟩
  exact Zex
end Go.Ab.Seat
end
