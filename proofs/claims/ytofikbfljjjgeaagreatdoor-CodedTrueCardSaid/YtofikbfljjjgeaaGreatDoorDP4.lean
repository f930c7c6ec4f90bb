import Derived.Test.YtofikbfljjjgeaaGreatDoorDW0
import Derived.Test.YtofikbfljjjgeaaGreatDoorDW2
import Derived.Test.YtofikbfljjjgeaaGreatDoorDP0
import Derived.Test.YtofikbfljjjgeaaGreatDoorDY2
import Derived.Test.YtofikbfljjjgeaaGreatDoorDV3
set_option linter.unusedVariables false
set_option linter.unusedSimpArgs false
section
/- An index of codes: one is let go; a vector, a code, the book are told (the abstract machine). -/
namespace Go.Ab.Seat
open Go.Extern Go.Proofs
set_option maxRecDepth 4000
def bytesZ (l : List Int) : List UInt8 := l.map fun n => UInt8.ofNat n.toNat
theorem bytesOfA_u8 : ∀ l : List Int, bytesOfA (l.map (Value.int .u8)) = some (bytesZ l)
 | [] => rfl
 | x :: l => by
  have h := bytesOfA_u8 l
  rw [List.map_cons]
  show (match bytesOfA (l.map (Value.int .u8)) with | none => none | some r => some (UInt8.ofNat x.toNat :: r)) = _
  rw [h]; rfl
noncomputable def strC (C : Ctx) (a b : TypeId) : Bool := match C.und a, C.und b with | some (.slice e), some .string => (match C.und e with | some (.int .u8) => true | _ => false) | _, _ => false
section
variable {C : Ctx} {eg : TypeId → Bool} {e : Env} {d : Option Nat} {ty : TypeId} {ps : String} {af : Array Edge} {g : Option (Nat × Bool)} {h : T AObj} {c : Nat} {rl wl : List Nat}
theorem to_toStr {a b : TypeId} {x : Operand} {ob off n cap : Nat} {sp : Option Nat} {cs : List Value} {l : List Int} (ht : strC C a b = true) (hx : evalA e x = .slice (some ⟨ob, off, sp⟩) (n + 1) cap) (hb : Cel h ob cs) (hc : ob < c) (hs : subN off ((n + 1) * 1) cs = some (l.map (Value.int .u8))) :
  OpTo C eg e ⟨d, .convert a b x, ty, ps, af, g⟩ ⟨h, c, rl, wl⟩ (.string ⟨⟨bytesZ l⟩⟩) ⟨h, c, ob :: rl, wl⟩ := ⟨0, by
 show opConvert C a b (evalA e x) _ = _
 rw [hx]
 unfold strC at ht
 unfold opConvert
 cases hu : C.und a with
 | none => rw [hu] at ht; cases ht
 | some u =>
  cases hw : C.und b with
  | none => rw [hu, hw] at ht; cases u <;> cases ht
  | some w =>
   rw [hu, hw] at ht
   cases u <;> first | (cases ht; done) | skip
   cases w <;> first | (cases ht; done) | skip
   rename_i et
   simp only at ht ⊢
   cases hv : C.und et with
   | none => rw [hv] at ht; cases ht
   | some v =>
    rw [hv] at ht
    cases v <;> first | (cases ht; done) | skip
    rename_i k
    cases k <;> first | (cases ht; done) | skip
    simp only
    have hfa : firstA 1 (n + 1) (.slice (some ⟨ob, off, sp⟩) (n + 1) cap) ⟨h, c, rl, wl⟩ = some (l.map (Value.int .u8), ⟨h, c, ob :: rl, wl⟩) := by
     show (match Nat.ble (n + 1) (n + 1) with | true => readCells ob off ((n + 1) * 1) | false => M.fail) _ = _
     rw [show Nat.ble (n + 1) (n + 1) = true from Nat.ble_eq_true_of_le (Nat.le_refl _)]
     exact readCells_run hb hc hs
    rw [bind_run hfa, bind_run (lift_run (bytesOfA_u8 l))]
    rfl⟩
end
theorem str77 : strC (Cs smQ) 77 9 = true := by kernel_rfl
theorem clone94_spec {h : T AObj} {c : Nat} {rl wl : List Nat} (hf : Fresh h c) {b dim k : Nat} {sp : Option Nat} {xs : List Value} (hb : Has h b (.cells xs)) (hl : xs.length = dim) (hd1 : 1 ≤ dim) (hd : dim ≤ 1000) (R : Nat → Prop) (hR : R b) :
  ∃ r s', FnTo (Cs smQ) eg 94 [.slice (some ⟨b, 0, sp⟩) dim k] ⟨h, c, rl, wl⟩ r s' ∧ (r = .slice (some ⟨c + 1, 0, some 1⟩) dim dim ∧ s'.c = c + 2 ∧ Has s'.h (c + 1) (.cells xs)) ∧ Ext ⟨h, c, rl, wl⟩ s' R (fun _ => False) := by
 obtain ⟨n, rfl⟩ : ∃ n, dim = n + 1 := ⟨dim - 1, by omega⟩
 have hbg : big = 1048576 := rfl
 have lb := hb.lt hf
 refine Fn.go (stdQ 94 rfl) ex94 fn94 km94 rfl rfl ?_
 refine Zev ?_
 refine Zgo ?_
 refine Zu (to_appEx ro77 sl77 rfl rfl (hb.other (by omega)).cel (by omega) (subN_all _ _ (by omega)) (by omega) Zfr) ?_
 refine Zgo ?_
 refine ⟨.inr rfl, Wres.one rfl ⟨⟨rfl, rfl, Has.same⟩, ?_⟩⟩
 exact Zex
theorem cdel_spec {h : T AObj} {c : Nat} {rl wl : List Nat} (hf : Fresh h c) {p m dim : Nat} {vl vs : Value} {mt : Int} {lo st : List Int} {M : List Rc} {U : Nat → Prop} (q : CodM h p m vl vs mt dim lo st M U) (id : Int) :
  ∃ r s', FnTo (Cs smQ) eg 106 [.pointer (some ⟨p, 0, none⟩), .int .i64 id] ⟨h, c, rl, wl⟩ r s' ∧ (r = .bool (getM id M).isSome ∧ CodM s'.h p m vl vs mt dim lo st (delM id M) U) ∧ Ext ⟨h, c, rl, wl⟩ s' U (fun b => b = m) := by
 obtain ⟨es, n, hm, ⟨ids, h2⟩, h3⟩ := q.ex
 have hp := q.ptr
 obtain ⟨lp, lm⟩ := q.lt hf
 have hpU := q.pU
 have hmU := q.mU
 obtain ⟨v, hv, hva⟩ : ∃ v : Value, (match findI id es with | some p => p.2 | none => .agg ⟨[.slice none 0 0, .slice none 0 0]⟩) = v ∧ ∃ a n k a' n' k', v = .agg ⟨[.slice a n k, .slice a' n' k']⟩ := by
  rcases h3 id with ⟨e1, e2⟩ | ⟨r, v, e1, e2, w, cw, rfl, e4, e5, _⟩
  ·rw [valI_none.1 e2]; exact ⟨_, rfl, _, _, _, _, _, _, rfl⟩
  ·obtain ⟨i, e3⟩ := valI_some e2
   obtain ⟨a, k, rfl⟩ := e4.val
   obtain ⟨a', k', rfl⟩ := e5.val
   rw [e3]; exact ⟨_, rfl, _, _, _, _, _, _, rfl⟩
 obtain ⟨xa, xn, xk, ya, yn, yk, rfl⟩ := hva
 have his : (findI id es).isSome = (getM id M).isSome := by
  rcases h3 id with ⟨e1, e2⟩ | ⟨r, v, e1, e2, _⟩
  ·rw [e1, valI_none.1 e2]; rfl
  ·obtain ⟨i, e3⟩ := valI_some e2
   rw [e1, e3]; rfl
 refine Fn.go (stdQ 106 rfl) ex106 fn106 km106 rfl rfl ?_
 refine Zev ?_
 refine Zgo ?_
 refine Zu (to_lookupOk (mi_ rfl) (ze_ rfl) rfl rfl hm (by omega) h2.ks hv his) ?_
 refine Zgo ?_
 refine Wseq.st0 (to_delete (mi_ rfl) rfl rfl Zhs (by omega) h2.ks) ?_
 refine Zgo ?_
 refine ⟨.inr rfl, Wres.one rfl ⟨⟨rfl, ?_⟩, ?_⟩⟩
 ·obtain ⟨ids', k1, _, _⟩ := h2.del id
  refine ⟨Has.other (fun e => q.ne e) ((hp.other (by omega)).other (by omega)), q.book.keep hf (fun _ q => q) (fun b hb hc => (get_other hb.2.2).trans ((get_other (by omega)).trans (get_other (by omega)))), ⟨_, _, Has.same, ⟨_, k1⟩, fun x => ?_⟩, hpU, hmU, q.ne, q.rises.filter _, fun r hr => q.ok r (List.mem_filter.1 hr).1⟩
  rw [getM_del, valI_del h2]
  by_cases hxi : x = id
  ·rw [if_pos hxi, if_pos hxi]; exact .inl ⟨rfl, rfl⟩
  ·rw [if_neg hxi, if_neg hxi]
   exact (h3 x).keep hf (fun b hb => hb) fun b _ hc _ hm => (get_other hm).trans ((get_other (by omega)).trans (get_other (by omega)))
 ·exact Zex
theorem CodM.at {h : T AObj} {p m dim : Nat} {vl vs : Value} {mt : Int} {lo st : List Int} {M : List Rc} {U : Nat → Prop} (q : CodM h p m vl vs mt dim lo st M U) {id : Int} {r0 : Rc} (hr0 : getM id M = some r0) {es : List (Value × Value × Nat)} (h3 : ∀ x, CFits h p m U lo st (getM x M) (valI x es)) :
  ∃ zs a k a' k', r0 = mbR id zs ∧ zs.length = dim ∧ Bnd zs ∧ (match findI id es with | some p => p.2 | none => .agg ⟨[.slice none 0 0, .slice none 0 0]⟩) = Value.agg ⟨[.slice a dim k, .slice a' dim k']⟩ ∧ (findI id es).isSome = true ∧ Own h 0 (.slice a dim k) dim (zs.map (Value.int .i32)) ∧ Own h 0 (.slice a' dim k') dim ((codeZ lo st zs).map (Value.int .u8)) ∧ (∀ b, blkOf (.slice a dim k) = some b → U b) ∧ ∀ b, blkOf (.slice a' dim k') = some b → U b := by
 rcases h3 id with ⟨e1, _⟩ | ⟨r, v, e1, e2, w, cw, rfl, e3, e4, e5, e6⟩
 ·rw [hr0] at e1; cases e1
 ·rw [hr0] at e1; cases e1
  obtain ⟨i, e7⟩ := valI_some e2
  obtain ⟨zs, e8, e9, e10⟩ := q.ok r0 (getM_mem hr0).1
  have hid : r0.id = id := (getM_mem hr0).2
  have ex : r0.xs = zs.map (Value.int .i32) := by rw [e8]
  rw [ex, List.length_map, e9] at e3 e4
  rw [intsV_ints] at e4
  obtain ⟨a, k, rfl⟩ := e3.val
  obtain ⟨a', k', rfl⟩ := e4.val
  rw [e7]
  exact ⟨zs, a, k, a', k', hid ▸ e8, e9, e10, rfl, rfl, e3, e4, fun b hb => (e5 b hb).1, fun b hb => (e6 b hb).1⟩
theorem cvec_spec {h : T AObj} {c : Nat} {rl wl : List Nat} (hf : Fresh h c) {p m dim : Nat} {vl vs : Value} {mt : Int} {lo st : List Int} {M : List Rc} {U : Nat → Prop} (q : CodM h p m vl vs mt dim lo st M U) (hd1 : 1 ≤ dim) (hd : dim ≤ 1000) {id : Int} {r0 : Rc} (hr0 : getM id M = some r0) :
  ∃ r s', FnTo (Cs smQ) eg 39 [.pointer (some ⟨p, 0, none⟩), .int .i64 id] ⟨h, c, rl, wl⟩ r s' ∧ (∃ w, r = .tuple #[w, .bool true] ∧ Own s'.h (c + 1) w dim r0.xs) ∧ Ext ⟨h, c, rl, wl⟩ s' U (fun _ => False) := by
 obtain ⟨es, n, hm, ⟨ids, h2⟩, h3⟩ := q.ex
 have hp := q.ptr
 obtain ⟨lp, lm⟩ := q.lt hf
 have hpU := q.pU
 have hmU := q.mU
 obtain ⟨zs, xa, xk, ya, yk, rfl, hzl, hzb, hv, hs, hown, _, hown2, _⟩ := q.at hr0 h3
 have hlen : (zs.map (Value.int .i32)).length = dim := by rw [List.length_map, hzl]
 have hrow := hown.row hlen
 refine Fn.go (stdQ 39 rfl) ex39 fn39 km39 rfl rfl ?_
 refine Zev ?_
 refine Zgo ?_
 refine Zu (to_lookupOk (mi_ rfl) (ze_ rfl) rfl rfl hm (by omega) h2.ks hv hs) ?_
 refine Zgo ?_
 refine Wseq.call rfl rfl (copy_spec stdQ Zfr (Row.keepF hrow hf (fun b hb => by rw [get_other (by omega), get_other (by omega)])) (by unfold bigV; omega) (fun e => by omega) U (fun b o sp n' cap e => hown2 b (by rw [e]; rfl))) ?_
 rintro w h1 c1 r1 w1 ⟨hw, hext⟩
 have fr1 := hext.fresh
 have le1 := hext.c
 simp only at le1 fr1 hw
 have kp := Kp.ext (W := fun _ => False) (h := h) (c := c) Zkp hext (by omega) (fun _ _ q => q)
 have lr := Lg.extR (R := U) (c := c) Zlg hext (fun _ _ q => q)
 have lw := Lg.extW (W := fun _ => False) (c := c) Zlg hext (fun _ _ q => q)
 refine Zgo ?_
 refine ⟨.inr rfl, Wres.two rfl rfl ⟨⟨w, rfl, hw⟩, ?_⟩⟩
 exact Zex
theorem ccode_spec {h : T AObj} {c : Nat} {rl wl : List Nat} (hf : Fresh h c) {p m dim : Nat} {vl vs : Value} {mt : Int} {lo st : List Int} {M : List Rc} {U : Nat → Prop} (q : CodM h p m vl vs mt dim lo st M U) (hd1 : 1 ≤ dim) (hd : dim ≤ 1000) {id : Int} {r0 : Rc} (hr0 : getM id M = some r0) :
  ∃ r s', FnTo (Cs smQ) eg 41 [.pointer (some ⟨p, 0, none⟩), .int .i64 id] ⟨h, c, rl, wl⟩ r s' ∧ (∃ b, r = .slice (some ⟨b, 0, some 1⟩) dim dim ∧ c ≤ b ∧ Has s'.h b (.cells ((codeZ lo st (intsV r0.xs)).map (Value.int .u8)))) ∧ Ext ⟨h, c, rl, wl⟩ s' U (fun _ => False) := by
 obtain ⟨es, n, hm, ⟨ids, h2⟩, h3⟩ := q.ex
 have hp := q.ptr
 obtain ⟨lp, lm⟩ := q.lt hf
 have hpU := q.pU
 have hmU := q.mU
 obtain ⟨zs, xa, xk, ya, yk, rfl, hzl, hzb, hv, hs, _, hown, _, hown2⟩ := q.at hr0 h3
 rw [show intsV (mbR id zs).xs = zs from intsV_ints zs]
 have hlen : ((codeZ lo st zs).map (Value.int .u8)).length = dim := by rw [List.length_map, codeZ_len, hzl]
 rcases hown with ⟨e, _⟩ | ⟨b, sp, cap, e, _, _, hb⟩
 ·simp only [Value.slice.injEq] at e; omega
 cases e
 have lb := hb.lt hf
 refine Fn.go (stdQ 41 rfl) ex41 fn41 km41 rfl rfl ?_
 refine Zev ?_
 refine Zgo ?_
 refine Zu (to_lookup (mi_ rfl) (ze_ rfl) rfl rfl hm (by omega) h2.ks hv) ?_
 refine Zgo ?_
 refine Wseq.call rfl rfl (clone94_spec Zfr Zhs hlen hd1 hd U (hown2 b rfl)) ?_
 rintro w h1 c1 r1 w1 ⟨⟨rfl, e1, g1⟩, hext⟩
 simp only at e1
 subst e1
 have fr1 := hext.fresh
 simp only at fr1 g1
 have kp := Kp.ext (W := fun _ => False) (h := h) (c := c) Zkp hext (by omega) (fun _ _ q => q)
 have lr := Lg.extR (R := U) (c := c) Zlg hext (fun _ _ q => q)
 have lw := Lg.extW (W := fun _ => False) (c := c) Zlg hext (fun _ _ q => q)
 refine Zgo ?_
 refine ⟨.inr rfl, Wres.one rfl ⟨⟨_, rfl, by omega, g1⟩, ?_⟩⟩
 exact Zex
theorem clone161R_spec {h : T AObj} {c : Nat} {rl wl : List Nat} (hf : Fresh h c) {a : Option Addr} {dim k : Nat} {xs : List Value} (hx : Row h (.slice a dim k) dim 1 xs) (hl : xs.length = dim) (hd1 : 1 ≤ dim) (hd : dim ≤ 1000) (R : Nat → Prop) (hR : ∀ b, blkOf (.slice a dim k) = some b → R b) :
  ∃ r s', FnTo (Cs smQ) eg 161 [.slice a dim k] ⟨h, c, rl, wl⟩ r s' ∧ (r = .slice (some ⟨c + 1, 0, some 1⟩) dim dim ∧ s'.c = c + 2 ∧ Has s'.h (c + 1) (.cells xs)) ∧ Ext ⟨h, c, rl, wl⟩ s' R (fun _ => False) := by
 obtain ⟨n, rfl⟩ : ∃ n, dim = n + 1 := ⟨dim - 1, by omega⟩
 have hbg : big = 1048576 := rfl
 obtain ⟨b, o, sp, cs, rfl, hb, hs⟩ := rowB hx (by omega)
 have lb := hb.lt hf
 have hRb := hR b rfl
 refine Fn.go (stdQ 161 rfl) ex161 fn161 km161 rfl rfl ?_
 refine Zev ?_
 refine Zgo ?_
 refine Zu (to_appEx ro24 sl24 rfl rfl Zce (by omega) hs (by omega) Zfr) ?_
 refine Zgo ?_
 refine ⟨.inr rfl, Wres.one rfl ⟨⟨rfl, rfl, Has.same⟩, ?_⟩⟩
 exact Zex
theorem copiedB_spec {h : T AObj} {c : Nat} {rl wl : List Nat} (hf : Fresh h c) {bk : Value} {dim : Nat} {lo st : List Int} {U : Nat → Prop} (q : BkAt h bk dim lo st U) (hd1 : 1 ≤ dim) (hd : dim ≤ 1000) :
  ∃ r s', FnTo (Cs smQ) eg 92 [bk] ⟨h, c, rl, wl⟩ r s' ∧ BkAt s'.h r dim lo st (fun b => c ≤ b ∧ b < s'.c) ∧ Ext ⟨h, c, rl, wl⟩ s' U (fun _ => False) := by
 obtain ⟨⟨al, kl, at_, ks, rfl, q1, q2, q3, q4⟩, q5, q6, q7, q8⟩ := q
 refine Fn.go (stdQ 92 rfl) ex92 fn92 km92 rfl rfl ?_
 refine Zev ?_
 refine Zgo ?_
 refine Wtr.call rfl rfl (clone161R_spec Zfr (Row.keepF q1 hf (fun b hb => by rw [get_other (by omega), get_other (by omega)])) (by rw [List.length_map, q5]) hd1 hd U q3) ?_
 rintro v1 h1 c1 r1 w1 ⟨⟨rfl, e1, g1⟩, hext⟩
 have fr1 := hext.fresh
 simp only at fr1 e1 g1
 subst e1
 have hqt := hext.quiet (fun _ _ q => q)
 have kp := Kp.ext (W := fun _ => False) (h := h) (c := c) Zkp hext (by omega) (fun _ _ q => q)
 have lr := Lg.extR (R := U) (c := c) Zlg hext (fun _ _ q => q)
 have lw := Lg.extW (W := fun _ => False) (c := c) Zlg hext (fun _ _ q => q)
 have gb := hext.hs (b := c) (Has.other (by omega) Has.same) (by omega) (fun q => q)
 have gr := hext.hs (b := c + 1) Has.same (by omega) (fun q => q)
 have hap : ApartP ⟨r1, w1, c + 1 + 1, c + 1 + 1 + 2⟩ ⟨[c], [], c + 1 + 1 + 2, c + 1 + 1 + 2⟩ := ApartP.wr (fun y hy => (hqt y hy).elim) (by omega)
 refine ⟨Zap, ?_⟩
 refine Zgo ?_
 refine Wtr.call rfl rfl (clone161R_spec Zfr (Row.keepF q2 hf (fun b hb => kp b hb (fun q => q))) (by rw [List.length_map, q6]) hd1 hd U q4) ?_
 rintro v2 h2 c2 r2 w2 ⟨⟨rfl, e2, g2⟩, hext2⟩
 have fr2 := hext2.fresh
 simp only at fr2 e2 g2
 subst e2
 have hqt2 := hext2.quiet (fun _ _ q => q)
 have kp2 := Kp.ext (W := fun _ => False) (h := h) (c := c) kp hext2 (by omega) (fun _ _ q => q)
 have lr2 := Lg.extR (R := U) (c := c) Zlg hext2 (fun _ _ q => q)
 have lw2 := Lg.extW (W := fun _ => False) (c := c) Zlg hext2 (fun _ _ q => q)
 have gr2 := hext2.hs (b := c + 1) gr (by omega) (fun q => q)
 have g12 := hext2.hs g1 (by omega) (fun q => q)
 refine ⟨Zap, ?_⟩
 refine Zgo ?_
 refine ⟨.inr rfl, Wres.cell rfl (ag_ rfl) Has.same.cel (by omega) (by rfl) ⟨⟨⟨_, _, _, _, rfl, .inr ⟨_, 0, _, _, _, rfl, (Has.other (by omega) g12).cel, subN_all _ _ (by rw [List.length_map, q5, Nat.mul_one])⟩, .inr ⟨_, 0, _, _, _, rfl, (Has.other (by omega) g2).cel, subN_all _ _ (by rw [List.length_map, q6, Nat.mul_one])⟩, fun b hb => ?_, fun b hb => ?_⟩, q5, q6, q7, q8⟩, ?_⟩⟩
 ·cases hb; dsimp only; omega
 ·cases hb; dsimp only; omega
 ·exact Zex
theorem cbook_spec {h : T AObj} {c : Nat} {rl wl : List Nat} (hf : Fresh h c) {p m dim : Nat} {vl vs : Value} {mt : Int} {lo st : List Int} {M : List Rc} {U : Nat → Prop} (q : CodM h p m vl vs mt dim lo st M U) (hd1 : 1 ≤ dim) (hd : dim ≤ 1000) :
  ∃ r s', FnTo (Cs smQ) eg 38 [.pointer (some ⟨p, 0, none⟩)] ⟨h, c, rl, wl⟩ r s' ∧ BkAt s'.h r dim lo st (fun b => c ≤ b ∧ b < s'.c) ∧ Ext ⟨h, c, rl, wl⟩ s' U (fun _ => False) := by
 have hp := q.ptr
 obtain ⟨lp, lm⟩ := q.lt hf
 have hpU := q.pU
 have hbk := q.book
 obtain ⟨⟨al, kl, at_, ks, ebk, _⟩, _⟩ := _root_.id hbk
 simp only [Value.agg.injEq, Array.mk.injEq, List.cons.injEq, and_true] at ebk
 obtain ⟨rfl, rfl⟩ := ebk
 refine Fn.go (stdQ 38 rfl) ex38 fn38 km38 rfl rfl ?_
 refine Zev ?_
 refine Zgo ?_
 refine Wseq.call rfl rfl (copiedB_spec Zfr (hbk.keep (U' := U) hf (fun b hb => hb.1) (fun b _ hb => get_other (by omega))) hd1 hd) ?_
 rintro v1 h1 c1 r1 w1 ⟨hb1, hext⟩
 have fr1 := hext.fresh
 have le1 := hext.c
 simp only at fr1 le1 hb1
 have kp := Kp.ext (W := fun _ => False) (h := h) (c := c) Zkp hext (by omega) (fun _ _ q => q)
 have lr := Lg.extR (R := U) (c := c) Zlg hext (fun _ _ q => q)
 have lw := Lg.extW (W := fun _ => False) (c := c) Zlg hext (fun _ _ q => q)
 have gb := hext.hs (b := c) Has.same (by omega) (fun q => q)
 obtain ⟨⟨al', kl', at2, ks', rfl, _⟩, _⟩ := _root_.id hb1
 refine Zgo ?_
 refine ⟨.inr rfl, Wres.cell rfl (ag_ rfl) Has.same.cel (by omega) (by rfl) ⟨hb1.keep fr1 (fun b hb => ⟨by omega, hb.2⟩) (fun b hb _ => get_other (by omega)), ?_⟩⟩
 exact Zex
end Go.Ab.Seat
end
section
/- CodedFew: the run answers true (the abstract machine). -/
namespace Go.Ab.Seat
open Go.Extern Go.Proofs
set_option maxRecDepth 4000
structure TwoC (h : T AObj) (c : Nat) (p m : Nat) (vl vs : Value) (pf mf : Nat) (mt : Int) (dim : Nat) (lo st : List Int) (A : List Rc) (B : List Rc) : Prop where
 ex : ∃ Ua Ub : Nat → Prop, CodM h p m vl vs mt dim lo st A Ua ∧ FlatM h pf mf mt dim B Ub ∧ ¬Ua mf ∧ ¬Ub m ∧ m < c ∧ mf < c
theorem TwoC.putF {h : T AObj} {c : Nat} {rl wl : List Nat} (hf : Fresh h c) {p m pf mf dim : Nat} {vl vs : Value} {mt : Int} {lo st : List Int} {A B : List Rc} (t : TwoC h c p m vl vs pf mf mt dim lo st A B) (id : Int) (hid : -9223372036854775808 ≤ id ∧ id ≤ 9223372036854775807) {bi : Nat} {zs : List Int} (hv : Has h bi (.cells (zs.map (Value.int .i32)))) (hz : zs.length = dim) (hb : Bnd zs) (hd : 1 ≤ dim) (hd' : dim ≤ 8) :
  ∃ r s', FnTo (Cs smQ) eg 20 [.pointer (some ⟨pf, 0, none⟩), .int .i64 id, .slice (some ⟨bi, 0, none⟩) dim dim] ⟨h, c, rl, wl⟩ r s' ∧ TwoC s'.h s'.c p m vl vs pf mf mt dim lo st A (putM (mbR id zs) B) ∧ (∃ es n, Has h mf (.map es n)) ∧ Ext ⟨h, c, rl, wl⟩ s' (fun _ => True) (fun b => b = mf) := by
 obtain ⟨Ua, Ub, qa, qb, u1, u2, l1, l2⟩ := t.ex
 obtain ⟨es, n, hma⟩ := qb.hm
 have hrow : Row h (.slice (some ⟨bi, 0, none⟩) dim dim) dim 1 (zs.map (Value.int .i32)) := .inr ⟨bi, 0, none, dim, _, rfl, hv.cel, subN_all _ _ (by rw [List.length_map]; omega)⟩
 obtain ⟨r, s', e1, e2, e3⟩ := fput_spec (rl := rl) (wl := wl) hf qb id hid hrow hz hb hd (by omega) (fun b => b = bi) (fun b o sp e => by cases e; rfl) (fun e => notMap hv hma e.symm)
 have hc := e3.c
 simp only at hc
 refine ⟨r, s', e1, ⟨Ua, _, qa.keep hf fun b hb hc => e3.h b hc (fun e => u1 (e ▸ hb)), e2, u1, ?_, by omega, by omega⟩, ⟨es, n, hma⟩, e3.mono (fun _ _ _ => trivial) fun _ _ q => q⟩
 rintro (q | q)
 ·exact u2 q
 ·omega
end Go.Ab.Seat
end
section
/- Middles are found: the first ones that are unlike (the abstract machine). -/
namespace Go.Ab.Seat
open Go.Extern Go.Proofs
set_option maxRecDepth 4000
theorem setOne {ws : List Value} {i : Nat} {w : Value} (hi : i < ws.length) (ha : atom w = true) : setMany [w] ws (0 + i * 1) = some (ws.set i w) := by
 rw [setMany_eq _ _ _ (by show _ + 1 ≤ _; omega) (all_cons ha all_nil), List.set_eq_take_append_cons_drop, if_pos hi, Nat.zero_add, Nat.mul_one, List.append_assoc]
 rfl
end Go.Ab.Seat
end
