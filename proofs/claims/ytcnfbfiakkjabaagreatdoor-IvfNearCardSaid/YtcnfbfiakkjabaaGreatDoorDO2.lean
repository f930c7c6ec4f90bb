/- slices.SortFunc of a dozen hits or fewer; vectors in a row (the abstract machine). -/
import Derived.Test.YtcnfbfiakkjabaaGreatDoorDO1
set_option linter.unusedVariables false
set_option linter.unusedSimpArgs false
namespace Go.Ab.Seat
open Go.Extern Go.Proofs
set_option linter.unusedSimpArgs false
set_option linter.unusedVariables false
set_option maxRecDepth 4000
set_option pp.deepTerms false
set_option pp.deepTerms.threshold 6

theorem blen0 (s : St) : callF (Cs smQ) (exec (Cs smQ) eg 60) 159 [.int .u64 0] s = some (.int .i64 0, s) := by kernel_rfl
theorem blen1 (s : St) : callF (Cs smQ) (exec (Cs smQ) eg 60) 159 [.int .u64 1] s = some (.int .i64 1, s) := by kernel_rfl
theorem blen2 (s : St) : callF (Cs smQ) (exec (Cs smQ) eg 60) 159 [.int .u64 2] s = some (.int .i64 2, s) := by kernel_rfl
theorem blen3 (s : St) : callF (Cs smQ) (exec (Cs smQ) eg 60) 159 [.int .u64 3] s = some (.int .i64 2, s) := by kernel_rfl
theorem blen4 (s : St) : callF (Cs smQ) (exec (Cs smQ) eg 60) 159 [.int .u64 4] s = some (.int .i64 3, s) := by kernel_rfl
theorem blen5 (s : St) : callF (Cs smQ) (exec (Cs smQ) eg 60) 159 [.int .u64 5] s = some (.int .i64 3, s) := by kernel_rfl
theorem blen6 (s : St) : callF (Cs smQ) (exec (Cs smQ) eg 60) 159 [.int .u64 6] s = some (.int .i64 3, s) := by kernel_rfl
theorem blen7 (s : St) : callF (Cs smQ) (exec (Cs smQ) eg 60) 159 [.int .u64 7] s = some (.int .i64 3, s) := by kernel_rfl
theorem blen8 (s : St) : callF (Cs smQ) (exec (Cs smQ) eg 60) 159 [.int .u64 8] s = some (.int .i64 4, s) := by kernel_rfl
theorem blen9 (s : St) : callF (Cs smQ) (exec (Cs smQ) eg 60) 159 [.int .u64 9] s = some (.int .i64 4, s) := by kernel_rfl
theorem blen10 (s : St) : callF (Cs smQ) (exec (Cs smQ) eg 60) 159 [.int .u64 10] s = some (.int .i64 4, s) := by kernel_rfl
theorem blen11 (s : St) : callF (Cs smQ) (exec (Cs smQ) eg 60) 159 [.int .u64 11] s = some (.int .i64 4, s) := by kernel_rfl
theorem blen12 (s : St) : callF (Cs smQ) (exec (Cs smQ) eg 60) 159 [.int .u64 12] s = some (.int .i64 4, s) := by kernel_rfl
theorem blen_spec (s : St) {n : Nat} (hn : n ≤ 12) : ∃ r s', FnTo (Cs smQ) eg 159 [.int .u64 (wrapA .u64 (n : Int))] s r s' ∧ (∃ z, r = .int .i64 z) ∧ s' = s := by
  have h3 : n = 0 ∨ n = 1 ∨ n = 2 ∨ n = 3 ∨ n = 4 ∨ n = 5 ∨ n = 6 ∨ n = 7 ∨ n = 8 ∨ n = 9 ∨ n = 10 ∨ n = 11 ∨ n = 12 := by omega
  rcases h3 with rfl | rfl | rfl | rfl | rfl | rfl | rfl | rfl | rfl | rfl | rfl | rfl | rfl
  · exact ⟨_, _, ⟨60, blen0 s⟩, ⟨_, rfl⟩, rfl⟩
  · exact ⟨_, _, ⟨60, blen1 s⟩, ⟨_, rfl⟩, rfl⟩
  · exact ⟨_, _, ⟨60, blen2 s⟩, ⟨_, rfl⟩, rfl⟩
  · exact ⟨_, _, ⟨60, blen3 s⟩, ⟨_, rfl⟩, rfl⟩
  · exact ⟨_, _, ⟨60, blen4 s⟩, ⟨_, rfl⟩, rfl⟩
  · exact ⟨_, _, ⟨60, blen5 s⟩, ⟨_, rfl⟩, rfl⟩
  · exact ⟨_, _, ⟨60, blen6 s⟩, ⟨_, rfl⟩, rfl⟩
  · exact ⟨_, _, ⟨60, blen7 s⟩, ⟨_, rfl⟩, rfl⟩
  · exact ⟨_, _, ⟨60, blen8 s⟩, ⟨_, rfl⟩, rfl⟩
  · exact ⟨_, _, ⟨60, blen9 s⟩, ⟨_, rfl⟩, rfl⟩
  · exact ⟨_, _, ⟨60, blen10 s⟩, ⟨_, rfl⟩, rfl⟩
  · exact ⟨_, _, ⟨60, blen11 s⟩, ⟨_, rfl⟩, rfl⟩
  · exact ⟨_, _, ⟨60, blen12 s⟩, ⟨_, rfl⟩, rfl⟩

theorem pdq_spec {h : T AObj} {c : Nat} {rl wl : List Nat} (hf : Fresh h c) {b n : Nat} {l : List Ht} (hb : Has h b (.cells (flatH l))) (hn : l.length = n) (hn' : n ≤ 12) (hd : (l.map Ht.id).Nodup) (lim : Int) :
    ∃ r s', FnTo (Cs smQ) eg 160 [.slice (some ⟨b, 0, none⟩) n n, .int .i64 0, .int .i64 (n : Int), .int .i64 lim, .func (.func 92) #[] #[]] ⟨h, c, rl, wl⟩ r s' ∧ Has s'.h b (.cells (flatH (bestOf n l))) ∧ Ext ⟨h, c, rl, wl⟩ s' (fun x => x = b) (fun x => x = b) := by
  have lb := hb.lt hf
  refine Fn.go (stdQ 160 rfl) ex160 fn160 km160 rfl rfl ?_
  intro e he
  (simp (decide := true) only [kz] at he; subst he)
  (repeat (first | (with_reducible refine Then.go ?_) | (with_reducible refine Wx.seq ?_) | (with_reducible refine Wx.block ?_) | (with_reducible refine Wx.reg ?_) | ((with_reducible refine Wseq.nil ?_); intro e he; (simp (decide := true) only [kz] at he; subst he)) | ((with_reducible apply Wseq.as); rfl; (intro v hv; (simp (decide := true) only [kw] at hv); subst hv))))
  refine Wx.loop1 ?_
  (repeat (first | (with_reducible refine Then.go ?_) | (with_reducible refine Wx.seq ?_) | (with_reducible refine Wx.block ?_) | (with_reducible refine Wx.reg ?_) | (refine Wx.condT rfl (by rfl) ?_) | ((with_reducible refine Wseq.nil ?_); intro e he; (simp (decide := true) only [kz] at he; subst he)) | ((with_reducible apply Wseq.mv); rfl; (intro v hv; (simp (decide := true) only [kw] at hv); subst hv)) | ((with_reducible apply Wseq.as); rfl; (intro v hv; (simp (decide := true) only [kw] at hv); subst hv)) | ((with_reducible apply Wseq.stg (op := Op.binOp BinOp.leq _ _ _ _)); rfl; exact to_leqT rfl rfl (by omega)) | ((with_reducible apply Wseq.stg (op := Op.binOp BinOp.sub _ _ _ _)); rfl; exact to_sub rfl rfl (by omega) (by omega))))
  refine Wseq.call rfl rfl (isort_spec stdQ (by ((repeat (apply Fresh.put; omega)); ((assumption)))) hb hn (by omega) hd) ?_
  rintro v h1 c1 r1 w1 ⟨hb1, hext⟩
  have kp := Kp.ext (W := fun x => x = b) (h := h) (c := c) (by (repeat ((exact Kp.refl)))) hext (by omega) (fun _ _ q => q)
  have lr := Lg.extR (R := fun x => x = b) (c := c) (by (repeat ((exact Lg.nil)))) hext (fun _ _ q => q)
  have lw := Lg.extW (W := fun x => x = b) (c := c) (by (repeat ((exact Lg.nil)))) hext (fun _ _ q => q)
  have fr1 := hext.fresh
  have le1 := hext.c
  simp only at le1 fr1
  (repeat (first | (with_reducible refine Then.go ?_) | (with_reducible refine Then.rt ?_) | (with_reducible refine Out.rt ?_) | (with_reducible refine Wx.ret ?_) | ((with_reducible refine Wseq.nil ?_); intro e he; (simp (decide := true) only [kz] at he; subst he))))
  refine ⟨.inr rfl, Wres.nil ⟨hb1, ?_⟩⟩
  (dsimp only; exact Ext.of (by omega) (by ((repeat (apply Fresh.put; omega)); ((assumption)))) (by (repeat ((assumption)))) (by (repeat ((assumption)))) (by (repeat ((assumption)))))

theorem sortf_spec {h : T AObj} {c : Nat} {rl wl : List Nat} (hf : Fresh h c) {b n : Nat} {l : List Ht} (hb : Has h b (.cells (flatH l))) (hn : l.length = n) (hn' : n ≤ 12) (hd : (l.map Ht.id).Nodup) :
    ∃ r s', FnTo (Cs smQ) eg 91 [.slice (some ⟨b, 0, none⟩) n n, .func (.func 92) #[] #[]] ⟨h, c, rl, wl⟩ r s' ∧ Has s'.h b (.cells (flatH (bestOf n l))) ∧ Ext ⟨h, c, rl, wl⟩ s' (fun x => x = b) (fun x => x = b) := by
  have lb := hb.lt hf
  refine Fn.go (stdQ 91 rfl) ex91 fn91 km91 rfl rfl ?_
  intro e he
  (simp (decide := true) only [kz] at he; subst he)
  (repeat (first | (with_reducible refine Then.go ?_) | (with_reducible refine Wx.seq ?_) | (with_reducible refine Wx.reg ?_) | ((with_reducible refine Wseq.nil ?_); intro e he; (simp (decide := true) only [kz] at he; subst he)) | ((with_reducible apply Wseq.mv); rfl; (intro v hv; (simp (decide := true) only [kw] at hv); subst hv)) | ((with_reducible apply Wseq.as); rfl; (intro v hv; (simp (decide := true) only [kw] at hv); subst hv)) | ((with_reducible apply Wseq.stg (op := Op.call ⟨Callee.builtin Builtin.len, _, _⟩)); rfl; exact to_lenS (sl_ rfl) rfl) | ((with_reducible apply Wseq.stg (op := Op.convert _ _ _)); rfl; exact to_convert (cv_ rfl) rfl)))
  refine Wseq.call rfl rfl (blen_spec _ hn') ?_
  rintro v1 h1 c1 r1 w1 ⟨⟨z, rfl⟩, e1⟩
  cases e1
  (repeat (((with_reducible apply Wseq.mv); rfl; (intro v hv; (simp (decide := true) only [kw] at hv); subst hv))))
  refine Wseq.call rfl rfl (pdq_spec (by ((repeat (apply Fresh.put; omega)); ((assumption)))) hb hn hn' hd z) ?_
  rintro v h1 c1 r1 w1 ⟨hb1, hext⟩
  have kp := Kp.ext (W := fun x => x = b) (h := h) (c := c) (by (repeat ((exact Kp.refl)))) hext (by omega) (fun _ _ q => q)
  have lr := Lg.extR (R := fun x => x = b) (c := c) (by (repeat ((exact Lg.nil)))) hext (fun _ _ q => q)
  have lw := Lg.extW (W := fun x => x = b) (c := c) (by (repeat ((exact Lg.nil)))) hext (fun _ _ q => q)
  have fr1 := hext.fresh
  have le1 := hext.c
  simp only at le1 fr1
  (repeat (((with_reducible refine Wseq.nil ?_); intro e he; (simp (decide := true) only [kz] at he; subst he))))
  refine ⟨.inl rfl, Wres.nil ⟨hb1, ?_⟩⟩
  (dsimp only; exact Ext.of (by omega) (by ((repeat (apply Fresh.put; omega)); ((assumption)))) (by (repeat ((assumption)))) (by (repeat ((assumption)))) (by (repeat ((assumption)))))
end Go.Ab.Seat
