/- slices.Insert of one hit is known: its summary, its contract. -/
import Derived.Test.YtofikbfljjjgeaaGreatDoorDI1
import Derived.Test.YtofikbfljjjgeaaGreatDoorE31
import Derived.Test.YtofikbfljjjgeaaGreatDoorE45
set_option linter.unusedVariables false
set_option linter.unusedSimpArgs false
namespace Go.Ab.Seat
open Go.Extern Go.Proofs
theorem FnTo.callB {C : Ctx} {f : Nat} {args : List Value} {s s' : St} {v : Value} (hsm : C.sm f = none) (hex : C.ex f = none) (h : FnTo C eg f args s v s') : ∃ n, callB C (exec C eg n) f args s = some (v, s') := by
 obtain ⟨n, h⟩ := h
 refine ⟨n, ?_⟩
 unfold callF at h
 rw [hsm] at h
 simp only at h
 rw [hex] at h
 exact h
theorem callB_up {f n : Nat} {args : List Value} {v : Value} {s s0 : St} (h : callB C0 (exec C0 eg n) f args ⟨fillT s.h.get s.c, s.c, [], []⟩ = some (v, s0)) (fr : ∀ x, s.c ≤ x → x < s0.c → s.h.get x = none) :
  s.c ≤ s0.c ∧ ∃ h', callB C0 (exec C0 eg n) f args ⟨s.h, s.c, [], []⟩ = some (v, ⟨h', s0.c, s0.rl, s0.wl⟩) ∧ (∀ x, x < s0.c → h'.get x = s0.h.get x) ∧ ∀ x, s0.c ≤ x → h'.get x = s.h.get x := by
 obtain ⟨r, w, L⟩ := local_callB (local_exec (eg := eg) whole0.sm.loc n) f args _ _ _ h
 have same : ∀ x, x < s0.c → s.h.get x = (fillT s.h.get s.c).get x := by
  intro x hx
  rw [fillT_get]
  by_cases hc : x < s.c
  ·rw [if_pos hc]
  ·rw [if_neg hc]; exact fr x (by omega) hx
 have tl : ∀ b, Touch r w s.c s0.c b → b < s0.c := by
  rintro b (hb | hb | hb)
  ·exact L.rlt b hb
  ·exact L.wlt b hb
  ·exact hb.2
 obtain ⟨h', e1, e2, e3⟩ := L.move ⟨s.h, s.c, [], []⟩ rfl fun b hb => same b (tl b hb)
 refine ⟨L.cle, h', ?_, ?_, fun x hx => e3 x (fun q => absurd (L.wlt x q) (by omega)) (by omega)⟩
 ·rw [e1, L.rl, L.wl]
 ·intro x hx
  by_cases ht : Touch r w s.c s0.c x
  ·exact e2 x ht
  ·have n1 : x ∉ w := fun q => ht (.inr (.inl q))
   have n2 : ¬(s.c ≤ x ∧ x < s0.c) := fun q => ht (.inr (.inr q))
   rw [e3 x n1 n2, L.keep x n1 n2]
   exact same x hx
noncomputable def skip1 : M Unit := fun s => some ((), ⟨s.h, s.c + 1, s.rl, s.wl⟩)
theorem local_skip1 : Local skip1 := by
 intro s a s' h
 cases h
 exact ⟨[], [], rfl, rfl, Nat.le_succ _, (fun b hb => by cases hb), (fun b hb => by cases hb), fun _ _ _ => rfl, fun t ht hh => ⟨t.h, by rw [← ht]; rfl, hh, fun _ _ _ => rfl⟩⟩
noncomputable def gIns1 (b o n i vb vo : Nat) : M Value :=
 (getCellsW b).bind fun cs => (getCellsW vb).bind fun ws => (M.lift (subN o (n * 2) cs)).bind fun xs => (M.lift (subN vo 2 ws)).bind fun vv =>
  match allB atom xs && allB atom vv with
  | true => skip1.bind fun _ => (putO b none).bind fun _ => (newCells (xs.take (i * 2) ++ vv ++ xs.drop (i * 2))).bind fun k => M.ret (.slice (some ⟨k, 0, some 2⟩) (n + 1) (n + 1))
  | false => M.fail
noncomputable def gIns0 (vb vo : Nat) : M Value :=
 (getCellsW vb).bind fun ws => (M.lift (subN vo 2 ws)).bind fun vv => (newCells vv).bind fun k => M.ret (.slice (some ⟨k, 0, some 2⟩) 1 1)
noncomputable def okI (e n cap vb b : Nat) (z : Int) : Bool := Nat.beq e 2 && Nat.ble 1 n && Nat.ble n cap && Nat.ble n 1000 && decide (0 ≤ z) && decide (z ≤ (n : Int)) && !(Nat.beq vb b)
noncomputable def gIns (args : List Value) : M Value :=
 match args with
 | [.slice (some ⟨b, o, some e⟩) n cap, .int .i64 z, .slice (some ⟨vb, vo, sp⟩) 1 vc] =>
  match okI e n cap vb b z with
  | true => gIns1 b o n z.toNat vb vo
  | false => M.fail
 | [.slice none 0 0, .int .i64 z, .slice (some ⟨vb, vo, sp⟩) 1 vc] =>
  match decide (z = 0) with
  | true => gIns0 vb vo
  | false => M.fail
 | _ => M.fail
theorem local_gIns (args : List Value) : Local (gIns args) := by
 unfold gIns
 split
 ·split
  ·refine Local.bind (local_getCellsW _) fun cs => Local.bind (local_getCellsW _) fun ws => Local.bind (Local.lift _) fun xs => Local.bind (Local.lift _) fun vv => ?_
   split
   ·exact Local.bind local_skip1 fun _ => Local.bind (Local.putO _ _) fun _ => Local.bind (local_newCells _) fun _ => Local.ret _
   ·exact Local.fail
  ·exact Local.fail
 ·split
  ·exact Local.bind (local_getCellsW _) fun ws => Local.bind (Local.lift _) fun vv => Local.bind (local_newCells _) fun _ => Local.ret _
  ·exact Local.fail
 ·exact Local.fail
theorem pad_sub {o k m : Nat} {cs xs : List Value} (h : subN o k cs = some xs) : ∃ t, t.length = m ∧ subN o (k + m) (pad cs (o + (k + m))) = some (xs ++ t) := by
 obtain ⟨h1, h2, _⟩ := subN_some _ _ _ _ h
 have hl : o + (k + m) ≤ (pad cs (o + (k + m))).length := by
  unfold pad
  rw [app_eq, List.length_append, tops_len, len_eq]
  show _ ≤ cs.length + (o + (k + m) - cs.length)
  omega
 refine ⟨((pad cs (o + (k + m))).drop (o + k)).take m, ?_, ?_⟩
 ·rw [List.length_take, List.length_drop]; omega
 ·rw [subN_eq _ _ _ hl]
  congr 1
  rw [List.take_add, List.drop_drop]
  congr 1
  rw [subN_eq _ _ _ h2] at h
  rw [← Option.some.inj h]
  unfold pad
  rw [app_eq, List.drop_append, List.take_append, List.length_drop]
  rw [show k - (cs.length - o) = 0 by omega, List.take_zero, List.append_nil]
theorem endOf_run {k o n c : Nat} {s : St} {ck l : List Value} (h : s.h.get k = some (.cells ck)) (hk : k < s.c) (hs : subN o (n * 2) ck = some l) (hn : n ≤ c) : endOf 2 n (.slice (some ⟨k, o, some 2⟩) n c) s = some ((k, l), ⟨s.h, s.c, k :: s.rl, s.wl⟩) := by
 unfold endOf
 simp only [Nat.beq_refl, ble_iff.2 hn, Bool.and_self]
 obtain ⟨h0, c0, rl, wl⟩ := s
 rw [bind_run (getCellsW_run h hk), bind_run (lift_run hs)]
 rfl
theorem run_room {s : St} {b o n i vb vo vc : Nat} {sp : Option Nat} {cs ws vv xs t2 : List Value} (hb : s.h.get b = some (.cells cs)) (hbc : b < s.c) (hs : subN o ((n + 1) * 2) cs = some (xs ++ t2)) (hx : xs.length = n * 2) (hv : s.h.get vb = some (.cells ws)) (hvc : vb < s.c) (hvs : subN vo 2 ws = some vv) (hne : vb ≠ b)
  (ha : ∀ x ∈ xs, atom x = true) (ha' : ∀ x ∈ vv, atom x = true) (hn : n ≤ 1000) (hi : i ≤ n) :
  ∃ k s1 cs', callB C0 (exec C0 eg k) 200 [.slice (some ⟨b, o, some 2⟩) n (n + 1), .int .i64 (i : Int), .slice (some ⟨vb, vo, sp⟩) 1 vc] ⟨s.h, s.c, [], []⟩ = some (.slice (some ⟨b, o, some 2⟩) (n + 1) (n + 1), s1) ∧ s1.c = s.c ∧ s1.h.get b = some (.cells cs') ∧ subN o ((n + 1) * 2) cs' = some (xs.take (i * 2) ++ vv ++ xs.drop (i * 2)) ∧ ∀ x ∈ s1.wl, x = b ∨ s.c ≤ x := by
 have hf : Fresh (fillT s.h.get s.c) s.c := fun x hx => by rw [fillT_get, if_neg (by omega)]
 have hb' : Has (fillT s.h.get s.c) b (.cells cs) := by unfold Has; rw [fillT_get, if_pos hbc]; exact hb
 have hv' : Has (fillT s.h.get s.c) vb (.cells ws) := by unfold Has; rw [fillT_get, if_pos hvc]; exact hv
 have hbg : big = 1048576 := rfl
 have key : ∃ r s0, FnTo C0 eg 200 [.slice (some ⟨b, o, some 2⟩) n (n + 1), .int .i64 (i : Int), .slice (some ⟨vb, vo, sp⟩) 1 vc] ⟨fillT s.h.get s.c, s.c, [], []⟩ r s0 ∧ (r = .slice (some ⟨b, o, some 2⟩) (n + 1) (n + 1) ∧ s0.c = s.c ∧ ∃ cs', Has s0.h b (.cells cs') ∧ subN o ((n + 1) * 2) cs' = some (xs.take (i * 2) ++ vv ++ xs.drop (i * 2))) ∧ Ext ⟨fillT s.h.get s.c, s.c, [], []⟩ s0 (fun x => x = b ∨ x = vb) (fun x => x = b) := by
  rcases Nat.lt_or_ge i n with h | h
  ·obtain ⟨m, rfl⟩ : ∃ m, n = i + 1 + m := ⟨n - i - 1, by omega⟩
   exact ins_room (sm := fun _ => none) rfl rfl hf hb' (A := xs.take (i * 2)) (B := xs.drop (i * 2)) (t2 := t2) (by rw [List.take_append_drop]; exact hs) (by rw [List.length_take]; omega) (by rw [List.length_drop]; omega) hv' hvs hne (fun x hx => ha x (List.mem_of_mem_drop hx)) ha' (by omega)
  ·obtain rfl : i = n := by omega
   rw [List.take_of_length_le (by omega), List.drop_of_length_le (by omega), List.append_nil]
   exact ins_roomE (sm := fun _ => none) rfl hf hb' hs hx hv' hvs ha' (by omega)
 obtain ⟨r, s0, h1, ⟨rfl, h2, cs', h3, h4⟩, h5⟩ := key
 obtain ⟨k, h6⟩ := FnTo.callB rfl ex200 h1
 obtain ⟨_, h', h7, h8, h9⟩ := callB_up h6 fun x h1 h2 => by omega
 exact ⟨k, _, cs', h7, h2, (h8 b (by omega)).trans h3, h4, fun x hx => by
  rcases h5.wl x hx with q | q
  ·cases q
  ·exact .inl q.2⟩
theorem run_full {s : St} {b o n i vb vo vc : Nat} {sp : Option Nat} {cs ws vv xs : List Value} (hb : s.h.get b = some (.cells cs)) (hbc : b < s.c) (hs : subN o (n * 2) cs = some xs) (hv : s.h.get vb = some (.cells ws)) (hvc : vb < s.c) (hvs : subN vo 2 ws = some vv)
  (ha : ∀ x ∈ xs, atom x = true) (ha' : ∀ x ∈ vv, atom x = true) (hn : n ≤ 1000) (h0 : 1 ≤ n) (hi : i ≤ n) (fr : s.h.get s.c = none) :
  ∃ k s1 cs', callB C0 (exec C0 eg k) 200 [.slice (some ⟨b, o, none⟩) n n, .int .i64 (i : Int), .slice (some ⟨vb, vo, sp⟩) 1 vc] ⟨s.h, s.c, [], []⟩ = some (.slice (some ⟨s.c, 0, some 2⟩) (n + 1) (n + 1), s1) ∧ s1.c = s.c + 1 ∧ s1.h.get s.c = some (.cells cs') ∧ subN 0 ((n + 1) * 2) cs' = some (xs.take (i * 2) ++ vv ++ xs.drop (i * 2)) ∧ ∀ x ∈ s1.wl, x = b ∨ s.c ≤ x := by
 have hf : Fresh (fillT s.h.get s.c) s.c := fun x hx => by rw [fillT_get, if_neg (by omega)]
 have hb' : Has (fillT s.h.get s.c) b (.cells cs) := by unfold Has; rw [fillT_get, if_pos hbc]; exact hb
 have hv' : Has (fillT s.h.get s.c) vb (.cells ws) := by unfold Has; rw [fillT_get, if_pos hvc]; exact hv
 have hbg : big = 1048576 := rfl
 have hx : xs.length = n * 2 := (subN_some _ _ _ _ hs).1
 have key : ∃ r s0, FnTo C0 eg 200 [.slice (some ⟨b, o, none⟩) n n, .int .i64 (i : Int), .slice (some ⟨vb, vo, sp⟩) 1 vc] ⟨fillT s.h.get s.c, s.c, [], []⟩ r s0 ∧ (r = .slice (some ⟨s.c, 0, some 2⟩) (n + 1) (n + 1) ∧ s0.c = s.c + 1 ∧ ∃ cs', Has s0.h s.c (.cells cs') ∧ subN 0 ((n + 1) * 2) cs' = some (xs.take (i * 2) ++ vv ++ xs.drop (i * 2))) ∧ Ext ⟨fillT s.h.get s.c, s.c, [], []⟩ s0 (fun x => x = b ∨ x = vb) (fun _ => False) := by
  rcases Nat.lt_or_ge i n with h | h
  ·cases i with
   | zero =>
    obtain ⟨m, rfl⟩ : ∃ m, n = m + 1 := ⟨n - 1, by omega⟩
    rw [Nat.zero_mul, List.take_zero, List.drop_zero, List.nil_append]
    exact ins_full0 (sm := fun _ => none) rfl hf hb' hs hv' hvs ha ha' (by omega)
   | succ i =>
    obtain ⟨m, rfl⟩ : ∃ m, n = i + 1 + m + 1 := ⟨n - i - 2, by omega⟩
    have := ins_full (sm := fun _ => none) (c := s.c) (rl := []) (wl := []) (sp := sp) (vc := vc) rfl hf hb' (A := xs.take ((i + 1) * 2)) (B := xs.drop ((i + 1) * 2)) (by rw [List.take_append_drop]; exact hs) (by rw [List.length_take]; omega) hv' hvs (fun x hx => ha x (List.mem_of_mem_drop hx)) ha' (by omega)
    rw [show i + 1 + (m + 2) = i + 1 + m + 1 + 1 by omega] at this
    exact this
  ·obtain rfl : i = n := by omega
   obtain ⟨m, rfl⟩ : ∃ m, i = m + 1 := ⟨i - 1, by omega⟩
   rw [List.take_of_length_le (by omega), List.drop_of_length_le (by omega), List.append_nil]
   obtain ⟨r, s0, h1, ⟨h2, h3, h4⟩, h5⟩ := ins_fullE (sm := fun _ => none) (c := s.c) (rl := []) (wl := []) (sp := sp) (vc := vc) rfl hf hb' hs hv' hvs (by omega)
   have lv : vv.length = 2 := (subN_some _ _ _ _ hvs).1
   exact ⟨r, s0, h1, ⟨h2, h3, _, h4, subN_all _ _ (by rw [List.length_append]; omega)⟩, h5⟩
 obtain ⟨r, s0, h1, ⟨rfl, h2, cs', h3, h4⟩, h5⟩ := key
 obtain ⟨k, h6⟩ := FnTo.callB rfl ex200 h1
 obtain ⟨_, h', h7, h8, h9⟩ := callB_up h6 fun x h1 h2 => by
  obtain rfl : x = s.c := by omega
  exact fr
 exact ⟨k, _, cs', h7, h2, (h8 s.c (by omega)).trans h3, h4, fun x hx => by
  rcases h5.wl x hx with q | q
  ·cases q
  ·exact q.2.elim⟩
theorem run_nil {s : St} {vb vo vc : Nat} {sp : Option Nat} {ws vv : List Value} (hv : s.h.get vb = some (.cells ws)) (hvc : vb < s.c) (hvs : subN vo 2 ws = some vv) (fr : s.h.get s.c = none) :
  ∃ k s1, callB C0 (exec C0 eg k) 200 [.slice none 0 0, .int .i64 0, .slice (some ⟨vb, vo, sp⟩) 1 vc] ⟨s.h, s.c, [], []⟩ = some (.slice (some ⟨s.c, 0, some 2⟩) 1 1, s1) ∧ s1.c = s.c + 1 ∧ ∀ x, s1.h.get x = (s.h.set s.c (some (.cells vv))).get x := by
 have hf : Fresh (fillT s.h.get s.c) s.c := fun x hx => by rw [fillT_get, if_neg (by omega)]
 have hv' : Has (fillT s.h.get s.c) vb (.cells ws) := by unfold Has; rw [fillT_get, if_pos hvc]; exact hv
 obtain ⟨r, s0, h1, ⟨rfl, h2, h3, _⟩, h5⟩ := ins_nil (sm := fun _ => none) (c := s.c) (rl := []) (wl := []) (sp := sp) (vc := vc) rfl hf hv' hvs
 obtain ⟨k, h6⟩ := FnTo.callB rfl ex200 h1
 obtain ⟨_, h', h7, h8, h9⟩ := callB_up h6 fun x h1 h2 => by
  obtain rfl : x = s.c := by omega
  exact fr
 refine ⟨k, _, h7, h3, fun x => ?_⟩
 rcases Nat.lt_or_ge x s0.c with hx | hx
 ·show h'.get x = _
  rw [h8 x hx, h2, T.get_set, T.get_set]
  by_cases hc : x = s.c
  ·rw [if_pos hc, if_pos hc]
  ·rw [if_neg hc, if_neg hc, fillT_get, if_pos (by omega)]
 ·show h'.get x = _
  rw [h9 x hx, T.get_set, if_neg (by omega)]
theorem hr_congr {G : Nat} {ι : Iota} {h h' : T AObj} {H : Array Obj} (hr : HR G ι h H) (e : ∀ x, h'.get x = h.get x) : HR G ι h' H :=
 ⟨fun b o hb => hr.obj b o (by rw [← e]; exact hb), fun b1 b2 o1 o2 L1 L2 g1 g2 => hr.inj b1 b2 o1 o2 L1 L2 (by rw [← e]; exact g1) (by rw [← e]; exact g2), hr.lt, hr.glob⟩
theorem owned_congr {ι : Iota} {h h' : T AObj} {k : Nat} (ho : Owned ι h k) (e : ∀ x, h'.get x = h.get x) : Owned ι h' k := by
 obtain ⟨x, o, L, h1, h2, h3, h4⟩ := ho
 exact ⟨x, o, L, by rw [e]; exact h1, h2, h3, h4⟩
theorem smInsG : SmOne fInsHit gIns := by
 refine ⟨local_gIns, ?_⟩
 intro args s s' v ι w args' R hg ha hr fr hR
 unfold gIns at hg
 split at hg
 ·rename_i b o e n cap z vb vo sp vc
  cases hcond : okI e n cap vb b z with
  | false => rw [hcond] at hg; exact (fail_some hg).elim
  | true =>
   rw [hcond] at hg
   unfold okI at hcond
   simp only at hg
   simp only [Bool.and_eq_true, decide_eq_true_eq, Bool.not_eq_true'] at hcond
   obtain ⟨⟨⟨⟨⟨⟨c1, c2⟩, c3⟩, c4⟩, c5⟩, c6⟩, c7⟩ := hcond
   obtain rfl := beq_iff.1 c1
   have c2 := ble_iff.1 c2
   have c3 := ble_iff.1 c3
   have c4 := ble_iff.1 c4
   have c7 := beq_false.1 c7
   obtain ⟨i, rfl⟩ : ∃ i : Nat, z = (i : Int) := ⟨z.toNat, by omega⟩
   have hi : i ≤ n := by omega
   unfold gIns1 at hg
   obtain ⟨cs, s1, g1, hg⟩ := bind_some hg
   obtain ⟨hb, hbc, rfl⟩ := getCellsW_some g1
   obtain ⟨ws, s2, g2, hg⟩ := bind_some hg
   obtain ⟨hv, hvc, rfl⟩ := getCellsW_some g2
   obtain ⟨xs, s3, g3, hg⟩ := bind_some hg
   obtain ⟨hs, rfl⟩ := lift_some g3
   obtain ⟨vv, s4, g4, hg⟩ := bind_some hg
   obtain ⟨hvs, rfl⟩ := lift_some g4
   cases hat : (allB atom xs && allB atom vv) with
   | false => rw [hat] at hg; exact (fail_some hg).elim
   | true =>
    rw [hat] at hg
    simp only at hg
    rw [Bool.and_eq_true, allB_eq, allB_eq, List.all_eq_true, List.all_eq_true] at hat
    obtain ⟨u, s5, g5, hg⟩ := bind_some hg
    cases g5
    obtain ⟨⟨⟩, s6, g6, hg⟩ := bind_some hg
    obtain ⟨_, _, rfl⟩ := putO_some g6
    obtain ⟨kk, s7, g7, hg⟩ := bind_some hg
    obtain ⟨rfl, rfl⟩ := ret_some hg
    unfold newCells at g7
    rw [forceL_eq] at g7
    obtain ⟨_, rfl, rfl⟩ := newO_some g7
    simp only at hb hbc hv hvc fr hR
    have hx : xs.length = n * 2 := (subN_some _ _ _ _ hs).1
    obtain ⟨x', rest', rfl, hx1, hrest⟩ := ha.cons_inv
    cases hx1 with
    | sliceZ => omega
    | sliceI _ _ _ _ _ c' L hL hc hbd =>
     by_cases hroom : n + 1 ≤ c'
     ·have hmul : (n + 1) * 2 ≤ c' * 2 := Nat.mul_le_mul_right _ hroom
      obtain ⟨t2, ht2, hsub⟩ := pad_sub (m := 2) hs
      rw [show n * 2 + 2 = (n + 1) * 2 by omega] at hsub
      have gb : (s.h.set b (some (.cells (pad cs (o + (n + 1) * 2))))).get b = some (.cells (pad cs (o + (n + 1) * 2))) := by rw [T.get_set, if_pos rfl]
      have gv : (s.h.set b (some (.cells (pad cs (o + (n + 1) * 2))))).get vb = some (.cells ws) := by rw [T.get_set, if_neg c7]; exact hv
      obtain ⟨k, s1, cs', r1, r2, r3, r4, r5⟩ := run_room (s := ⟨s.h.set b (some (.cells (pad cs (o + (n + 1) * 2)))), s.c, [], []⟩) (sp := sp) (vc := vc) gb hbc hsub hx gv hvc hvs c7 hat.1 hat.2 c4 hi
      simp only at r1 r2 r5
      refine fork_case whole0 k 200 2 n b (s.c + 1) (csX := pad cs (o + (n + 1) * 2)) (sX := ⟨s.h.set b (some (.cells (pad cs (o + (n + 1) * 2)))), s.c, [], []⟩) (lm := xs.take (i * 2) ++ vv ++ xs.drop (i * 2)) hr hb hbc (HR.padded hr hb hL (by omega)) gb ?_ (Nat.le_refl _) (fun x hx => by cases hx) r1 (endOf_run r3 (by rw [r2]; exact hbc) r4 (Nat.le_refl _))
       (VRl.cons (.sliceI b o 2 n (n + 1) c' L hL hroom hbd) hrest) (by omega) (.inl rfl) r5 (fun x h1 h2 => fr x h1 (by omega)) (fun _ _ h => h) rfl rfl hR
      intro x hx
      show (s.h.set b _).get x = _
      rw [T.get_set, if_neg hx]
     ·obtain rfl : c' = n := by omega
      have fc : s.h.get s.c = none := by
       cases hq : s.h.get s.c with
       | none => rfl
       | some q =>
        obtain ⟨L', hL', _⟩ := hr.obj _ _ hq
        rw [fr s.c (Nat.le_refl _) (by omega)] at hL'
        cases hL'
      obtain ⟨k, s1, cs', r1, r2, r3, r4, r5⟩ := run_full (s := s) (sp := sp) (vc := vc) hb hbc hs hv hvc hvs hat.1 hat.2 c4 c2 hi fc
      refine fork_case whole0 k 200 2 c' b (s.c + 1) (csX := cs) (sX := ⟨s.h, s.c, [], []⟩) (lm := xs.take (i * 2) ++ vv ++ xs.drop (i * 2)) hr hb hbc hr hb (fun _ _ => rfl) (Nat.le_refl _) (fun x hx => by cases hx) r1 (endOf_run r3 (by omega) r4 (Nat.le_refl _))
       (VRl.cons (.sliceX b o c' c' L hL) hrest) (by omega) (.inr (Nat.le_refl _)) r5 (fun x h1 h2 => fr x h1 (by omega)) (fun _ _ h => h) rfl rfl hR
 ·rename_i z vb vo sp vc
  cases hz : decide (z = 0) with
  | false => rw [hz] at hg; exact (fail_some hg).elim
  | true =>
   rw [hz] at hg
   simp only at hg
   obtain rfl := of_decide_eq_true hz
   unfold gIns0 at hg
   obtain ⟨ws, s2, g2, hg⟩ := bind_some hg
   obtain ⟨hv, hvc, rfl⟩ := getCellsW_some g2
   obtain ⟨vv, s4, g4, hg⟩ := bind_some hg
   obtain ⟨hvs, rfl⟩ := lift_some g4
   obtain ⟨kk, s7, g7, hg⟩ := bind_some hg
   obtain ⟨rfl, rfl⟩ := ret_some hg
   unfold newCells at g7
   rw [forceL_eq] at g7
   obtain ⟨fc, rfl, rfl⟩ := newO_some g7
   simp only at fc fr hR
   obtain ⟨k, s1, r1, r2, r3⟩ := run_nil (s := s) (sp := sp) (vc := vc) hv hvc hvs fc
   refine calls_of_abs whole0 k 200 r1 ha hr (fun x h1 h2 => fr x h1 (by omega)) fun v' w' ι' hv' hp => hR v' w' ι' hv' ?_
   exact ⟨hp.ext, fun b hb h => hp.new b hb (by simp only at h ⊢; omega), hr_congr hp.hr fun x => (r3 x).symm, hp.os, hp.tape, hp.output, hp.size, hp.frame, fun k hk ho => hp.own k hk (owned_congr ho r3), by simp only; omega⟩
 ·exact (fail_some hg).elim
#print axioms smInsG
end Go.Ab.Seat
