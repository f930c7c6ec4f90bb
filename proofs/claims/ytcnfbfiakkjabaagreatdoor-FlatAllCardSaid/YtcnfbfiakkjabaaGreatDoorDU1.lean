import Derived.Test.YtcnfbfiakkjabaaGreatDoorDX1
import Derived.Test.YtcnfbfiakkjabaaGreatDoorDL1
import Derived.Test.YtcnfbfiakkjabaaGreatDoorDT7
set_option linter.unusedVariables false
set_option linter.unusedSimpArgs false
section
/- The flat index and the reference's, side by side; operations that come in (the abstract machine). -/
namespace Go.Ab.Seat
open Go.Extern Go.Proofs
set_option linter.unusedVariables false

/-- Operations on an index as they come in. -/
def OpsD (h : T AObj) (c0 : Nat) (oa : Option Addr) (n : Nat) : Prop := ∀ i, i < n → ∃ b o sp cs kd id k va nv kv, ∃ zs : List Int, ∃ dw, oa = some ⟨b, o, sp⟩ ∧ b < c0 ∧ Cel h b cs ∧ subN (o + i * 5) 5 cs = some [.int .i64 kd, .int .i64 id, .int .i64 k, .slice va nv kv, .int .u32 dw] ∧
  Row h (.slice va nv kv) nv 1 (zs.map (Value.int .i32)) ∧ zs.length = nv ∧ ∀ b, blkOf (.slice va nv kv) = some b → b < c0
theorem OpsD.keep {h h' : T AObj} {c0 n : Nat} {oa : Option Addr} (x : OpsD h c0 oa n) (k : ∀ b, b < c0 → h'.get b = h.get b) : OpsD h' c0 oa n := fun i hi => by
  obtain ⟨b, o, sp, cs, kd, id, k1, va, nv, kv, zs, dw, h1, h2, h3, h4, h5, h6, h7⟩ := x i hi
  exact ⟨b, o, sp, cs, kd, id, k1, va, nv, kv, zs, dw, h1, h2, by unfold Cel Has at h3 ⊢; rw [k b h2]; exact h3, h4, Row.keepBT h5 (fun b hb => k b (h7 b hb)), h6, h7⟩

/-- The two indexes. -/
structure Duo (h : T AObj) (c c0 p m r : Nat) (mt : Int) (dim : Nat) (A B : List Rc) : Prop where
  f : Fresh h c
  ex : ∃ U V : Nat → Prop, FlatM h p m mt dim A U ∧ RefX h r mt dim dim B V ∧ (∀ b, U b → c0 ≤ b ∧ b < c) ∧ (∀ b, V b → c0 ≤ b ∧ b < c) ∧ ∀ b, U b → ¬V b

theorem Duo.lt {h : T AObj} {c c0 p m r dim : Nat} {mt : Int} {A B : List Rc} (d : Duo h c c0 p m r mt dim A B) : c0 ≤ p ∧ p < c ∧ c0 ≤ m ∧ m < c ∧ c0 ≤ r ∧ r < c ∧ m ≠ r := by
  obtain ⟨U, V, q1, q2, q3, q4, q5⟩ := d.ex
  have h1 := q3 p q1.pU
  have h2 := q3 m q1.mU
  have h3 := q4 r q2.pU
  refine ⟨h1.1, h1.2, h2.1, h2.2, h3.1, h3.2, ?_⟩
  rintro rfl
  exact q5 _ q1.mU q2.pU

theorem Duo.keep {h h' : T AObj} {c c' c0 p m r dim : Nat} {mt : Int} {A B : List Rc} (d : Duo h c c0 p m r mt dim A B) (f' : Fresh h' c') (hc : c ≤ c') (k : ∀ b, c0 ≤ b → b < c → h'.get b = h.get b) : Duo h' c' c0 p m r mt dim A B := by
  obtain ⟨U, V, q1, q2, q3, q4, q5⟩ := d.ex
  exact ⟨f', U, V, q1.keep d.f (fun b hb _ => k b (q3 b hb).1 (q3 b hb).2), q2.keep d.f (fun b hb _ => k b (q4 b hb).1 (q4 b hb).2), fun b hb => ⟨(q3 b hb).1, by have := (q3 b hb).2; omega⟩, fun b hb => ⟨(q4 b hb).1, by have := (q4 b hb).2; omega⟩, q5⟩

section
variable {h : T AObj} {c c0 p m r dim : Nat} {mt : Int} {A B : List Rc} {rl wl : List Nat}

theorem Duo.putF (d : Duo h c c0 p m r mt dim A B) (id : Int) (hid : -9223372036854775808 ≤ id ∧ id ≤ 9223372036854775807) {bv : Nat} {zs : List Int} (hv : Has h bv (.cells (zs.map (Value.int .i32)))) (hz : zs.length = dim) (hb : Bnd zs) (hd : 1 ≤ dim) (hd' : dim ≤ 1000) (kd k dw : Int) (oa : Option Addr) (on oc : Nat) (hc0 : c0 ≤ c) :
    ∃ v s', FnTo (Cs smQ) eg 57 [faceF p, opF kd id k oa on oc dw, .slice (some ⟨bv, 0, none⟩) dim dim] ⟨h, c, rl, wl⟩ v s' ∧ (Duo s'.h s'.c c0 p m r mt dim (putM (mbR id zs) A) B ∧ m ≠ bv) ∧ Ext ⟨h, c, rl, wl⟩ s' (fun _ => True) (fun b => b = m) := by
  obtain ⟨U, V, q1, q2, q3, q4, q5⟩ := d.ex
  obtain ⟨es, n, hm⟩ := q1.hm
  have hne : bv ≠ m := notMap hv hm
  have hrow : Row h (.slice (some ⟨bv, 0, none⟩) dim dim) dim 1 (zs.map (Value.int .i32)) := .inr ⟨bv, 0, none, dim, _, rfl, hv.cel, subN_all _ _ (by rw [List.length_map]; omega)⟩
  obtain ⟨v, s', e1, e2, e3⟩ := faceput_spec (rl := rl) (wl := wl) d.f q1 id hid hrow hz hb hd hd' (fun b => b = bv) (fun b o sp e => by cases e; rfl) (fun e => hne e.symm) kd k dw oa on oc
  have hc := e3.c
  simp only at hc
  have hm5 : ∀ b, V b → b ≠ m := fun b hb e => q5 m q1.mU (e ▸ hb)
  refine ⟨v, s', e1, ⟨⟨e3.fresh, _, V, e2, q2.keep d.f fun b hb hc => e3.h b hc (hm5 b hb), ?_, fun b hb => ⟨(q4 b hb).1, by have := (q4 b hb).2; omega⟩, ?_⟩, fun e => hne e.symm⟩, e3.mono (fun _ _ _ => trivial) fun _ _ q => q⟩
  · rintro b (q | q)
    · have := q3 b q; omega
    · omega
  · rintro b (q | q) hV
    · exact q5 b q hV
    · have := q4 b hV; omega

theorem Duo.putR (d : Duo h c c0 p m r mt dim A B) (hl : B.length ≤ 900) (id : Int) {bv : Nat} {zs : List Int} (hv : Has h bv (.cells (zs.map (Value.int .i32)))) (hz : zs.length = dim) (hb : Bnd zs) (hd : 1 ≤ dim) (hd' : dim ≤ 1000) (hne : bv ≠ r) (dw : Int) (hc0 : c0 ≤ c) :
    ∃ v s', FnTo (Cs smQ) eg 58 [.pointer (some ⟨r, 0, none⟩), .int .i64 id, .slice (some ⟨bv, 0, none⟩) dim dim, .int .u32 dw] ⟨h, c, rl, wl⟩ v s' ∧ Duo s'.h s'.c c0 p m r mt dim A (putM (mbR id zs) B) ∧ Ext ⟨h, c, rl, wl⟩ s' (fun _ => True) (fun b => b = r) := by
  obtain ⟨U, V, q1, q2, q3, q4, q5⟩ := d.ex
  have hrow : Row h (.slice (some ⟨bv, 0, none⟩) dim dim) dim 1 (zs.map (Value.int .i32)) := .inr ⟨bv, 0, none, dim, _, rfl, hv.cel, subN_all _ _ (by rw [List.length_map]; omega)⟩
  obtain ⟨v, s', e1, e2, e3⟩ := rput_spec (rl := rl) (wl := wl) d.f q2 (fun b hb => (q4 b hb).2) hl id hz hd hd' hb hrow (fun b => b = bv) (fun b e => by cases e; rfl) (fun e => hne e.symm) dw
  have hc := e3.c
  simp only at hc
  have hm5 : ∀ b, U b → b ≠ r := fun b hb e => q5 r (e ▸ hb) q2.pU
  refine ⟨v, s', e1, ⟨e3.fresh, U, _, q1.keep d.f fun b hb hc => e3.h b hc (hm5 b hb), e2, fun b hb => ⟨(q3 b hb).1, by have := (q3 b hb).2; omega⟩, ?_, ?_⟩, e3.mono (fun _ _ _ => trivial) fun _ _ q => q⟩
  · rintro b (q | q)
    · have := q4 b q; omega
    · omega
  · rintro b hU (q | q)
    · exact q5 b hU q
    · have := q3 b hU; omega

theorem Duo.delF (d : Duo h c c0 p m r mt dim A B) (id : Int) :
    ∃ v s', FnTo (Cs smQ) eg 59 [faceF p, .int .i64 id] ⟨h, c, rl, wl⟩ v s' ∧ (v = .bool (getM id A).isSome ∧ Duo s'.h s'.c c0 p m r mt dim (delM id A) B) ∧ Ext ⟨h, c, rl, wl⟩ s' (fun _ => True) (fun b => b = m) := by
  obtain ⟨U, V, q1, q2, q3, q4, q5⟩ := d.ex
  obtain ⟨v, s', e1, ⟨e2, e4⟩, e3⟩ := facedel_spec (rl := rl) (wl := wl) d.f q1 id
  have hc := e3.c
  simp only at hc
  have hm5 : ∀ b, V b → b ≠ m := fun b hb e => q5 m q1.mU (e ▸ hb)
  exact ⟨v, s', e1, ⟨e2, e3.fresh, U, V, e4, q2.keep d.f fun b hb hc => e3.h b hc (hm5 b hb), fun b hb => ⟨(q3 b hb).1, by have := (q3 b hb).2; omega⟩, fun b hb => ⟨(q4 b hb).1, by have := (q4 b hb).2; omega⟩, q5⟩, e3.mono (fun _ _ _ => trivial) fun _ _ q => q⟩

theorem Duo.delR (d : Duo h c c0 p m r mt dim A B) (hl : B.length ≤ 900) (id : Int) (hc0 : c0 ≤ c) :
    ∃ v s', FnTo (Cs smQ) eg 60 [.pointer (some ⟨r, 0, none⟩), .int .i64 id] ⟨h, c, rl, wl⟩ v s' ∧ (v = .bool (getM id B).isSome ∧ Duo s'.h s'.c c0 p m r mt dim A (delM id B)) ∧ Ext ⟨h, c, rl, wl⟩ s' (fun _ => True) (fun b => b = r) := by
  obtain ⟨U, V, q1, q2, q3, q4, q5⟩ := d.ex
  obtain ⟨v, s', e1, ⟨e2, e4⟩, e3⟩ := rdel_spec (rl := rl) (wl := wl) d.f q2 hl id
  have hc := e3.c
  simp only at hc
  have hm5 : ∀ b, U b → b ≠ r := fun b hb e => q5 r (e ▸ hb) q2.pU
  refine ⟨v, s', e1, ⟨e2, e3.fresh, U, _, q1.keep d.f fun b hb hc => e3.h b hc (hm5 b hb), e4, fun b hb => ⟨(q3 b hb).1, by have := (q3 b hb).2; omega⟩, ?_, ?_⟩, e3.mono (fun _ _ _ => trivial) fun _ _ q => q⟩
  · rintro b (q | q)
    · have := q4 b q; omega
    · omega
  · rintro b hU (q | q)
    · exact q5 b hU q
    · have := q3 b hU; omega

/-- Both find the same. -/
theorem Duo.searchF (d : Duo h c c0 p m r mt dim A B) (hmt : mt = 1 ∨ mt = 2) {bv : Nat} {zs : List Int} (hv : Has h bv (.cells (zs.map (Value.int .i32)))) (hz : zs.length = dim) (hb : Bnd zs) (hd' : dim ≤ 1000) (k : Int) {kk : Nat} (hk : max k 0 = (kk : Int)) (hkk : kk ≤ 1000) (hn : A.length ≤ 800) :
    ∃ v s', FnTo (Cs smQ) eg 61 [faceF p, .slice (some ⟨bv, 0, none⟩) dim dim, .int .i64 k] ⟨h, c, rl, wl⟩ v s' ∧ (Best s'.h v (bestOf kk (hitsM mt zs A)).length (flatH (bestOf kk (hitsM mt zs A))) ∧ ∀ b, blkOf v = some b → c ≤ b) ∧ Ext ⟨h, c, rl, wl⟩ s' (fun _ => True) (fun _ => False) := by
  obtain ⟨U, V, q1, q2, q3, q4, q5⟩ := d.ex
  have hrow : Row h (.slice (some ⟨bv, 0, none⟩) dim dim) dim 1 (zs.map (Value.int .i32)) := .inr ⟨bv, 0, none, dim, _, rfl, hv.cel, subN_all _ _ (by rw [List.length_map]; omega)⟩
  exact facesearch_spec d.f q1 hmt hrow hz hb hd' k hk hkk hn (fun _ => True) (fun _ _ => trivial) (fun _ _ => trivial)
theorem Duo.searchR (d : Duo h c c0 p m r mt dim A B) (hmt : mt = 1 ∨ mt = 2) {bv : Nat} {zs : List Int} (hv : Has h bv (.cells (zs.map (Value.int .i32)))) (hz : zs.length = dim) (hb : Bnd zs) (hd' : dim ≤ 1000) (k : Int) {kk : Nat} (hk : max k 0 = (kk : Int)) (hkk : kk ≤ 1000) (hn : B.length ≤ 800) :
    ∃ v s', FnTo (Cs smQ) eg 62 [.pointer (some ⟨r, 0, none⟩), .slice (some ⟨bv, 0, none⟩) dim dim, .int .i64 k] ⟨h, c, rl, wl⟩ v s' ∧ (Best s'.h v (bestOf kk (hitsM mt zs B)).length (flatH (bestOf kk (hitsM mt zs B))) ∧ ∀ b, blkOf v = some b → c ≤ b) ∧ Ext ⟨h, c, rl, wl⟩ s' (fun _ => True) (fun _ => False) := by
  obtain ⟨U, V, q1, q2, q3, q4, q5⟩ := d.ex
  have hrow : Row h (.slice (some ⟨bv, 0, none⟩) dim dim) dim 1 (zs.map (Value.int .i32)) := .inr ⟨bv, 0, none, dim, _, rfl, hv.cel, subN_all _ _ (by rw [List.length_map]; omega)⟩
  exact rsearch_spec d.f q2 hn hmt hrow hz hb hd' k hk hkk (fun _ => True) (fun _ _ => trivial) (fun _ _ => trivial)

theorem Duo.idsF (d : Duo h c c0 p m r mt dim A B) (hn : A.length ≤ 1000) :
    ∃ v s', FnTo (Cs smQ) eg 65 [faceF p] ⟨h, c, rl, wl⟩ v s' ∧ Own s'.h c v A.length ((A.map Rc.id).map (Value.int .i64)) ∧ Ext ⟨h, c, rl, wl⟩ s' (fun _ => True) (fun _ => False) := by
  obtain ⟨U, V, q1, q2, q3, q4, q5⟩ := d.ex
  obtain ⟨v, s', e1, e2, e3⟩ := faceids_spec (rl := rl) (wl := wl) d.f q1 hn
  exact ⟨v, s', e1, e2, e3.mono (fun _ _ _ => trivial) fun _ _ q => q⟩
theorem Duo.idsR (d : Duo h c c0 p m r mt dim A B) (hn : B.length ≤ 1000) :
    ∃ v s', FnTo (Cs smQ) eg 66 [.pointer (some ⟨r, 0, none⟩)] ⟨h, c, rl, wl⟩ v s' ∧ HJ s'.h c v (B.map Rc.id) ∧ Ext ⟨h, c, rl, wl⟩ s' (fun _ => True) (fun _ => False) := by
  obtain ⟨U, V, q1, q2, q3, q4, q5⟩ := d.ex
  obtain ⟨lv, l, h1, h2, h3, h4, h5⟩ := q2.ex
  have hl : l.length = B.length := by rw [← h5, List.length_map]
  obtain ⟨v, s', e1, e2, e3⟩ := rids_spec (rl := rl) (wl := wl) d.f h1 h2 (by omega) (fun _ => True) trivial (fun _ _ => trivial)
  rw [show l.map On.id = B.map Rc.id by rw [← h5, List.map_map]; rfl] at e2
  exact ⟨v, s', e1, e2, e3⟩

/-- A member's vector, as either index tells it. -/
def Tells (h : T AObj) (v : Value) (dim : Nat) (o : Option Rc) : Prop := (o = none ∧ ∃ a k, v = .slice a 0 k ∧ Row h (.slice a 0 k) 0 1 []) ∨ ∃ (r0 : Rc) (zs : List Int) (a : Option Addr) (k : Nat), o = some r0 ∧ r0.xs = zs.map (Value.int .i32) ∧ zs.length = dim ∧ v = .slice a dim k ∧ Row h (.slice a dim k) dim 1 r0.xs
theorem Tells.keep {h h' : T AObj} {c : Nat} {v : Value} {dim : Nat} {o : Option Rc} (x : Tells h v dim o) (hf : Fresh h c) (k : ∀ b, b < c → h'.get b = h.get b) : Tells h' v dim o := by
  rcases x with ⟨h1, a, k1, h2, h3⟩ | ⟨r0, zs, a, k1, h1, h2, h3, h4, h5⟩
  · exact .inl ⟨h1, a, k1, h2, Row.keepF h3 hf (fun b hb => k b hb)⟩
  · exact .inr ⟨r0, zs, a, k1, h1, h2, h3, h4, Row.keepF h5 hf (fun b hb => k b hb)⟩

theorem Duo.vecF (d : Duo h c c0 p m r mt dim A B) (hd1 : 1 ≤ dim) (hd : dim ≤ 1000) (id : Int) :
    ∃ v s', FnTo (Cs smQ) eg 63 [faceF p, .int .i64 id] ⟨h, c, rl, wl⟩ v s' ∧ (∃ w, v = .tuple #[w, .bool (getM id A).isSome] ∧ Tells s'.h w dim (getM id A)) ∧ Ext ⟨h, c, rl, wl⟩ s' (fun _ => True) (fun _ => False) := by
  obtain ⟨U, V, q1, q2, q3, q4, q5⟩ := d.ex
  obtain ⟨v, s', e1, ⟨w, e2, e4⟩, e3⟩ := facevec_spec (rl := rl) (wl := wl) d.f q1 hd1 hd id
  refine ⟨v, s', e1, ⟨w, e2, ?_⟩, e3.mono (fun _ _ _ => trivial) fun _ _ q => q⟩
  rcases e4 with ⟨g, o⟩ | ⟨r0, g, o⟩
  · obtain ⟨a, k, rfl⟩ := o.val
    exact .inl ⟨g, a, k, rfl, o.row rfl⟩
  · obtain ⟨a, k, rfl⟩ := o.val
    obtain ⟨zs, g1, g2, _⟩ := q1.ok r0 (getM_mem g).1
    exact .inr ⟨r0, zs, a, k, g, g1, g2, rfl, o.row (by rw [g1, List.length_map, g2])⟩
theorem Duo.vecR (d : Duo h c c0 p m r mt dim A B) (hn : B.length ≤ 1000) (id : Int) :
    ∃ v s', FnTo (Cs smQ) eg 64 [.pointer (some ⟨r, 0, none⟩), .int .i64 id] ⟨h, c, rl, wl⟩ v s' ∧ (∃ w, v = .tuple #[w, .bool (getM id B).isSome] ∧ Tells s'.h w dim (getM id B)) ∧ Ext ⟨h, c, rl, wl⟩ s' (fun _ => True) (fun _ => False) := by
  obtain ⟨U, V, q1, q2, q3, q4, q5⟩ := d.ex
  obtain ⟨lv, l, h1, h2, h3, h4, h5⟩ := q2.ex
  have hl : l.length = B.length := by rw [← h5, List.length_map]
  obtain ⟨v, s', e1, ⟨e2, e4, e5⟩, e3⟩ := rvec_spec (rl := rl) (wl := wl) d.f h1 h2 (by omega) (fun x hx => by obtain ⟨a, k, e⟩ := (h4 x hx).1.val; exact ⟨a, _, k, e⟩) id (fun _ => True) trivial (fun _ _ => trivial)
  rw [h5] at e2
  refine ⟨v, s', e1, ?_, e3⟩
  rcases e2 with ⟨g, rfl⟩ | ⟨k, x, rfl, hk, _, g⟩
  · exact ⟨_, by rw [g]; rfl, .inl ⟨g, none, 0, rfl, .inl ⟨rfl, rfl, _, _, rfl⟩⟩⟩
  · obtain ⟨zs, g1, g2, _⟩ := q2.ok _ (getM_mem g).1
    have o := (h4 x (List.mem_of_getElem? hk)).1
    obtain ⟨a, k, e⟩ := o.val
    have hl2 : x.xs.length = dim := by
      rw [show x.xs = zs.map (Value.int .i32) from g1, List.length_map, g2]
    rw [hl2] at e o
    rw [e] at o
    refine ⟨_, by rw [g]; rfl, .inr ⟨x.rc, zs, a, k, g, g1, g2, e, ?_⟩⟩
    exact Row.keepF (o.row hl2) d.f (fun b hb => by rw [e4])

theorem mem_delM {id : Int} {x : Rc} {M : List Rc} (h : x ∈ delM id M) : x ∈ M := by
  unfold delM at h
  exact (List.mem_filter.1 h).1
/-- Ids that come of a remainder. -/
theorem ids_len {M : List Rc} (hr : Rises M) (h : ∀ x ∈ M, 0 ≤ x.id ∧ x.id ≤ 39) : M.length ≤ 40 := by
  have := rises_len (n := 39) (lo := 0) hr.ids (fun x hx => by
    obtain ⟨y, hy, rfl⟩ := List.mem_map.1 hx
    exact h y hy) (by omega)
  rw [List.length_map] at this
  omega
end
end Go.Ab.Seat
end
section
/- The law's 'alike' with a flat index answers true (the abstract machine). -/
namespace Go.Ab.Seat
open Go.Extern Go.Proofs
set_option linter.unusedSimpArgs false
set_option linter.unusedVariables false
set_option maxRecDepth 4000
set_option pp.deepTerms false
set_option pp.deepTerms.threshold 6

def fc (p : Nat) : List Value := [.pointer (some ⟨p, 0, none⟩), .pointer none, .pointer none, .pointer none]
def EAk (p r dim : Nat) (oa : Option Addr) (n cap bx : Nat) (z : Int) (j12 j13 j14 j15 j16 j17 j18 j27 j45 j58 j59 j72 j82 j113 : Value) : L :=
  .cons 0 (faceF p) (.cons 1 (.pointer (some ⟨r, 0, none⟩)) (.cons 2 (.int .i64 (dim : Int)) (.cons 3 (.slice oa n cap) (.cons 4 (.int .i64 50) (.cons 5 (.pointer (some ⟨bx, 0, none⟩)) (.cons 10 (.bool false) (.cons 11 (.int .i64 z) (.cons 12 j12 (.cons 13 j13 (.cons 14 j14 (.cons 15 j15 (.cons 16 j16 (.cons 17 j17 (.cons 18 j18 (.cons 27 j27 (.cons 45 j45 (.cons 58 j58 (.cons 59 j59 (.cons 72 j72 (.cons 82 j82 (.cons 113 j113 .nil)))))))))))))))))))))

theorem tmod40 (z : Int) : 0 ≤ (z.tmod 40 + 40).tmod 40 ∧ (z.tmod 40 + 40).tmod 40 ≤ 39 ∧ -40 < z.tmod 40 ∧ z.tmod 40 < 40 := by
  have h1 := tmod_lt z 40 (by omega)
  have h2 := Int.tmod_lt_of_pos (z.tmod 40 + 40) (show (0 : Int) < 40 by omega)
  have h3 := Int.tmod_nonneg (a := z.tmod 40 + 40) 40 (by omega)
  omega

set_option maxHeartbeats 8000000 in
theorem alike_spec {h : T AObj} {c c0 p m r dim : Nat} {rl wl : List Nat} {mt : Int} (hmt : mt = 1 ∨ mt = 2) (hd1 : 1 ≤ dim) (hd : dim ≤ 8) (d0 : Duo h c c0 p m r mt dim [] []) (hc0 : c0 ≤ c) {oa : Option Addr} {n cap : Nat} (hx : OpsD h c0 oa n) :
    ∃ v s', FnTo (Cs smQ) eg 32 [faceF p, .pointer (some ⟨r, 0, none⟩), .int .i64 (dim : Int), .slice oa n cap, .int .i64 50] ⟨h, c, rl, wl⟩ v s' ∧ v = .bool true := by
  have hf := d0.f
  obtain ⟨lp1, lp2, lm1, lm2, lr1, lr2, lmr⟩ := d0.lt
  have hfc : faceF p = .agg ⟨fc p⟩ := rfl
  refine Fn.go (stdQ 32 rfl) ex32 fn32 km32 rfl rfl ?_
  intro e he
  unfold faceF at he
  (simp (decide := true) only [kz] at he; subst he)
  refine Zgo ?_
  have D0 : Duo (h.set c (some (.cells (fc p)))) (c + 1) c0 p m r mt dim [] [] := d0.keep Zfr (by omega) (fun b _ hb => get_other (by omega))
  refine Wx.loopE (fun k1 e s => ∃ (i : Nat) (z : Int) (h' : T AObj) (c' : Nat) (rl' wl' : List Nat) (M : List Rc) (j12 j13 j14 j15 j16 j17 j18 j27 j45 j58 j59 j72 j82 j113 : Value), e = EAk p r dim oa n cap c z j12 j13 j14 j15 j16 j17 j18 j27 j45 j58 j59 j72 j82 j113 ∧ z = i ∧ s = ⟨h', c', rl', wl'⟩ ∧ c + 1 ≤ c' ∧ Kp h h' c0 (fun _ => False) ∧ Duo h' c' c0 p m r mt dim M M ∧ Has h' c (.cells (fc p)) ∧ (∀ x ∈ M, 0 ≤ x.id ∧ x.id ≤ 39) ∧ i ≤ 50 ∧ k1 = 50 - i) 50 (EAk p r dim oa n cap c 0 top top top top top top top top top top top top top top) Zrs ?_ ?_ ?_
  · unfold EAk
    exact Zek
  · exact ⟨0, 0, _, _, _, _, [], _, _, _, _, _, _, _, _, _, _, _, _, _, _, rfl, rfl, rfl, Nat.le_refl _, Zkp, D0, Has.same, (fun x hx => by cases hx), by omega, rfl⟩
  · rintro k1 e s ⟨i, z, h2, c2, rl2, wl2, M, j12, j13, j14, j15, j16, j17, j18, j27, j45, j58, j59, j72, j82, j113, rfl, hz, rfl, hcc, kp2, d2, hbx, hM, hi, rfl⟩
    have f2 := d2.f
    unfold EAk faceF
    by_cases hi1 : n ≤ i
    · refine Zgo ?_
      exact ⟨.inr rfl, Wres.one rfl rfl⟩
    by_cases hi2 : 50 ≤ i
    · refine Zgo ?_
      exact ⟨.inr rfl, Wres.one rfl rfl⟩
    obtain ⟨b1, o1, sp1, cs1, kd, id, k, va, nv, kv, zs, dw, rfl, lb1, hc1, hsub, hrow, hzl, hvb⟩ := hx i (by omega)
    have D1 : Cel h2 b1 cs1 := by unfold Cel Has at hc1 ⊢; rw [kp2 b1 lb1 (fun q => q)]; exact hc1
    have rowAt : ∀ h' : T AObj, Kp h h' c0 (fun _ => False) → Row h' (.slice va nv kv) nv 1 (zs.map (Value.int .i32)) := fun h' K => Row.keepBT hrow fun b hb => K b (hvb b hb) (fun q => q)
    have h40 := tmod40 id
    refine Zgo ?_
    ((with_reducible apply Wseq.stg); rfl; exact to_indexAddr (k := i) el55 rfl rfl hz (by omega))
    ((with_reducible apply Wseq.stg); rfl; exact to_loadS ag99 rfl D1 (by omega) hsub)
    refine Zgo ?_
    refine Wseq.call rfl rfl (vec_spec stdQ Zfr hzl (rowAt _ Zkp) dim (by omega) (fun _ => True) (fun _ _ => trivial)) ?_
    rintro v3 h3 c3 r3 w3 ⟨⟨rfl, hv3⟩, x3⟩
    have y3 := x3.c
    have f3 : Fresh h3 c3 := x3.fresh
    dsimp only at y3 hv3
    have kp3 := Kp.ext (W := fun _ => False) (h := h) (c := c0) Zkp x3 (by omega) (fun b hb q => q)
    have d3 : Duo h3 c3 c0 p m r mt dim M M := d2.keep f3 (by omega) (fun b _ hb => (x3.get (by omega) (fun q => q)).trans (by rw [get_other (by omega), get_other (by omega), get_other (by omega)]))
    have hbx3 := x3.hs (b := c) (Has.other (by omega) (Has.other (by omega) (Has.other (by omega) hbx))) (by omega) (fun q => q)
    have hob3 := x3.hs (b := c2) Has.same (by omega) (fun q => q)
    have lv3 := hv3.lt f3
    have hzb := Bnd_vecZ zs dim
    have hzl2 := vecZ_len zs dim
    generalize vecZ zs dim = ys at hv3 hzb hzl2
    generalize hid' : (id.tmod 40 + 40).tmod 40 = id' at hob3 h40
    have hML := ids_len (M := M) (by obtain ⟨U, V, q1, _⟩ := d3.ex; exact q1.rises) hM
    refine Zgb ?_
    refine Wx.cut (fun e s => ∃ (h' : T AObj) (c' : Nat) (rl' wl' : List Nat) (M' : List Rc) (j14 j45 j58 j59 j72 j82 : Value), e = EAk p r dim (some ⟨b1, o1, sp1⟩) n cap c z (.pointer (some ⟨c2, 0, none⟩)) (.slice (some ⟨c2 + 1, 0, none⟩) dim dim) j14 j15 j16 j17 j18 (.bool true) j45 j58 j59 j72 j82 j113 ∧ s = ⟨h', c', rl', wl'⟩ ∧ c2 + 1 ≤ c' ∧ Kp h h' c0 (fun _ => False) ∧ Duo h' c' c0 p m r mt dim M' M' ∧ Has h' c (.cells (fc p)) ∧ Has h' c2 (.cells [.int .i64 kd, .int .i64 id', .int .i64 k, .slice va nv kv, .int .u32 dw]) ∧ ∀ x ∈ M', 0 ≤ x.id ∧ x.id ≤ 39) Zrs ?_ ?_
    · by_cases k0 : kd = 0
      · subst k0
        have hfx := hbx3
        unfold fc at hfx
        refine Zgo ?_
        refine Wseq.call rfl rfl (d3.putF id' (by omega) hv3 hzl2 hzb hd1 (by omega) 0 k dw va nv kv (by omega)) ?_
        rintro v4 h4 c4 r4 w4 ⟨⟨d4, hmb⟩, x4⟩
        have y4 := x4.c
        have f4 : Fresh h4 c4 := x4.fresh
        dsimp only at y4 d4
        have kp4 := Kp.ext (W := fun _ => False) (h := h) (c := c0) kp3 x4 (by omega) (fun b hb q => by omega)
        have hbx4 := x4.hs (b := c) hbx3 (by omega) (by omega)
        have hob4 := x4.hs (b := c2) hob3 (by omega) (by omega)
        have hv4 := x4.hs (b := c2 + 1) hv3 (by omega) (by omega)
        refine Zgo ?_
        refine Wseq.call rfl rfl (d4.putR (by omega) id' hv4 hzl2 hzb hd1 (by omega) (by omega) dw (by omega)) ?_
        rintro v5 h5 c5 r5 w5 ⟨d5, x5⟩
        have y5 := x5.c
        dsimp only at y5 d5
        have kp5 := Kp.ext (W := fun _ => False) (h := h) (c := c0) kp4 x5 (by omega) (fun b hb q => by omega)
        have hbx5 := x5.hs (b := c) hbx4 (by omega) (by omega)
        have hob5 := x5.hs (b := c2) hob4 (by omega) (by omega)
        refine Zgo ?_
        refine CutQ.go (EAk p r dim _ n cap c z (.pointer (some ⟨c2, 0, none⟩)) (.slice (some ⟨c2 + 1, 0, none⟩) dim dim) _ j15 j16 j17 j18 (.bool true) _ _ _ _ _ j113) (by unfold EAk; exact Zek) ⟨h5, c5, _, _, _, _, _, _, _, _, _, rfl, rfl, by omega, kp5, d5, hbx5, hob5, fun x hx => ?_⟩
        rcases mem_putM hx with rfl | hx
        · exact ⟨by show 0 ≤ id'; omega, by show id' ≤ 39; omega⟩
        · exact hM x hx
      by_cases k1 : kd = 1
      · subst k1
        have hfx := hbx3
        unfold fc at hfx
        refine Zgo ?_
        refine Wtr.call rfl rfl (d3.delF id') ?_
        rintro v4 h4 c4 r4 w4 ⟨⟨rfl, d4⟩, x4⟩
        have hw4 := OnlyW.of x4 rfl
        have y4 := x4.c
        have f4 : Fresh h4 c4 := x4.fresh
        dsimp only at y4 d4
        have kp4 := Kp.ext (W := fun _ => False) (h := h) (c := c0) kp3 x4 (by omega) (fun b hb q => by omega)
        have hbx4 := x4.hs (b := c) hbx3 (by omega) (by omega)
        have hob4 := x4.hs (b := c2) hob3 (by omega) (by omega)
        refine ⟨Zap, ?_⟩
        refine Zgo ?_
        refine Wtr.call rfl rfl (d4.delR (by omega) id' (by omega)) ?_
        rintro v5 h5 c5 r5 w5 ⟨⟨rfl, d5⟩, x5⟩
        have y5 := x5.c
        dsimp only at y5 d5
        have kp5 := Kp.ext (W := fun _ => False) (h := h) (c := c0) kp4 x5 (by omega) (fun b hb q => by omega)
        have hbx5 := x5.hs (b := c) hbx4 (by omega) (by omega)
        have hob5 := x5.hs (b := c2) hob4 (by omega) (by omega)
        refine ⟨Zap, ?_⟩
        refine Zgo ?_
        exact CutQ.go (EAk p r dim _ n cap c z (.pointer (some ⟨c2, 0, none⟩)) (.slice (some ⟨c2 + 1, 0, none⟩) dim dim) _ j15 j16 j17 j18 (.bool true) _ _ _ _ _ j113) (by unfold EAk; exact Zek) ⟨h5, c5, _, _, _, _, _, _, _, _, _, rfl, rfl, by omega, kp5, d5, hbx5, hob5, fun x hx => hM x (mem_delM hx)⟩
      · have hfx := hbx3
        unfold fc at hfx
        have hk25 := tmod_lt k 25 (by omega)
        have hkk : max (k.tmod 25) 0 = ((max (k.tmod 25) 0).toNat : Int) := by omega
        refine Zgo ?_
        refine Wseq.call rfl rfl (d3.searchF hmt hv3 hzl2 hzb (by omega) _ hkk (by omega) (by omega)) ?_
        rintro v4 h4 c4 r4 w4 ⟨⟨gA, gA2⟩, x4⟩
        have y4 := x4.c
        have f4 : Fresh h4 c4 := x4.fresh
        dsimp only at y4 gA gA2
        have kp4 := Kp.ext (W := fun _ => False) (h := h) (c := c0) kp3 x4 (by omega) (fun b hb q => q)
        have hbx4 := x4.hs (b := c) hbx3 (by omega) (fun q => q)
        have hob4 := x4.hs (b := c2) hob3 (by omega) (fun q => q)
        have hv4 := x4.hs (b := c2 + 1) hv3 (by omega) (fun q => q)
        have d4 := d3.keep f4 (by omega) (fun b _ hb => x4.get hb (fun q => q))
        refine Zgo ?_
        refine Wseq.call rfl rfl (d4.searchR hmt hv4 hzl2 hzb (by omega) _ hkk (by omega) (by omega)) ?_
        rintro v5 h5 c5 r5 w5 ⟨⟨gB, gB2⟩, x5⟩
        have y5 := x5.c
        have f5 : Fresh h5 c5 := x5.fresh
        dsimp only at y5 gB gB2
        have kp5 := Kp.ext (W := fun _ => False) (h := h) (c := c0) kp4 x5 (by omega) (fun b hb q => q)
        have hbx5 := x5.hs (b := c) hbx4 (by omega) (fun q => q)
        have hob5 := x5.hs (b := c2) hob4 (by omega) (fun q => q)
        have d5 := d4.keep f5 (by omega) (fun b _ hb => x5.get hb (fun q => q))
        obtain ⟨oA, cA, rfl, _, rowA⟩ := gA.row
        obtain ⟨oB, cB, rfl, _, rowB⟩ := gB.row
        have rowA5 := Row.keepF rowA f4 (fun b hb => x5.get hb (fun q => q))
        have hbl := bestOf_len (max (k.tmod 25) 0).toNat (hitsM mt ys M)
        have hhl : (hitsM mt ys M).length = M.length := by unfold hitsM; rw [List.length_map]
        refine Zgo ?_
        refine Wseq.call rfl rfl (hits_spec stdQ Zfr rowA5 rowB (by omega)) ?_
        rintro v6 h6 c6 r6 w6 ⟨rfl, e6, e6', x6⟩
        simp only at e6 e6'
        subst e6 e6'
        refine Zgo ?_
        exact CutQ.go (EAk p r dim _ n cap c z (.pointer (some ⟨c2, 0, none⟩)) (.slice (some ⟨c2 + 1, 0, none⟩) dim dim) _ j15 j16 j17 j18 (.bool true) _ _ _ _ _ j113) (by unfold EAk; exact Zek) ⟨h6, c6, _, _, _, _, _, _, _, _, _, rfl, rfl, by omega, kp5, d5, hbx5, hob5, hM⟩
    · rintro e s ⟨h6, c6, rl6, wl6, M', j14, j45, j58, j59, j72, j82, rfl, rfl, hc6, kp6, d6, hbx6, hob6, hM6⟩
      have f6 := d6.f
      unfold EAk faceF
      have hfx := hbx6
      unfold fc at hfx
      have hML6 := ids_len (M := M') (by obtain ⟨U, V, q1, _⟩ := d6.ex; exact q1.rises) hM6
      refine Zgo ?_
      refine Wseq.call rfl rfl (d6.vecF hd1 (by omega) id') ?_
      rintro v7 h7 c7 r7 w7 ⟨⟨wa, rfl, ta⟩, x7⟩
      have y7 := x7.c
      have f7 : Fresh h7 c7 := x7.fresh
      dsimp only at y7 ta
      have kp7 := Kp.ext (W := fun _ => False) (h := h) (c := c0) kp6 x7 (by omega) (fun b hb q => q)
      have hbx7 := x7.hs (b := c) hbx6 (by omega) (fun q => q)
      have hob7 := x7.hs (b := c2) hob6 (by omega) (fun q => q)
      have d7 := d6.keep f7 (by omega) (fun b _ hb => x7.get hb (fun q => q))
      have hfx7 := hbx7
      unfold fc at hfx7
      refine Zgo ?_
      refine Wseq.call rfl rfl (d7.vecR (by omega) id') ?_
      rintro v8 h8 c8 r8 w8 ⟨⟨wb, rfl, tb⟩, x8⟩
      have y8 := x8.c
      have f8 : Fresh h8 c8 := x8.fresh
      dsimp only at y8 tb
      have kp8 := Kp.ext (W := fun _ => False) (h := h) (c := c0) kp7 x8 (by omega) (fun b hb q => q)
      have hbx8 := x8.hs (b := c) hbx7 (by omega) (fun q => q)
      have d8 := d7.keep f8 (by omega) (fun b _ hb => x8.get hb (fun q => q))
      have ta8 := ta.keep f7 (fun b hb => x8.get hb (fun q => q))
      have hfx8 := hbx8
      unfold fc at hfx8
      obtain ⟨zv, nz, aa, ka, ab, kb, rfl, rfl, hzv, hnz, ra, rb⟩ : ∃ (zv : List Int) (nz : Nat) (aa : Option Addr) (ka : Nat) (ab : Option Addr) (kb : Nat), wa = .slice aa nz ka ∧ wb = .slice ab nz kb ∧ zv.length = nz ∧ nz ≤ 1000 ∧ Row h8 (.slice aa nz ka) nz 1 (zv.map (Value.int .i32)) ∧ Row h8 (.slice ab nz kb) nz 1 (zv.map (Value.int .i32)) := by
        rcases ta8 with ⟨g1, a, k1, rfl, g3⟩ | ⟨r0, z0, a, k1, g1, g2, g3, rfl, g5⟩
        · rcases tb with ⟨_, a', k1', rfl, g3'⟩ | ⟨r0', z0', a', k1', g1', _⟩
          · exact ⟨[], 0, a, k1, a', k1', rfl, rfl, rfl, by omega, g3, g3'⟩
          · rw [g1] at g1'; cases g1'
        · rcases tb with ⟨g1', _⟩ | ⟨r0', z0', a', k1', g1', g2', g3', rfl, g5'⟩
          · rw [g1] at g1'; cases g1'
          · rw [g1] at g1'
            cases g1'
            rw [g2] at g5 g5'
            exact ⟨z0, dim, a, k1, a', k1', rfl, rfl, g3, by omega, g5, g5'⟩
      refine Zgo ?_
      refine Wseq.call rfl rfl (eq_spec stdQ Zfr hzv ra rb (by unfold big; omega) (fun _ => True) (fun _ _ => trivial)) ?_
      rintro v9 h9 c9 r9 w9 ⟨rfl, x9⟩
      have y9 := x9.c
      have f9 : Fresh h9 c9 := x9.fresh
      dsimp only at y9
      have kp9 := Kp.ext (W := fun _ => False) (h := h) (c := c0) kp8 x9 (by omega) (fun b hb q => q)
      have hbx9 := x9.hs (b := c) hbx8 (by omega) (fun q => q)
      have d9 := d8.keep f9 (by omega) (fun b _ hb => x9.get hb (fun q => q))
      have hfx9 := hbx9
      unfold fc at hfx9
      refine Zgo ?_
      refine Wseq.call rfl rfl (d9.idsF (by omega)) ?_
      rintro va hA cA ra' wa' ⟨iA, xA⟩
      have yA := xA.c
      have fA : Fresh hA cA := xA.fresh
      dsimp only at yA iA
      have kpA := Kp.ext (W := fun _ => False) (h := h) (c := c0) kp9 xA (by omega) (fun b hb q => q)
      have hbxA := xA.hs (b := c) hbx9 (by omega) (fun q => q)
      have dA := d9.keep fA (by omega) (fun b _ hb => xA.get hb (fun q => q))
      refine Zgo ?_
      refine Wseq.call rfl rfl (dA.idsR (by omega)) ?_
      rintro vb hB cB rb' wb' ⟨iB, xB⟩
      have yB := xB.c
      have fB : Fresh hB cB := xB.fresh
      dsimp only at yB iB
      have kpB := Kp.ext (W := fun _ => False) (h := h) (c := c0) kpA xB (by omega) (fun b hb q => q)
      have hbxB := xB.hs (b := c) hbxA (by omega) (fun q => q)
      have dB := dA.keep fB (by omega) (fun b _ hb => xB.get hb (fun q => q))
      have iA' : Own hB c9 va M'.length ((M'.map Rc.id).map (Value.int .i64)) := iA.keep fun b hb => xB.get ((iA.blk hb).2.lt fA) (fun q => q)
      have rA := iA'.row (by rw [List.length_map, List.length_map])
      obtain ⟨a1, k1, rfl⟩ := iA.val
      obtain ⟨a2, rfl, rB, _⟩ := iB.val
      rw [List.length_map] at rB
      rw [List.length_map]
      refine Zgo ?_
      refine Wseq.call rfl rfl (ints_spec stdQ Zfr (l := M'.map Rc.id) (by rw [List.length_map]) rA rB (by omega)) ?_
      rintro wc hc' cc rc wc' ⟨rfl, e10, e10', hextc⟩
      simp only at e10 e10'
      subst e10 e10'
      refine Zgo ?_
      exact RoundE.go (50 - (i + 1)) (EAk p r dim _ n cap c (z + 1) _ _ _ _ _ _ _ _ _ _ _ _ _ _) (by omega) (by unfold EAk; exact Zek) ⟨i + 1, z + 1, _, _, _, _, M', _, _, _, _, _, _, _, _, _, _, _, _, _, _, rfl, by omega, rfl, by omega, kpB, dB, hbxB, hM6, by omega, rfl⟩
end Go.Ab.Seat
end
