/- slices.Sorted's contract over a map's keys and over a slice's values, given the laid bodies. -/
import Derived.Test.YtmpijgfndnikpaaGreatDoorE23
set_option linter.unusedVariables false
set_option linter.unusedSimpArgs false
namespace Go.Ab
open Go.RowKit Go.Maps Go.Sort Go.Shelf Go.Proofs
open Go.WideElems (rg rd_mk rg_of)

variable {P : Program} {ρ : Ren}

def RN : Value → Option (DataW Unit × List MemPlace) := fun _ => some (.nil, [])

theorem ownsMap_of {k : TypeId} (hk : P.underlying k = some (.int .i64)) {w : World} {r : Nat} {es : Array MapEntry} {clock : Nat} {l : List Int} (hH : w.heap[r]? = some (.map es clock)) (hst : MapKept.Stamped es clock)
    (hks : es.toList.map (·.key) = l.map (fun n => Value.int .i64 n)) (hw : ∀ n ∈ l, wfI n = true) (hl : l.length ≤ 1000000) :
    ∃ D0 : DataW Unit, w.ownsMap P k RN r es.size D0 ∧ (intKeys D0).Perm l ∧ Maps.size D0 = l.length := by
  have hlen : es.toList.length = l.length := by have := congrArg List.length hks; simpa using this
  have hrd : ∀ x ∈ es.toList, ∃ n, x.key = .int .i64 n ∧ WideElems.rd P k RN x = some (.int .i64 n, .nil) := by
    intro x hx
    have : x.key ∈ l.map (fun n => Value.int .i64 n) := by rw [← hks]; exact List.mem_map.2 ⟨x, hx, rfl⟩
    obtain ⟨n, hn, he⟩ := List.mem_map.1 this
    refine ⟨n, he.symm, ?_⟩
    obtain ⟨key, val, born⟩ := x
    simp only at he
    subst he
    exact rd_mk (Maps.keyOf_int_mk hk (wfI_wf (hw n hn))) (yv := (.nil, [])) rfl
  refine ⟨.map ((es.toList.map (rg P k RN)).foldr DataW.insert []), ⟨es, clock, hH, ⟨?_, hst, fun x hx => ?_⟩, Nat.le_refl _, rfl⟩, ?_, ?_⟩
  · have : es.size = l.length := by rw [← Array.length_toList]; exact hlen
    have : (1000000 : Nat) ≤ maxLen := by decide
    omega
  · obtain ⟨n, _, h⟩ := hrd x hx
    exact ⟨_, h⟩
  · show ((List.foldr DataW.insert [] (es.toList.map (rg P k RN))).map fun p => Go.intOf p.1).Perm l
    have h1 := (WideShapes.sorted_perm (es.toList.map (rg P k RN))).map fun p => Go.intOf p.1
    refine h1.trans (List.Perm.of_eq ?_)
    rw [List.map_map]
    have h2 : l = (l.map fun n => Value.int .i64 n).map fun v => match v with | .int _ n => n | _ => 0 := by
      rw [List.map_map]
      exact (List.map_id l).symm
    rw [h2, ← hks, List.map_map]
    refine List.map_congr_left fun x hx => ?_
    obtain ⟨n, e1, e2⟩ := hrd x hx
    show Go.intOf (rg P k RN x).1 = _
    rw [rg_of e2]
    show n = (match x.key with | .int _ n => n | _ => 0)
    rw [e1]
  · show (List.foldr DataW.insert [] (es.toList.map (rg P k RN))).length = _
    rw [length_sorted]
    simpa using hlen

theorem keysB {ρ' : Ren} (L : SlLaysZI.n10 P ρ') (n : Nat) (hn : 1 ≤ n) {w : World} {b o : Nat} {v : Value} {l : List Int} (hv : w.cell? ⟨b, o, none⟩ = some v) (hb : b < w.heap.size) (hs : SeqHolds true w v l)
    (hw : ∀ n ∈ l, wfI n = true) (hl : l.length ≤ 1000000) : SeqB P Fence.wide n (ρ'.f 10) #[.pointer (some ⟨b, o, none⟩)] (fun ss => ss.Perm l) l.length w := by
  intro l0 J W hW hJ _ hY h0
  have hc : W.cell? ⟨b, o, none⟩ = some v := (hW.cell (p := ⟨b, o, none⟩) hb).trans hv
  rcases hs with ⟨rfl, rfl⟩ | ⟨r, es, k, rfl, hH, hst, hks⟩
  · refine (keysNil { L with } Fence.wide n trivial rfl l0 b o J W hJ hc h0).mono ?_
    rintro e W' ⟨he, ss, rfl, hj⟩
    exact ⟨he, [], .refl _, hj⟩
  · have hrl : r < w.heap.size := (Array.getElem?_eq_some_iff.1 hH).1
    obtain ⟨D0, hown, hperm, hsz⟩ := ownsMap_of L.t26 ((hW.block r hrl).trans hH) hst hks hw hl
    refine (keysAt { L with } Fence.wide n trivial rfl hn l0 b o r es.size D0 J (fun pre x W1 hj hlt => hY pre x W1 hj (by omega)) W hJ hc hown h0).mono ?_
    rintro e W' ⟨he, ss, hp, hj⟩
    exact ⟨he, ss, hp.trans hperm, hj⟩

/-- slices.Sorted over whatever gives a permutation of l. -/
theorem sortedOwed (L : SlLaysZI.n6 P ρ) (hsort : AnyZI.SortsIn P ρ Fence.wide 9) (e9 : ∀ args w, (callFunc (ρ.f 9) args).run P w = .ok (.enter (ρ.f 9) args) w) {g : Nat} {lb : Array Value} (eg : ∀ args w, (callFunc g args).run P w = .ok (.enter g args) w)
    {l : List Int} (hl : l.length ≤ 1000000) {w : World} (hseq : SeqB P Fence.wide 7 g lb (fun ss => ss.Perm l) l.length w) :
    Calls P (ρ.f 6) #[.func (.func g) #[] lb] w fun e w' => ∃ v, e = .returned v ∧ w'.ownsRow w.heap.size (ρ.t 26) 1 v l.length ((sortI l).map fun n => Value.int .i64 n) ∧ (v = .slice none 0 0 ↔ l = []) ∧ Below w.heap.size w w' := by
  refine Calls.mono ((callsIn_wide (n := 10)).1 (sortedB { L with } Fence.wide 10 trivial trivial trivial trivial rfl (by omega) hsort e9 g lb trivial eg (fun ss => ss.Perm l) l.length ?_ (by omega) w (fun ss h => Nat.le_of_eq h.length_eq) hseq)) ?_
  · have : (1000000 : Nat) ≤ maxLen := by decide
    omega
  · rintro e w' ⟨v, ss, rfl, hS, hrow, hnil, hb⟩
    refine ⟨v, rfl, ?_, ?_, hb⟩
    · rw [mergeSort_sortI hS, hS.length_eq] at hrow
      exact hrow
    · rw [hnil]
      constructor
      · rintro rfl; exact List.length_eq_zero_iff.1 hS.length_eq.symm
      · rintro rfl; exact List.length_eq_zero_iff.1 hS.length_eq

end Go.Ab
