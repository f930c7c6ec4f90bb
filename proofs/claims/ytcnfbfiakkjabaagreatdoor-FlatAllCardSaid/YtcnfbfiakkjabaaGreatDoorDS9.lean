import Derived.Test.YtcnfbfiakkjabaaGreatDoorE23
import Derived.Test.YtcnfbfiakkjabaaGreatDoorE31
set_option linter.unusedVariables false
set_option linter.unusedSimpArgs false
section
/- slices.Sorted's contract over a map's keys and over a slice's values, given the laid bodies. -/
namespace Go.Ab
open Go.RowKit Go.Maps Go.Sort Go.Shelf Go.Proofs
open Go.WideElems (rg rd_mk rg_of)

variable {P : Program} {ρ : Ren}

def RN : Value → Option (DataW Unit × List MemPlace) := fun _ => some (.nil, [])

theorem ownsMap_of {k : TypeId} (hk : P.underlying k = some (.int .i64)) {w : World} {r : Nat} {es : Array MapEntry} {clock : Nat} {l : List Int} (hH : w.heap[r]? = some (.map es clock)) (hst : MapKept.Stamped es clock)
    (hks : es.toList.map (·.key) = l.map (fun n => Value.int .i64 n)) (hw : ∀ n ∈ l, wfI n = true) (hl : l.length ≤ 1000000) :
    ∃ D0 : DataW Unit, w.ownsMap P k RN r es.size D0 ∧ (intKeys D0).Perm l ∧ Maps.size D0 = l.length := by
  have hlen : es.toList.length = l.length := by have := congrArg List.length hks; simpa using this
  have hrd : ∀ x ∈ es.toList, ∃ n, x.key = .int .i64 n ∧ WideElems.rd P k RN x = some (.int .i64 n, .nil) := by
    intro x hx
    have : x.key ∈ l.map (fun n => Value.int .i64 n) := by rw [← hks]; exact List.mem_map.2 ⟨x, hx, rfl⟩
    obtain ⟨n, hn, he⟩ := List.mem_map.1 this
    refine ⟨n, he.symm, ?_⟩
    obtain ⟨key, val, born⟩ := x
    simp only at he
    subst he
    exact rd_mk (Maps.keyOf_int_mk hk (wfI_wf (hw n hn))) (yv := (.nil, [])) rfl
  refine ⟨.map ((es.toList.map (rg P k RN)).foldr DataW.insert []), ⟨es, clock, hH, ⟨?_, hst, fun x hx => ?_⟩, Nat.le_refl _, rfl⟩, ?_, ?_⟩
  · have : es.size = l.length := by rw [← Array.length_toList]; exact hlen
    have : (1000000 : Nat) ≤ maxLen := by decide
    omega
  · obtain ⟨n, _, h⟩ := hrd x hx
    exact ⟨_, h⟩
  · show ((List.foldr DataW.insert [] (es.toList.map (rg P k RN))).map fun p => Go.intOf p.1).Perm l
    have h1 := (WideShapes.sorted_perm (es.toList.map (rg P k RN))).map fun p => Go.intOf p.1
    refine h1.trans (List.Perm.of_eq ?_)
    rw [List.map_map]
    have h2 : l = (l.map fun n => Value.int .i64 n).map fun v => match v with | .int _ n => n | _ => 0 := by
      rw [List.map_map]
      exact (List.map_id l).symm
    rw [h2, ← hks, List.map_map]
    refine List.map_congr_left fun x hx => ?_
    obtain ⟨n, e1, e2⟩ := hrd x hx
    show Go.intOf (rg P k RN x).1 = _
    rw [rg_of e2]
    show n = (match x.key with | .int _ n => n | _ => 0)
    rw [e1]
  · show (List.foldr DataW.insert [] (es.toList.map (rg P k RN))).length = _
    rw [length_sorted]
    simpa using hlen

theorem keysB {ρ' : Ren} (L : SlLaysZI.n10 P ρ') (n : Nat) (hn : 1 ≤ n) {w : World} {b o : Nat} {v : Value} {l : List Int} (hv : w.cell? ⟨b, o, none⟩ = some v) (hb : b < w.heap.size) (hs : SeqHolds true w v l)
    (hw : ∀ n ∈ l, wfI n = true) (hl : l.length ≤ 1000000) : SeqB P Fence.wide n (ρ'.f 10) #[.pointer (some ⟨b, o, none⟩)] (fun ss => ss.Perm l) l.length w := by
  intro l0 J W hW hJ _ hY h0
  have hc : W.cell? ⟨b, o, none⟩ = some v := (hW.cell (p := ⟨b, o, none⟩) hb).trans hv
  rcases hs with ⟨rfl, rfl⟩ | ⟨r, es, k, rfl, hH, hst, hks⟩
  · refine (keysNil { L with } Fence.wide n trivial rfl l0 b o J W hJ hc h0).mono ?_
    rintro e W' ⟨he, ss, rfl, hj⟩
    exact ⟨he, [], .refl _, hj⟩
  · have hrl : r < w.heap.size := (Array.getElem?_eq_some_iff.1 hH).1
    obtain ⟨D0, hown, hperm, hsz⟩ := ownsMap_of L.t26 ((hW.block r hrl).trans hH) hst hks hw hl
    refine (keysAt { L with } Fence.wide n trivial rfl hn l0 b o r es.size D0 J (fun pre x W1 hj hlt => hY pre x W1 hj (by omega)) W hJ hc hown h0).mono ?_
    rintro e W' ⟨he, ss, hp, hj⟩
    exact ⟨he, ss, hp.trans hperm, hj⟩

/-- slices.Sorted over whatever gives a permutation of l. -/
theorem sortedOwed (L : SlLaysZI.n6 P ρ) (hsort : AnyZI.SortsIn P ρ Fence.wide 9) (e9 : ∀ args w, (callFunc (ρ.f 9) args).run P w = .ok (.enter (ρ.f 9) args) w) {g : Nat} {lb : Array Value} (eg : ∀ args w, (callFunc g args).run P w = .ok (.enter g args) w)
    {l : List Int} (hl : l.length ≤ 1000000) {w : World} (hseq : SeqB P Fence.wide 7 g lb (fun ss => ss.Perm l) l.length w) :
    Calls P (ρ.f 6) #[.func (.func g) #[] lb] w fun e w' => ∃ v, e = .returned v ∧ w'.ownsRow w.heap.size (ρ.t 26) 1 v l.length ((sortI l).map fun n => Value.int .i64 n) ∧ (v = .slice none 0 0 ↔ l = []) ∧ Below w.heap.size w w' := by
  refine Calls.mono ((callsIn_wide (n := 10)).1 (sortedB { L with } Fence.wide 10 trivial trivial trivial trivial rfl (by omega) hsort e9 g lb trivial eg (fun ss => ss.Perm l) l.length ?_ (by omega) w (fun ss h => Nat.le_of_eq h.length_eq) hseq)) ?_
  · have : (1000000 : Nat) ≤ maxLen := by decide
    omega
  · rintro e w' ⟨v, ss, rfl, hS, hrow, hnil, hb⟩
    refine ⟨v, rfl, ?_, ?_, hb⟩
    · rw [mergeSort_sortI hS, hS.length_eq] at hrow
      exact hrow
    · rw [hnil]
      constructor
      · rintro rfl; exact List.length_eq_zero_iff.1 hS.length_eq.symm
      · rintro rfl; exact List.length_eq_zero_iff.1 hS.length_eq

end Go.Ab
end
section
/- The seat's bodies of slices.Sorted, slices.Sort, maps.Keys, as the shelf has them (printed by a tool); slices.Values's walk; the contract of slices.Sorted. -/
namespace Go.Proofs
open Go.RowKit Go.Maps Go.Sort Go.Shelf

def Tryz.sortedA_ren : Go.Shelf.Ren := ⟨fun | 6 => 49 | 8 => 88 | 9 => 89 | 11 => 157 | 13 => 159 | 12 => 158 | 23 => 206 | 24 => 207 | 14 => 198 | 15 => 199 | 16 => 200 | 17 => 201 | 18 => 202 | 19 => 203 | 20 => 181 | 21 => 204 | 22 => 205 | 25 => 236 | 26 => 237 | 27 => 238 | 28 => 239 | 29 => 240 | 30 => 218 | 31 => 264 | n => n, fun | 26 => 3 | 28 => 86 | 24 => 35 | 0 => 0 | 3 => 3 | 37 => 202 | 48 => 68 | 50 => 243 | 4 => 4 | 40 => 237 | 39 => 236 | 45 => 171 | 5 => 5 | 9 => 9 | 51 => 271 | 55 => 275 | 57 => 304 | 58 => 111 | 33 => 43 | n => n, fun | n => n⟩
theorem Tryz.sortedA : Go.Proofs.SlLaysZI.n6 Tryz.prog Tryz.sortedA_ren where
  mixed := by kernel_rfl
  f6 := ⟨"slices.Sorted[int]", by decide, Tryz.func49.trans (congrArg some (by kernel_rfl))⟩
  f8 := ⟨"slices.Collect[int]", by decide, Tryz.func88.trans (congrArg some (by kernel_rfl))⟩
  f11 := ⟨"slices.AppendSeq[[]int,int]", by decide, Tryz.func157.trans (congrArg some (by kernel_rfl))⟩
  t0 := Tryz.underlying0
  a0 := Tryz.isAgg0
  z0 := Tryz.sizeOf0
  v0 := Tryz.zeroValue0
  t24 := Tryz.underlying35
  a24 := Tryz.isAgg35
  z24 := Tryz.sizeOf35
  v24 := Tryz.zeroValue35
  t26 := Tryz.underlying3
  a26 := Tryz.isAgg3
  z26 := Tryz.sizeOf3
  v26 := Tryz.zeroValue3
  t28 := Tryz.underlying86
  a28 := Tryz.isAgg86
  z28 := Tryz.sizeOf86
  v28 := Tryz.zeroValue86
  i26 := by kernel_rfl
def Tryz.sortA_ren : Go.Shelf.Ren := ⟨fun | 5 => 89 | 8 => 159 | 7 => 158 | 19 => 206 | 20 => 207 | 10 => 198 | 11 => 199 | 12 => 200 | 13 => 201 | 14 => 202 | 15 => 203 | 16 => 181 | 17 => 204 | 18 => 205 | 30 => 236 | 31 => 237 | 32 => 238 | 33 => 239 | 34 => 240 | 35 => 218 | 40 => 264 | n => n, fun | 23 => 35 | 25 => 3 | 3 => 3 | 32 => 202 | 22 => 35 | 0 => 0 | 44 => 68 | 46 => 243 | 4 => 4 | 36 => 237 | 35 => 236 | 41 => 171 | 5 => 5 | 9 => 9 | 53 => 271 | 57 => 275 | 63 => 304 | 64 => 111 | n => n, fun | n => n⟩
theorem Tryz.sortA : Go.Proofs.SlLaysM.n5 Tryz.prog Tryz.sortA_ren where
  mixed := by kernel_rfl
  f5 := ⟨"slices.Sort[[]int,int]", by decide, Tryz.func89.trans (congrArg some (by kernel_rfl))⟩
  f7 := ⟨"slices.pdqsortOrdered[int]", by decide, Tryz.func158.trans (congrArg some (by kernel_rfl))⟩
  f8 := Tryz.func159.trans (congrArg some (by kernel_rfl))
  f10 := ⟨"slices.insertionSortOrdered[int]", by decide, Tryz.func198.trans (congrArg some (by kernel_rfl))⟩
  f11 := ⟨"slices.heapSortOrdered[int]", by decide, Tryz.func199.trans (congrArg some (by kernel_rfl))⟩
  f12 := ⟨"slices.breakPatternsOrdered[int]", by decide, Tryz.func200.trans (congrArg some (by kernel_rfl))⟩
  f13 := ⟨"slices.choosePivotOrdered[int]", by decide, Tryz.func201.trans (congrArg some (by kernel_rfl))⟩
  f14 := ⟨"slices.reverseRangeOrdered[int]", by decide, Tryz.func202.trans (congrArg some (by kernel_rfl))⟩
  f15 := ⟨"slices.partialInsertionSortOrdered[int]", by decide, Tryz.func203.trans (congrArg some (by kernel_rfl))⟩
  f16 := ⟨"cmp.Less[int]", by decide, Tryz.func181.trans (congrArg some (by kernel_rfl))⟩
  f17 := ⟨"slices.partitionEqualOrdered[int]", by decide, Tryz.func204.trans (congrArg some (by kernel_rfl))⟩
  f18 := ⟨"slices.partitionOrdered[int]", by decide, Tryz.func205.trans (congrArg some (by kernel_rfl))⟩
  f19 := Tryz.func206.trans (congrArg some (by kernel_rfl))
  f20 := Tryz.func207.trans (congrArg some (by kernel_rfl))
  f30 := ⟨"slices.siftDownOrdered[int]", by decide, Tryz.func236.trans (congrArg some (by kernel_rfl))⟩
  f31 := Tryz.func237.trans (congrArg some (by kernel_rfl))
  f32 := Tryz.func238.trans (congrArg some (by kernel_rfl))
  f33 := ⟨"slices.medianAdjacentOrdered[int]", by decide, Tryz.func239.trans (congrArg some (by kernel_rfl))⟩
  f34 := ⟨"slices.medianOrdered[int]", by decide, Tryz.func240.trans (congrArg some (by kernel_rfl))⟩
  f35 := ⟨"cmp.isNaN[int]", by decide, Tryz.func218.trans (congrArg some (by kernel_rfl))⟩
  f40 := ⟨"slices.order2Ordered[int]", by decide, Tryz.func264.trans (congrArg some (by kernel_rfl))⟩
  t0 := Tryz.underlying0
  a0 := Tryz.isAgg0
  z0 := Tryz.sizeOf0
  v0 := Tryz.zeroValue0
  t3 := Tryz.underlying3
  a3 := Tryz.isAgg3
  z3 := Tryz.sizeOf3
  v3 := Tryz.zeroValue3
  t4 := Tryz.underlying4
  a4 := Tryz.isAgg4
  z4 := Tryz.sizeOf4
  v4 := Tryz.zeroValue4
  t5 := Tryz.underlying5
  a5 := Tryz.isAgg5
  z5 := Tryz.sizeOf5
  v5 := Tryz.zeroValue5
  t9 := Tryz.underlying9
  a9 := Tryz.isAgg9
  z9 := Tryz.sizeOf9
  v9 := Tryz.zeroValue9
  t22 := Tryz.underlying35
  a22 := Tryz.isAgg35
  z22 := Tryz.sizeOf35
  v22 := Tryz.zeroValue35
  t23 := Tryz.underlying35
  a23 := Tryz.isAgg35
  z23 := Tryz.sizeOf35
  v23 := Tryz.zeroValue35
  t25 := Tryz.underlying3
  a25 := Tryz.isAgg3
  z25 := Tryz.sizeOf3
  v25 := Tryz.zeroValue3
  t32 := Tryz.underlying202
  a32 := Tryz.isAgg202
  z32 := Tryz.sizeOf202
  v32 := Tryz.zeroValue202
  t35 := Tryz.underlying236
  a35 := Tryz.isAgg236
  z35 := Tryz.sizeOf236
  v35 := Tryz.zeroValue236
  t36 := Tryz.underlying237
  a36 := Tryz.isAgg237
  z36 := Tryz.sizeOf237
  v36 := Tryz.zeroValue237
  t41 := Tryz.underlying171
  a41 := Tryz.isAgg171
  z41 := Tryz.sizeOf171
  v41 := Tryz.zeroValue171
  t44 := Tryz.underlying68
  a44 := Tryz.isAgg68
  z44 := Tryz.sizeOf68
  v44 := Tryz.zeroValue68
  t46 := Tryz.underlying243
  a46 := Tryz.isAgg243
  z46 := Tryz.sizeOf243
  v46 := Tryz.zeroValue243
  t53 := Tryz.underlying271
  a53 := Tryz.isAgg271
  z53 := Tryz.sizeOf271
  v53 := Tryz.zeroValue271
  t57 := Tryz.underlying275
  a57 := Tryz.isAgg275
  z57 := Tryz.sizeOf275
  v57 := Tryz.zeroValue275
  t63 := Tryz.underlying304
  a63 := Tryz.isAgg304
  z63 := Tryz.sizeOf304
  v63 := Tryz.zeroValue304
  t64 := Tryz.underlying111
  a64 := Tryz.isAgg111
  z64 := Tryz.sizeOf111
  v64 := Tryz.zeroValue111
def Tryz.keysA_ren : Go.Shelf.Ren := ⟨fun | 7 => 50 | 10 => 90 | n => n, fun | 23 => 78 | 26 => 3 | 3 => 24 | 28 => 86 | 0 => 0 | 27 => 85 | 33 => 43 | 4 => 4 | n => n, fun | n => n⟩
theorem Tryz.keysA : Go.Proofs.SlLaysZI.n7 Tryz.prog Tryz.keysA_ren where
  mixed := by kernel_rfl
  f7 := ⟨"maps.Keys[map[int]fieldfare/api.Vec,int,fieldfare/api.Vec]", by decide, Tryz.func50.trans (congrArg some (by kernel_rfl))⟩
  f10 := ⟨"maps.Keys[map[int]fieldfare/api.Vec,int,fieldfare/api.Vec]$1", by decide, Tryz.func90.trans (congrArg some (by kernel_rfl))⟩
  t0 := Tryz.underlying0
  a0 := Tryz.isAgg0
  z0 := Tryz.sizeOf0
  v0 := Tryz.zeroValue0
  t4 := Tryz.underlying4
  a4 := Tryz.isAgg4
  z4 := Tryz.sizeOf4
  v4 := Tryz.zeroValue4
  t23 := Tryz.underlying78
  a23 := Tryz.isAgg78
  z23 := Tryz.sizeOf78
  v23 := Tryz.zeroValue78
  t26 := Tryz.underlying3
  a26 := Tryz.isAgg3
  z26 := Tryz.sizeOf3
  v26 := Tryz.zeroValue3
  t27 := Tryz.underlying85
  a27 := Tryz.isAgg85
  z27 := Tryz.sizeOf85
  v27 := Tryz.zeroValue85
  t28 := Tryz.underlying86
  a28 := Tryz.isAgg86
  z28 := Tryz.sizeOf86
  v28 := Tryz.zeroValue86
  t33 := Tryz.underlying43
  a33 := Tryz.isAgg43
  z33 := Tryz.sizeOf43
  v33 := Tryz.zeroValue43
def Tryz.keysB_ren : Go.Shelf.Ren := ⟨fun | 7 => 174 | 10 => 217 | n => n, fun | 23 => 104 | 26 => 3 | 3 => 113 | 28 => 86 | 0 => 0 | 27 => 85 | 33 => 43 | 4 => 4 | n => n, fun | n => n⟩
theorem Tryz.keysB : Go.Proofs.SlLaysZI.n7 Tryz.prog Tryz.keysB_ren where
  mixed := by kernel_rfl
  f7 := ⟨"maps.Keys[map[int]*fieldfare/graph.node,int,*fieldfare/graph.node]", by decide, Tryz.func174.trans (congrArg some (by kernel_rfl))⟩
  f10 := ⟨"maps.Keys[map[int]*fieldfare/graph.node,int,*fieldfare/graph.node]$1", by decide, Tryz.func217.trans (congrArg some (by kernel_rfl))⟩
  t0 := Tryz.underlying0
  a0 := Tryz.isAgg0
  z0 := Tryz.sizeOf0
  v0 := Tryz.zeroValue0
  t4 := Tryz.underlying4
  a4 := Tryz.isAgg4
  z4 := Tryz.sizeOf4
  v4 := Tryz.zeroValue4
  t23 := Tryz.underlying104
  a23 := Tryz.isAgg104
  z23 := Tryz.sizeOf104
  v23 := Tryz.zeroValue104
  t26 := Tryz.underlying3
  a26 := Tryz.isAgg3
  z26 := Tryz.sizeOf3
  v26 := Tryz.zeroValue3
  t27 := Tryz.underlying85
  a27 := Tryz.isAgg85
  z27 := Tryz.sizeOf85
  v27 := Tryz.zeroValue85
  t28 := Tryz.underlying86
  a28 := Tryz.isAgg86
  z28 := Tryz.sizeOf86
  v28 := Tryz.zeroValue86
  t33 := Tryz.underlying43
  a33 := Tryz.isAgg43
  z33 := Tryz.sizeOf43
  v33 := Tryz.zeroValue43
def Tryz.keysC_ren : Go.Shelf.Ren := ⟨fun | 7 => 56 | 10 => 98 | n => n, fun | 23 => 89 | 26 => 3 | 3 => 93 | 28 => 86 | 0 => 0 | 27 => 85 | 33 => 43 | 4 => 4 | n => n, fun | n => n⟩
theorem Tryz.keysC : Go.Proofs.SlLaysZI.n7 Tryz.prog Tryz.keysC_ren where
  mixed := by kernel_rfl
  f7 := ⟨"maps.Keys[map[int]fieldfare/ivf.member,int,fieldfare/ivf.member]", by decide, Tryz.func56.trans (congrArg some (by kernel_rfl))⟩
  f10 := ⟨"maps.Keys[map[int]fieldfare/ivf.member,int,fieldfare/ivf.member]$1", by decide, Tryz.func98.trans (congrArg some (by kernel_rfl))⟩
  t0 := Tryz.underlying0
  a0 := Tryz.isAgg0
  z0 := Tryz.sizeOf0
  v0 := Tryz.zeroValue0
  t4 := Tryz.underlying4
  a4 := Tryz.isAgg4
  z4 := Tryz.sizeOf4
  v4 := Tryz.zeroValue4
  t23 := Tryz.underlying89
  a23 := Tryz.isAgg89
  z23 := Tryz.sizeOf89
  v23 := Tryz.zeroValue89
  t26 := Tryz.underlying3
  a26 := Tryz.isAgg3
  z26 := Tryz.sizeOf3
  v26 := Tryz.zeroValue3
  t27 := Tryz.underlying85
  a27 := Tryz.isAgg85
  z27 := Tryz.sizeOf85
  v27 := Tryz.zeroValue85
  t28 := Tryz.underlying86
  a28 := Tryz.isAgg86
  z28 := Tryz.sizeOf86
  v28 := Tryz.zeroValue86
  t33 := Tryz.underlying43
  a33 := Tryz.isAgg43
  z33 := Tryz.sizeOf43
  v33 := Tryz.zeroValue43
def Tryz.keysD_ren : Go.Shelf.Ren := ⟨fun | 7 => 140 | 10 => 187 | n => n, fun | 23 => 123 | 26 => 3 | 3 => 127 | 28 => 86 | 0 => 0 | 27 => 85 | 33 => 43 | 4 => 4 | n => n, fun | n => n⟩
theorem Tryz.keysD : Go.Proofs.SlLaysZI.n7 Tryz.prog Tryz.keysD_ren where
  mixed := by kernel_rfl
  f7 := ⟨"maps.Keys[map[int]fieldfare/coded.member,int,fieldfare/coded.member]", by decide, Tryz.func140.trans (congrArg some (by kernel_rfl))⟩
  f10 := ⟨"maps.Keys[map[int]fieldfare/coded.member,int,fieldfare/coded.member]$1", by decide, Tryz.func187.trans (congrArg some (by kernel_rfl))⟩
  t0 := Tryz.underlying0
  a0 := Tryz.isAgg0
  z0 := Tryz.sizeOf0
  v0 := Tryz.zeroValue0
  t4 := Tryz.underlying4
  a4 := Tryz.isAgg4
  z4 := Tryz.sizeOf4
  v4 := Tryz.zeroValue4
  t23 := Tryz.underlying123
  a23 := Tryz.isAgg123
  z23 := Tryz.sizeOf123
  v23 := Tryz.zeroValue123
  t26 := Tryz.underlying3
  a26 := Tryz.isAgg3
  z26 := Tryz.sizeOf3
  v26 := Tryz.zeroValue3
  t27 := Tryz.underlying85
  a27 := Tryz.isAgg85
  z27 := Tryz.sizeOf85
  v27 := Tryz.zeroValue85
  t28 := Tryz.underlying86
  a28 := Tryz.isAgg86
  z28 := Tryz.sizeOf86
  v28 := Tryz.zeroValue86
  t33 := Tryz.underlying43
  a33 := Tryz.isAgg43
  z33 := Tryz.sizeOf43
  v33 := Tryz.zeroValue43


theorem Tryz.sortsA (m : Nat) : AnyZI.SortsIn Tryz.prog Tryz.sortedA_ren Fence.wide m :=
  ⟨fun blk off cap ss W hH hblk hsz => callsIn_wide.2 (AnyM.slices_Sort_int Tryz.sortA blk off cap ss W hH hblk hsz),
   fun p cap W => callsIn_wide.2 (AnyM.slices_Sort_int_none Tryz.sortA p cap W)⟩

attribute [local go_sem] Oper.semAt_some

set_option maxRecDepth 100000 in
set_option maxHeartbeats 2000000 in
theorem Tryz.values1 (F : Fence) (n : Nat) (h7 : F.fn 222) (hro : F.round = none) (hn : 1 ≤ n) (l Bs os b off cap : Nat) (zs : List Int) (hreach : zs.length * 8 ≤ 140737488351232) (J : List Int → World → Prop) (B : Nat) (w0 : World) (hb : b < B)
    (hJB : ∀ pre W, J pre W → Below B w0 W)
    (hY : ∀ pre x W, J pre W → pre.length < zs.length → YieldAt F (n - 1) Tryz.prog l #[encZ x] W fun e W' => e = .returned (.bool true) ∧ J (pre ++ [x]) W' ∧ KeepsWalks W W')
    (W : World) (hBs : W.cell? ⟨Bs, os, none⟩ = some (.slice (some ⟨b, off, none⟩) zs.length cap)) (hc : ∀ (j : Nat) (x : Int), zs[j]? = some x → w0.cell? ⟨b, off + j, none⟩ = some (.int .i64 x)) (h0 : J [] W) :
    CallsIn F n Tryz.prog 222 #[.func (.yield l) #[] #[], .pointer (some ⟨Bs, os, none⟩)] W fun e W' => (∃ v, e = .returned v) ∧ ∃ ys, ys = zs ∧ J ys W' := by
  refine callsIn_of_wp Tryz.func222 rfl h7 ?_ hro
  simp only [Tryz.ntmps222, List.size_toArray, List.length_cons, List.length_nil, Nat.reduceAdd, Nat.reduceSub, Array.replicate_succ, Array.replicate_zero, List.push_toArray, List.append_toArray, List.nil_append, List.cons_append]
  gi_wp2
  gi_loopw [7] (fun i wr => ∃ k : Nat, k ≤ zs.length ∧ i = .int .i64 k ∧ J (zs.take k) wr)
    (fun i _ => zs.length - (Go.Lib.intOf i).toNat)
  case atStart => exact ⟨0, Nat.zero_le _, rfl, h0⟩
  case round =>
    obtain ⟨k, hk, rfl, hJs⟩ := hrel
    by_cases hlt : k < zs.length
    · have hcx : wr.cell? ⟨b, off + k, none⟩ = some (.int .i64 zs[k]) := ((hJB _ _ hJs).cell (p := ⟨b, off + k, none⟩) hb).trans (hc k _ (List.getElem?_eq_getElem hlt))
      obtain ⟨fn, tmps, assign, body, hy, hR⟩ := hY _ zs[k] wr hJs (by rw [List.length_take]; omega)
      gi_wp2
      refine hR.mono ?_
      rintro e W3 ⟨rfl, hJ3, hk3⟩
      gi_wp2
      go_roundw
      case rel => exact ⟨k + 1, by omega, by simp, by rw [List.take_succ_eq_append_getElem hlt]; exact hJ3⟩
      case measure => simp [Go.Lib.intOf]; omega
    · obtain rfl : k = zs.length := by omega
      gi_wp2
      go_end0
      exact ⟨⟨_, rfl⟩, zs, rfl, by rw [List.take_length] at hJs; exact hJs⟩
#print axioms Tryz.values1
end Go.Proofs
end
