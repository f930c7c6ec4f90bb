import Derived.Test.YthkmcfiijooddaaGreatDoorE23
import Derived.Test.YthkmcfiijooddaaGreatDoorE22
import Derived.Below
import Derived.Carry
import Derived.Handed
import Derived.ChangeSame
import Derived.ChangeVars
import Derived.JoinedOf
import Derived.RowKit
import Derived.RowKitTokens
import Derived.LaidLaws
import Derived.LaidHandle
import Derived.Stop.Joined
import Derived.ChangeReads
set_option linter.unusedVariables false
set_option linter.unusedSimpArgs false
section
/- slices.Sorted's contract over a map's keys and over a slice's values, given the laid bodies. -/
namespace Go.Ab
open Go.RowKit Go.Maps Go.Sort Go.Shelf Go.Proofs
open Go.WideElems (rg rd_mk rg_of)

variable {P : Program} {ρ : Ren}

def RN : Value → Option (DataW Unit × List MemPlace) := fun _ => some (.nil, [])

theorem ownsMap_of {k : TypeId} (hk : P.underlying k = some (.int .i64)) {w : World} {r : Nat} {es : Array MapEntry} {clock : Nat} {l : List Int} (hH : w.heap[r]? = some (.map es clock)) (hst : MapKept.Stamped es clock)
    (hks : es.toList.map (·.key) = l.map (fun n => Value.int .i64 n)) (hw : ∀ n ∈ l, wfI n = true) (hl : l.length ≤ 1000000) :
    ∃ D0 : DataW Unit, w.ownsMap P k RN r es.size D0 ∧ (intKeys D0).Perm l ∧ Maps.size D0 = l.length := by
  have hlen : es.toList.length = l.length := by have := congrArg List.length hks; simpa using this
  have hrd : ∀ x ∈ es.toList, ∃ n, x.key = .int .i64 n ∧ WideElems.rd P k RN x = some (.int .i64 n, .nil) := by
    intro x hx
    have : x.key ∈ l.map (fun n => Value.int .i64 n) := by rw [← hks]; exact List.mem_map.2 ⟨x, hx, rfl⟩
    obtain ⟨n, hn, he⟩ := List.mem_map.1 this
    refine ⟨n, he.symm, ?_⟩
    obtain ⟨key, val, born⟩ := x
    simp only at he
    subst he
    exact rd_mk (Maps.keyOf_int_mk hk (wfI_wf (hw n hn))) (yv := (.nil, [])) rfl
  refine ⟨.map ((es.toList.map (rg P k RN)).foldr DataW.insert []), ⟨es, clock, hH, ⟨?_, hst, fun x hx => ?_⟩, Nat.le_refl _, rfl⟩, ?_, ?_⟩
  · have : es.size = l.length := by rw [← Array.length_toList]; exact hlen
    have : (1000000 : Nat) ≤ maxLen := by decide
    omega
  · obtain ⟨n, _, h⟩ := hrd x hx
    exact ⟨_, h⟩
  · show ((List.foldr DataW.insert [] (es.toList.map (rg P k RN))).map fun p => Go.intOf p.1).Perm l
    have h1 := (WideShapes.sorted_perm (es.toList.map (rg P k RN))).map fun p => Go.intOf p.1
    refine h1.trans (List.Perm.of_eq ?_)
    rw [List.map_map]
    have h2 : l = (l.map fun n => Value.int .i64 n).map fun v => match v with | .int _ n => n | _ => 0 := by
      rw [List.map_map]
      exact (List.map_id l).symm
    rw [h2, ← hks, List.map_map]
    refine List.map_congr_left fun x hx => ?_
    obtain ⟨n, e1, e2⟩ := hrd x hx
    show Go.intOf (rg P k RN x).1 = _
    rw [rg_of e2]
    show n = (match x.key with | .int _ n => n | _ => 0)
    rw [e1]
  · show (List.foldr DataW.insert [] (es.toList.map (rg P k RN))).length = _
    rw [length_sorted]
    simpa using hlen

theorem keysB {ρ' : Ren} (L : SlLaysZI.n10 P ρ') (n : Nat) (hn : 1 ≤ n) {w : World} {b o : Nat} {v : Value} {l : List Int} (hv : w.cell? ⟨b, o, none⟩ = some v) (hb : b < w.heap.size) (hs : SeqHolds true w v l)
    (hw : ∀ n ∈ l, wfI n = true) (hl : l.length ≤ 1000000) : SeqB P Fence.wide n (ρ'.f 10) #[.pointer (some ⟨b, o, none⟩)] (fun ss => ss.Perm l) l.length w := by
  intro l0 J W hW hJ _ hY h0
  have hc : W.cell? ⟨b, o, none⟩ = some v := (hW.cell (p := ⟨b, o, none⟩) hb).trans hv
  rcases hs with ⟨rfl, rfl⟩ | ⟨r, es, k, rfl, hH, hst, hks⟩
  · refine (keysNil { L with } Fence.wide n trivial rfl l0 b o J W hJ hc h0).mono ?_
    rintro e W' ⟨he, ss, rfl, hj⟩
    exact ⟨he, [], .refl _, hj⟩
  · have hrl : r < w.heap.size := (Array.getElem?_eq_some_iff.1 hH).1
    obtain ⟨D0, hown, hperm, hsz⟩ := ownsMap_of L.t26 ((hW.block r hrl).trans hH) hst hks hw hl
    refine (keysAt { L with } Fence.wide n trivial rfl hn l0 b o r es.size D0 J (fun pre x W1 hj hlt => hY pre x W1 hj (by omega)) W hJ hc hown h0).mono ?_
    rintro e W' ⟨he, ss, hp, hj⟩
    exact ⟨he, ss, hp.trans hperm, hj⟩

/-- slices.Sorted over whatever gives a permutation of l. -/
theorem sortedOwed (L : SlLaysZI.n6 P ρ) (hsort : AnyZI.SortsIn P ρ Fence.wide 9) (e9 : ∀ args w, (callFunc (ρ.f 9) args).run P w = .ok (.enter (ρ.f 9) args) w) {g : Nat} {lb : Array Value} (eg : ∀ args w, (callFunc g args).run P w = .ok (.enter g args) w)
    {l : List Int} (hl : l.length ≤ 1000000) {w : World} (hseq : SeqB P Fence.wide 7 g lb (fun ss => ss.Perm l) l.length w) :
    Calls P (ρ.f 6) #[.func (.func g) #[] lb] w fun e w' => ∃ v, e = .returned v ∧ w'.ownsRow w.heap.size (ρ.t 26) 1 v l.length ((sortI l).map fun n => Value.int .i64 n) ∧ (v = .slice none 0 0 ↔ l = []) ∧ Below w.heap.size w w' := by
  refine Calls.mono ((callsIn_wide (n := 10)).1 (sortedB { L with } Fence.wide 10 trivial trivial trivial trivial rfl (by omega) hsort e9 g lb trivial eg (fun ss => ss.Perm l) l.length ?_ (by omega) w (fun ss h => Nat.le_of_eq h.length_eq) hseq)) ?_
  · have : (1000000 : Nat) ≤ maxLen := by decide
    omega
  · rintro e w' ⟨v, ss, rfl, hS, hrow, hnil, hb⟩
    refine ⟨v, rfl, ?_, ?_, hb⟩
    · rw [mergeSort_sortI hS, hS.length_eq] at hrow
      exact hrow
    · rw [hnil]
      constructor
      · rintro rfl; exact List.length_eq_zero_iff.1 hS.length_eq.symm
      · rintro rfl; exact List.length_eq_zero_iff.1 hS.length_eq

end Go.Ab
end
section
/- The seat's bodies of slices.Sorted, slices.Sort, maps.Keys, as the shelf has them (printed by a tool); slices.Values's walk; the contract of slices.Sorted. -/
namespace Go.Proofs
open Go.RowKit Go.Maps Go.Sort Go.Shelf

def Tryz.sortedA_ren : Go.Shelf.Ren := ⟨fun | 6 => 63 | 8 => 100 | 9 => 101 | 11 => 138 | 13 => 140 | 12 => 139 | 23 => 180 | 24 => 181 | 14 => 171 | 15 => 172 | 16 => 173 | 17 => 174 | 18 => 175 | 19 => 176 | 20 => 177 | 21 => 178 | 22 => 179 | 25 => 208 | 26 => 209 | 27 => 210 | 28 => 211 | 29 => 212 | 30 => 213 | 31 => 226 | n => n, fun | 26 => 3 | 28 => 128 | 24 => 45 | 0 => 0 | 3 => 3 | 37 => 229 | 48 => 81 | 50 => 263 | 4 => 4 | 40 => 256 | 39 => 255 | 45 => 242 | 5 => 5 | 9 => 9 | 51 => 292 | 55 => 296 | 57 => 312 | 58 => 191 | 33 => 146 | n => n, fun | n => n⟩
theorem Tryz.sortedA : Go.Proofs.SlLaysZI.n6 Tryz.prog Tryz.sortedA_ren where
  mixed := by kernel_rfl
  f6 := ⟨ "slices.Sorted[int]", by decide, Tryz.func63.trans (congrArg some (by kernel_rfl))⟩
  f8 := ⟨ "slices.Collect[int]", by decide, Tryz.func100.trans (congrArg some (by kernel_rfl))⟩
  f11 := ⟨ "slices.AppendSeq[[]int,int]", by decide, Tryz.func138.trans (congrArg some (by kernel_rfl))⟩
  t0 := Tryz.underlying0
  a0 := Tryz.isAgg0
  z0 := Tryz.sizeOf0
  v0 := Tryz.zeroValue0
  t24 := Tryz.underlying45
  a24 := Tryz.isAgg45
  z24 := Tryz.sizeOf45
  v24 := Tryz.zeroValue45
  t26 := Tryz.underlying3
  a26 := Tryz.isAgg3
  z26 := Tryz.sizeOf3
  v26 := Tryz.zeroValue3
  t28 := Tryz.underlying128
  a28 := Tryz.isAgg128
  z28 := Tryz.sizeOf128
  v28 := Tryz.zeroValue128
  i26 := by kernel_rfl
def Tryz.sortA_ren : Go.Shelf.Ren := ⟨fun | 5 => 101 | 8 => 140 | 7 => 139 | 19 => 180 | 20 => 181 | 10 => 171 | 11 => 172 | 12 => 173 | 13 => 174 | 14 => 175 | 15 => 176 | 16 => 177 | 17 => 178 | 18 => 179 | 30 => 208 | 31 => 209 | 32 => 210 | 33 => 211 | 34 => 212 | 35 => 213 | 40 => 226 | n => n, fun | 23 => 45 | 25 => 3 | 3 => 3 | 32 => 229 | 22 => 45 | 0 => 0 | 44 => 81 | 46 => 263 | 4 => 4 | 36 => 256 | 35 => 255 | 41 => 242 | 5 => 5 | 9 => 9 | 53 => 292 | 57 => 296 | 63 => 312 | 64 => 191 | n => n, fun | n => n⟩
theorem Tryz.sortA : Go.Proofs.SlLaysM.n5 Tryz.prog Tryz.sortA_ren where
  mixed := by kernel_rfl
  f5 := ⟨ "slices.Sort[[]int,int]", by decide, Tryz.func101.trans (congrArg some (by kernel_rfl))⟩
  f7 := ⟨ "slices.pdqsortOrdered[int]", by decide, Tryz.func139.trans (congrArg some (by kernel_rfl))⟩
  f8 := Tryz.func140.trans (congrArg some (by kernel_rfl))
  f10 := ⟨ "slices.insertionSortOrdered[int]", by decide, Tryz.func171.trans (congrArg some (by kernel_rfl))⟩
  f11 := ⟨ "slices.heapSortOrdered[int]", by decide, Tryz.func172.trans (congrArg some (by kernel_rfl))⟩
  f12 := ⟨ "slices.breakPatternsOrdered[int]", by decide, Tryz.func173.trans (congrArg some (by kernel_rfl))⟩
  f13 := ⟨ "slices.choosePivotOrdered[int]", by decide, Tryz.func174.trans (congrArg some (by kernel_rfl))⟩
  f14 := ⟨ "slices.reverseRangeOrdered[int]", by decide, Tryz.func175.trans (congrArg some (by kernel_rfl))⟩
  f15 := ⟨ "slices.partialInsertionSortOrdered[int]", by decide, Tryz.func176.trans (congrArg some (by kernel_rfl))⟩
  f16 := ⟨ "cmp.Less[int]", by decide, Tryz.func177.trans (congrArg some (by kernel_rfl))⟩
  f17 := ⟨ "slices.partitionEqualOrdered[int]", by decide, Tryz.func178.trans (congrArg some (by kernel_rfl))⟩
  f18 := ⟨ "slices.partitionOrdered[int]", by decide, Tryz.func179.trans (congrArg some (by kernel_rfl))⟩
  f19 := Tryz.func180.trans (congrArg some (by kernel_rfl))
  f20 := Tryz.func181.trans (congrArg some (by kernel_rfl))
  f30 := ⟨ "slices.siftDownOrdered[int]", by decide, Tryz.func208.trans (congrArg some (by kernel_rfl))⟩
  f31 := Tryz.func209.trans (congrArg some (by kernel_rfl))
  f32 := Tryz.func210.trans (congrArg some (by kernel_rfl))
  f33 := ⟨ "slices.medianAdjacentOrdered[int]", by decide, Tryz.func211.trans (congrArg some (by kernel_rfl))⟩
  f34 := ⟨ "slices.medianOrdered[int]", by decide, Tryz.func212.trans (congrArg some (by kernel_rfl))⟩
  f35 := ⟨ "cmp.isNaN[int]", by decide, Tryz.func213.trans (congrArg some (by kernel_rfl))⟩
  f40 := ⟨ "slices.order2Ordered[int]", by decide, Tryz.func226.trans (congrArg some (by kernel_rfl))⟩
  t0 := Tryz.underlying0
  a0 := Tryz.isAgg0
  z0 := Tryz.sizeOf0
  v0 := Tryz.zeroValue0
  t3 := Tryz.underlying3
  a3 := Tryz.isAgg3
  z3 := Tryz.sizeOf3
  v3 := Tryz.zeroValue3
  t4 := Tryz.underlying4
  a4 := Tryz.isAgg4
  z4 := Tryz.sizeOf4
  v4 := Tryz.zeroValue4
  t5 := Tryz.underlying5
  a5 := Tryz.isAgg5
  z5 := Tryz.sizeOf5
  v5 := Tryz.zeroValue5
  t9 := Tryz.underlying9
  a9 := Tryz.isAgg9
  z9 := Tryz.sizeOf9
  v9 := Tryz.zeroValue9
  t22 := Tryz.underlying45
  a22 := Tryz.isAgg45
  z22 := Tryz.sizeOf45
  v22 := Tryz.zeroValue45
  t23 := Tryz.underlying45
  a23 := Tryz.isAgg45
  z23 := Tryz.sizeOf45
  v23 := Tryz.zeroValue45
  t25 := Tryz.underlying3
  a25 := Tryz.isAgg3
  z25 := Tryz.sizeOf3
  v25 := Tryz.zeroValue3
  t32 := Tryz.underlying229
  a32 := Tryz.isAgg229
  z32 := Tryz.sizeOf229
  v32 := Tryz.zeroValue229
  t35 := Tryz.underlying255
  a35 := Tryz.isAgg255
  z35 := Tryz.sizeOf255
  v35 := Tryz.zeroValue255
  t36 := Tryz.underlying256
  a36 := Tryz.isAgg256
  z36 := Tryz.sizeOf256
  v36 := Tryz.zeroValue256
  t41 := Tryz.underlying242
  a41 := Tryz.isAgg242
  z41 := Tryz.sizeOf242
  v41 := Tryz.zeroValue242
  t44 := Tryz.underlying81
  a44 := Tryz.isAgg81
  z44 := Tryz.sizeOf81
  v44 := Tryz.zeroValue81
  t46 := Tryz.underlying263
  a46 := Tryz.isAgg263
  z46 := Tryz.sizeOf263
  v46 := Tryz.zeroValue263
  t53 := Tryz.underlying292
  a53 := Tryz.isAgg292
  z53 := Tryz.sizeOf292
  v53 := Tryz.zeroValue292
  t57 := Tryz.underlying296
  a57 := Tryz.isAgg296
  z57 := Tryz.sizeOf296
  v57 := Tryz.zeroValue296
  t63 := Tryz.underlying312
  a63 := Tryz.isAgg312
  z63 := Tryz.sizeOf312
  v63 := Tryz.zeroValue312
  t64 := Tryz.underlying191
  a64 := Tryz.isAgg191
  z64 := Tryz.sizeOf191
  v64 := Tryz.zeroValue191
def Tryz.keysA_ren : Go.Shelf.Ren := ⟨fun | 7 => 96 | 10 => 134 | n => n, fun | 23 => 149 | 26 => 3 | 3 => 33 | 28 => 128 | 0 => 0 | 27 => 127 | 33 => 146 | 4 => 4 | n => n, fun | n => n⟩
theorem Tryz.keysA : Go.Proofs.SlLaysZI.n7 Tryz.prog Tryz.keysA_ren where
  mixed := by kernel_rfl
  f7 := ⟨ "maps.Keys[map[int]fieldfare/api.Vec,int,fieldfare/api.Vec]", by decide, Tryz.func96.trans (congrArg some (by kernel_rfl))⟩
  f10 := ⟨ "maps.Keys[map[int]fieldfare/api.Vec,int,fieldfare/api.Vec]$1", by decide, Tryz.func134.trans (congrArg some (by kernel_rfl))⟩
  t0 := Tryz.underlying0
  a0 := Tryz.isAgg0
  z0 := Tryz.sizeOf0
  v0 := Tryz.zeroValue0
  t4 := Tryz.underlying4
  a4 := Tryz.isAgg4
  z4 := Tryz.sizeOf4
  v4 := Tryz.zeroValue4
  t23 := Tryz.underlying149
  a23 := Tryz.isAgg149
  z23 := Tryz.sizeOf149
  v23 := Tryz.zeroValue149
  t26 := Tryz.underlying3
  a26 := Tryz.isAgg3
  z26 := Tryz.sizeOf3
  v26 := Tryz.zeroValue3
  t27 := Tryz.underlying127
  a27 := Tryz.isAgg127
  z27 := Tryz.sizeOf127
  v27 := Tryz.zeroValue127
  t28 := Tryz.underlying128
  a28 := Tryz.isAgg128
  z28 := Tryz.sizeOf128
  v28 := Tryz.zeroValue128
  t33 := Tryz.underlying146
  a33 := Tryz.isAgg146
  z33 := Tryz.sizeOf146
  v33 := Tryz.zeroValue146
def Tryz.keysB_ren : Go.Shelf.Ren := ⟨fun | 7 => 98 | 10 => 136 | n => n, fun | 23 => 154 | 26 => 3 | 3 => 181 | 28 => 128 | 0 => 0 | 27 => 127 | 33 => 146 | 4 => 4 | n => n, fun | n => n⟩
theorem Tryz.keysB : Go.Proofs.SlLaysZI.n7 Tryz.prog Tryz.keysB_ren where
  mixed := by kernel_rfl
  f7 := ⟨ "maps.Keys[map[int]*fieldfare/graph.node,int,*fieldfare/graph.node]", by decide, Tryz.func98.trans (congrArg some (by kernel_rfl))⟩
  f10 := ⟨ "maps.Keys[map[int]*fieldfare/graph.node,int,*fieldfare/graph.node]$1", by decide, Tryz.func136.trans (congrArg some (by kernel_rfl))⟩
  t0 := Tryz.underlying0
  a0 := Tryz.isAgg0
  z0 := Tryz.sizeOf0
  v0 := Tryz.zeroValue0
  t4 := Tryz.underlying4
  a4 := Tryz.isAgg4
  z4 := Tryz.sizeOf4
  v4 := Tryz.zeroValue4
  t23 := Tryz.underlying154
  a23 := Tryz.isAgg154
  z23 := Tryz.sizeOf154
  v23 := Tryz.zeroValue154
  t26 := Tryz.underlying3
  a26 := Tryz.isAgg3
  z26 := Tryz.sizeOf3
  v26 := Tryz.zeroValue3
  t27 := Tryz.underlying127
  a27 := Tryz.isAgg127
  z27 := Tryz.sizeOf127
  v27 := Tryz.zeroValue127
  t28 := Tryz.underlying128
  a28 := Tryz.isAgg128
  z28 := Tryz.sizeOf128
  v28 := Tryz.zeroValue128
  t33 := Tryz.underlying146
  a33 := Tryz.isAgg146
  z33 := Tryz.sizeOf146
  v33 := Tryz.zeroValue146
def Tryz.keysC_ren : Go.Shelf.Ren := ⟨fun | 7 => 97 | 10 => 135 | n => n, fun | 23 => 175 | 26 => 3 | 3 => 177 | 28 => 128 | 0 => 0 | 27 => 127 | 33 => 146 | 4 => 4 | n => n, fun | n => n⟩
theorem Tryz.keysC : Go.Proofs.SlLaysZI.n7 Tryz.prog Tryz.keysC_ren where
  mixed := by kernel_rfl
  f7 := ⟨ "maps.Keys[map[int]fieldfare/ivf.member,int,fieldfare/ivf.member]", by decide, Tryz.func97.trans (congrArg some (by kernel_rfl))⟩
  f10 := ⟨ "maps.Keys[map[int]fieldfare/ivf.member,int,fieldfare/ivf.member]$1", by decide, Tryz.func135.trans (congrArg some (by kernel_rfl))⟩
  t0 := Tryz.underlying0
  a0 := Tryz.isAgg0
  z0 := Tryz.sizeOf0
  v0 := Tryz.zeroValue0
  t4 := Tryz.underlying4
  a4 := Tryz.isAgg4
  z4 := Tryz.sizeOf4
  v4 := Tryz.zeroValue4
  t23 := Tryz.underlying175
  a23 := Tryz.isAgg175
  z23 := Tryz.sizeOf175
  v23 := Tryz.zeroValue175
  t26 := Tryz.underlying3
  a26 := Tryz.isAgg3
  z26 := Tryz.sizeOf3
  v26 := Tryz.zeroValue3
  t27 := Tryz.underlying127
  a27 := Tryz.isAgg127
  z27 := Tryz.sizeOf127
  v27 := Tryz.zeroValue127
  t28 := Tryz.underlying128
  a28 := Tryz.isAgg128
  z28 := Tryz.sizeOf128
  v28 := Tryz.zeroValue128
  t33 := Tryz.underlying146
  a33 := Tryz.isAgg146
  z33 := Tryz.sizeOf146
  v33 := Tryz.zeroValue146
def Tryz.keysD_ren : Go.Shelf.Ren := ⟨fun | 7 => 99 | 10 => 137 | n => n, fun | 23 => 183 | 26 => 3 | 3 => 186 | 28 => 128 | 0 => 0 | 27 => 127 | 33 => 146 | 4 => 4 | n => n, fun | n => n⟩
theorem Tryz.keysD : Go.Proofs.SlLaysZI.n7 Tryz.prog Tryz.keysD_ren where
  mixed := by kernel_rfl
  f7 := ⟨ "maps.Keys[map[int]fieldfare/coded.member,int,fieldfare/coded.member]", by decide, Tryz.func99.trans (congrArg some (by kernel_rfl))⟩
  f10 := ⟨ "maps.Keys[map[int]fieldfare/coded.member,int,fieldfare/coded.member]$1", by decide, Tryz.func137.trans (congrArg some (by kernel_rfl))⟩
  t0 := Tryz.underlying0
  a0 := Tryz.isAgg0
  z0 := Tryz.sizeOf0
  v0 := Tryz.zeroValue0
  t4 := Tryz.underlying4
  a4 := Tryz.isAgg4
  z4 := Tryz.sizeOf4
  v4 := Tryz.zeroValue4
  t23 := Tryz.underlying183
  a23 := Tryz.isAgg183
  z23 := Tryz.sizeOf183
  v23 := Tryz.zeroValue183
  t26 := Tryz.underlying3
  a26 := Tryz.isAgg3
  z26 := Tryz.sizeOf3
  v26 := Tryz.zeroValue3
  t27 := Tryz.underlying127
  a27 := Tryz.isAgg127
  z27 := Tryz.sizeOf127
  v27 := Tryz.zeroValue127
  t28 := Tryz.underlying128
  a28 := Tryz.isAgg128
  z28 := Tryz.sizeOf128
  v28 := Tryz.zeroValue128
  t33 := Tryz.underlying146
  a33 := Tryz.isAgg146
  z33 := Tryz.sizeOf146
  v33 := Tryz.zeroValue146
def Tryz.keysE_ren : Go.Shelf.Ren := ⟨fun | 7 => 64 | 10 => 102 | n => n, fun | 23 => 113 | 26 => 3 | 3 => 59 | 28 => 128 | 0 => 0 | 27 => 127 | 33 => 146 | 4 => 4 | n => n, fun | n => n⟩
theorem Tryz.keysE : Go.Proofs.SlLaysZI.n7 Tryz.prog Tryz.keysE_ren where
  mixed := by kernel_rfl
  f7 := ⟨ "maps.Keys[map[int]fieldfare/api.Item,int,fieldfare/api.Item]", by decide, Tryz.func64.trans (congrArg some (by kernel_rfl))⟩
  f10 := ⟨ "maps.Keys[map[int]fieldfare/api.Item,int,fieldfare/api.Item]$1", by decide, Tryz.func102.trans (congrArg some (by kernel_rfl))⟩
  t0 := Tryz.underlying0
  a0 := Tryz.isAgg0
  z0 := Tryz.sizeOf0
  v0 := Tryz.zeroValue0
  t4 := Tryz.underlying4
  a4 := Tryz.isAgg4
  z4 := Tryz.sizeOf4
  v4 := Tryz.zeroValue4
  t23 := Tryz.underlying113
  a23 := Tryz.isAgg113
  z23 := Tryz.sizeOf113
  v23 := Tryz.zeroValue113
  t26 := Tryz.underlying3
  a26 := Tryz.isAgg3
  z26 := Tryz.sizeOf3
  v26 := Tryz.zeroValue3
  t27 := Tryz.underlying127
  a27 := Tryz.isAgg127
  z27 := Tryz.sizeOf127
  v27 := Tryz.zeroValue127
  t28 := Tryz.underlying128
  a28 := Tryz.isAgg128
  z28 := Tryz.sizeOf128
  v28 := Tryz.zeroValue128
  t33 := Tryz.underlying146
  a33 := Tryz.isAgg146
  z33 := Tryz.sizeOf146
  v33 := Tryz.zeroValue146


theorem Tryz.sortsA (m : Nat) : AnyZI.SortsIn Tryz.prog Tryz.sortedA_ren Fence.wide m :=
  ⟨fun blk off cap ss W hH hblk hsz => callsIn_wide.2 (AnyM.slices_Sort_int Tryz.sortA blk off cap ss W hH hblk hsz),
   fun p cap W => callsIn_wide.2 (AnyM.slices_Sort_int_none Tryz.sortA p cap W)⟩

attribute [local go_sem] Oper.semAt_some

set_option maxRecDepth 100000 in
set_option maxHeartbeats 2000000 in
theorem Tryz.values1 (F : Fence) (n : Nat) (h7 : F.fn 238) (hro : F.round = none) (hn : 1 ≤ n) (l Bs os b off cap : Nat) (zs : List Int) (hreach : zs.length * 8 ≤ 140737488351232) (J : List Int → World → Prop) (B : Nat) (w0 : World) (hb : b < B)
    (hJB : ∀ pre W, J pre W → Below B w0 W)
    (hY : ∀ pre x W, J pre W → pre.length < zs.length → YieldAt F (n - 1) Tryz.prog l #[encZ x] W fun e W' => e = .returned (.bool true) ∧ J (pre ++ [x]) W' ∧ KeepsWalks W W')
    (W : World) (hBs : W.cell? ⟨Bs, os, none⟩ = some (.slice (some ⟨b, off, none⟩) zs.length cap)) (hc : ∀ (j : Nat) (x : Int), zs[j]? = some x → w0.cell? ⟨b, off + j, none⟩ = some (.int .i64 x)) (h0 : J [] W) :
    CallsIn F n Tryz.prog 238 #[.func (.yield l) #[] #[], .pointer (some ⟨Bs, os, none⟩)] W fun e W' => (∃ v, e = .returned v) ∧ ∃ ys, ys = zs ∧ J ys W' := by
  refine callsIn_of_wp Tryz.func238 rfl h7 ?_ hro
  simp only [Tryz.ntmps238, List.size_toArray, List.length_cons, List.length_nil, Nat.reduceAdd, Nat.reduceSub, Array.replicate_succ, Array.replicate_zero, List.push_toArray, List.append_toArray, List.nil_append, List.cons_append]
  gi_wp2
  gi_loopw [7] (fun i wr => ∃ k : Nat, k ≤ zs.length ∧ i = .int .i64 k ∧ J (zs.take k) wr)
    (fun i _ => zs.length - (Go.Lib.intOf i).toNat)
  case atStart => exact ⟨0, Nat.zero_le _, rfl, h0⟩
  case round =>
    obtain ⟨k, hk, rfl, hJs⟩ := hrel
    by_cases hlt : k < zs.length
    · have hcx : wr.cell? ⟨b, off + k, none⟩ = some (.int .i64 zs[k]) := ((hJB _ _ hJs).cell (p := ⟨b, off + k, none⟩) hb).trans (hc k _ (List.getElem?_eq_getElem hlt))
      obtain ⟨fn, tmps, assign, body, hy, hR⟩ := hY _ zs[k] wr hJs (by rw [List.length_take]; omega)
      gi_wp2
      refine hR.mono ?_
      rintro e W3 ⟨rfl, hJ3, hk3⟩
      gi_wp2
      go_roundw
      case rel => exact ⟨k + 1, by omega, by simp, by rw [List.take_succ_eq_append_getElem hlt]; exact hJ3⟩
      case measure => simp [Go.Lib.intOf]; omega
    · obtain rfl : k = zs.length := by omega
      gi_wp2
      go_end0
      exact ⟨⟨_, rfl⟩, zs, rfl, by rw [List.take_length] at hJs; exact hJs⟩
#print axioms Tryz.values1
end Go.Proofs
end
section
/- The contract of slices.Sorted over the seat's iterators. -/
namespace Go.Ab.Seat
open Go.Proofs Go.RowKit Go.Shelf

attribute [local go_sem] Oper.semAt_some

set_option maxRecDepth 100000 in
set_option maxHeartbeats 1000000 in
theorem values1_nil (F : Fence) (n : Nat) (h7 : F.fn 238) (hro : F.round = none) (l Bs os : Nat) (J : List Int → World → Prop) (W : World) (hBs : W.cell? ⟨Bs, os, none⟩ = some (.slice none 0 0)) (h0 : J [] W) :
    CallsIn F n Tryz.prog 238 #[.func (.yield l) #[] #[], .pointer (some ⟨Bs, os, none⟩)] W fun e W' => (∃ v, e = .returned v) ∧ J [] W' := by
  refine callsIn_of_wp Tryz.func238 rfl h7 ?_ hro
  simp only [Tryz.ntmps238, List.size_toArray, List.length_cons, List.length_nil, Nat.reduceAdd, Nat.reduceSub, Array.replicate_succ, Array.replicate_zero, List.push_toArray, List.append_toArray, List.nil_append, List.cons_append]
  gi_wp2
  gi_loopw [7] (fun i wr => i = .int .i64 0 ∧ J [] wr) (fun _ _ => 0)
  case atStart => exact ⟨rfl, h0⟩
  case round =>
    obtain ⟨rfl, hJs⟩ := hrel
    gi_wp2
    go_end0
    exact ⟨⟨_, rfl⟩, hJs⟩

theorem valuesB (n : Nat) (hn : 1 ≤ n) {w : World} {b o : Nat} {v : Value} {l : List Int} (hv : w.cell? ⟨b, o, none⟩ = some v) (hb : b < w.heap.size) (hs : SeqHolds false w v l) (hl : l.length ≤ 1000000) :
    SeqB Tryz.prog Fence.wide n 238 #[.pointer (some ⟨b, o, none⟩)] (fun ss => ss.Perm l) l.length w := by
  intro l0 J W hW _ hJB hY h0
  have hc : W.cell? ⟨b, o, none⟩ = some v := (hW.cell (p := ⟨b, o, none⟩) hb).trans hv
  rcases hs with ⟨rfl, rfl⟩ | ⟨sb, so, c, rfl, hsb, hcs⟩
  · refine (values1_nil Fence.wide n trivial rfl l0 b o J W hc h0).mono ?_
    rintro e W' ⟨he, hj⟩
    exact ⟨he, [], .refl _, hj⟩
  · refine (Tryz.values1 Fence.wide n trivial rfl hn l0 b o sb so c l (by omega) J w.heap.size w hsb hJB (fun pre x W1 hj hlt => hY pre x W1 hj hlt) W hc hcs h0).mono ?_
    rintro e W' ⟨he, ys, rfl, hj⟩
    exact ⟨he, _, .refl _, hj⟩

/-- What one iterator owes. -/
abbrev OwesAt (g : Nat) (keys : Bool) : Prop :=
  ∀ (w : World) (b o : Nat) (v : Value) (l : List Int), w.cell? ⟨b, o, none⟩ = some v → b < w.heap.size → SeqHolds keys w v l → (∀ n ∈ l, wfI n = true) → l.length ≤ 1000000 →
    Calls Tryz.prog 63 #[.func (.func g) #[] #[.pointer (some ⟨b, o, none⟩)]] w fun e w' => ∃ v, e = .returned v ∧ w'.ownsRow w.heap.size 3 1 v l.length ((sortI l).map fun n => Value.int .i64 n) ∧ (v = .slice none 0 0 ↔ l = []) ∧ Below w.heap.size w w'

theorem owes_none : SortedOwes Tryz.prog 63 3 (fun _ => none) := fun g keys h => by cases h

theorem owes_more {k : Nat} {keys : Bool} {rest : Nat → Option Bool} (h : OwesAt k keys) (r : SortedOwes Tryz.prog 63 3 rest) : SortedOwes Tryz.prog 63 3 (fun g => bif Nat.beq g k then some keys else rest g) := by
  intro g keys' hk0
  have hk : (bif Nat.beq g k then some keys else rest g) = some keys' := hk0
  cases h1 : Nat.beq g k with
  | false => rw [h1] at hk; exact r g keys' hk
  | true =>
    rw [h1] at hk
    cases hk
    obtain rfl := beq_iff.1 h1
    exact h

theorem eSort : ∀ args w, (callFunc 101 args).run Tryz.prog w = .ok (.enter 101 args) w := enters_of Tryz.func101 (by kernel_rfl) rfl

theorem owesA : OwesAt 134 true := fun w b o v l hv hb hs hw hl => sortedOwed Tryz.sortedA (Tryz.sortsA _) eSort (enters_of Tryz.func134 (by kernel_rfl) rfl) hl (keysB (ρ' := Tryz.keysA_ren) { Tryz.keysA with } 7 (by omega) hv hb hs hw hl)
theorem owesB : OwesAt 136 true := fun w b o v l hv hb hs hw hl => sortedOwed Tryz.sortedA (Tryz.sortsA _) eSort (enters_of Tryz.func136 (by kernel_rfl) rfl) hl (keysB (ρ' := Tryz.keysB_ren) { Tryz.keysB with } 7 (by omega) hv hb hs hw hl)
theorem owesC : OwesAt 135 true := fun w b o v l hv hb hs hw hl => sortedOwed Tryz.sortedA (Tryz.sortsA _) eSort (enters_of Tryz.func135 (by kernel_rfl) rfl) hl (keysB (ρ' := Tryz.keysC_ren) { Tryz.keysC with } 7 (by omega) hv hb hs hw hl)
theorem owesD : OwesAt 137 true := fun w b o v l hv hb hs hw hl => sortedOwed Tryz.sortedA (Tryz.sortsA _) eSort (enters_of Tryz.func137 (by kernel_rfl) rfl) hl (keysB (ρ' := Tryz.keysD_ren) { Tryz.keysD with } 7 (by omega) hv hb hs hw hl)
theorem owesE : OwesAt 102 true := fun w b o v l hv hb hs hw hl => sortedOwed Tryz.sortedA (Tryz.sortsA _) eSort (enters_of Tryz.func102 (by kernel_rfl) rfl) hl (keysB (ρ' := Tryz.keysE_ren) { Tryz.keysE with } 7 (by omega) hv hb hs hw hl)
theorem owesV : OwesAt 238 false := fun w b o v l hv hb hs hw hl => sortedOwed Tryz.sortedA (Tryz.sortsA _) eSort (enters_of Tryz.func238 (by kernel_rfl) rfl) hl (valuesB 7 (by omega) hv hb hs hl)

noncomputable def kindV : Nat → Option Bool := fun g => bif Nat.beq g 238 then some false else none
theorem kindV_owes : SortedOwes Tryz.prog 63 3 kindV := owes_more owesV owes_none
noncomputable def kindA : Nat → Option Bool := fun g => bif Nat.beq g 134 then some true else kindV g
theorem kindA_owes : SortedOwes Tryz.prog 63 3 kindA := owes_more owesA kindV_owes
noncomputable def kindB : Nat → Option Bool := fun g => bif Nat.beq g 136 then some true else kindA g
theorem kindB_owes : SortedOwes Tryz.prog 63 3 kindB := owes_more owesB kindA_owes
noncomputable def kindC : Nat → Option Bool := fun g => bif Nat.beq g 135 then some true else kindB g
theorem kindC_owes : SortedOwes Tryz.prog 63 3 kindC := owes_more owesC kindB_owes
noncomputable def kindD : Nat → Option Bool := fun g => bif Nat.beq g 137 then some true else kindC g
theorem kindD_owes : SortedOwes Tryz.prog 63 3 kindD := owes_more owesD kindC_owes
noncomputable def kindE : Nat → Option Bool := fun g => bif Nat.beq g 102 then some true else kindD g
theorem kindE_owes : SortedOwes Tryz.prog 63 3 kindE := owes_more owesE kindD_owes
noncomputable def kindOf : Nat → Option Bool := kindE
theorem sortedOwes : SortedOwes Tryz.prog 63 3 kindOf := kindE_owes

def fSorted : Nat := 63

theorem smSorted : SmOne fSorted (sumSorted kindOf) :=
  ⟨local_sumSorted kindOf, fun args s s' v ι w args' R h1 h2 h3 h4 h5 => sorted_sound ⟨Tryz.f63, _, Tryz.func63, rfl, by kernel_rfl⟩ sortedOwes args s s' v ι w args' R h1 h2 h3 h4 h5⟩
#print axioms smSorted
end Go.Ab.Seat
end
section
/- Law 7's Begun answers true. -/
namespace Go.Ab.Seat
open Go.Extern Go.Proofs
set_option maxRecDepth 1000000

def fBegun7 : Nat := 118

noncomputable def sm7 : Nat → Option (List Value → M Value) := smIns fun f => bif Nat.beq f fSorted then some (sumSorted kindOf) else bif Nat.beq f fBegun4 then some gTrue else bif Nat.beq f fBegun1 then some gTrue else none
noncomputable def C7 : Ctx := Cs sm7
theorem whole7 : C7.Whole eg Tryz.prog 3 := whole _ (smOk _ (smIns_one (one_more smSorted (one_more begun4 (one_more begun1 fun f g hg => by cases hg)))))
theorem run7 : isTrue (callB C7 (exec C7 eg 10000) fBegun7 [] s0) = true := by kernel_rfl
theorem begun7 : SmOne fBegun7 gTrue := known_true fun _ hw => closed_true whole7 run7 hw
#print axioms begun7
end Go.Ab.Seat
end
section
/- Law 13's begun answers true. -/
namespace Go.Ab.Seat
open Go.Extern Go.Proofs
set_option maxRecDepth 1000000

def fBegun13 : Nat := 83

noncomputable def sm13 : Nat → Option (List Value → M Value) := smIns fun f => bif Nat.beq f fSorted then some (sumSorted kindOf) else bif Nat.beq f fBegun7 then some gTrue else bif Nat.beq f fBegun4 then some gTrue else bif Nat.beq f fBegun1 then some gTrue else none
noncomputable def C13 : Ctx := Cs sm13
theorem whole13 : C13.Whole eg Tryz.prog 3 := whole _ (smOk _ (smIns_one (one_more smSorted (one_more begun7 (one_more begun4 (one_more begun1 fun f g hg => by cases hg))))))
theorem run13 : isTrue (callB C13 (exec C13 eg 10000) fBegun13 [] s0) = true := by kernel_rfl
theorem begun13_calls {w : World} (hw : Laid w) : Callable Tryz.prog fBegun13 ∧ Calls Tryz.prog fBegun13 #[] w fun e w' => e = .returned (.bool true) ∧ Left w w' := closed_true whole13 run13 hw
theorem begun13 : SmOne fBegun13 gTrue := known_true fun _ hw => begun13_calls hw
#print axioms begun13
end Go.Ab.Seat
end
section
/- The frame of a law's row: a law that answers true and turns nothing that lay before; what a listed array variable holds. -/
namespace Go.Ab
open Go.ChangeShapes Go.WideShapes Go.RowKit

theorem mapM_each {α β : Type} {f : α → Option β} : ∀ {l : List α} {r : List β}, l.mapM f = some r → l.length = r.length ∧ ∀ (i : Nat) (x : α), l[i]? = some x → ∃ y, r[i]? = some y ∧ f x = some y
  | [], r, h => by
    simp at h
    subst h
    exact ⟨rfl, fun i x hx => by simp at hx⟩
  | a :: l, r, h => by
    rw [List.mapM_cons] at h
    simp only [bind, Option.bind_eq_some_iff, pure, Option.some.injEq] at h
    obtain ⟨y, hy, ys, hys, rfl⟩ := h
    obtain ⟨h1, h2⟩ := mapM_each hys
    refine ⟨by simp [h1], fun i x hx => ?_⟩
    cases i with
    | zero => simp at hx; subst hx; exact ⟨y, by simp, hy⟩
    | succ i => simpa using h2 i x (by simpa using hx)

/-- An array of integers that reads as a datum holds the datum's integers. -/
theorem arr_of_trod {H : Type} {enc : TypeId × Value → H} {P : Program} {w : World} {base : Nat} {sp : Nat → Bool} {held : Bool} {fuel : Nat} {t e n : Nat} {q : IntKind} (hu : P.underlying t = some (.array n e)) (he : P.underlying e = some (.int q)) (hc : P.cellsOf e = 1)
    {cs : List Value} {ds : List (DataW H)} {p : List MemPlace} (h : DataW.trod enc P w base sp held fuel t cs = some (.agg ds, p)) :
    ds.length = n ∧ ∀ (i : Nat) (m : Int), ds[i]? = some (.lit (.int q m)) → cs[i]? = some (.int q m) := by
  cases fuel with
  | zero => simp [DataW.trod] at h
  | succ k =>
    rw [DataW.trod_step] at h
    unfold DataW.trodStep at h
    simp only [hu, hc] at h
    split at h
    · simp only [Option.map_eq_some_iff, Prod.mk.injEq, DataW.agg.injEq] at h
      obtain ⟨xs, hx, rfl, _⟩ := h
      obtain ⟨h1, h2⟩ := mapM_each hx
      simp only [List.length_range] at h1
      refine ⟨by simp [h1], fun i m hm => ?_⟩
      have hi : i < n := by
        rcases Nat.lt_or_ge i n with hh | hh
        · exact hh
        · rw [List.getElem?_eq_none (by simp; omega)] at hm; cases hm
      obtain ⟨y, hy, hty⟩ := h2 i i (by rw [List.getElem?_range hi])
      obtain ⟨a, ha, rfl, _⟩ := DataW.trod_int he hty
      rw [List.getElem?_map, hy] at hm
      simp only [Option.map_some, Option.some.injEq, DataW.lit.injEq, Lit.int.injEq, true_and] at hm
      subst hm
      have h3 : (cs.drop i).take 1 = [.int q a] := by rw [Nat.mul_one] at ha; exact ha
      have h4 : ((cs.drop i).take 1)[0]? = some (.int q a) := by rw [h3]; rfl
      rw [List.getElem?_take_of_lt (by omega), List.getElem?_drop, Nat.add_zero] at h4
      exact h4
    · cases h

section
variable {H : Type} {enc : TypeId × Value → H} {P : Program}

theorem trodAll_len : ∀ {ts : List TypeId} {vs : List Value} {ds : List (DataW H)} {ps : List MemPlace} {w : World} {base : Nat} {sp : Nat → Bool} {held : Bool}, DataW.TrodAll enc P w base sp held ts vs ds ps → ds.length = ts.length ∧ vs.length = ts.length
  | [], [], [], _, _, _, _, _, _ => ⟨rfl, rfl⟩
  | [], [], _ :: _, _, _, _, _, _, h => h.elim
  | [], _ :: _, _, _, _, _, _, _, h => h.elim
  | _ :: _, [], _, _, _, _, _, _, h => h.elim
  | _ :: _, _ :: _, [], _, _, _, _, _, h => h.elim
  | _ :: ts, _ :: vs, _ :: ds, _, _, _, _, _, h => by
    obtain ⟨p, q, _, h2, _⟩ := h
    obtain ⟨a, b⟩ := trodAll_len h2
    exact ⟨by simp [a], by simp [b]⟩

theorem trodAll_below (hl : laidOutB P = true) {W W' : World} (hb : Below W.heap.size W W') : ∀ {ts : List TypeId} {vs : List Value} {ds : List (DataW H)} {ps : List MemPlace}, (∀ t ∈ ts, P.readableRec t = true ∧ t < P.types.size) →
    DataW.TrodAll enc P W 0 (fun _ => true) true ts vs ds ps → DataW.TrodAll enc P W' 0 (fun b => decide (b < W.heap.size)) true ts vs ds ps
  | [], [], [], _, _, h => h
  | [], [], _ :: _, _, _, h => h.elim
  | [], _ :: _, _, _, _, h => h.elim
  | _ :: _, [], _, _, _, h => h.elim
  | _ :: _, _ :: _, [], _, _, h => h.elim
  | t :: ts, _ :: vs, _ :: ds, _, hr, h => by
    have hlt := h.lt
    obtain ⟨p, q, h1, h2, rfl⟩ := h
    obtain ⟨r1, r2⟩ := hr t (List.mem_cons_self ..)
    exact ⟨p, q, Below.trod hl r1 r2 h1 hb (fun x hx => hlt x (List.mem_append_left _ hx)), trodAll_below hl hb (fun t' ht' => hr t' (List.mem_cons_of_mem _ ht')) h2, rfl⟩

/-- A law's row. -/
theorem law_lifts {a : Assume} {C : Checked} {os : Os} {f : FuncId} {fn : Func} {s : ChangeSpec} {conds : List PathCond} {X : World → Array Value → Prop} {tb : TypeId}
    (hX : ∀ (w w' : World) (args : Array Value), w.heap = w'.heap → X w args → X w' args)
    (own : ownKnob C.prog.godebug = none) (started : os.Started) (noInit : C.prog.inits.idxOf? f = none) (hfn : C.prog.funcs[f]? = some fn)
    (witness : ∃ (w : World) (tape : Tape) (i : Input), w.os = os ∧ (w.forCall tape i).Shaped C.prog ∧ i.vars = [] ∧ Input.okWide C.prog (w.forCall tape i) .any w.heap.size f i ∧
      ((s.pre enc C.prog fn conds false (w.forCall tape i).memory i.args ∧ X (w.forCall tape i).memory i.args) ∧ sizedMet enc C.prog fn (OpenSpec.ofChange s) false (w.forCall tape i).memory i.args) ∧ a.holds C.prog (lone (Frame.enter C.prog f i.args .normal) [] (w.forCall tape i)))
    (hl : laidOutB C.prog = true) (hread : ∀ t ∈ fn.params.toList, C.prog.readableRec t = true ∧ t < C.prog.types.size) (hres : fn.resultTypes = #[tb]) (htb : C.prog.underlying tb = some .bool)
    (hs : ∀ ds : List (DataW H), ds.length = fn.params.toList.length → s.fn H (ds ++ []) = { results := [.lit (.bool true)], args := ds }) (hv : s.vars = [])
    (contract : ∀ (W : World) (base : Nat) (args : Array Value) (ds : List (DataW H)) (ps : List MemPlace), W.ShapedOpen C.prog →
      (∀ (j : Nat) t v, fn.params[j]? = some t → args[j]? = some v → Value.okWide C.prog W .any base t v) →
      DataW.TrodAll enc C.prog W 0 (fun _ => true) true fn.params.toList args.toList ds ps →
      (DataW.weightsEach C.prog (fn.params.toList ++ s.plain.varTypes C.prog) (ds ++ [])).all (· ≤ reachBytes) = true → X W args →
      Calls C.prog f args W fun e W' => e = .returned (.bool true) ∧ Below W.heap.size W W') :
    ReturnsInHanded a C os f .any (fun w args => (s.pre enc C.prog fn conds false w args ∧ X w args) ∧ sizedMet enc C.prog fn (OpenSpec.ofChange s) false w args) (s.post enc C.prog fn false true false false) := by
  refine returnsInHanded_of_calls own started noInit witness ?_
  intro w tape i _ hshape _ hok hpre hholds
  obtain ⟨_, _, _, fn', hfn', _, _, _, _, hval⟩ := hok
  have e : fn' = fn := Option.some.inj (hfn'.symm.trans hfn)
  subst e
  obtain ⟨⟨⟨ds, gs, before, hw, hc⟩, hx⟩, hz⟩ := hpre
  have hw' := DataW.Whole.of_heap (w' := w.forCall tape i) (by rfl) hw
  have hwt := hz.weights hw
  have hw0 := hw'
  obtain ⟨p, q, hA, hV, _, _, _⟩ := hw0
  rw [hv] at hV
  have hgs : gs = [] ∧ q = [] := by
    cases gs with
    | nil => exact ⟨rfl, hV⟩
    | cons g r => exact absurd hV (by intro h; cases h)
  obtain ⟨rfl, rfl⟩ := hgs
  refine (contract (w.forCall tape i) w.heap.size i.args ds p hshape hval hA hwt (hX _ _ _ (by rfl) hx)).mono fun e W' ⟨he, hb⟩ => ?_
  subst he
  have hlen := (trodAll_len hA).1
  refine ChangeSpec.post_blind ⟨ds, [], before, [], p, [], hw', ?_, ?_, ?_, Below.frame hb _, fun h => by cases h⟩
  · rw [hs ds hlen, hres]
    exact trodAll_mk1 (shut_bool htb true)
  · rw [hs ds hlen]
    exact trodAll_below hl hb hread hA
  · rw [hs ds hlen, hv]
    rfl

end
end Go.Ab
end
