import Derived.Test.YtofikbfljjjgeaaGreatDoorDX1
import Derived.Test.YtofikbfljjjgeaaGreatDoorE31
set_option linter.unusedVariables false
set_option linter.unusedSimpArgs false
section
namespace Go.Ab
open Go.RowKit Go.Maps Go.Sort Go.Shelf Go.Proofs
open Go.WideElems (rg rd_mk rg_of)
variable {P:Program}{ρ:Ren}
def RN:Value->Option (DataW Unit×List MemPlace):=fun _=>some (.nil,[])
theorem Aw {k:TypeId} (hk:P.underlying k=some (.int .i64)) {w:World}{r:Nat}{es:Array MapEntry}{clock:Nat}{l:List Int} (hH:w.heap[r]?=some (.map es clock)) (hst:MapKept.Stamped es clock)
  (hks:es.toList.map (·.key)=l.map (fun n=>Value.int .i64 n)) (hw:∀n∈l,rq n=true) (hl:l.length<=1000000) :
  ∃D0:DataW Unit,w.ownsMap P k RN r es.size D0/\(intKeys D0).Perm l/\Maps.size D0=l.length:=by
 have hlen:es.toList.length=l.length:=by have:=congrArg List.length hks;simpa using this
 have hrd:∀x∈es.toList,∃n,x.key=.int .i64 n/\WideElems.rd P k RN x=some (.int .i64 n,.nil):=by
  intro x hx
  have:x.key∈l.map (fun n=>Value.int .i64 n):=by rw[<- hks];exact List.mem_map.2 ⟨x,hx,rfl⟩
  obtain⟨n,hn,he⟩:=List.mem_map.1 this
  refine⟨n,he.symm,?_⟩
  obtain⟨key,val,born⟩:=x
  simp only at he
  subst he
  exact rd_mk (Maps.keyOf_int_mk hk (IJ (hw n hn))) (yv:=(.nil,[])) rfl
 refine⟨.map ((es.toList.map (rg P k RN)).foldr DataW.insert []),⟨es,clock,hH,⟨?_,hst,fun x hx=>?_⟩,Nat.le_refl _,rfl⟩,?_,?_⟩
 ·have:es.size=l.length:=by rw[<- Array.length_toList];exact hlen
  have:(1000000:Nat)<=maxLen:=by decide
  omega
 ·obtain⟨n,_,h⟩:=hrd x hx
  exact⟨_,h⟩
 ·show ((List.foldr DataW.insert [] (es.toList.map (rg P k RN))).map fun p=>Go.intOf p.1).Perm l
  have h1:=(WideShapes.sorted_perm (es.toList.map (rg P k RN))).map fun p=>Go.intOf p.1
  refine h1.trans (List.Perm.of_eq ?_)
  rw[List.map_map]
  have h2:l=(l.map fun n=>Value.int .i64 n).map fun v=>match v with|.int _ n=>n|_=>0:=by
   rw[List.map_map]
   exact(List.map_id l).symm
  rw[h2,<- hks,List.map_map]
  refine List.map_congr_left fun x hx=>?_
  obtain⟨n,e1,e2⟩:=hrd x hx
  show Go.intOf (rg P k RN x).1=_
  rw[rg_of e2]
  show n=(match x.key with|.int _ n=>n|_=>0)
  rw[e1]
 ·show (List.foldr DataW.insert [] (es.toList.map (rg P k RN))).length=_
  rw[length_sorted]
  simpa using hlen
theorem keysB {ρ':Ren} (L:SlLaysZI.n10 P ρ') (n:Nat) (hn:1<=n) {w:World}{b o:Nat}{v:Value}{l:List Int} (hv:w.cell? ⟨b,o,none⟩=some v) (hb:b<w.heap.size) (hs:jH true w v l)
  (hw:∀n∈l,rq n=true) (hl:l.length<=1000000):CN P Fence.wide n (ρ'.f 10) #[.pointer (some ⟨b,o,none⟩)] (fun ss=>ss.Perm l) l.length w:=by
 intro l0 J W hW hJ _ hY h0
 have hc:W.cell? ⟨b,o,none⟩=some v:=(hW.cell (p:=⟨b,o,none⟩) hb).trans hv
 rcases hs with⟨rfl,rfl⟩|⟨r,es,k,rfl,hH,hst,hks⟩
 ·refine(GM {L with} Fence.wide n trivial rfl l0 b o J W hJ hc h0).mono ?_
  rintro e W' ⟨he,ss,rfl,hj⟩
  exact⟨he,[],.refl _,hj⟩
 ·have hrl:r<w.heap.size:=(Array.getElem?_eq_some_iff.1 hH).1
  obtain⟨D0,hown,hperm,hsz⟩:=Aw L.t26 ((hW.block r hrl).trans hH) hst hks hw hl
  refine(IH {L with} Fence.wide n trivial rfl hn l0 b o r es.size D0 J (fun pre x W1 hj hlt=>hY pre x W1 hj (by omega)) W hJ hc hown h0).mono ?_
  rintro e W' ⟨he,ss,hp,hj⟩
  exact⟨he,ss,hp.trans hperm,hj⟩
theorem iD (L:SlLaysZI.n6 P ρ) (hsort:AnyZI.SortsIn P ρ Fence.wide 9) (e9:∀args w,(callFunc (ρ.f 9) args).run P w=.ok (.enter (ρ.f 9) args) w) {g:Nat}{lb:Array Value} (eg:∀args w,(callFunc g args).run P w=.ok (.enter g args) w)
  {l:List Int} (hl:l.length<=1000000) {w:World} (hseq:CN P Fence.wide 7 g lb (fun ss=>ss.Perm l) l.length w) :
  Calls P (ρ.f 6) #[.func (.func g) #[] lb] w fun e w'=>∃v,e=.returned v/\w'.ownsRow w.heap.size (ρ.t 26) 1 v l.length ((fx l).map fun n=>Value.int .i64 n)/\(v=.slice none 0 0↔l=[])/\Below w.heap.size w w':=by
 refine Calls.mono ((callsIn_wide (n:=10)).1 (GK {L with} Fence.wide 10 trivial trivial trivial trivial rfl (by omega) hsort e9 g lb trivial eg (fun ss=>ss.Perm l) l.length ?_ (by omega) w (fun ss h=>Nat.le_of_eq h.length_eq) hseq)) ?_
 ·have:(1000000:Nat)<=maxLen:=by decide
  omega
 ·rintro e w' ⟨v,ss,rfl,hS,hrow,hnil,hb⟩
  refine⟨v,rfl,?_,?_,hb⟩
  ·rw[qV hS,hS.length_eq] at hrow
   exact hrow
  ·rw[hnil]
   constructor
   ·rintro rfl;exact List.length_eq_zero_iff.1 hS.length_eq.symm
   ·rintro rfl;exact List.length_eq_zero_iff.1 hS.length_eq
end Go.Ab
end
section
namespace Go.Proofs
open Go.RowKit Go.Maps Go.Sort Go.Shelf
def Tryz.sortedA_ren:Go.Shelf.Ren:=⟨fun|6=>84|8=>152|9=>153|11=>207|13=>209|12=>208|23=>239|24=>240|14=>231|15=>232|16=>233|17=>234|18=>235|19=>236|20=>202|21=>237|22=>238|25=>265|26=>266|27=>267|28=>268|29=>269|30=>229|31=>292|n=>n,fun|26=>3|28=>135|24=>45|0=>0|3=>3|37=>194|48=>32|50=>291|4=>4|40=>285|39=>284|45=>69|5=>5|9=>9|51=>318|55=>322|57=>351|58=>42|33=>44|n=>n,fun|n=>n⟩
theorem Tryz.sortedA:Go.Proofs.SlLaysZI.n6 Tryz.prog Tryz.sortedA_ren where
 mixed:=by kernel_rfl
 f6 := ⟨ "slices.Sorted[int]", by decide, Tryz.func84.trans (congrArg some (by kernel_rfl))⟩
 f8 := ⟨ "slices.Collect[int]", by decide, Tryz.func152.trans (congrArg some (by kernel_rfl))⟩
 f11 := ⟨ "slices.AppendSeq[[]int,int]", by decide, Tryz.func207.trans (congrArg some (by kernel_rfl))⟩
 t0:=Tryz.underlying0
 a0:=Tryz.isAgg0
 z0:=Tryz.sizeOf0
 v0:=Tryz.zeroValue0
 t24:=Tryz.underlying45
 a24:=Tryz.isAgg45
 z24:=Tryz.sizeOf45
 v24:=Tryz.zeroValue45
 t26:=Tryz.underlying3
 a26:=Tryz.isAgg3
 z26:=Tryz.sizeOf3
 v26:=Tryz.zeroValue3
 t28:=Tryz.underlying135
 a28:=Tryz.isAgg135
 z28:=Tryz.sizeOf135
 v28:=Tryz.zeroValue135
 i26:=by kernel_rfl
def Tryz.sortA_ren:Go.Shelf.Ren:=⟨fun|5=>153|8=>209|7=>208|19=>239|20=>240|10=>231|11=>232|12=>233|13=>234|14=>235|15=>236|16=>202|17=>237|18=>238|30=>265|31=>266|32=>267|33=>268|34=>269|35=>229|40=>292|n=>n,fun|23=>45|25=>3|3=>3|32=>194|22=>45|0=>0|44=>32|46=>291|4=>4|36=>285|35=>284|41=>69|5=>5|9=>9|53=>318|57=>322|63=>351|64=>42|n=>n,fun|n=>n⟩
theorem Tryz.sortA:Go.Proofs.SlLaysM.n5 Tryz.prog Tryz.sortA_ren where
 mixed:=by kernel_rfl
 f5 := ⟨ "slices.Sort[[]int,int]", by decide, Tryz.func153.trans (congrArg some (by kernel_rfl))⟩
 f7 := ⟨ "slices.pdqsortOrdered[int]", by decide, Tryz.func208.trans (congrArg some (by kernel_rfl))⟩
 f8:=Tryz.func209.trans (congrArg some (by kernel_rfl))
 f10 := ⟨ "slices.insertionSortOrdered[int]", by decide, Tryz.func231.trans (congrArg some (by kernel_rfl))⟩
 f11 := ⟨ "slices.heapSortOrdered[int]", by decide, Tryz.func232.trans (congrArg some (by kernel_rfl))⟩
 f12 := ⟨ "slices.breakPatternsOrdered[int]", by decide, Tryz.func233.trans (congrArg some (by kernel_rfl))⟩
 f13 := ⟨ "slices.choosePivotOrdered[int]", by decide, Tryz.func234.trans (congrArg some (by kernel_rfl))⟩
 f14 := ⟨ "slices.reverseRangeOrdered[int]", by decide, Tryz.func235.trans (congrArg some (by kernel_rfl))⟩
 f15 := ⟨ "slices.partialInsertionSortOrdered[int]", by decide, Tryz.func236.trans (congrArg some (by kernel_rfl))⟩
 f16 := ⟨ "cmp.Less[int]", by decide, Tryz.func202.trans (congrArg some (by kernel_rfl))⟩
 f17 := ⟨ "slices.partitionEqualOrdered[int]", by decide, Tryz.func237.trans (congrArg some (by kernel_rfl))⟩
 f18 := ⟨ "slices.partitionOrdered[int]", by decide, Tryz.func238.trans (congrArg some (by kernel_rfl))⟩
 f19:=Tryz.func239.trans (congrArg some (by kernel_rfl))
 f20:=Tryz.func240.trans (congrArg some (by kernel_rfl))
 f30 := ⟨ "slices.siftDownOrdered[int]", by decide, Tryz.func265.trans (congrArg some (by kernel_rfl))⟩
 f31:=Tryz.func266.trans (congrArg some (by kernel_rfl))
 f32:=Tryz.func267.trans (congrArg some (by kernel_rfl))
 f33 := ⟨ "slices.medianAdjacentOrdered[int]", by decide, Tryz.func268.trans (congrArg some (by kernel_rfl))⟩
 f34 := ⟨ "slices.medianOrdered[int]", by decide, Tryz.func269.trans (congrArg some (by kernel_rfl))⟩
 f35 := ⟨ "cmp.isNaN[int]", by decide, Tryz.func229.trans (congrArg some (by kernel_rfl))⟩
 f40 := ⟨ "slices.order2Ordered[int]", by decide, Tryz.func292.trans (congrArg some (by kernel_rfl))⟩
 t0:=Tryz.underlying0
 a0:=Tryz.isAgg0
 z0:=Tryz.sizeOf0
 v0:=Tryz.zeroValue0
 t3:=Tryz.underlying3
 a3:=Tryz.isAgg3
 z3:=Tryz.sizeOf3
 v3:=Tryz.zeroValue3
 t4:=Tryz.underlying4
 a4:=Tryz.isAgg4
 z4:=Tryz.sizeOf4
 v4:=Tryz.zeroValue4
 t5:=Tryz.underlying5
 a5:=Tryz.isAgg5
 z5:=Tryz.sizeOf5
 v5:=Tryz.zeroValue5
 t9:=Tryz.underlying9
 a9:=Tryz.isAgg9
 z9:=Tryz.sizeOf9
 v9:=Tryz.zeroValue9
 t22:=Tryz.underlying45
 a22:=Tryz.isAgg45
 z22:=Tryz.sizeOf45
 v22:=Tryz.zeroValue45
 t23:=Tryz.underlying45
 a23:=Tryz.isAgg45
 z23:=Tryz.sizeOf45
 v23:=Tryz.zeroValue45
 t25:=Tryz.underlying3
 a25:=Tryz.isAgg3
 z25:=Tryz.sizeOf3
 v25:=Tryz.zeroValue3
 t32:=Tryz.underlying194
 a32:=Tryz.isAgg194
 z32:=Tryz.sizeOf194
 v32:=Tryz.zeroValue194
 t35:=Tryz.underlying284
 a35:=Tryz.isAgg284
 z35:=Tryz.sizeOf284
 v35:=Tryz.zeroValue284
 t36:=Tryz.underlying285
 a36:=Tryz.isAgg285
 z36:=Tryz.sizeOf285
 v36:=Tryz.zeroValue285
 t41:=Tryz.underlying69
 a41:=Tryz.isAgg69
 z41:=Tryz.sizeOf69
 v41:=Tryz.zeroValue69
 t44:=Tryz.underlying32
 a44:=Tryz.isAgg32
 z44:=Tryz.sizeOf32
 v44:=Tryz.zeroValue32
 t46:=Tryz.underlying291
 a46:=Tryz.isAgg291
 z46:=Tryz.sizeOf291
 v46:=Tryz.zeroValue291
 t53:=Tryz.underlying318
 a53:=Tryz.isAgg318
 z53:=Tryz.sizeOf318
 v53:=Tryz.zeroValue318
 t57:=Tryz.underlying322
 a57:=Tryz.isAgg322
 z57:=Tryz.sizeOf322
 v57:=Tryz.zeroValue322
 t63:=Tryz.underlying351
 a63:=Tryz.isAgg351
 z63:=Tryz.sizeOf351
 v63:=Tryz.zeroValue351
 t64:=Tryz.underlying42
 a64:=Tryz.isAgg42
 z64:=Tryz.sizeOf42
 v64:=Tryz.zeroValue42
def Tryz.keysA_ren:Go.Shelf.Ren:=⟨fun|7=>147|10=>206|n=>n,fun|23=>119|26=>3|3=>25|28=>135|0=>0|27=>134|33=>44|4=>4|n=>n,fun|n=>n⟩
theorem Tryz.keysA:Go.Proofs.SlLaysZI.n7 Tryz.prog Tryz.keysA_ren where
 mixed:=by kernel_rfl
 f7 := ⟨ "maps.Keys[map[int]fieldfare/api.Vec,int,fieldfare/api.Vec]", by decide, Tryz.func147.trans (congrArg some (by kernel_rfl))⟩
 f10 := ⟨ "maps.Keys[map[int]fieldfare/api.Vec,int,fieldfare/api.Vec]$1", by decide, Tryz.func206.trans (congrArg some (by kernel_rfl))⟩
 t0:=Tryz.underlying0
 a0:=Tryz.isAgg0
 z0:=Tryz.sizeOf0
 v0:=Tryz.zeroValue0
 t4:=Tryz.underlying4
 a4:=Tryz.isAgg4
 z4:=Tryz.sizeOf4
 v4:=Tryz.zeroValue4
 t23:=Tryz.underlying119
 a23:=Tryz.isAgg119
 z23:=Tryz.sizeOf119
 v23:=Tryz.zeroValue119
 t26:=Tryz.underlying3
 a26:=Tryz.isAgg3
 z26:=Tryz.sizeOf3
 v26:=Tryz.zeroValue3
 t27:=Tryz.underlying134
 a27:=Tryz.isAgg134
 z27:=Tryz.sizeOf134
 v27:=Tryz.zeroValue134
 t28:=Tryz.underlying135
 a28:=Tryz.isAgg135
 z28:=Tryz.sizeOf135
 v28:=Tryz.zeroValue135
 t33:=Tryz.underlying44
 a33:=Tryz.isAgg44
 z33:=Tryz.sizeOf44
 v33:=Tryz.zeroValue44
def Tryz.keysB_ren:Go.Shelf.Ren:=⟨fun|7=>85|10=>154|n=>n,fun|23=>116|26=>3|3=>122|28=>135|0=>0|27=>134|33=>44|4=>4|n=>n,fun|n=>n⟩
theorem Tryz.keysB:Go.Proofs.SlLaysZI.n7 Tryz.prog Tryz.keysB_ren where
 mixed:=by kernel_rfl
 f7 := ⟨ "maps.Keys[map[int]*fieldfare/graph.node,int,*fieldfare/graph.node]", by decide, Tryz.func85.trans (congrArg some (by kernel_rfl))⟩
 f10 := ⟨ "maps.Keys[map[int]*fieldfare/graph.node,int,*fieldfare/graph.node]$1", by decide, Tryz.func154.trans (congrArg some (by kernel_rfl))⟩
 t0:=Tryz.underlying0
 a0:=Tryz.isAgg0
 z0:=Tryz.sizeOf0
 v0:=Tryz.zeroValue0
 t4:=Tryz.underlying4
 a4:=Tryz.isAgg4
 z4:=Tryz.sizeOf4
 v4:=Tryz.zeroValue4
 t23:=Tryz.underlying116
 a23:=Tryz.isAgg116
 z23:=Tryz.sizeOf116
 v23:=Tryz.zeroValue116
 t26:=Tryz.underlying3
 a26:=Tryz.isAgg3
 z26:=Tryz.sizeOf3
 v26:=Tryz.zeroValue3
 t27:=Tryz.underlying134
 a27:=Tryz.isAgg134
 z27:=Tryz.sizeOf134
 v27:=Tryz.zeroValue134
 t28:=Tryz.underlying135
 a28:=Tryz.isAgg135
 z28:=Tryz.sizeOf135
 v28:=Tryz.zeroValue135
 t33:=Tryz.underlying44
 a33:=Tryz.isAgg44
 z33:=Tryz.sizeOf44
 v33:=Tryz.zeroValue44
def Tryz.keysC_ren:Go.Shelf.Ren:=⟨fun|7=>178|10=>217|n=>n,fun|23=>173|26=>3|3=>177|28=>135|0=>0|27=>134|33=>44|4=>4|n=>n,fun|n=>n⟩
theorem Tryz.keysC:Go.Proofs.SlLaysZI.n7 Tryz.prog Tryz.keysC_ren where
 mixed:=by kernel_rfl
 f7 := ⟨ "maps.Keys[map[int]fieldfare/ivf.member,int,fieldfare/ivf.member]", by decide, Tryz.func178.trans (congrArg some (by kernel_rfl))⟩
 f10 := ⟨ "maps.Keys[map[int]fieldfare/ivf.member,int,fieldfare/ivf.member]$1", by decide, Tryz.func217.trans (congrArg some (by kernel_rfl))⟩
 t0:=Tryz.underlying0
 a0:=Tryz.isAgg0
 z0:=Tryz.sizeOf0
 v0:=Tryz.zeroValue0
 t4:=Tryz.underlying4
 a4:=Tryz.isAgg4
 z4:=Tryz.sizeOf4
 v4:=Tryz.zeroValue4
 t23:=Tryz.underlying173
 a23:=Tryz.isAgg173
 z23:=Tryz.sizeOf173
 v23:=Tryz.zeroValue173
 t26:=Tryz.underlying3
 a26:=Tryz.isAgg3
 z26:=Tryz.sizeOf3
 v26:=Tryz.zeroValue3
 t27:=Tryz.underlying134
 a27:=Tryz.isAgg134
 z27:=Tryz.sizeOf134
 v27:=Tryz.zeroValue134
 t28:=Tryz.underlying135
 a28:=Tryz.isAgg135
 z28:=Tryz.sizeOf135
 v28:=Tryz.zeroValue135
 t33:=Tryz.underlying44
 a33:=Tryz.isAgg44
 z33:=Tryz.sizeOf44
 v33:=Tryz.zeroValue44
def Tryz.keysD_ren:Go.Shelf.Ren:=⟨fun|7=>97|10=>164|n=>n,fun|23=>139|26=>3|3=>143|28=>135|0=>0|27=>134|33=>44|4=>4|n=>n,fun|n=>n⟩
theorem Tryz.keysD:Go.Proofs.SlLaysZI.n7 Tryz.prog Tryz.keysD_ren where
 mixed:=by kernel_rfl
 f7 := ⟨ "maps.Keys[map[int]fieldfare/coded.member,int,fieldfare/coded.member]", by decide, Tryz.func97.trans (congrArg some (by kernel_rfl))⟩
 f10 := ⟨ "maps.Keys[map[int]fieldfare/coded.member,int,fieldfare/coded.member]$1", by decide, Tryz.func164.trans (congrArg some (by kernel_rfl))⟩
 t0:=Tryz.underlying0
 a0:=Tryz.isAgg0
 z0:=Tryz.sizeOf0
 v0:=Tryz.zeroValue0
 t4:=Tryz.underlying4
 a4:=Tryz.isAgg4
 z4:=Tryz.sizeOf4
 v4:=Tryz.zeroValue4
 t23:=Tryz.underlying139
 a23:=Tryz.isAgg139
 z23:=Tryz.sizeOf139
 v23:=Tryz.zeroValue139
 t26:=Tryz.underlying3
 a26:=Tryz.isAgg3
 z26:=Tryz.sizeOf3
 v26:=Tryz.zeroValue3
 t27:=Tryz.underlying134
 a27:=Tryz.isAgg134
 z27:=Tryz.sizeOf134
 v27:=Tryz.zeroValue134
 t28:=Tryz.underlying135
 a28:=Tryz.isAgg135
 z28:=Tryz.sizeOf135
 v28:=Tryz.zeroValue135
 t33:=Tryz.underlying44
 a33:=Tryz.isAgg44
 z33:=Tryz.sizeOf44
 v33:=Tryz.zeroValue44
theorem Tryz.sortsA (m:Nat):AnyZI.SortsIn Tryz.prog Tryz.sortedA_ren Fence.wide m :=
 ⟨fun blk off cap ss W hH hblk hsz=>callsIn_wide.2 (AnyM.slices_Sort_int Tryz.sortA blk off cap ss W hH hblk hsz),
  fun p cap W=>callsIn_wide.2 (AnyM.slices_Sort_int_none Tryz.sortA p cap W)⟩
attribute [local go_sem] Oper.semAt_some
set_option maxRecDepth 100000 in
set_option maxHeartbeats 2000000 in
theorem Tryz.values1 (F:Fence) (n:Nat) (h7:F.fn 250) (hro:F.round=none) (hn:1<=n) (l Bs os b off cap:Nat) (zs:List Int) (hreach:zs.length*8<=140737488351232) (J:List Int->World->Prop) (B:Nat) (w0:World) (hb:b<B)
  (hJB:∀pre W,J pre W->Below B w0 W)
  (hY:∀pre x W,J pre W->pre.length<zs.length->YieldAt F (n - 1) Tryz.prog l #[encZ x] W fun e W'=>e=.returned (.bool true)/\J (pre++[x]) W'/\KeepsWalks W W')
  (W:World) (hBs:W.cell? ⟨Bs,os,none⟩=some (.slice (some ⟨b,off,none⟩) zs.length cap)) (hc:∀(j:Nat) (x:Int),zs[j]?=some x->w0.cell? ⟨b,off+j,none⟩=some (.int .i64 x)) (h0:J [] W) :
  CallsIn F n Tryz.prog 250 #[.func (.yield l) #[] #[],.pointer (some ⟨Bs,os,none⟩)] W fun e W'=>(∃v,e=.returned v)/\∃ys,ys=zs/\J ys W':=by
 refine callsIn_of_wp Tryz.func250 rfl h7 ?_ hro
 simp only[Tryz.ntmps250,List.size_toArray,List.length_cons,List.length_nil,Nat.reduceAdd,Nat.reduceSub,Array.replicate_succ,Array.replicate_zero,List.push_toArray,List.append_toArray,List.nil_append,List.cons_append]
 gi_wp2
 gi_loopw [7] (fun i wr=>∃k:Nat,k<=zs.length/\i=.int .i64 k/\J (zs.take k) wr)
  (fun i _=>zs.length - (Go.Lib.intOf i).toNat)
 case atStart=>exact⟨0,Nat.zero_le _,rfl,h0⟩
 case round =>
  obtain⟨k,hk,rfl,hJs⟩:=hrel
  by_cases hlt:k<zs.length
  ·have hcx:wr.cell? ⟨b,off+k,none⟩=some (.int .i64 zs[k]):=((hJB _ _ hJs).cell (p:=⟨b,off+k,none⟩) hb).trans (hc k _ (List.getElem?_eq_getElem hlt))
   obtain⟨fn,tmps,assign,body,hy,hR⟩:=hY _ zs[k] wr hJs (by rw[List.length_take];omega)
   gi_wp2
   refine hR.mono ?_
   rintro e W3 ⟨rfl,hJ3,hk3⟩
   gi_wp2
   go_roundw
   case rel=>exact⟨k+1,by omega,by simp,by rw[List.take_succ_eq_append_getElem hlt];exact hJ3⟩
   case measure=>simp [Go.Lib.intOf];omega
  ·obtain rfl:k=zs.length:=by omega
   gi_wp2
   go_end0
   exact⟨⟨_,rfl⟩,zs,rfl,by rw[List.take_length] at hJs;exact hJs⟩
#print axioms Tryz.values1
end Go.Proofs
end
