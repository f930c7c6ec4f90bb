import Derived.Test.YtofikbfljjjgeaaGreatDoorDO3
import Derived.Test.YtofikbfljjjgeaaGreatDoorDZ0
import Derived.Test.YtofikbfljjjgeaaGreatDoorDX1
set_option linter.unusedVariables false
set_option linter.unusedSimpArgs false
section
namespace Go.Ab.Seat
open Go.Extern Go.Proofs
set_option maxRecDepth 4000
theorem HI.val {h:T ag}{c:Nat}{v:Value}{l:List Int} (x:HI h c v l):∃oa,v=.slice oa l.length l.length/\bj h v l.length 1 (l.map (Value.int .i64))/\∀b,au v=some b->c<=b:=by
 rcases x with⟨rfl,rfl⟩|⟨b,rfl,_,h1,h2⟩
 ·exact⟨_,rfl,.inl ⟨rfl,rfl,_,_,rfl⟩,fun b hb=>by cases hb⟩
 ·exact⟨_,rfl,.inr ⟨b,0,_,_,_,rfl,h2.cel,aA _ _ (by simp)⟩,fun b hb=>by cases hb;exact h1⟩
theorem jL (mid:List (List Int)) (qs:List Int):(pK mid qs).length=mid.length:=by
 unfold pK
 have h1:=nR qs mid
 have:=gz (k:=mid.length) (iA qs mid) (m:=mid.length) (by omega) (Nat.le_refl _)
 rw[List.take_of_length_le (by omega)] at this
 rw[List.length_map,this]
def eN (mid:List (List Int)) (qs:List Int):Int:=if mid.length=0 then -1 else(pK mid qs).getD 0 0
set_option maxHeartbeats 4000000 in
theorem oK {h:T ag}{c:Nat}{rl wl:List Nat} (hf:ai h c) {v:Value}{dim:Nat}{mid:List (List Int)}{U:Nat->Prop} (hm:fe h v dim mid U) (hn:mid.length<=12) (hd:dim<=1000) {qa:Option Addr}{qc:Nat}{qs:List Int} (hq:bj h (.slice qa dim qc) dim 1 (qs.map (Value.int .i32))) (hqn:qs.length=dim) (hqb:gc qs) (R:Nat->Prop) (hUR:∀b,U b->R b) (hqR:∀b,au (.slice qa dim qc)=some b->R b) :
  ∃r s',aE (Cs bD) eg 132 [v,.slice qa dim qc] ⟨h,c,rl,wl⟩ r s'/\r=.int .i64 (eN mid qs)/\bA ⟨h,c,rl,wl⟩ s' R (fun _=>False):=by
 obtain⟨oa,cap,rfl⟩:=hm.val
 refine Fn.go (aU 132 rfl) J1 J3 I9 rfl rfl ?_
 refine cg ?_
 by_cases h0:mid.length=0
 ·refine aq ?_
  refine⟨.inr rfl,aG.one rfl ⟨?_,?_⟩⟩
  ·unfold eN;rw[if_pos h0];rfl
  ·exact bM
 ·refine aq ?_
  refine ax.call rfl rfl (sY aO hm hn hd hq hqn hqb R hUR hqR) ?_
  rintro v1 h1 c1 r1 w1 ⟨hHI,hext⟩
  have kp:=Kp.ext (W:=fun _=>False) (h:=h) (c:=c) bW hext (by omega) (fun _ _ q=>q)
  have lr:=Lg.extR (R:=R) (c:=c) az hext (fun _ _ q=>q)
  have lw:=Lg.extW (W:=fun _=>False) (c:=c) az hext (fun _ _ q=>q)
  have fr1:=hext.fresh
  have le1:=hext.c
  simp only at le1 fr1 hHI
  have hlen:=jL mid qs
  unfold eN
  rw[if_neg h0]
  generalize pK mid qs=l at hHI hlen
  rcases hHI with⟨rfl,rfl⟩|⟨b,rfl,hne,hb1,hb2⟩
  ·simp at hlen;omega
  ·have l1:=hb2.lt fr1
   obtain⟨z0,l',rfl⟩:=List.exists_cons_of_ne_nil hne
   refine aq ?_
   refine Zu (aj (k:=0) ct rfl rfl rfl (by simp)) ?_
   refine Zu (aB (dV rfl) rfl hb2.cel (by omega) rfl) ?_
   refine aq ?_
   refine⟨.inr rfl,aG.one rfl ⟨rfl,?_⟩⟩
   exact bM
theorem dY.ne {h:T ag}{dim b:Nat}{mid:List (List Int)}{U:Nat->Prop}{vals:List Value} (x:dY h dim mid U vals) (hd:1<=dim) (hb:ay h b (.cells vals)) {a:Option Addr}{k:Nat}{zs:List Int} (hr:bj h (.slice a dim k) dim 1 (zs.map (Value.int .i32))) (hz:zs.length=dim):au (.slice a dim k)≠some b:=by
 intro e
 rcases hr with⟨_,q,_⟩|⟨b',o,sp',cap',cs,e1,g6,g7⟩
 ·omega
 ·rw[e1] at e
  obtain rfl:b'=b:=by simpa [au] using e
  have hcs:cs=vals:=by
   rcases g6 with q|q|q
   ·have:=q.symm.trans hb
    simpa using this
   ·have:=q.symm.trans hb
    simp at this
   ·have:=q.symm.trans hb
    simp at this
  subst hcs
  have h1:=(aN _ _ _ _ g7).2.2 0 (by omega)
  rw[Nat.add_zero,List.getElem?_map,List.getElem?_eq_getElem (by omega:0<zs.length)] at h1
  have h2:=(List.getElem?_eq_some_iff.1 h1.symm).1
  rw[x.1] at h2
  obtain⟨_,_,a',k',h3,_⟩:=x.2 o mid[o] (List.getElem?_eq_getElem h2)
  rw[h3] at h1
  cases h1
theorem dY.keep2 {h h':T ag}{c dim b:Nat}{mid:List (List Int)}{U U':Nat->Prop}{vals:List Value} (x:dY h dim mid U vals) (hd:1<=dim) (hb:ay h b (.cells vals)) (hf:ai h c) (hU:∀b,U b->U' b) (k:∀b',U b'->b'<c->b'≠b->h'.get b'=h.get b'):dY h' dim mid U' vals:=by
 refine⟨x.1,fun i zs hi=>?_⟩
 obtain⟨g1,g2,a,kk,g3,g4,g5⟩:=x.2 i zs hi
 refine⟨g1,g2,a,kk,g3,?_,fun b' hb'=>hU b' (g5 b' hb')⟩
 have hne:=x.ne hd hb g4 g1
 rcases g4 with g4|⟨b',o,sp',cap',cs,e,g6,g7⟩
 ·exact .inl g4
 ·refine .inr ⟨b',o,sp',cap',cs,e,?_,g7⟩
  have q:=k b' (g5 b' (by rw[e];rfl)) (g6.lt hf) (fun q=>hne (by rw[e,q];rfl))
  unfold gX ay at g6 ⊢
  rw[q];exact g6
def EC (v:Value) (n:Nat) (lv:Value) (z:Int) (j5 j9:Value):L :=
 .cons 0 v (.cons 2 (.slice none 0 0) (.cons 3 lv (.cons 6 v (.cons 7 (.int .i64 (n:Int)) (.cons 8 (.int .i64 z) (.cons 5 j5 (.cons 9 j9 .nil)))))))
set_option maxHeartbeats 4000000 in
theorem yK {h:T ag}{c:Nat}{rl wl:List Nat} (hf:ai h c) {v:Value}{dim:Nat}{mid:List (List Int)}{U:Nat->Prop} (hm:fe h v dim mid U) (hn:mid.length<=1000) (hd:dim<=1000) (hd1:1<=dim) (R:Nat->Prop) (hUR:∀b,U b->R b) :
  ∃r s',aE (Cs bD) eg 128 [v] ⟨h,c,rl,wl⟩ r s'/\pw s'.h r dim mid (fun b=>c<=b/\b<s'.c)/\bA ⟨h,c,rl,wl⟩ s' R (fun _=>False):=by
 obtain⟨oa,cap,rfl⟩:=hm.val
 refine Fn.go (aU 128 rfl) Kr KB J9 rfl rfl ?_
 refine cg ?_
 refine aq ?_
 refine Wx.loopE (fun k1 e s=>∃(i:Nat) (z:Int) (lv j5 j9:Value) (h':T ag) (c':Nat) (rl' wl':List Nat),e=EC (.slice oa mid.length cap) mid.length lv z j5 j9/\z=i/\s=⟨h',c',rl',wl'⟩/\c<=c'/\ai h' c'/\Kp h h' c (fun _=>False)/\pw h' lv dim (mid.take i) (fun b=>c<=b/\b<c')/\Lg c R rl'/\Lg c (fun _=>False) wl'/\i<=mid.length/\k1=mid.length - i) mid.length (EC (.slice oa mid.length cap) mid.length (.slice none 0 0) 0 top top) iY ?_ ?_ ?_
 ·unfold EC
  exact eI
 ·exact⟨0,0,_,_,_,_,_,_,_,rfl,rfl,rfl,Nat.le_refl _,aO,bW,.inl ⟨rfl,rfl⟩,az,az,by omega,rfl⟩
 ·rintro k1 e s ⟨i,z,lv,j5,j9,h',c',rl',wl',rfl,hz,rfl,hcc,hf',hkp,hV,hlr,hlw,hid,rfl⟩
  unfold EC
  by_cases hi:i<mid.length
  ·have hm':=hm.keep hf (fun _ q=>q) (fun b _ hb _=>hkp b hb (fun q=>q))
   obtain⟨g1,g2,b,sp,vals,a,k,rfl,g4,g5,g6,g7,g8⟩:=hm'.at (List.getElem?_eq_getElem hi)
   have lb:=g5.lt hf'
   have rb:=hUR b g4
   refine aq ?_
   refine Zu (aj (k:=i) lz rfl rfl hz hi) ?_
   refine Zu (aB (dV rfl) rfl g5.cel (by omega) g6) ?_
   refine aq ?_
   refine ax.call rfl rfl (jR aU aO g7 (by unfold vV;omega) (fun e=>by omega) R (fun b o sp n' cap e=>hUR b (g8 b (by rw[e];rfl)))) ?_
   rintro w h1 c1 r1 w1 ⟨hown,hext⟩
   have kp:=Kp.ext (W:=fun _=>False) (h:=h) (c:=c) hkp hext (by omega) (fun _ _ q=>q)
   have lr:=Lg.extR (R:=R) (c:=c) az hext (fun _ _ q=>q)
   have lw:=Lg.extW (W:=fun _=>False) (c:=c) az hext (fun _ _ q=>q)
   have fr1:=hext.fresh
   have le1:=hext.c
   simp only at le1 fr1 hown
   have hV1:=hV.keep (U':=fun b=>c<=b/\b<c1+2) hf' (fun _ q=>⟨q.1,by omega⟩) (fun b _ hb _=>hext.get hb (fun q=>q))
   obtain⟨wa,wk,rfl⟩:=hown.val
   have hrow:=hown.row (by rw[List.length_map];exact g1)
   have hwb:∀b',au (.slice wa dim wk)=some b'->c<=b'/\b'<c1+2:=fun b' hb'=>by have:=(hown.blk hb').1;have:=(hown.blk hb').2.lt fr1;omega
   have hst:mid.take (i+1)=mid.take i++[mid[i]]:=List.take_succ_eq_append_getElem hi
   have hl0:(mid.take i).length=i:=by rw[List.length_take];omega
   have hbg:dv=1048576:=rfl
   rcases hV1 with⟨rfl,hnil⟩|⟨bl,vals2,rfl,hne,hbl,hbc,hvl⟩
   ·refine aq ?_
    refine Zu (cy rF sP rfl rfl (k:=0) ay.same.cel (by omega) (aA _ _ rfl) (by omega) aO) ?_
    refine aq ?_
    refine aC.go (mid.length - (i+1)) (EC _ mid.length _ (z+1) _ _) (by omega) eI ⟨i+1,z+1,_,_,_,_,_,_,_,rfl,by omega,rfl,by omega,aO,bW,?_,az,az,by omega,rfl⟩
    have hi0:i=0:=by rw[hnil] at hl0;simpa using hl0.symm
    rw[hst,hnil]
    have hr2:∀(h2:T ag),(∀b,b<c1->h2.get b=h1.get b)->bj h2 (.slice wa dim wk) dim 1 (mid[i].map (Value.int .i32)):=fun h2 k2=>bj.keepF hrow fr1 k2
    exact .inr ⟨c1+1,[.slice wa dim wk],rfl,(fun e=>by cases e),by omega,ay.same,dY.push .nil g1 g2 (hr2 _ fun b hb=>by rw[am (by omega),am (by omega)]) hwb⟩
   ·have l3:=hbc.lt fr1
    refine aq ?_
    refine Zu (dg rF sP rfl rfl (k:=0) ay.same.cel (by omega) (aA _ _ rfl) (by omega) (by omega) gL (by omega) (aA _ _ (by rw[hvl.1];omega)) (all_cons rfl a7) aO) ?_
    refine aq ?_
    refine aC.go (mid.length - (i+1)) (EC _ mid.length _ (z+1) _ _) (by omega) eI ⟨i+1,z+1,_,_,_,_,_,_,_,rfl,by omega,rfl,by omega,aO,bW,?_,az,az,by omega,rfl⟩
    have hlt:(mid.take i++[mid[i]]).length=(mid.take i).length+1:=by rw[List.length_append];rfl
    have hne2:au (.slice wa dim wk)≠some bl:=hvl.ne hd1 hbc hrow g1
    have hk2:∀(h2:T ag),(∀b,b<c1->b≠bl->h2.get b=h1.get b)->dY h2 dim (mid.take i++[mid[i]]) (fun b=>c<=b/\b<c1+2) (vals2++[.slice wa dim wk]):=fun h2 k2=>(hvl.keep2 hd1 hbc fr1 (fun _ q=>q) (fun b _ h1 h2=>k2 b h1 h2)).push g1 g2 (by
     rcases hrow with g|⟨b',o,sp',cap',cs,e,g6,g7⟩
     ·exact .inl g
     ·refine .inr ⟨b',o,sp',cap',cs,e,?_,g7⟩
      have q:=k2 b' (g6.lt fr1) (fun q=>hne2 (by rw[e,q];rfl))
      unfold gX ay at g6 ⊢
      rw[q];exact g6) hwb
    rw[hst]
    refine .inr ⟨c1+1,vals2++[.slice wa dim wk],by rw[hlt],(fun e=>by have:=congrArg List.length e;rw[hlt] at this;cases this),by omega,ay.same,hk2 _ fun b q1 q2=>?_⟩
    rw[am (by omega),am (by omega),am (by omega)]
  ·refine aq ?_
   obtain rfl:i=mid.length:=by omega
   rw[List.take_length] at hV
   refine⟨.inr rfl,aG.one rfl ⟨hV,?_⟩⟩
   exact bM
end Go.Ab.Seat
end
section
namespace Go.Ab.Seat
open Go.Extern Go.Proofs
theorem y4 {mid:List (List Int)}{qs:List Int}{x:Int}:x∈pK mid qs↔0<=x/\x<mid.length:=by
 have h1:=nR qs mid
 have h2:=(cO (k:=mid.length) (iA qs mid) mid.length (by omega) (Nat.le_refl _)).1
 rw[List.take_of_length_le (by omega)] at h2
 unfold pK
 rw[(h2.map Ht.id).mem_iff]
 unfold mg
 rw[List.map_map]
 constructor
 ·intro h
  obtain⟨i,h3,rfl⟩:=List.mem_map.1 h
  have:=List.mem_range.1 h3
  show 0<=(i:Int)/\(i:Int)<_
  omega
 ·rintro⟨h3,h4⟩
  exact List.mem_map.2 ⟨x.toNat,List.mem_range.2 (by omega),by show ((x.toNat:Nat):Int)=x;omega⟩
theorem ve {mid:List (List Int)}{zs:List Int} (h:mid.length≠0):0<=eN mid zs/\eN mid zs<mid.length:=by
 have h1:=jL mid zs
 unfold eN
 rw[if_neg h]
 refine y4 (qs:=zs).1 ?_
 rw[List.getD_eq_getElem?_getD,List.getElem?_eq_getElem (by omega)]
 exact List.getElem_mem _
theorem ya (r:Rc):∀l:List Rc,(cJ r l).length<=l.length+1
 | []=>by simp [cJ]
 |x::l=>by
  have:=ya r l
  unfold cJ
  split
  ·simp
  ·split
   ·simp
   ·simp;omega
theorem pz.keep {h h':T ag}{c:Nat}{v:Value}{zss:List (List Int)} (x:pz h v zss) (hf:ai h c) (k:∀b,b<c->h'.get b=h.get b):pz h' v zss:=by
 obtain⟨oa,cap,e,hat⟩:=x
 refine⟨oa,cap,e,fun i zs hi=>?_⟩
 obtain⟨b,o,sp,cs,a,kk,e1,e2,e3,e4⟩:=hat i zs hi
 refine⟨b,o,sp,cs,a,kk,e1,?_,e3,bj.keepF e4 hf k⟩
 have q:=k b (e2.lt hf)
 unfold gX ay at e2 ⊢
 rw[q];exact e2
end Go.Ab.Seat
end
section
namespace Go.Ab.Seat
open Go.Extern Go.Proofs
def tE (a b:Int):Int:=if a.tmod b<0 then a.tdiv b - 1 else a.tdiv b
theorem GB {a b B:Int} (hb:0<b) (h1 : -(B*b)<=a) (h2:a<=B*b) : -B<=tE a b/\tE a b<=B:=by
 have e:=Int.mul_tdiv_add_tmod a b
 have t1:=Int.tmod_lt_of_pos a hb
 have t2 : -b<a.tmod b:=by
  have:=Int.neg_tmod a b
  have h3:=Int.tmod_lt_of_pos (-a) hb
  omega
 have key:b*tE a b<=a/\a<b*tE a b+b:=by
  unfold tE
  split
  ·rw[Int.mul_sub,Int.mul_one];omega
  ·omega
 constructor
 ·refine Classical.byContradiction fun q=>?_
  have h3:tE a b <= -B - 1:=by omega
  have h4:=Int.mul_le_mul_of_nonneg_left h3 (show (0:Int)<=b by omega)
  rw[Int.mul_sub,Int.mul_one,Int.mul_neg,Int.mul_comm b B] at h4
  omega
 ·refine Classical.byContradiction fun q=>?_
  have h3:B+1<=tE a b:=by omega
  have h4:=Int.mul_le_mul_of_nonneg_left h3 (show (0:Int)<=b by omega)
  rw[Int.mul_add,Int.mul_one,Int.mul_comm b B] at h4
  omega
def jV (i:Nat) (vs:List (List Int)):Int:=vs.foldl (fun s v=>s+v.getD i 0) 0
theorem vr {i k:Nat}{vs:List (List Int)} (hk:k<vs.length):jV i (vs.take (k+1))=jV i (vs.take k)+vs[k].getD i 0:=by
 unfold jV
 rw[List.take_succ_eq_append_getElem hk,List.foldl_append];rfl
def zY (dim:Nat) (vs:List (List Int)):Prop:=∀v∈vs,v.length=dim/\gc v
theorem o9 {i dim:Nat}{vs:List (List Int)} (h:zY dim vs):∀k,k<=vs.length -> -(1048576*(k:Int))<=jV i (vs.take k)/\jV i (vs.take k)<=1048576*(k:Int)
 |0,_=>by simp [jV]
 |k+1,hk=>by
  have h1:=o9 (i:=i) h k (by omega)
  have h2:=(h _ (List.getElem_mem (show k<vs.length by omega))).2 i
  rw[vr (by omega)]
  omega
def oE (m:List Int) (vs:List (List Int)):List Int:=if vs.length=0 then m else(List.range m.length).map fun i=>tE (jV i vs) vs.length
theorem EU (m:List Int) (vs:List (List Int)):(oE m vs).length=m.length:=by
 unfold oE;split<;>simp
theorem B0 {dim i:Nat}{vs:List (List Int)} (hv:zY dim vs) (h0:vs.length≠0) : -1048576<=tE (jV i vs) vs.length/\tE (jV i vs) vs.length<=1048576:=by
 have h1:=o9 (i:=i) hv vs.length (Nat.le_refl _)
 rw[List.take_length] at h1
 exact GB (by omega) (by omega) (by omega)
theorem BT {dim:Nat}{m:List Int}{vs:List (List Int)} (hm:m.length=dim/\gc m) (hv:zY dim vs):(oE m vs).length=dim/\gc (oE m vs):=by
 refine⟨by rw[EU];exact hm.1,fun i=>?_⟩
 unfold oE
 split
 ·exact hm.2 i
 ·rename_i h0
  rw[List.getD_eq_getElem?_getD,List.getElem?_map]
  cases h:(List.range m.length)[i]? with
  |none=>simp
  |some j=>exact B0 hv h0
def pI (n:Nat) (ms:List (List Int)) (v:List Int):List (List Int):=if ms.length<n/\v∉ms then ms++[v] else ms
def tO (n:Nat) (vs:List (List Int)):List (List Int):=vs.foldl (pI n) []
theorem uI {n k:Nat}{vs:List (List Int)} (hk:k<vs.length):tO n (vs.take (k+1))=pI n (tO n (vs.take k)) vs[k]:=by
 unfold tO
 rw[List.take_succ_eq_append_getElem hk,List.foldl_append];rfl
theorem Fx {n:Nat}{ms:List (List Int)}{v:List Int} (h:ms.length<=n):(pI n ms v).length<=n:=by
 unfold pI
 split
 ·rename_i q;rw[List.length_append];show _+1<=n;omega
 ·exact h
theorem GP {n dim:Nat}{ms:List (List Int)}{v:List Int} (h:zY dim ms) (hv:v.length=dim/\gc v):zY dim (pI n ms v):=by
 unfold pI
 split
 ·intro x hx
  rcases List.mem_append.1 hx with hx|hx
  ·exact h x hx
  ·rw[List.mem_singleton.1 hx];exact hv
 ·exact h
theorem wo {n dim:Nat}{vs:List (List Int)} (hv:zY dim vs):∀k,k<=vs.length->(tO n (vs.take k)).length<=n/\zY dim (tO n (vs.take k))
 |0,_=>⟨Nat.zero_le _,fun v hv=>by cases hv⟩
 |k+1,hk=>by
  obtain⟨h1,h2⟩:=wo (n:=n) hv k (by omega)
  rw[uI (by omega)]
  exact⟨Fx h1,GP h2 (hv _ (List.getElem_mem _))⟩
def tV (vs ms:List (List Int)) (i:Nat):List (List Int):=vs.filter fun v=>decide (eN ms v=(i:Int))
def pH (vs ms:List (List Int)) (k:Nat):List (List Int):=(List.range ms.length).map fun i=>if i<k then oE (ms.getD i []) (tV vs ms i) else ms.getD i []
def DG (vs ms:List (List Int)):List (List Int):=pH vs ms ms.length
def jD (n:Nat) (vs:List (List Int)):Nat->List (List Int)
 |0=>tO n vs
 |t+1=>DG vs (jD n vs t)
theorem eV (vs ms:List (List Int)) (k:Nat):(pH vs ms k).length=ms.length:=by unfold pH;simp
theorem mC {vs ms:List (List Int)}{k i:Nat} (hi:i<ms.length):(pH vs ms k)[i]?=some (if i<k then oE ms[i] (tV vs ms i) else ms[i]):=by
 unfold pH
 rw[List.getElem?_map,List.getElem?_eq_getElem (by simpa using hi),List.getElem_range]
 show some (if i<k then oE (ms.getD i []) (tV vs ms i) else ms.getD i [])=_
 rw[List.getD_eq_getElem?_getD,List.getElem?_eq_getElem hi];rfl
theorem Cx (vs ms:List (List Int)):pH vs ms 0=ms:=by
 refine List.ext_getElem? fun i=>?_
 rcases Nat.lt_or_ge i ms.length with h|h
 ·rw[mC h,if_neg (by omega),List.getElem?_eq_getElem h]
 ·rw[List.getElem?_eq_none (by rw[eV];exact h),List.getElem?_eq_none h]
theorem D1 {vs ms:List (List Int)}{k:Nat} (hk:k<ms.length):pH vs ms (k+1)=(pH vs ms k).set k (oE ms[k] (tV vs ms k)):=by
 refine List.ext_getElem? fun i=>?_
 rw[List.getElem?_set,eV]
 by_cases hik:k=i
 ·subst hik
  rw[if_pos rfl,if_pos hk,mC hk,if_pos (by omega)]
 ·rw[if_neg hik]
  rcases Nat.lt_or_ge i ms.length with h|h
  ·rw[mC h,mC h]
   by_cases hi:i<k
   ·rw[if_pos hi,if_pos (by omega)]
   ·rw[if_neg hi,if_neg (by omega)]
  ·rw[List.getElem?_eq_none (by rw[eV];exact h),List.getElem?_eq_none (by rw[eV];exact h)]
theorem Bk {dim:Nat}{vs ms:List (List Int)}{i:Nat} (h:zY dim vs):zY dim (tV vs ms i):=fun v hv=>h v (List.mem_filter.1 hv).1
theorem Hb {dim:Nat}{vs ms:List (List Int)}{k:Nat} (h:zY dim vs) (hm:zY dim ms):zY dim (pH vs ms k):=by
 intro v hv
 obtain⟨i,hi⟩:=List.mem_iff_getElem?.1 hv
 have h1:=(List.getElem?_eq_some_iff.1 hi).1
 rw[eV] at h1
 rw[mC h1] at hi
 cases hi
 have h2:=hm _ (List.getElem_mem h1)
 split
 ·exact BT h2 (Bk h)
 ·exact h2
theorem oO {dim n:Nat}{vs:List (List Int)} (h:zY dim vs):∀t,(jD n vs t).length<=n/\zY dim (jD n vs t)
 |0=>by
  have:=wo (n:=n) h vs.length (Nat.le_refl _)
  rw[List.take_length] at this
  exact this
 |t+1=>by
  obtain⟨h1,h2⟩:=oO (n:=n) h t
  refine⟨?_,Hb h h2⟩
  show (DG vs (jD n vs t)).length<=n
  unfold DG
  rw[eV];exact h1
end Go.Ab.Seat
end
section
namespace Go.Ab.Seat
open Go.Extern Go.Proofs
theorem fm {α β:Type} (f:α->β) (l:List α):gO f l=l.map f:=by
 induction l with
 |nil=>rfl
 |cons x xs ih=>show f x::gO f xs=_;rw[ih];rfl
theorem vQ {l:List Int} (h:l.Nodup):sU l=true:=by
 induction l with
 |nil=>rfl
 |cons x xs ih =>
  obtain⟨h1,h2⟩:=List.nodup_cons.1 h
  rw[qe]
  cases hm:xG x xs with
  |true=>exact absurd ((B6 x xs).1 hm) h1
  |false=>exact ih h2
theorem xa {l:List Nat} (h:l.Nodup):rL l=true:=by
 induction l with
 |nil=>rfl
 |cons x xs ih =>
  obtain⟨h1,h2⟩:=List.nodup_cons.1 h
  rw[qq]
  cases hm:mem x xs with
  |true=>exact absurd ((vP x xs).1 hm) h1
  |false=>exact ih h2
structure dx (es:List (Value×Value×Nat)) (n:Nat) (ids:List Int):Prop where
 keys:es.map (fun e=>e.1)=ids.map (Value.int .i64)
 nodup:ids.Nodup
 born:(es.map fun e=>e.2.2).Nodup
 lt:∀e∈es,e.2.2<n
 wf:∀x∈ids,rq x=true
theorem dx.nil (n:Nat):dx [] n []:=⟨rfl,.nil,.nil,(fun e he=>by cases he),(fun x hx=>by cases hx)⟩
theorem yM {ids:List Int} (h:∀x∈ids,rq x=true):nL (ids.map (Value.int .i64))=some ids:=by
 induction ids with
 |nil=>rfl
 |cons x xs ih =>
  rw[List.map_cons,qg,ih fun y hy=>h y (List.mem_cons_of_mem _ hy)]
  have:pT (.int .i64 x)=some x:=by
   unfold pT
   simp only[h x (List.mem_cons_self ..)]
  rw[this]
theorem dx.keyInts {es:List (Value×Value×Nat)}{n:Nat}{ids:List Int} (k:dx es n ids):Go.Ab.keyInts es n=some ids:=by
 unfold Go.Ab.keyInts
 rw[fm,k.keys,yM k.wf]
 have h3:ee (fun e:Value×Value×Nat=>Nat.blt e.2.2 n) es=true:=by
  rw[bT,List.all_eq_true]
  intro e he
  have:=k.lt e he
  exact eh.2 this
 rw[fm]
 simp only[vQ k.nodup,xa k.born,h3]
 rfl
theorem bo {x:Int}:∀ {es:List (Value×Value×Nat)}{ids:List Int},es.map (fun e=>e.1)=ids.map (Value.int .i64)->(dJ x es=none↔x∉ids)
 | [],[],_=>⟨(fun _ h=>by cases h),(fun _=>rfl)⟩
 | [],_::_,h=>by cases h
 |_::_,[],h=>by cases h
 |(a,v,b)::es,y::ids,h=>by
  simp only[List.map_cons,List.cons.injEq] at h
  obtain⟨rfl,h⟩:=h
  have ih:=bo (x:=x) h
  unfold dJ
  by_cases hxy:x=y
  ·rw[if_pos hxy]
   exact⟨(fun h=>by cases h),(fun h=>absurd (by rw[hxy];exact List.mem_cons_self ..) h)⟩
  ·rw[if_neg hxy,Option.map_eq_none_iff,ih,List.mem_cons]
   exact⟨fun h1 h2=>h2.elim hxy h1,fun h1 h2=>h1 (.inr h2)⟩
theorem eP {x:Int}:∀ {es:List (Value×Value×Nat)}{ids:List Int}{i:Nat}{v:Value},es.map (fun e=>e.1)=ids.map (Value.int .i64)->dJ x es=some (i,v)->ids[i]?=some x/\∃b,es[i]?=some (.int .i64 x,v,b)
 | [],_,_,_,_,h=>by cases h
 |_::_,[],_,_,h,_=>by cases h
 |(a,w,b)::es,y::ids,i,v,h,hf=>by
  simp only[List.map_cons,List.cons.injEq] at h
  obtain⟨rfl,h⟩:=h
  unfold dJ at hf
  by_cases hxy:x=y
  ·rw[if_pos hxy] at hf
   cases hf
   subst hxy
   exact⟨rfl,b,rfl⟩
  ·rw[if_neg hxy,Option.map_eq_some_iff] at hf
   obtain⟨p,hp,he⟩:=hf
   cases he
   obtain⟨h1,b',h2⟩:=eP h hp
   exact⟨by simpa using h1,b',by simpa using h2⟩
theorem um {x:Int}{v:Value}:∀ {es:List (Value×Value×Nat)}{ids:List Int}{i:Nat},es.map (fun e=>e.1)=ids.map (Value.int .i64)->ids[i]?=some x->(lf (.int .i64 x) v es i).map (fun e=>e.1)=ids.map (Value.int .i64)/\(lf (.int .i64 x) v es i).map (fun e=>e.2.2)=es.map (fun e=>e.2.2)
 | [],[],_,_,h=>by cases h
 | [],_::_,_,h,_=>by cases h
 |_::_,[],_,h,_=>by cases h
 |(a,w,b)::es,y::ids,0,h,hi=>by
  simp only[List.map_cons,List.cons.injEq] at h
  obtain⟨rfl,h⟩:=h
  cases hi
  exact⟨by simp only[lf,List.map_cons,h],rfl⟩
 |(a,w,b)::es,y::ids,i+1,h,hi=>by
  simp only[List.map_cons,List.cons.injEq] at h
  obtain⟨rfl,h⟩:=h
  obtain⟨h1,h2⟩:=um (v:=v) h (by simpa using hi)
  exact⟨by simp only[lf,List.map_cons,h1],by simp only[lf,List.map_cons,h2]⟩
def E4 (x:Int) (ids:List Int):List Int:=if x∈ids then ids else ids++[x]
theorem dx.put {es:List (Value×Value×Nat)}{n:Nat}{ids:List Int} (k:dx es n ids) {x:Int} (hw:rq x=true) (v:Value):dx (eH .i64 x v n es).1 (eH .i64 x v n es).2 (E4 x ids):=by
 unfold eH E4
 cases hf:dJ x es with
 |none =>
  have hx:=(bo k.keys).1 hf
  rw[if_neg hx]
  refine⟨by simp [k.keys],?_,?_,?_,?_⟩
  ·exact List.nodup_append.2 ⟨k.nodup,List.nodup_cons.2 ⟨List.not_mem_nil,.nil⟩,fun a ha b hb=>by
    obtain rfl:=List.mem_singleton.1 hb
    rintro rfl
    exact hx ha⟩
  ·rw[List.map_append]
   refine List.nodup_append.2 ⟨k.born,List.nodup_cons.2 ⟨List.not_mem_nil,.nil⟩,fun a ha b hb=>?_⟩
   obtain rfl:=List.mem_singleton.1 hb
   obtain⟨e,he,rfl⟩:=List.mem_map.1 ha
   have:=k.lt e he
   omega
  ·intro e he
   rcases List.mem_append.1 he with he|he
   ·have:=k.lt e he
    show e.2.2<n+1
    omega
   ·obtain rfl:=List.mem_singleton.1 he
    exact Nat.lt_succ_self n
  ·intro y hy
   rcases List.mem_append.1 hy with hy|hy
   ·exact k.wf y hy
   ·obtain rfl:=List.mem_singleton.1 hy
    exact hw
 |some p =>
  obtain⟨i,w⟩:=p
  obtain⟨h1,b,h2⟩:=eP k.keys hf
  rw[if_pos (List.mem_of_getElem? h1)]
  obtain⟨h3,h4⟩:=um (v:=v) k.keys h1
  refine⟨h3,k.nodup,by rw[h4];exact k.born,fun e he=>?_,k.wf⟩
  have:e.2.2∈(lf (.int .i64 x) v es i).map fun e=>e.2.2:=List.mem_map_of_mem he
  rw[h4] at this
  obtain⟨e',he',h5⟩:=List.mem_map.1 this
  rw[<- h5]
  exact k.lt e' he'
theorem dx.del {es:List (Value×Value×Nat)}{n:Nat}{ids:List Int} (k:dx es n ids) (x:Int):∃ids',dx (zO x es) n ids'/\(∀y,y∈ids'↔y∈ids/\y≠x)/\ids'.length=(if x∈ids then ids.length - 1 else ids.length):=by
 unfold zO
 cases hf:dJ x es with
 |none =>
  have hx:=(bo k.keys).1 hf
  exact⟨ids,k,fun y=>⟨fun h=>⟨h,fun e=>hx (e▸h)⟩,fun h=>h.1⟩,by rw[if_neg hx]⟩
 |some p =>
  obtain⟨i,w⟩:=p
  obtain⟨h1,b,h2⟩:=eP k.keys hf
  have hi:=(List.getElem?_eq_some_iff.1 h1).1
  simp only
  rw[mR]
  have hsub:(ids.eraseIdx i).Sublist ids:=List.eraseIdx_sublist ids i
  have hsube:(es.eraseIdx i).Sublist es:=List.eraseIdx_sublist es i
  refine⟨ids.eraseIdx i,⟨?_,k.nodup.sublist hsub,k.born.sublist (hsube.map _),fun e he=>k.lt e (hsube.subset he),fun y hy=>k.wf y (hsub.subset hy)⟩,fun y=>?_,?_⟩
  ·have hm:∀ {α β:Type} (f:α->β) (l:List α) (i:Nat),(l.eraseIdx i).map f=(l.map f).eraseIdx i:=by
    intro α β f l
    induction l with
    |nil=>intro i;rfl
    |cons a l ih =>
     intro i
     cases i with
     |zero=>rfl
     |succ i=>simp only[List.eraseIdx_cons_succ,List.map_cons,ih]
   rw[hm,k.keys,<- hm]
  ·rw[List.mem_eraseIdx_iff_getElem?]
   constructor
   ·rintro⟨j,hj,hy⟩
    refine⟨List.mem_of_getElem? hy,?_⟩
    rintro rfl
    obtain⟨hj1,hj2⟩:=List.getElem?_eq_some_iff.1 hy
    obtain⟨hi1,hi2⟩:=List.getElem?_eq_some_iff.1 h1
    exact hj ((List.getElem_inj k.nodup).1 (hj2.trans hi2.symm))
   ·rintro⟨hy,hne⟩
    obtain⟨j,hj⟩:=List.mem_iff_getElem?.1 hy
    refine⟨j,?_,hj⟩
    rintro rfl
    rw[h1] at hj
    cases hj
    exact hne rfl
  ·rw[if_pos (List.mem_of_getElem? h1),List.length_eraseIdx_of_lt hi]
noncomputable def dU (x:Int) (es:List (Value×Value×Nat)):Option Value:=(dJ x es).map fun p=>p.2
theorem dh {x:Int}{es:List (Value×Value×Nat)}:dU x es=none↔dJ x es=none:=by unfold dU;exact Option.map_eq_none_iff
theorem iw {x:Int}{es:List (Value×Value×Nat)}{v:Value} (h:dU x es=some v):∃i,dJ x es=some (i,v):=by
 unfold dU at h
 obtain⟨⟨i,w⟩,h1,h2⟩:=Option.map_eq_some_iff.1 h
 cases h2
 exact⟨i,h1⟩
theorem ey (x:Int) (k v:Value) (b:Nat) (es:List (Value×Value×Nat)) (y:Int) (hk:k=.int .i64 y):dU x ((k,v,b)::es)=if x=y then some v else dU x es:=by
 subst hk
 unfold dU
 rw[dJ]
 by_cases h:x=y
 ·rw[if_pos h,if_pos h];rfl
 ·rw[if_neg h,if_neg h]
  cases dJ x es<;>rfl
theorem yE (x y:Int) (v:Value) (b:Nat):∀ {es:List (Value×Value×Nat)}{ids:List Int},es.map (fun e=>e.1)=ids.map (Value.int .i64)->y∉ids->dU x (es++[(.int .i64 y,v,b)])=if x=y then some v else dU x es
 | [],_,_,_=>by rw[List.nil_append,ey x _ v b [] y rfl]
 |(k,w,b')::es,[],h,_=>by cases h
 |(k,w,b')::es,z::ids,h,hy=>by
  simp only[List.map_cons,List.cons.injEq] at h
  obtain⟨h1,h2⟩:=h
  rw[List.cons_append,ey x k w b' _ z h1,ey x k w b' _ z h1,yE x y v b h2 fun q=>hy (List.mem_cons_of_mem _ q)]
  by_cases hz:x=z
  ·rw[if_pos hz,if_pos hz,if_neg fun e=>hy (by rw[<- e,hz];exact List.mem_cons_self ..)]
  ·rw[if_neg hz,if_neg hz]
theorem xM (x y:Int) (v:Value):∀ {es:List (Value×Value×Nat)}{ids:List Int}{i:Nat},es.map (fun e=>e.1)=ids.map (Value.int .i64)->ids.Nodup->ids[i]?=some y->dU x (lf (.int .i64 y) v es i)=if x=y then some v else dU x es
 | [],[],_,_,_,h=>by cases h
 | [],_::_,_,h,_,_=>by cases h
 |_::_,[],_,h,_,_=>by cases h
 |(k,w,b)::es,z::ids,0,h,hn,hi=>by
  simp only[List.map_cons,List.cons.injEq] at h
  cases hi
  show dU x ((.int .i64 y,v,b)::es)=_
  rw[ey x _ v b es y rfl,ey x k w b es y h.1]
  by_cases hz:x=y
  ·rw[if_pos hz,if_pos hz]
  ·rw[if_neg hz,if_neg hz,if_neg hz]
 |(k,w,b)::es,z::ids,i+1,h,hn,hi=>by
  simp only[List.map_cons,List.cons.injEq] at h
  obtain⟨h1,h2⟩:=h
  obtain⟨n1,n2⟩:=List.nodup_cons.1 hn
  have hi':ids[i]?=some y:=by simpa using hi
  show dU x ((k,w,b)::lf (.int .i64 y) v es i)=_
  rw[ey x k w b _ z h1,ey x k w b es z h1,xM x y v h2 n2 hi']
  by_cases hz:x=z
  ·rw[if_pos hz,if_pos hz,if_neg fun e=>n1 (by rw[<- hz,e];exact List.mem_of_getElem? hi')]
  ·rw[if_neg hz,if_neg hz]
theorem l8 {es:List (Value×Value×Nat)}{n:Nat}{ids:List Int} (k:dx es n ids) (x y:Int) (v:Value):dU x (eH .i64 y v n es).1=if x=y then some v else dU x es:=by
 unfold eH
 cases hf:dJ y es with
 |none=>exact yE x y v n k.keys ((bo k.keys).1 hf)
 |some p =>
  obtain⟨i,w⟩:=p
  exact xM x y v k.keys k.nodup (eP k.keys hf).1
theorem rW (x y:Int):∀ {es:List (Value×Value×Nat)}{ids:List Int}{i:Nat},es.map (fun e=>e.1)=ids.map (Value.int .i64)->ids.Nodup->ids[i]?=some y->dU x (es.eraseIdx i)=if x=y then none else dU x es
 | [],[],_,_,_,h=>by cases h
 | [],_::_,_,h,_,_=>by cases h
 |_::_,[],_,h,_,_=>by cases h
 |(k,w,b)::es,z::ids,0,h,hn,hi=>by
  simp only[List.map_cons,List.cons.injEq] at h
  cases hi
  obtain⟨n1,n2⟩:=List.nodup_cons.1 hn
  rw[List.eraseIdx_cons_zero,ey x k w b es y h.1]
  by_cases hz:x=y
  ·rw[if_pos hz,hz]
   exact dh.2 ((bo h.2).2 n1)
  ·rw[if_neg hz,if_neg hz]
 |(k,w,b)::es,z::ids,i+1,h,hn,hi=>by
  simp only[List.map_cons,List.cons.injEq] at h
  obtain⟨h1,h2⟩:=h
  obtain⟨n1,n2⟩:=List.nodup_cons.1 hn
  have hi':ids[i]?=some y:=by simpa using hi
  rw[List.eraseIdx_cons_succ,ey x k w b _ z h1,ey x k w b es z h1,rW x y h2 n2 hi']
  by_cases hz:x=z
  ·rw[if_pos hz,if_pos hz,if_neg fun e=>n1 (by rw[<- hz,e];exact List.mem_of_getElem? hi')]
  ·rw[if_neg hz,if_neg hz]
theorem FQ {es:List (Value×Value×Nat)}{n:Nat}{ids:List Int} (k:dx es n ids) (x y:Int):dU x (zO y es)=if x=y then none else dU x es:=by
 unfold zO
 cases hf:dJ y es with
 |none =>
  by_cases hz:x=y
  ·rw[if_pos hz,hz]
   exact dh.2 hf
  ·rw[if_neg hz]
 |some p =>
  obtain⟨i,w⟩:=p
  simp only
  rw[mR]
  exact rW x y k.keys k.nodup (eP k.keys hf).1
theorem dx.ks {es:List (Value×Value×Nat)}{n:Nat}{ids:List Int} (k:dx es n ids):yt .i64 es:=fun p hp=>by
 have:p.1∈es.map fun e=>e.1:=List.mem_map_of_mem hp
 rw[k.keys] at this
 obtain⟨y,_,hy⟩:=List.mem_map.1 this
 exact⟨y,hy.symm⟩
end Go.Ab.Seat
end
