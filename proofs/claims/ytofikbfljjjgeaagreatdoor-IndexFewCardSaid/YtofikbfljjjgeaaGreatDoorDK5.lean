import Derived.Test.YtofikbfljjjgeaaGreatDoorDK6
set_option linter.unusedVariables false
set_option linter.unusedSimpArgs false
section
namespace Go.Ab.Seat
open Go.Extern Go.Proofs
set_option maxRecDepth 4000
def ia (h:T ag) (v:Value) (l:List Int) (lo hi:Nat):Prop:=∃oa cap,v=.slice oa l.length cap/\l.length<=cap/\bj h (.slice oa l.length cap) l.length 1 (l.map (Value.int .i64))/\(∀b,au (.slice oa l.length cap)=some b->lo<=b/\b<hi)/\∀q,oa=some q->q.spot=none\/q.spot=some 1
theorem ia.keep {h h':T ag}{v:Value}{l:List Int}{lo hi:Nat} (x:ia h v l lo hi) (k:∀b,lo<=b->b<hi->h'.get b=h.get b):ia h' v l lo hi:=by
 obtain⟨oa,cap,rfl,x0,x1,x2,x3⟩:=x
 refine⟨oa,cap,rfl,x0,?_,x2,x3⟩
 rcases x1 with x1|⟨b,o,sp,cap',cs,e1,e2,e3⟩
 ·exact .inl x1
 ·have hb:=x2 b (by rw[e1];rfl)
  have:=k b hb.1 hb.2
  exact .inr ⟨b,o,sp,cap',cs,e1,e2.imp this.trans (Or.imp this.trans this.trans),e3⟩
theorem ia.hi {h:T ag}{v:Value}{l:List Int}{lo hi hi':Nat} (x:ia h v l lo hi) (k:hi<=hi'):ia h v l lo hi':=by
 obtain⟨oa,cap,rfl,x0,x1,x2,x3⟩:=x
 exact⟨oa,cap,rfl,x0,x1,fun b hb=>⟨(x2 b hb).1,by have:=(x2 b hb).2;omega⟩,x3⟩
theorem ia.lo {h:T ag}{v:Value}{l:List Int}{lo lo' hi:Nat} (x:ia h v l lo hi) (k:lo'<=lo):ia h v l lo' hi:=by
 obtain⟨oa,cap,rfl,x0,x1,x2,x3⟩:=x
 exact⟨oa,cap,rfl,x0,x1,fun b hb=>⟨by have:=(x2 b hb).1;omega,(x2 b hb).2⟩,x3⟩
theorem ia.take {h:T ag}{oa:Option Addr}{n cap:Nat}{l:List Int}{lo hi:Nat} (x:ia h (.slice oa n cap) l lo hi) {k:Nat} (hk:k=(l.take 4).length):ia h (.slice oa k cap) (l.take 4) lo hi:=by
 obtain⟨oa',cap',e,x0,x1,x2,x3⟩:=x
 simp only[Value.slice.injEq] at e
 obtain⟨rfl,rfl,rfl⟩:=e
 have hl:(l.take 4).length<=l.length:=by rw[List.length_take];omega
 refine⟨oa,cap,by rw[hk],by omega,?_,fun b hb=>x2 b (by cases oa<;>first|(cases hb;done)|exact hb),x3⟩
 have:=x1.cut (m:=(l.take 4).length) hl
 rw[<- List.map_take] at this
 have e4:l.take (l.take 4).length=l.take 4:=by
  rw[List.length_take]
  rcases Nat.le_total l.length 4 with q|q
  ·rw[Nat.min_eq_right q,List.take_length,List.take_of_length_le q]
  ·rw[Nat.min_eq_left q]
 rw[e4] at this
 exact this
theorem i8.arow {h:T ag}{c c':Nat}{v:Value}{l:List Int} (x:i8 h c v l) (hf:ai h c'):ia h v l c c':=by
 have hlt:=x.lt hf
 obtain⟨oa,rfl,x1,x2⟩:=x.val
 refine⟨oa,_,rfl,Nat.le_refl _,x1,fun b hb=>⟨x2 b hb,hlt b hb⟩,fun q hq=>?_⟩
 rcases x with⟨e,_⟩|⟨b,e,_⟩
 ·simp only[Value.slice.injEq] at e;rw[e.1] at hq;cases hq
 ·simp only[Value.slice.injEq] at e;rw[e.1] at hq;cases hq;exact .inr rfl
def tF:List Nat:=[0,1,2,3,8,9,10,11,12,13,14,16,18,20,42,51,66,79,80,81,82,91,92,93,94]
section
variable {h:T ag}{c:Nat}{rl wl:List Nat}{p m dim:Nat}{mt:Int}{G:Gr}{U:Nat->Prop}
set_option maxHeartbeats 64000000 in
theorem DL (hf:ai h c) (qm:gw h p m mt dim G U) (w:nC G) (hg:qN h) (hU0:∀b,U b->2<=b) (hmt:mt=1\/mt=2) (hd1:1<=dim) (hd:dim<=1000) (hml:G.M.length<=700) (id:Int) (hid : -9223372036854775808<=id/\id<=9223372036854775807) {a:Option Addr}{cap:Nat}{zs:List Int} (hv:bj h (.slice a dim cap) dim 1 (zs.map (Value.int .i32))) (hz:zs.length=dim) (hb:gc zs) (hvU:∀b,au (.slice a dim cap)=some b->¬U b) {dw:Int} (hdw:0<=dw/\dw<4294967296) (R:Nat->Prop) (hUR:∀b,U b->R b) (hR0:R 0) (hvR:∀b,au (.slice a dim cap)=some b->R b) :
  ∃r s',aE (Cs bD) eg 19 [.pointer (some ⟨p,0,none⟩),.int .i64 id,.slice a dim cap,.int .u32 dw] ⟨h,c,rl,wl⟩ r s'/\gw s'.h p m mt dim (sx mt G id zs dw) (fun b=>U b\/c<=b/\b<s'.c)/\bA ⟨h,c,rl,wl⟩ s' R U:=by
 have hbg:dv=1048576:=rfl
 have hwf:rq id=true:=by unfold rq;rw[decide_eq_true hid.1,decide_eq_true hid.2];rfl
 refine Fn.go (aU 19 rfl) Oa MQ M7 rfl rfl ?_
 refine cg ?_
 refine aq ?_
 refine ax.call rfl rfl (DS aO qm w hmt hd (by omega) id R hUR) ?_
 rintro v1 h1 c1 r1 w1 ⟨⟨rfl,qm1⟩,hext1⟩
 have fr1:=hext1.fresh
 have le1:=hext1.c
 simp only at fr1 le1 qm1
 have kp1:=Kp.ext (W:=U) (h:=h) (c:=c) bW hext1 (by omega) (fun b hb q=>q)
 have lr1:=Lg.extR (R:=R) (c:=c) az hext1 (fun b hb q=>q)
 have lw1:=Lg.extW (W:=U) (c:=c) az hext1 (fun b hb q=>q)
 have w1':=w.del (mt:=mt) id
 have hnone:aK id (ga mt G id).M=none:=by
  unfold ga
  cases hr:aK id G.M with
  |none=>exact hr
  |some r=>show aK id (jI id G.M)=none;rw[iJ,if_pos rfl]
 have hlen1:(ga mt G id).M.length<=700:=by
  unfold ga
  cases hr:aK id G.M with
  |none=>exact hml
  |some r=>exact Nat.le_trans (List.length_filter_le _ _) hml
 unfold sx
 generalize ga mt G id=G1 at qm1 w1' hnone hlen1
 have hout:=w1'.lw.out hnone
 have hUR1:∀b,(U b\/c<=b/\b<c1)->c<=b\/R b:=fun b q=>q.elim (fun q=>.inr (hUR b q)) (fun q=>.inl q.1)
 refine aq ?_
 refine ax.call rfl rfl (qu aO qm1 (by omega)) ?_
 rintro v2 h2 c2 r2 w2 ⟨rfl,hext2⟩
 have fr2:=hext2.fresh
 have le2:=hext2.c
 simp only at fr2 le2
 have kp2:=Kp.ext (W:=U) (h:=h) (c:=c) kp1 hext2 (by omega) (fun b hb q=>q.elim)
 have lr2:=Lg.extR (R:=R) (c:=c) az hext2 (fun b hb q=>(hUR1 b q).elim (fun q=>by omega) (fun q=>q))
 have lw2:=Lg.extW (W:=U) (c:=c) az hext2 (fun b hb q=>q.elim)
 have kA:∀b,b<c1->h2.get b=h1.get b:=fun b hb=>hext2.h b hb (fun q=>q)
 have lv:∀b,au (.slice a dim cap)=some b->b<c:=by
  rcases hv with⟨e0,_⟩|⟨b,o,sp,cap',cs,e1,e2,e3⟩
  ·omega
  ·intro b' hb';rw[e1] at hb';cases hb';exact e2.lt hf
 have rowk:∀ {hh:T ag},(∀b,b<c->¬U b->hh.get b=h.get b)->bj hh (.slice a dim cap) dim 1 (zs.map (Value.int .i32)):=by
  intro hh kk
  rcases hv with⟨e0,_⟩|⟨b,o,sp,cap',cs,e1,e2,e3⟩
  ·omega
  ·refine .inr ⟨b,o,sp,cap',cs,e1,?_,e3⟩
   have e4:au (.slice a dim cap)=some b:=by rw[e1];rfl
   have:=kk b (lv b e4) (hvU b e4)
   exact e2.imp this.trans (Or.imp this.trans this.trans)
 refine aq ?_
 refine ax.call rfl rfl (jR aU aO (rowk kp2) (by unfold vV;omega) (fun e=>by omega) (fun b=>au (.slice a dim cap)=some b) (fun b o sp n' cap' e=>by rw[e];rfl)) ?_
 rintro v3 h3 c3 r3 w3 ⟨hown,hext3⟩
 have fr3:=hext3.fresh
 have le3:=hext3.c
 simp only at fr3 le3 hown
 have kp3:=Kp.ext (W:=U) (h:=h) (c:=c) kp2 hext3 (by omega) (fun b hb q=>q.elim)
 have lr3:=Lg.extR (R:=R) (c:=c) az hext3 (fun b hb q=>hvR b q)
 have lw3:=Lg.extW (W:=U) (c:=c) az hext3 (fun b hb q=>q.elim)
 have kB:∀b,b<c1->h3.get b=h1.get b:=fun b hb=>(hext3.h b (by show b<c2;omega) (fun q=>q)).trans (kA b hb)
 have l0:0<c/\1<c:=⟨hg.g0.lt hf,hg.g1.lt hf⟩
 have nU0:¬U 0/\¬U 1:=⟨fun q=>by have:=hU0 0 q;omega,fun q=>by have:=hU0 1 q;omega⟩
 have hg3:qN h3:=⟨(kp3 0 l0.1 nU0.1).trans hg.g0,(kp3 1 l0.2 nU0.2).trans hg.g1⟩
 refine aq ?_
 refine ax.call rfl rfl (Av aO hg3 hdw R hR0) ?_
 rintro v4 h4 c4 r4 w4 ⟨⟨rfl,e4,e4'⟩,hext4⟩
 simp only at e4 e4'
 subst e4 e4'
 have lr4:=Lg.extR (R:=R) (c:=c) az hext4 (fun b hb q=>q)
 have lw4:=Lg.extW (W:=U) (c:=c) az hext4 (fun b hb q=>q.elim)
 obtain⟨va,vk,rfl⟩:=hown.val
 obtain⟨ow1,q1⟩:=(qm1.low fr1).keep fr1 (fun b _ hb=>kB b hb)
 obtain⟨es,n,hm,⟨ids,hk⟩,hfit⟩:=q1.ex
 have hp4:=q1.ptr
 obtain⟨lp,lm⟩:=q1.lt fr3
 have hlv:=pD dw
 generalize bR dw=lvl at hlv
 refine aq ?_
 refine ax.st0 (ef (v:=.pointer (some ⟨c4,0,none⟩)) (pk rfl) rfl rfl rfl (hm.other (by omega)) (by omega) hk.ks) ?_
 have ownU:∀b,au (.slice va dim vk)=some b->c2<=b/\b<c4:=fun b hb=>⟨(hown.blk hb).1,(hown.blk hb).2.lt fr3⟩
 have q2:=(q1.keep (h':=h4.set c4 (some (.cells (gC (.slice va dim vk) (lvl:Int) (fun _=>.slice none 0 0))))) fr3 (fun b _ hb=>am (by omega)))
 have q3:=q2.put (ai.new fr3) (id:=id) (hm.other (by omega)) hk (fun x=>(hfit x).keep fr3 (fun b q _=>q) (fun _ _ _=>rfl) (fun _ _=>rfl) (fun b _ hb _ _=>am (by omega))) hwf hout (nb:=c4) (vv:=.slice va dim vk) (zs:=zs) (lv:=(lvl:Int)) ay.same (fun q=>by have:=q.2;omega) ((hown.low (Nat.zero_le _)).keep fun b hb=>am (by have:=ownU b hb;omega)) (fun b hb=>⟨fun q=>by have:=q.2;have:=ownU b hb;omega,by have:=ownU b hb;omega⟩) hz hb ⟨by omega,by omega⟩
 have hL0:∀b,((U b\/c<=b/\b<c1)/\b<c1\/b=c4\/au (.slice va dim vk)=some b)->U b\/c<=b:=fun b q=>by
  rcases q with⟨q|q,_⟩|q|q
  ·exact .inl q
  ·exact .inr q.1
  ·exact .inr (by omega)
  ·exact .inr (by have:=ownU b q;omega)
 have hL1:∀b,((U b\/c<=b/\b<c1)/\b<c1\/b=c4\/au (.slice va dim vk)=some b)->b<c4+1:=fun b q=>by
  rcases q with⟨_,q⟩|q|q
  ·omega
  ·omega
  ·have:=ownU b q;omega
 have hG2l:(cJ (qp id zs (lvl:Int)) G1.M).length<=800:=by have:=ya (qp id zs (lvl:Int)) G1.M;omega
 have wm:c<=m\/U m:=by
  rcases q1.mU.1 with q|q
  ·exact .inr q
  ·exact .inl q.1
 have rm:c<=m\/R m:=wm.imp (fun q=>q) (fun q=>hUR m q)
 have rp:c<=p\/R p:=by
  rcases q1.pU.1 with q|q
  ·exact .inr (hUR p q)
  ·exact .inl q.1
 have hpm:p≠m:=fun e=>by have:=q1.po;rw[e,q1.mo] at this;simp at this
 change gw ((h4.set c4 (some (.cells [.slice va dim vk,.int .i64 (lvl:Int),.slice none 0 0,.slice none 0 0,.slice none 0 0,.slice none 0 0,.slice none 0 0]))).set m (some (.map (eH .i64 id (.pointer (some ⟨c4,0,none⟩)) n es).1 (eH .i64 id (.pointer (some ⟨c4,0,none⟩)) n es).2))) p m mt dim _ _ at q3
 have hnode:ay ((h4.set c4 (some (.cells [.slice va dim vk,.int .i64 (lvl:Int),.slice none 0 0,.slice none 0 0,.slice none 0 0,.slice none 0 0,.slice none 0 0]))).set m (some (.map (eH .i64 id (.pointer (some ⟨c4,0,none⟩)) n es).1 (eH .i64 id (.pointer (some ⟨c4,0,none⟩)) n es).2))) c4 (.cells [.slice va dim vk,.int .i64 (lvl:Int),.slice none 0 0,.slice none 0 0,.slice none 0 0,.slice none 0 0,.slice none 0 0]):=ay.other (by omega) ay.same
 have kp5:Kp h ((h4.set c4 (some (.cells [.slice va dim vk,.int .i64 (lvl:Int),.slice none 0 0,.slice none 0 0,.slice none 0 0,.slice none 0 0,.slice none 0 0]))).set m (some (.map (eH .i64 id (.pointer (some ⟨c4,0,none⟩)) n es).1 (eH .i64 id (.pointer (some ⟨c4,0,none⟩)) n es).2))) c U:=bW
 have fr5:ai ((h4.set c4 (some (.cells [.slice va dim vk,.int .i64 (lvl:Int),.slice none 0 0,.slice none 0 0,.slice none 0 0,.slice none 0 0,.slice none 0 0]))).set m (some (.map (eH .i64 id (.pointer (some ⟨c4,0,none⟩)) n es).1 (eH .i64 id (.pointer (some ⟨c4,0,none⟩)) n es).2))) (c4+1):=ai.put (by omega) (ai.new fr3)
 generalize (h4.set c4 (some (.cells [.slice va dim vk,.int .i64 (lvl:Int),.slice none 0 0,.slice none 0 0,.slice none 0 0,.slice none 0 0,.slice none 0 0]))).set m (some (.map (eH .i64 id (.pointer (some ⟨c4,0,none⟩)) n es).1 (eH .i64 id (.pointer (some ⟨c4,0,none⟩)) n es).2))=h5 at q3 hnode kp5 fr5 ⊢
 generalize hG2:(⟨cJ (qp id zs (lvl:Int)) G1.M,G1.L⟩:Gr)=G2 at q3
 generalize hV0:(fun b=>(U b\/c<=b/\b<c1)/\b<c1\/b=c4\/au (.slice va dim vk)=some b)=V0 at q3
 have hV1:∀b,V0 b->U b\/c<=b:=by rw[<- hV0];exact hL0
 have hV2:∀b,V0 b->b<c4+1:=by rw[<- hV0];exact hL1
 have lrm:Lg c R (m::p::r4):=az
 have lwm:Lg c U (m::w4):=az
 have hidM:∃r,aK id G2.M=some r:=by
  rw[<- hG2]
  exact⟨_,by rw[ek];exact if_pos rfl⟩
 have hent:0<=(bg G1.M).2->∃r,aK (bg G1.M).1 G2.M=some r:=fun hu=>by
  obtain⟨r,hr,_⟩:=lx w1' hu
  rw[<- hG2]
  show ∃r,aK _ (cJ (qp id zs (lvl:Int)) G1.M)=some r
  rw[ek]
  by_cases e:(qp id zs (lvl:Int)).id=(bg G1.M).1
  ·exact⟨_,if_pos e⟩
  ·exact⟨r,by rw[if_neg e];exact hr⟩
 obtain⟨hrng1,hrng2⟩:=vH w1'
 have hG2l':G2.M.length<=800:=by rw[<- hG2];exact hG2l
 generalize bg G1.M=en at hent hrng1 hrng2 ⊢
 obtain⟨ent,up⟩:=en
 simp only at hent hrng1 hrng2
 by_cases hup:up<0
 ·refine aq ?_
  refine⟨.inr rfl,aG.nil ⟨?_,bM⟩⟩
  show gw h5 p m mt dim (if up<0 then G2 else _) (fun b=>U b\/c<=b/\b<c4+1)
  rw[if_pos hup]
  exact(q3.low fr5).wide fr5 (fun b hb=>(hV1 b hb.1).imp (fun e=>e) (fun e=>⟨e,hb.2⟩))
 obtain⟨upn,rfl⟩:∃n:Nat,up=(n:Int):=⟨up.toNat,by omega⟩
 have hent':=hent (by omega)
 have l0m:=fun b (hb:au (.slice a dim cap)=some b)=>lv b hb
 have hrow5:∀ {hh:T ag},Kp h hh c U->bj hh (.slice a dim cap) dim 1 (zs.map (Value.int .i32)):=fun k=>rowk k
 have hmem2:∀x l y,y∈G2.L x l->∃r,aK y G2.M=some r:=by obtain⟨_,q⟩:=q3;exact q.mem
 have hRV:∀b,V0 b->c<=b\/R b:=fun b hb=>(hV1 b hb).elim (fun e=>.inr (hUR b e)) (fun e=>.inl e)
 refine aq ?_
 refine Wx.cutO (fun e s=>∃(g:Nat->Value) (h':T ag) (c':Nat) (rl' wl':List Nat) (av:Value) (al:List Int),e=fr g [(0,.pointer (some ⟨p,0,none⟩)),(1,.int .i64 id),(2,.slice a dim cap),(9,.int .i64 (upn:Int)),(10,.pointer (some ⟨c4,0,none⟩)),(11,av)] tF/\s=⟨h',c',rl',wl'⟩/\c4+1<=c'/\ai h' c'/\Kp h h' c U/\ay h' c4 (.cells [.slice va dim vk,.int .i64 (lvl:Int),.slice none 0 0,.slice none 0 0,.slice none 0 0,.slice none 0 0,.slice none 0 0])/\gw h' p m mt dim G2 V0/\ia h' av al (c4+1) c'/\al=fy mt G2 zs lvl upn [ent]/\(∀y∈al,∃r,aK y G2.M=some r)/\al.length<=8/\Lg c R rl'/\Lg c U wl') iY ?_ ?_
 ·refine Wx.loopF (fun k1 e s=>∃(g:Nat->Value) (k:Nat) (z:Int) (h':T ag) (c':Nat) (rl' wl':List Nat) (av:Value) (al:List Int),e=fr g [(0,.pointer (some ⟨p,0,none⟩)),(1,.int .i64 id),(2,.slice a dim cap),(9,.int .i64 (upn:Int)),(10,.pointer (some ⟨c4,0,none⟩)),(11,av),(12,.int .i64 z)] tF/\z=k/\s=⟨h',c',rl',wl'⟩/\c4+1<=c'/\ai h' c'/\Kp h h' c U/\ay h' c4 (.cells [.slice va dim vk,.int .i64 (lvl:Int),.slice none 0 0,.slice none 0 0,.slice none 0 0,.slice none 0 0,.slice none 0 0])/\gw h' p m mt dim G2 V0/\ia h' av al (c4+1) c'/\fy mt G2 zs lvl k al=fy mt G2 zs lvl upn [ent]/\(∀y∈al,∃r,aK y G2.M=some r)/\al.length<=8/\Lg c R rl'/\Lg c U wl'/\k<=4/\k=k1) upn tF [(0,_),(1,_),(2,_),(9,_),(10,_),(11,_),(12,_)] ⟨_,upn,_,_,_,_,_,_,[ent],rfl,rfl,rfl,by omega,aO,bW,hnode.other (by omega),q3.keep fr5 (fun b hb hc=>am (by omega)),⟨_,_,rfl,Nat.le_refl _,.inr ⟨c4+1,0,none,1,_,rfl,ay.same.cel,rfl⟩,(fun b hb=>by cases hb;exact⟨Nat.le_refl _,Nat.lt_succ_self _⟩),fun q hq=>by cases hq;exact .inl rfl⟩,rfl,(fun y hy=>by rw[List.mem_singleton.1 hy];exact hent'),by simp,az,az,by omega,rfl⟩ ?_
  rintro k1 e s ⟨g,k,z,h',c',rl',wl',av,al,rfl,hz1,rfl,hcc,hf',hkp,hnd,qm',hA,hdn,hal,hal8,hlr,hlw,hk4,rfl⟩
  subst hz1
  (refine Wx.sw (by simp only[tF,i5,i6,dC,dB,Nat.reduceEqDiff,↓reduceIte];rfl) ?_)
  have lnd:=hnd.lt hf'
  by_cases hk:lvl<k
  rotate_left
  ·refine aq ?_
   exact di.goF tF [(0,_),(1,_),(2,_),(9,_),(10,_),(11,_)] ⟨_,_,_,_,_,av,al,rfl,rfl,hcc,hf',hkp,hnd,qm',hA,by rw[<- hdn,kq (by omega)],hal,hal8,az,az⟩
  obtain⟨k,rfl⟩:∃k',k=k'+1:=⟨k - 1,by omega⟩
  obtain⟨oa,ca,rfl,_,hrA,hAb,_⟩:=hA
  obtain⟨hlm,hll⟩:=nU (mt:=mt) (q:=zs) (l:=k+1) (n:=1) (fun x y=>hmem2 x (k+1) y) hal
  refine aq ?_
  refine ax.call rfl rfl (mX aO qm' hmt (hrow5 hkp) hz hb hd (l:=k+1) hk4 hrA hal (by omega) (n:=1) (by omega) hG2l' (fun b=>c<=b\/R b) hRV (fun b hb=>.inr (hvR b hb)) (fun b hb=>.inl (by have:=hAb b hb;omega))) ?_
  rintro v6 h6 c6 r6 w6 ⟨hI,hext6⟩
  have fr6:=hext6.fresh
  have le6:=hext6.c
  simp only at fr6 le6 hI
  have kp6:=Kp.ext (W:=U) (h:=h) (c:=c) hkp hext6 (by omega) (fun b hb q=>q.elim)
  have lr6:=Lg.extR (R:=R) (c:=c) az hext6 (fun b hb q=>q.elim (fun q=>by omega) (fun q=>q))
  have lw6:=Lg.extW (W:=U) (c:=c) az hext6 (fun b hb q=>q.elim)
  have hnd6:=hext6.hs hnd lnd (fun q=>q)
  have qm6:=qm'.keep hf' (fun b _ hb=>hext6.h b hb (fun q=>q))
  refine aq ?_
  exact aC.goF k tF [(0,_),(1,_),(2,_),(9,_),(10,_),(11,_),(12,.int .i64 (((k+1:Nat):Int) - 1))] (by omega) ⟨_,k,_,_,_,_,_,_,b7 mt G2 zs (k+1) al 1,rfl,by omega,rfl,by omega,fr6,kp6,hnd6,qm6,(hI.arow fr6).lo hcc,by rw[<- i4 hk];exact hdn,hlm,by omega,lr6,lw6,by omega,rfl⟩
 rintro e s ⟨g,h',c',rl',wl',av,al,rfl,rfl,hcc,hf',hkp,hnd,qm',hA,hal0,hal,hal8,hlr,hlw⟩
 (refine Wx.sw (by simp only[tF,i5,i6,dC,dB,Nat.reduceEqDiff,↓reduceIte];rfl) ?_)
 have lnd:=hnd.lt hf'
 show Wx _ _ _ _ _ _ _
 have hfin:(if(upn:Int)<0 then G2 else ng mt id zs (min lvl (upn:Int).toNat) G2 (fy mt G2 zs lvl (upn:Int).toNat [ent]))=zg mt id zs (min lvl upn+1) G2 al:=by
  rw[if_neg (by omega),hal0];rfl
 refine aq ?_
 refine Wx.loopF (fun k1 e s=>∃(g:Nat->Value) (n:Nat) (z:Int) (h':T ag) (c':Nat) (rl' wl':List Nat) (av:Value) (al':List Int) (G':Gr) (V:Nat->Prop) (lo hi:Nat),e=fr g [(0,.pointer (some ⟨p,0,none⟩)),(1,.int .i64 id),(2,.slice a dim cap),(11,av),(13,.int .i64 z)] tF/\z=(n:Int) - 1/\s=⟨h',c',rl',wl'⟩/\c4+1<=lo/\hi<=c'/\c4+1<=c'/\ai h' c'/\Kp h h' c U/\zg mt id zs n G' al'=zg mt id zs (min lvl upn+1) G2 al/\G'.M=G2.M/\gw h' p m mt dim G' V/\(∀b,V b->U b\/c<=b)/\(∀b,V b->b<c')/\(∀b,V b->b<lo\/hi<=b)/\ia h' av al' lo hi/\(∀y∈al',∃r,aK y G2.M=some r)/\al'.length<=8/\Lg c R rl'/\Lg c U wl'/\n<=5/\n=k1) (min lvl upn+1) tF [(0,_),(1,_),(2,_),(11,_),(13,.int .i64 (min (lvl:Int) (upn:Int)))] ⟨_,min lvl upn+1,_,_,_,_,_,av,al,G2,V0,c4+1,c',rfl,by omega,rfl,Nat.le_refl _,Nat.le_refl _,hcc,hf',hkp,rfl,rfl,qm',hV1,(fun b hb=>by have:=hV2 b hb;omega),(fun b hb=>.inl (hV2 b hb)),hA,hal,hal8,az,az,by omega,rfl⟩ ?_
 rintro k1 e s ⟨g,n,z,h',c',rl',wl',av,al',G',V,lo,hi,rfl,hz1,rfl,hlo,hhi,hcc,hf',hkp,hgr,hGM,qm',hW1,hW2,hW3,hA,hal,hal8,hlr,hlw,hn5,rfl⟩
 (refine Wx.sw (by simp only[tF,i5,i6,dC,dB,Nat.reduceEqDiff,↓reduceIte];rfl) ?_)
 cases n with
 |zero =>
  refine aq ?_
  refine⟨.inl rfl,aG.nil ⟨?_,bM⟩⟩
  show gw h' p m mt dim (if(upn:Int)<0 then G2 else ng mt id zs (min lvl (upn:Int).toNat) G2 (fy mt G2 zs lvl (upn:Int).toNat [ent])) (fun b=>U b\/c<=b/\b<c')
  rw[hfin,<- hgr]
  exact(qm'.low hf').wide hf' (fun b hb=>(hW1 b hb.1).imp (fun e=>e) (fun e=>⟨e,hb.2⟩))
 |succ l =>
 obtain rfl:z=(l:Int):=by omega
 obtain⟨oa,ca,rfl,_,hrA,hAb,_⟩:=hA
 have hmem':∀x k y,y∈G'.L x k->∃r,aK y G'.M=some r:=by obtain⟨_,q⟩:=qm';exact q.mem
 have hal':∀y∈al',∃r,aK y G'.M=some r:=by rw[hGM];exact hal
 obtain⟨hlm,hll⟩:=nU (mt:=mt) (q:=zs) (l:=l) (n:=8) (fun x y=>hmem' x l y) hal'
 have hRV':∀b,V b->c<=b\/R b:=fun b hb=>(hW1 b hb).elim (fun e=>.inr (hUR b e)) (fun e=>.inl e)
 have hGl:G'.M.length<=800:=by rw[hGM];exact hG2l'
 rw[Br] at hgr
 refine aq ?_
 refine ax.call rfl rfl (mX aO qm' hmt (hrow5 hkp) hz hb hd (l:=l) (by omega) hrA hal' (by omega) (n:=8) (by omega) hGl (fun b=>c<=b\/R b) hRV' (fun b hb=>.inr (hvR b hb)) (fun b hb=>.inl (by have:=hAb b hb;omega))) ?_
 rintro v6 h6 c6 r6 w6 ⟨hI,hext6⟩
 have fr6:=hext6.fresh
 have le6:=hext6.c
 simp only at fr6 le6 hI
 have kp6:=Kp.ext (W:=U) (h:=h) (c:=c) hkp hext6 (by omega) (fun b hb q=>q.elim)
 have lr6:=Lg.extR (R:=R) (c:=c) az hext6 (fun b hb q=>q.elim (fun q=>by omega) (fun q=>q))
 have lw6:=Lg.extW (W:=U) (c:=c) az hext6 (fun b hb q=>q.elim)
 have qm6:=qm'.keep hf' (fun b _ hb=>hext6.h b hb (fun q=>q))
 have hA6:=hI.arow fr6
 generalize b7 mt G' zs l al' 8=L8 at hgr hlm hll hA6
 have hA6':=hA6
 obtain⟨o6,k6,rfl,hk6,_,_,hsp6⟩:=hA6'
 have hnl:(L8.take 4).length=min 4 L8.length:=List.length_take
 have hAn:=hA6.take (k:=(L8.take 4).length) rfl
 have hnm:∀y∈L8.take 4,∃r,aK y G'.M=some r:=fun y hy=>hlm y (List.mem_of_mem_take hy)
 have hidG:∃r,aK id G'.M=some r:=by rw[hGM];exact hidM
 have hGr:⟨G'.M,fK mt G'.M l G'.L id (L8.take 4)⟩=(⟨G'.M,(L8.take 4).foldl (eb mt G'.M l) ((L8.take 4).foldl (fun L y=>eJ l L id y) G'.L)⟩:Gr):=rfl
 rw[hGr] at hgr
 refine aq ?_
 refine Zu (cD (k:=(L8.take 4).length) ct rfl rfl (by omega) (by omega) hsp6) ?_
 refine aq ?_
 generalize hNR:L8.take 4=NR at hnl hAn hnm hgr
 refine Wx.cutO (fun e s=>∃(g:Nat->Value) (h3:T ag) (c3:Nat) (rl' wl':List Nat) (V3:Nat->Prop),e=fr g [(0,.pointer (some ⟨p,0,none⟩)),(1,.int .i64 id),(2,.slice a dim cap),(11,.slice o6 L8.length k6),(13,.int .i64 (l:Int)),(14,.slice o6 NR.length k6)] tF/\s=⟨h3,c3,rl',wl'⟩/\c6<=c3/\ai h3 c3/\Kp h h3 c U/\gw h3 p m mt dim ⟨G'.M,NR.foldl (fun L y=>eJ l L id y) G'.L⟩ V3/\(∀b,V3 b->U b\/c<=b)/\(∀b,V3 b->b<c3)/\(∀b,V3 b->b<c'\/c6<=b)/\ia h3 (.slice o6 L8.length k6) L8 c' c6/\ia h3 (.slice o6 NR.length k6) NR c' c6/\Lg c R rl'/\Lg c U wl') iY ?_ ?_
 ·refine Wx.loopF (fun k2 e s=>∃(g:Nat->Value) (j:Nat) (zj:Int) (h3:T ag) (c3:Nat) (rl' wl':List Nat) (V3:Nat->Prop),e=fr g [(0,.pointer (some ⟨p,0,none⟩)),(1,.int .i64 id),(2,.slice a dim cap),(11,.slice o6 L8.length k6),(13,.int .i64 (l:Int)),(14,.slice o6 NR.length k6),(79,.slice o6 NR.length k6),(80,.int .i64 (NR.length:Int)),(81,.int .i64 zj)] tF/\zj=j/\s=⟨h3,c3,rl',wl'⟩/\c6<=c3/\ai h3 c3/\Kp h h3 c U/\gw h3 p m mt dim ⟨G'.M,(NR.take j).foldl (fun L y=>eJ l L id y) G'.L⟩ V3/\(∀b,V3 b->U b\/c<=b)/\(∀b,V3 b->b<c3)/\(∀b,V3 b->b<c'\/c6<=b)/\ia h3 (.slice o6 L8.length k6) L8 c' c6/\ia h3 (.slice o6 NR.length k6) NR c' c6/\Lg c R rl'/\Lg c U wl'/\j<=NR.length/\k2=NR.length - j) NR.length tF [(0,_),(1,_),(2,_),(11,_),(13,_),(14,_),(79,_),(80,_),(81,.int .i64 0)] ⟨_,0,0,_,_,_,_,V,rfl,rfl,rfl,Nat.le_refl _,fr6,kp6,qm6,hW1,(fun b hb=>by have:=hW2 b hb;omega),(fun b hb=>.inl (hW2 b hb)),hA6,hAn,az,az,by omega,rfl⟩ ?_
  rintro k2 e s ⟨g,j,zj,h3,c3,rl3,wl3,V3,rfl,hzj,rfl,hc3,hf3,hkp3,qm3,hX1,hX2,hX3,hB1,hB2,hlr3,hlw3,hjl,rfl⟩
  (refine Wx.sw (by simp only[tF,i5,i6,dC,dB,Nat.reduceEqDiff,↓reduceIte];rfl) ?_)
  by_cases hj:j<NR.length
  rotate_left
  ·refine aq ?_
   obtain rfl:j=NR.length:=by omega
   rw[List.take_length] at qm3
   exact di.goF tF [(0,_),(1,_),(2,_),(11,_),(13,_),(14,_)] ⟨_,_,_,_,_,V3,rfl,rfl,hc3,hf3,hkp3,qm3,hX1,hX2,hX3,hB1,hB2,az,az⟩
  have hB2':=hB2
  obtain⟨_,_,e,_,hrN,hNb,_⟩:=hB2'
  simp only[Value.slice.injEq] at e
  obtain⟨rfl,_,rfl⟩:=e
  obtain⟨b1,o1,sp1,cs1,rfl,hc1,hn1⟩:=bp hrN (j:=j*1) (by omega) (fi (List.getElem?_eq_getElem hj))
  have hb1:=hNb b1 rfl
  have l1:=hc1.lt hf3
  have hst:=eX (fun L y=>eJ l L id y) G'.L hj
  have hRV3:∀b,V3 b->c<=b\/R b:=fun b hb=>(hX1 b hb).elim (fun e=>.inr (hUR b e)) (fun e=>.inl e)
  generalize hLj:(NR.take j).foldl (fun L y=>eJ l L id y) G'.L=Lj at qm3 hst
  refine aq ?_
  refine Zu (aj (k:=j) ct rfl rfl hzj (by omega)) ?_
  refine Zu (aB (dV rfl) rfl hc1 (by omega) hn1) ?_
  refine aq ?_
  refine ax.call rfl rfl (u7 aO qm3 hGl (by omega) hidG (hnm _ (List.getElem_mem hj)) (fun b=>c<=b\/R b) hRV3) ?_
  rintro v7 h7 c7 r7 w7 ⟨qm7,hext7⟩
  have fr7:=hext7.fresh
  have le7:=hext7.c
  simp only at fr7 le7 qm7
  have kp7:=Kp.ext (W:=U) (h:=h) (c:=c) hkp3 hext7 (by omega) (fun b hb q=>(hX1 b q).elim (fun e=>e) (fun e=>by omega))
  have lr7:=Lg.extR (R:=R) (c:=c) az hext7 (fun b hb q=>q.elim (fun q=>by omega) (fun q=>q))
  have lw7:=Lg.extW (W:=U) (c:=c) az hext7 (fun b hb q=>(hX1 b q).elim (fun e=>e) (fun e=>by omega))
  have kr:∀b,c'<=b->b<c6->h7.get b=h3.get b:=fun b h1 h2=>hext7.h b (by show b<c3;omega) (fun q=>by rcases hX3 b q with e|e<;>omega)
  refine aq ?_
  exact aC.goF (NR.length - (j+1)) tF [(0,_),(1,_),(2,_),(11,_),(13,_),(14,_),(79,_),(80,_),(81,.int .i64 (zj+1))] (by omega) ⟨_,j+1,zj+1,_,_,_,_,(fun b=>V3 b\/c3<=b/\b<c7),rfl,by omega,rfl,by omega,fr7,kp7,by rw[hst];exact qm7,(fun b hb=>hb.elim (hX1 b) (fun e=>.inr (by omega))),(fun b hb=>hb.elim (fun e=>by have:=hX2 b e;omega) (fun e=>e.2)),(fun b hb=>hb.elim (hX3 b) (fun e=>.inr (by omega))),hB1.keep kr,hB2.keep kr,lr7,lw7,by omega,rfl⟩
 rintro e s ⟨g,h3,c3,rl3,wl3,V3,rfl,rfl,hc3,hf3,hkp3,qm3,hX1,hX2,hX3,hB1,hB2,hlr3,hlw3⟩
 (refine Wx.sw (by simp only[tF,i5,i6,dC,dB,Nat.reduceEqDiff,↓reduceIte];rfl) ?_)
 refine aq ?_
 refine Wx.loopF (fun k2 e s=>∃(g:Nat->Value) (j:Nat) (zj:Int) (h4:T ag) (c4':Nat) (rl' wl':List Nat) (V4:Nat->Prop),e=fr g [(0,.pointer (some ⟨p,0,none⟩)),(1,.int .i64 id),(2,.slice a dim cap),(11,.slice o6 L8.length k6),(13,.int .i64 (l:Int)),(14,.slice o6 NR.length k6),(91,.slice o6 NR.length k6),(92,.int .i64 (NR.length:Int)),(93,.int .i64 zj)] tF/\zj=j/\s=⟨h4,c4',rl',wl'⟩/\c6<=c4'/\ai h4 c4'/\Kp h h4 c U/\gw h4 p m mt dim ⟨G'.M,(NR.take j).foldl (eb mt G'.M l) (NR.foldl (fun L y=>eJ l L id y) G'.L)⟩ V4/\(∀b,V4 b->U b\/c<=b)/\(∀b,V4 b->b<c4')/\(∀b,V4 b->b<c'\/c6<=b)/\ia h4 (.slice o6 L8.length k6) L8 c' c6/\ia h4 (.slice o6 NR.length k6) NR c' c6/\Lg c R rl'/\Lg c U wl'/\j<=NR.length/\k2=NR.length - j) NR.length tF [(0,_),(1,_),(2,_),(11,_),(13,_),(14,_),(91,_),(92,_),(93,.int .i64 0)] ⟨_,0,0,_,_,_,_,V3,rfl,rfl,rfl,hc3,hf3,hkp3,qm3,hX1,hX2,hX3,hB1,hB2,az,az,by omega,rfl⟩ ?_
 rintro k2 e s ⟨g,j,zj,h3,c3,rl3,wl3,V3,rfl,hzj,rfl,hc3,hf3,hkp3,qm3,hX1,hX2,hX3,hB1,hB2,hlr3,hlw3,hjl,rfl⟩
 (refine Wx.sw (by simp only[tF,i5,i6,dC,dB,Nat.reduceEqDiff,↓reduceIte];rfl) ?_)
 by_cases hj:j<NR.length
 rotate_left
 ·refine aq ?_
  obtain rfl:j=NR.length:=by omega
  rw[List.take_length] at qm3
  exact aC.goF l tF [(0,_),(1,_),(2,_),(11,_),(13,.int .i64 ((l:Int) - 1))] (by omega) ⟨_,l,_,_,_,_,_,_,L8,_,V3,c',c6,rfl,rfl,rfl,hcc,hc3,by omega,hf3,hkp3,hgr,hGM,qm3,hX1,hX2,hX3,hB1,by rw[<- hGM];exact hlm,hll,az,az,by omega,rfl⟩
 have hB2':=hB2
 obtain⟨_,_,e,_,hrN,hNb,_⟩:=hB2'
 simp only[Value.slice.injEq] at e
 obtain⟨rfl,_,rfl⟩:=e
 obtain⟨b1,o1,sp1,cs1,rfl,hc1,hn1⟩:=bp hrN (j:=j*1) (by omega) (fi (List.getElem?_eq_getElem hj))
 have hb1:=hNb b1 rfl
 have l1:=hc1.lt hf3
 have hst:=eX (eb mt G'.M l) (NR.foldl (fun L y=>eJ l L id y) G'.L) hj
 have hRV3:∀b,V3 b->c<=b\/R b:=fun b hb=>(hX1 b hb).elim (fun e=>.inr (hUR b e)) (fun e=>.inl e)
 generalize hLj:(NR.take j).foldl (eb mt G'.M l) (NR.foldl (fun L y=>eJ l L id y) G'.L)=Lj at qm3 hst
 refine aq ?_
 refine Zu (aj (k:=j) ct rfl rfl hzj (by omega)) ?_
 refine Zu (aB (dV rfl) rfl hc1 (by omega) hn1) ?_
 refine aq ?_
 refine ax.call rfl rfl (z7 aO qm3 hmt hd hGl (by omega) (hnm _ (List.getElem_mem hj)) (fun b=>c<=b\/R b) hRV3) ?_
 rintro v7 h7 c7 r7 w7 ⟨qm7,hext7⟩
 have fr7:=hext7.fresh
 have le7:=hext7.c
 simp only at fr7 le7 qm7
 have kp7:=Kp.ext (W:=U) (h:=h) (c:=c) hkp3 hext7 (by omega) (fun b hb q=>(hX1 b q).elim (fun e=>e) (fun e=>by omega))
 have lr7:=Lg.extR (R:=R) (c:=c) az hext7 (fun b hb q=>q.elim (fun q=>by omega) (fun q=>q))
 have lw7:=Lg.extW (W:=U) (c:=c) az hext7 (fun b hb q=>(hX1 b q).elim (fun e=>e) (fun e=>by omega))
 have kr:∀b,c'<=b->b<c6->h7.get b=h3.get b:=fun b h1 h2=>hext7.h b (by show b<c3;omega) (fun q=>by rcases hX3 b q with e|e<;>omega)
 refine aq ?_
 exact aC.goF (NR.length - (j+1)) tF [(0,_),(1,_),(2,_),(11,_),(13,_),(14,_),(91,_),(92,_),(93,.int .i64 (zj+1))] (by omega) ⟨_,j+1,zj+1,_,_,_,_,(fun b=>V3 b\/c3<=b/\b<c7),rfl,by omega,rfl,by omega,fr7,kp7,by rw[hst];exact qm7,(fun b hb=>hb.elim (hX1 b) (fun e=>.inr (by omega))),(fun b hb=>hb.elim (fun e=>by have:=hX2 b e;omega) (fun e=>e.2)),(fun b hb=>hb.elim (hX3 b) (fun e=>.inr (by omega))),hB1.keep kr,hB2.keep kr,lr7,lw7,by omega,rfl⟩
end
end Go.Ab.Seat
end
section
namespace Go.Ab.Seat
open Go.Extern Go.Proofs
set_option maxRecDepth 4000
theorem Bn {mt:Int}{G:Gr}{q:List Int}{l n:Nat}{fs:List Int} (hm:∀x y,y∈G.L x l->∃r,aK y G.M=some r) (hf:∀y∈fs,∃r,aK y G.M=some r):(b7 mt G q l fs n).map (cK mt G.M q)=gI mt G q l fs n:=by
 obtain⟨s,g⟩:=rS (mt:=mt) (q:=q) (n:=n) hm hf
 unfold b7
 rw[List.map_map]
 conv=>rhs;rw[<- List.map_id (gI mt G q l fs n)]
 refine List.map_congr_left fun x hx=>?_
 exact(g.hit x hx).symm
def D5:List Nat:=[0,1,2,6,7,8,9,10,11,13,24,29,42,43,44,45]
section
variable {h:T ag}{c:Nat}{rl wl:List Nat}{p m dim:Nat}{mt:Int}{G:Gr}{U:Nat->Prop}
set_option maxHeartbeats 32000000 in
theorem wg (hf:ai h c) (qm:gw h p m mt dim G U) (w:nC G) (hmt:mt=1\/mt=2) (hd1:1<=dim) (hd:dim<=1000) (hml:G.M.length<=800) {qa:Option Addr}{qc:Nat}{qs:List Int} (hq:bj h (.slice qa dim qc) dim 1 (qs.map (Value.int .i32))) (hqn:qs.length=dim) (hqb:gc qs) (k:Int) {kk:Nat} (hk:max k 0=(kk:Int)) (hkk:kk<=700) (R:Nat->Prop) (hUR:∀b,U b->R b) (hqR:∀b,au (.slice qa dim qc)=some b->R b) :
  ∃r s',aE (Cs bD) eg 23 [.pointer (some ⟨p,0,none⟩),.slice qa dim qc,.int .i64 k] ⟨h,c,rl,wl⟩ r s'/\(eG s'.h r (mF mt G qs kk).length (aF (mF mt G qs kk))/\∀b,au r=some b->c<=b)/\bA ⟨h,c,rl,wl⟩ s' R (fun _=>False):=by
 have hbg:dv=1048576:=rfl
 have lq:∀b,au (.slice qa dim qc)=some b->b<c:=by
  rcases hq with⟨e0,_⟩|⟨b,o,sp,cap',cs,e1,e2,e3⟩
  ·omega
  ·intro b' hb';rw[e1] at hb';cases hb';exact e2.lt hf
 refine Fn.go (aU 23 rfl) Pu NK Pm rfl rfl ?_
 refine cg ?_
 refine aq ?_
 refine ax.call rfl rfl (qu aO qm (by omega)) ?_
 rintro v2 h2 c2 r2 w2 ⟨rfl,hext2⟩
 have fr2:=hext2.fresh
 have le2:=hext2.c
 simp only at fr2 le2
 have kp2:=Kp.ext (W:=fun _=>False) (h:=h) (c:=c) bW hext2 (by omega) (fun b hb q=>q)
 have lr2:=Lg.extR (R:=R) (c:=c) az hext2 (fun b hb q=>hUR b q)
 have lw2:=Lg.extW (W:=fun _=>False) (c:=c) az hext2 (fun b hb q=>q)
 obtain⟨hrng1,hrng2⟩:=vH w
 have hent:0<=(bg G.M).2->∃r,aK (bg G.M).1 G.M=some r:=fun hu=>by
  obtain⟨r,hr,_⟩:=lx w hu
  exact⟨r,hr⟩
 unfold mF
 generalize bg G.M=en at hent hrng1 hrng2 ⊢
 obtain⟨ent,up⟩:=en
 simp only at hent hrng1 hrng2
 by_cases hup:up<0
 ·refine aq ?_
  refine⟨.inr rfl,aG.one rfl ⟨⟨?_,fun b hb=>by cases hb⟩,bM⟩⟩
  show eG h2 (.slice none 0 0) (if up<0 then([]:List Ht) else _).length (aF (if up<0 then([]:List Ht) else _))
  rw[if_pos hup]
  exact .inl ⟨rfl,rfl,rfl⟩
 obtain⟨upn,rfl⟩:∃n:Nat,up=(n:Int):=⟨up.toNat,by omega⟩
 have hent':=hent (by omega)
 have hmem2:∀x l y,y∈G.L x l->∃r,aK y G.M=some r:=by obtain⟨_,q⟩:=qm;exact q.mem
 by_cases hk0:k<=0
 ·obtain rfl:kk=0:=by omega
  refine aq ?_
  refine⟨.inr rfl,aG.one rfl ⟨⟨?_,fun b hb=>by cases hb⟩,bM⟩⟩
  show eG h2 (.slice none 0 0) (if(upn:Int)<0 then([]:List Ht) else _).length (aF (if(upn:Int)<0 then([]:List Ht) else _))
  rw[if_neg (by omega),List.take_zero]
  exact .inl ⟨rfl,rfl,rfl⟩
 obtain rfl:k=(kk:Int):=by omega
 have rowk:∀ {hh:T ag},Kp h hh c (fun _=>False)->bj hh (.slice qa dim qc) dim 1 (qs.map (Value.int .i32)):=fun kp=>bj.keepF hq hf fun b hb=>kp b hb (fun q=>q)
 refine aq ?_
 refine Wx.cutO (fun e s=>∃(g:Nat->Value) (h':T ag) (c':Nat) (rl' wl':List Nat) (av:Value) (al:List Int),e=fr g [(0,.pointer (some ⟨p,0,none⟩)),(1,.slice qa dim qc),(2,.int .i64 (kk:Int)),(9,av)] D5/\s=⟨h',c',rl',wl'⟩/\c<=c'/\ai h' c'/\Kp h h' c (fun _=>False)/\ia h' av al c c'/\al=fy mt G qs 0 upn [ent]/\(∀y∈al,∃r,aK y G.M=some r)/\al.length<=8/\Lg c R rl'/\Lg c (fun _=>False) wl') iY ?_ ?_
 ·refine Wx.loopF (fun k1 e s=>∃(g:Nat->Value) (j:Nat) (z:Int) (h':T ag) (c':Nat) (rl' wl':List Nat) (av:Value) (al:List Int),e=fr g [(0,.pointer (some ⟨p,0,none⟩)),(1,.slice qa dim qc),(2,.int .i64 (kk:Int)),(9,av),(10,.int .i64 z)] D5/\z=j/\s=⟨h',c',rl',wl'⟩/\c<=c'/\ai h' c'/\Kp h h' c (fun _=>False)/\ia h' av al c c'/\fy mt G qs 0 j al=fy mt G qs 0 upn [ent]/\(∀y∈al,∃r,aK y G.M=some r)/\al.length<=8/\Lg c R rl'/\Lg c (fun _=>False) wl'/\j<=4/\j=k1) upn D5 [(0,_),(1,_),(2,_),(9,_),(10,_)] ⟨_,upn,_,_,_,_,_,_,[ent],rfl,rfl,rfl,by omega,aO,bW,⟨_,_,rfl,Nat.le_refl _,.inr ⟨c2,0,none,1,_,rfl,ay.same.cel,rfl⟩,(fun b hb=>by cases hb;exact⟨le2,Nat.lt_succ_self _⟩),fun q hq=>by cases hq;exact .inl rfl⟩,rfl,(fun y hy=>by rw[List.mem_singleton.1 hy];exact hent'),by simp,az,az,by omega,rfl⟩ ?_
  rintro k1 e s ⟨g,j,z,h',c',rl',wl',av,al,rfl,hz1,rfl,hcc,hf',hkp,hA,hdn,hal,hal8,hlr,hlw,hk4,rfl⟩
  subst hz1
  (refine Wx.sw (by simp only[D5,i5,i6,dC,dB,Nat.reduceEqDiff,↓reduceIte];rfl) ?_)
  cases j with
  |zero =>
   refine aq ?_
   exact di.goF D5 [(0,_),(1,_),(2,_),(9,_)] ⟨_,_,_,_,_,av,al,rfl,rfl,hcc,hf',hkp,hA,hdn,hal,hal8,az,az⟩
  |succ j =>
  obtain⟨oa,ca,rfl,_,hrA,hAb,_⟩:=hA
  obtain⟨hlm,hll⟩:=nU (mt:=mt) (q:=qs) (l:=j+1) (n:=1) (fun x y=>hmem2 x (j+1) y) hal
  refine aq ?_
  refine ax.call rfl rfl (mX aO (qm.keep hf (fun b _ hb=>hkp b hb (fun q=>q))) hmt (rowk hkp) hqn hqb hd (l:=j+1) hk4 hrA hal (by omega) (n:=1) (by omega) hml (fun b=>c<=b\/R b) (fun b hb=>.inr (hUR b hb)) (fun b hb=>.inr (hqR b hb)) (fun b hb=>.inl (hAb b hb).1)) ?_
  rintro v6 h6 c6 r6 w6 ⟨hI,hext6⟩
  have fr6:=hext6.fresh
  have le6:=hext6.c
  simp only at fr6 le6 hI
  have kp6:=Kp.ext (W:=fun _=>False) (h:=h) (c:=c) hkp hext6 (by omega) (fun b hb q=>q)
  have lr6:=Lg.extR (R:=R) (c:=c) az hext6 (fun b hb q=>q.elim (fun q=>by omega) (fun q=>q))
  have lw6:=Lg.extW (W:=fun _=>False) (c:=c) az hext6 (fun b hb q=>q)
  refine aq ?_
  exact aC.goF j D5 [(0,_),(1,_),(2,_),(9,_),(10,.int .i64 (((j+1:Nat):Int) - 1))] (by omega) ⟨_,j,_,_,_,_,_,_,b7 mt G qs (j+1) al 1,rfl,by omega,rfl,by omega,fr6,kp6,(hI.arow fr6).lo hcc,by rw[<- i4 (Nat.succ_pos j)];exact hdn,hlm,by omega,lr6,lw6,by omega,rfl⟩
 rintro e s ⟨g,h',c',rl',wl',av,al,rfl,rfl,hcc,hf',hkp,hA,hal0,hal,hal8,hlr,hlw⟩
 (refine Wx.sw (by simp only[D5,i5,i6,dC,dB,Nat.reduceEqDiff,↓reduceIte];rfl) ?_)
 obtain⟨oa,ca,rfl,_,hrA,hAb,_⟩:=hA
 obtain⟨hlm,hll⟩:=nU (mt:=mt) (q:=qs) (l:=0) (n:=max 8 kk) (fun x y=>hmem2 x 0 y) hal
 have hhit:=Bn (mt:=mt) (q:=qs) (l:=0) (n:=max 8 kk) (fun x y=>hmem2 x 0 y) hal
 have hfin:(if(upn:Int)<0 then([]:List Ht) else(gI mt G qs 0 (fy mt G qs 0 (upn:Int).toNat [ent]) (max 8 kk)).take kk)=(gI mt G qs 0 al (max 8 kk)).take kk:=by
  rw[if_neg (by omega),hal0];rfl
 rw[<- hhit] at hfin
 have hmax:max (8:Int) (kk:Int)=((max 8 kk:Nat):Int):=by omega
 refine aq ?_
 rw[hmax]
 refine ax.call rfl rfl (mX aO (qm.keep hf (fun b _ hb=>hkp b hb (fun q=>q))) hmt (rowk hkp) hqn hqb hd (l:=0) (by omega) hrA hal (by omega) (n:=max 8 kk) (by omega) hml (fun b=>c<=b\/R b) (fun b hb=>.inr (hUR b hb)) (fun b hb=>.inr (hqR b hb)) (fun b hb=>.inl (hAb b hb).1)) ?_
 rintro v6 h6 c6 r6 w6 ⟨hI,hext6⟩
 have fr6:=hext6.fresh
 have le6:=hext6.c
 simp only at fr6 le6 hI
 have kp6:=Kp.ext (W:=fun _=>False) (h:=h) (c:=c) hkp hext6 (by omega) (fun b hb q=>q)
 have lr6:=Lg.extR (R:=R) (c:=c) az hext6 (fun b hb q=>q.elim (fun q=>by omega) (fun q=>q))
 have lw6:=Lg.extW (W:=fun _=>False) (c:=c) az hext6 (fun b hb q=>q)
 generalize b7 mt G qs 0 al (max 8 kk)=LL at hI hlm hll hfin
 obtain⟨oi,rfl,hir,hib⟩:=hI.val
 have hhl:(LL.map (cK mt G.M qs)).length=LL.length:=List.length_map _
 refine aq ?_
 refine Wx.loopF (fun k1 e s=>∃(g:Nat->Value) (i:Nat) (z:Int) (lv:Value) (h':T ag) (c':Nat) (rl' wl':List Nat),e=fr g [(0,.pointer (some ⟨p,0,none⟩)),(1,.slice qa dim qc),(2,.int .i64 (kk:Int)),(11,lv),(42,.slice oi LL.length LL.length),(43,.int .i64 (LL.length:Int)),(44,.int .i64 z)] D5/\z=i/\s=⟨h',c',rl',wl'⟩/\c6<=c'/\ai h' c'/\Kp h6 h' c6 (fun _=>False)/\HL h' c6 lv ((LL.map (cK mt G.M qs)).take i)/\Lg c R rl'/\Lg c (fun _=>False) wl'/\i<=LL.length/\k1=LL.length - i) LL.length D5 [(0,_),(1,_),(2,_),(11,.slice none 0 0),(42,_),(43,_),(44,.int .i64 0)] ⟨_,0,0,_,_,_,_,_,rfl,rfl,rfl,Nat.le_refl _,aO,bW,.inl ⟨rfl,rfl⟩,az,az,by omega,rfl⟩ ?_
 rintro k1 e s ⟨g,i,z,lv,h7,c7,rl7,wl7,rfl,hz,rfl,hc7,hf7,hkp7,hL,hlr7,hlw7,hid,rfl⟩
 (refine Wx.sw (by simp only[D5,i5,i6,dC,dB,Nat.reduceEqDiff,↓reduceIte];rfl) ?_)
 have kph:Kp h h7 c (fun _=>False):=fun b hb _=>(hkp7 b (by omega) (fun q=>q)).trans (kp6 b hb (fun q=>q))
 by_cases hi:i<LL.length
 rotate_left
 ·obtain rfl:i=LL.length:=by omega
  rw[List.take_of_length_le (by omega)] at hL
  have hmin:((LL.map (cK mt G.M qs)).take kk).length=min kk LL.length:=by rw[List.length_take,hhl]
  have hgoal:∀(vv:Value),eG h7 vv ((LL.map (cK mt G.M qs)).take kk).length (aF ((LL.map (cK mt G.M qs)).take kk))->eG h7 vv (if(upn:Int)<0 then([]:List Ht) else(gI mt G qs 0 (fy mt G qs 0 (upn:Int).toNat [ent]) (max 8 kk)).take kk).length (aF (if(upn:Int)<0 then([]:List Ht) else(gI mt G qs 0 (fy mt G qs 0 (upn:Int).toNat [ent]) (max 8 kk)).take kk)):=fun vv hb=>by rw[hfin];exact hb
  rcases hL with⟨rfl,e0⟩|⟨bl,rfl,hne,hbl,hB⟩
  ·refine aq ?_
   refine Zu (cD (k:=0) ej rfl rfl (by omega) (by omega) (fun q hq=>by cases hq)) ?_
   refine aq ?_
   refine⟨.inr rfl,aG.one rfl ⟨⟨hgoal _ ?_,fun b hb=>by cases hb⟩,bM⟩⟩
   rw[e0,List.take_nil]
   exact .inl ⟨rfl,rfl,rfl⟩
  ·have hl0:LL.length≠0:=fun e=>hne (List.eq_nil_of_length_eq_zero (by rw[hhl];exact e))
   refine aq ?_
   refine Zu (cD (k:=min kk LL.length) ej rfl rfl (by rw[hhl];omega) (by rw[hhl];omega) (fun q hq=>by cases hq;exact .inr rfl)) ?_
   refine aq ?_
   refine⟨.inr rfl,aG.one rfl ⟨⟨hgoal _ ?_,fun b hb=>by cases hb;show c<=bl;omega⟩,bM⟩⟩
   have hbest:eG h7 (.slice (some ⟨bl,0,some 2⟩) (LL.map (cK mt G.M qs)).length (LL.map (cK mt G.M qs)).length) (LL.map (cK mt G.M qs)).length (aF (LL.map (cK mt G.M qs))):=.inr ⟨bl,_,_,rfl,by rw[hhl];omega,Nat.le_refl _,hB,aA _ _ (cN _).symm⟩
   have:=hbest.take (m:=min kk LL.length) rfl (by omega) (by rw[hhl];omega)
   rw[hmin]
   have e3:(LL.map (cK mt G.M qs)).take kk=(LL.map (cK mt G.M qs)).take (min kk LL.length):=by
    rcases Nat.le_total kk LL.length with q|q
    ·rw[Nat.min_eq_left q]
    ·rw[Nat.min_eq_right q,List.take_of_length_le (by omega),List.take_of_length_le (by omega)]
   rw[e3]
   exact this
 obtain⟨rx,hrx⟩:=hlm _ (List.getElem_mem hi)
 obtain⟨b1,o1,sp1,cs1,rfl,hc1,hn1⟩:=bp (bj.keepF hir fr6 (fun b hb=>hkp7 b hb (fun q=>q))) (j:=i*1) (by omega) (fi (List.getElem?_eq_getElem hi))
 have hb1:=hib b1 rfl
 have l1:=hc1.lt hf7
 have hlen:((LL.map (cK mt G.M qs)).take i).length=i:=by rw[List.length_take,hhl];omega
 have hstep:(LL.map (cK mt G.M qs)).take (i+1)=(LL.map (cK mt G.M qs)).take i++[cK mt G.M qs LL[i]]:=by rw[List.take_succ_eq_append_getElem (by omega),List.getElem_map]
 refine aq ?_
 refine Zu (aj (k:=i) ct rfl rfl hz (by omega)) ?_
 refine Zu (aB (dV rfl) rfl hc1 (by omega) hn1) ?_
 refine aq ?_
 refine ax.call rfl rfl (mG aO (qm.keep hf (fun b _ hb=>kph b hb (fun q=>q))) hmt (rowk kph) hqn hqb hd hrx R hUR hqR) ?_
 rintro v8 h8 c8 r8 w8 ⟨rfl,hext8⟩
 have fr8:=hext8.fresh
 have le8:=hext8.c
 simp only at fr8 le8
 have kp8:=Kp.ext (W:=fun _=>False) (h:=h6) (c:=c6) hkp7 hext8 (by omega) (fun _ _ q=>q)
 have lr8:=Lg.extR (R:=R) (c:=c) az hext8 (fun _ _ q=>q)
 have lw8:=Lg.extW (W:=fun _=>False) (c:=c) az hext8 (fun _ _ q=>q)
 have hfl:aF ((LL.map (cK mt G.M qs)).take (i+1))=aF ((LL.map (cK mt G.M qs)).take i)++(cK mt G.M qs LL[i]).cells:=by rw[hstep,fg];unfold aF;simp
 refine aq ?_
 rcases hL with⟨rfl,e0⟩|⟨bl,rfl,hne,hbl,hB⟩
 ·refine Zu (cy iB lR rfl rfl (k:=0) ay.same.cel (by omega) (aA _ _ rfl) (by omega) aO) ?_
  refine aq ?_
  have hi0:i=0:=by rw[e0] at hlen;exact hlen.symm
  exact aC.goF (LL.length - (i+1)) D5 [(0,_),(1,_),(2,_),(11,_),(42,_),(43,_),(44,.int .i64 (z+1))] (by omega) ⟨_,i+1,z+1,_,_,_,_,_,rfl,by omega,rfl,by omega,aO,bW,.of (by rw[hfl,e0];exact ay.same) (by omega) (by rw[hstep,e0];rfl) (n:=1) (by decide),az,az,by omega,rfl⟩
 ·have lb:=hB.lt hf7
  have hB2:ay h8 bl _:=hext8.hs hB (by omega) (fun q=>q)
  refine Zu (dg iB lR rfl rfl (k:=0) ay.same.cel (by omega) (aA _ _ rfl) (by omega) (by omega) (hB2.other (by omega)) (by omega) (aA _ _ (cN _).symm) (all_cons rfl (all_cons rfl a7)) aO) ?_
  refine aq ?_
  exact aC.goF (LL.length - (i+1)) D5 [(0,_),(1,_),(2,_),(11,_),(42,_),(43,_),(44,.int .i64 (z+1))] (by omega) ⟨_,i+1,z+1,_,_,_,_,_,rfl,by omega,rfl,by omega,aO,bW,.of (by rw[hfl];exact ay.same) (by omega) (by rw[hstep,List.length_append];rfl) (Nat.succ_ne_zero _),az,az,by omega,rfl⟩
end
end Go.Ab.Seat
end
