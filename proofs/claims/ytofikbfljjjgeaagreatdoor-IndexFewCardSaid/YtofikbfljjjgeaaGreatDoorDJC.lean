import Derived.Test.YtofikbfljjjgeaaGreatDoorDJA
set_option linter.unusedVariables false
set_option linter.unusedSimpArgs false
section
namespace Go.Ab.Seat
open Go.Extern Go.Proofs
set_option maxRecDepth 4000
section
variable {h h':T ag}{p m c c':Nat}{mt:Int}{dim:Nat}{G:Gr}{U:Nat->Prop}{ow:Ow}
theorem uE (L:Lk) (u:Int) (l:Nat):oT L u l (L u l)=L:=by
 funext x k
 unfold oT
 split
 ·rename_i e;rw[e.1,e.2]
 ·rfl
theorem mz (L:Lk) (u:Int) (l:Nat) (xs:List Int):oT L u l xs u l=xs:=by unfold oT;rw[if_pos ⟨rfl,rfl⟩]
theorem kw {L:Lk}{u x:Int}{l k:Nat}{xs:List Int} (h:¬(x=u/\k=l)):oT L u l xs x k=L x k:=by unfold oT;rw[if_neg h]
theorem jk.setLO (q:jk h p m mt dim G U ow) (hf:ai h c) {u:Int}{r:Rc}{es:List (Value×Value×Nat)}{n vi nb:Nat}{vv:Value}{ls:Nat->Value} (hr:aK u G.M=some r) (hm:ay h m (.map es n)) (hk:∃ids,dx es n ids) (hfit:∀x,na h ow U dim G.L (aK x G.M) (dU x es)) (hfi:dJ u es=some (vi,.pointer (some ⟨nb,0,none⟩))) (hn:H4 h ow U dim G.L r nb vv ls) (hid:r.id=u) {l:Nat} (hl:l<5)
  {v':Value}{xs':List Int} (hnb:ay h' nb (.cells (gC vv r.seq (fun i=>if i=l then v' else ls i)))) (hlk:gH h' v' xs') {V:Nat->Prop} (hV:∀b,V b->c<=b) (hv':∀b,au v'=some b->V b\/au (ls l)=some b)
  (k:∀b,U b->b<c->b≠nb->au (ls l)≠some b->h'.get b=h.get b) (hup:Up xs') (hmem:∀y∈xs',∃r,aK y G.M=some r)   : jk h' p m mt dim ⟨G.M,oT G.L u l xs'⟩ (fun b=>U b\/V b) (fun b=>if c<=b then(u,2+l) else ow b):=by
 obtain⟨lp,lm⟩:=q.lt hf
 have lnb:=hn.at_.lt hf
 have onb:=hn.o
 rw[hid] at onb
 have oll:∀b,au (ls l)=some b->U b/\ow b=(u,2+l)/\b<c:=fun b hb=>by
  obtain⟨h1,h2⟩:=hn.ol l hl b hb
  rw[hid] at h2
  exact⟨h1,h2,(hn.lk l hl).lt hf b hb⟩
 have kk:∀b,U b->b<c->ow b≠(u,0)->ow b≠(u,2+l)->h'.get b=h.get b:=fun b hb hc h1 h2=>k b hb hc (fun e=>h1 (by rw[e];exact onb)) (fun e=>h2 (oll b e).2.1)
 refine⟨?_,⟨es,n,?_,hk,fun x=>?_⟩,.inl q.pU,.inl q.mU,?_,?_,q.rises,q.ok,fun x k=>?_,fun x k y hy=>?_⟩
 ·exact(kk p q.pU lp (by rw[q.po];simp) (by rw[q.po];simp;omega)).trans q.ptr
 ·exact(kk m q.mU lm (by rw[q.mo];simp) (by rw[q.mo];simp;omega)).trans hm
 ·by_cases hx:x=u
  ·subst hx
   rw[hr]
   refine .inr ⟨r,_,rfl,by unfold dU;rw[hfi];rfl,nb,vv,_,rfl,hnb,.inl hn.u,?_,?_,fun b hb=>?_,fun k hkl=>?_,fun k hkl b hb=>?_⟩
   ·rw[if_neg (by omega)];exact hn.o
   ·refine hn.own.keep fun b hb=>?_
    obtain⟨h1,h2⟩:=hn.ov b hb
    exact kk b h1 ((hn.own.blk hb).2.lt hf) (by rw[h2,hid];simp) (by rw[h2,hid];simp;omega)
   ·obtain⟨h1,h2⟩:=hn.ov b hb
    have:=(hn.own.blk hb).2.lt hf
    refine⟨.inl h1,?_⟩
    rw[if_neg (by omega)];exact h2
   ·by_cases he:k=l
    ·subst he
     simp only[if_true]
     rw[hid,mz]
     exact hlk
    ·rw[if_neg he,hid]
     show gH h' (ls k) (oT G.L x l xs' x k)
     rw[kw (fun e=>he e.2),<- hid]
     refine(hn.lk k hkl).keep fun b hb=>?_
     obtain⟨h1,h2⟩:=hn.ol k hkl b hb
     exact kk b h1 ((hn.lk k hkl).lt hf b hb) (by rw[h2,hid];simp) (by rw[h2,hid];simp;omega)
   ·by_cases he:k=l
    ·subst he
     simp only[if_true] at hb
     rcases hv' b hb with h1|h1
     ·refine⟨.inr h1,?_⟩
      rw[if_pos (hV b h1),hid]
     ·obtain⟨h2,h3,h4⟩:=oll b h1
      refine⟨.inl h2,?_⟩
      rw[if_neg (by omega),hid];exact h3
    ·rw[if_neg he] at hb
     obtain⟨h1,h2⟩:=hn.ol k hkl b hb
     have:=(hn.lk k hkl).lt hf b hb
     refine⟨.inl h1,?_⟩
     rw[if_neg (by omega)];exact h2
  ·refine(hfit x).keep hf (fun b hb _=>.inl hb) (fun b hb hc=>if_neg (by omega)) (fun k hkl=>kw fun e=>hx e.1) fun b hb hc h1 h2=>kk b hb hc (fun e=>hx (by rw[<- h1,e])) (fun e=>hx (by rw[<- h1,e]))
 ·rw[if_neg (by omega)];exact q.po
 ·rw[if_neg (by omega)];exact q.mo
 ·show Up (oT G.L u l xs' x k)
  by_cases e:x=u/\k=l
  ·rw[e.1,e.2,mz];exact hup
  ·rw[kw e];exact q.up x k
 ·have hy:y∈oT G.L u l xs' x k:=hy
  by_cases e:x=u/\k=l
  ·rw[e.1,e.2,mz] at hy;exact hmem y hy
  ·rw[kw e] at hy;exact q.mem x k y hy
theorem jk.setL (q:jk h p m mt dim G U ow) (hf:ai h c) {u:Int}{r:Rc}{es:List (Value×Value×Nat)}{n vi nb:Nat}{vv:Value}{ls:Nat->Value} (hr:aK u G.M=some r) (hm:ay h m (.map es n)) (hk:∃ids,dx es n ids) (hfit:∀x,na h ow U dim G.L (aK x G.M) (dU x es)) (hfi:dJ u es=some (vi,.pointer (some ⟨nb,0,none⟩))) (hn:H4 h ow U dim G.L r nb vv ls) (hid:r.id=u) {l:Nat} (hl:l<5)
  {v':Value}{xs':List Int} (hnb:ay h' nb (.cells (gC vv r.seq (fun i=>if i=l then v' else ls i)))) (hlk:gH h' v' xs') {V:Nat->Prop} (hV:∀b,V b->c<=b) (hv':∀b,au v'=some b->V b\/au (ls l)=some b)
  (k:∀b,U b->b<c->b≠nb->au (ls l)≠some b->h'.get b=h.get b) (hup:Up xs') (hmem:∀y∈xs',∃r,aK y G.M=some r):gw h' p m mt dim ⟨G.M,oT G.L u l xs'⟩ (fun b=>U b\/V b):=⟨_,q.setLO hf hr hm hk hfit hfi hn hid hl hnb hlk hV hv' k hup hmem⟩
theorem jk.len (q:jk h p m mt dim G U ow) (x:Int) (l:Nat):(G.L x l).length<=G.M.length:=by
 have:=ix (a:=G.L x l) (b:=G.M.map Rc.id) ((q.up x l).imp fun h=>by omega) fun y hy=>by
  obtain⟨r,hr⟩:=q.mem x l y hy
  obtain⟨g1,g2⟩:=cF hr
  exact List.mem_map.2 ⟨r,g1,g2⟩
 rwa [List.length_map] at this
end
theorem BZ {sm:Nat->Option (List Value->M Value)}:xA (Cs sm) 187=some (1,[.int .i64 0,.int .i64 0]):=by kernel_rfl
theorem bt.rx {r' w:List Nat}{x a b b':Nat} (h:∀y∈w,y≠x):bt ⟨[x],[],a,a⟩ ⟨r',w,b,b'⟩:=by
 refine⟨?_,?_,?_,?_,?_⟩
 ·intro b hb;cases hb
 ·intro b hb;cases hb
 ·intro y hy hm
  exact h y hy (List.mem_singleton.1 hm)
 ·intro y _;show ¬(a<=y/\y<a);omega
 ·intro y _;show ¬(a<=y/\y<a);omega
theorem jk.apart {h:T ag}{p m:Nat}{mt:Int}{dim:Nat}{G:Gr}{U:Nat->Prop}{ow:Ow}{r:Rc}{nb:Nat}{vv:Value}{ls:Nat->Value}{l:Nat} (q:jk h p m mt dim G U ow) (hn:H4 h ow U dim G.L r nb vv ls) (hl:l<5):(∀b,au (ls l)=some b->b≠p/\b≠m/\b≠nb)/\nb≠p/\nb≠m:=by
 refine⟨fun b hb=>?_,fun e=>?_,fun e=>?_⟩
 ·obtain⟨h1,h2⟩:=hn.ol l hl b hb
  refine⟨fun e=>?_,fun e=>?_,fun e=>?_⟩
  ·rw[e,q.po] at h2;simp only[Prod.mk.injEq] at h2;omega
  ·rw[e,q.mo] at h2;simp only[Prod.mk.injEq] at h2;omega
  ·rw[e,hn.o] at h2;simp only[Prod.mk.injEq] at h2;omega
 ·have:=hn.o;rw[e,q.po] at this;simp at this
 ·have:=hn.o;rw[e,q.mo] at this;simp at this
def vg (p:Int×Int):List Value:=[.int .i64 p.1,.int .i64 p.2]
theorem x9 {a b:Int×Int}{i:Nat}{u v:Int} (h:[a,b][i]?=some (u,v)):aP (0+i*2) 2 (vg a++vg b)=some [.int .i64 u,.int .i64 v]:=by
 rcases i with _|_|i
 ·cases h;rfl
 ·cases h;rfl
 ·cases h
def Jz:List Nat:=[0,1,2,3,9,10,11,12,19,20,21,22,45]
set_option maxHeartbeats 16000000 in
theorem u7 {h:T ag}{c:Nat}{rl wl:List Nat} (hf:ai h c) {p m dim:Nat}{mt:Int}{G:Gr}{U:Nat->Prop} (qm:gw h p m mt dim G U) (hml:G.M.length<=800) {a b:Int}{l:Nat} (hl:l<5) (ha:∃r,aK a G.M=some r) (hb:∃r,aK b G.M=some r) (R:Nat->Prop) (hUR:∀b,U b->R b) :
  ∃r s',aE (Cs bD) eg 75 [.pointer (some ⟨p,0,none⟩),.int .i64 a,.int .i64 b,.int .i64 (l:Int)] ⟨h,c,rl,wl⟩ r s'/\gw s'.h p m mt dim ⟨G.M,eJ l G.L a b⟩ (fun b=>U b\/c<=b/\b<s'.c)/\bA ⟨h,c,rl,wl⟩ s' R U:=by
 have hbg:dv=1048576:=rfl
 refine Fn.go (aU 75 rfl) ME N1 Od rfl rfl ?_
 refine cg ?_
 refine aq ?_
 have hP:∀x∈[(a,b),(b,a)],(∃r,aK x.1 G.M=some r)/\∃r,aK x.2 G.M=some r:=fun x hx=>by
  simp only[List.mem_cons,List.not_mem_nil,or_false] at hx
  rcases hx with rfl|rfl
  ·exact⟨ha,hb⟩
  ·exact⟨hb,ha⟩
 refine Zu (mZ BZ rfl) ?_
 refine aq ?_
 refine Zu (mZ BZ rfl) ?_
 refine aq ?_
 refine Wx.loopF (fun k1 e s=>∃(g:Nat->Value) (i:Nat) (z:Int) (h':T ag) (c':Nat) (rl' wl':List Nat),e=fr g [(0,.pointer (some ⟨p,0,none⟩)),(3,.int .i64 (l:Int)),(19,.slice (some ⟨c,0,none⟩) 2 2),(20,.int .i64 2),(21,.int .i64 z)] Jz/\z=i/\s=⟨h',c',rl',wl'⟩/\c+1<=c'/\ai h' c'/\Kp h h' c U/\ay h' c (.cells (vg (a,b)++vg (b,a)))/\gw h' p m mt dim ⟨G.M,([(a,b),(b,a)].take i).foldl (fun L x=>qL l L x.1 x.2) G.L⟩ (fun b=>(U b/\b<c)\/c<b/\b<c')/\Lg c R rl'/\Lg c U wl'/\i<=2/\k1=2 - i) 2 Jz [(0,_),(3,_),(19,_),(20,_),(21,.int .i64 0)] ⟨_,0,0,_,_,_,_,rfl,rfl,rfl,Nat.le_refl _,aO,bW,ay.same,((qm.low hf).wide hf (fun b hb=>.inl hb)).keep hf (fun b hb hc=>am (by omega)),az,az,by omega,rfl⟩ ?_
 rintro k1 e s ⟨g,i,z,h',c',rl',wl',rfl,hz,rfl,hcc,hf',hkp,hB,qm',hlr,hlw,hid,rfl⟩
 (refine Wx.sw (by simp only[Jz,i5,i6,dC,dB,Nat.reduceEqDiff,↓reduceIte];rfl) ?_)
 by_cases hi:i<2
 rotate_left
 ·refine aq ?_
  obtain rfl:i=2:=by omega
  refine⟨.inl rfl,aG.nil ⟨qm'.wide hf' (fun b hb=>hb.imp (fun q=>q.1) (fun q=>⟨by omega,q.2⟩)),bM⟩⟩
 obtain⟨⟨u,v⟩,huv⟩:∃x,[(a,b),(b,a)][i]?=some x:=⟨_,List.getElem?_eq_getElem hi⟩
 obtain⟨⟨ru,hru⟩,rv⟩:=hP _ (List.mem_of_getElem? huv)
 have hpair:=x9 huv
 have hstep:([(a,b),(b,a)].take (i+1)).foldl (fun L x=>qL l L x.1 x.2) G.L=qL l (([(a,b),(b,a)].take i).foldl (fun L x=>qL l L x.1 x.2) G.L) u v:=by
  rw[List.take_add_one,huv,List.foldl_append];rfl
 simp only at hru rv
 generalize hLi:([(a,b),(b,a)].take i).foldl (fun L x=>qL l L x.1 x.2) G.L=Li at qm' hstep
 obtain⟨ow,q⟩:=qm'
 have hlen:(Li u l).length<=800:=by have:(Li u l).length<=G.M.length:=q.len u l;omega
 have hp:=q.ptr
 obtain⟨lp,lm⟩:=q.lt hf'
 obtain⟨es,n,vi,nb,vv,ls,hm,⟨ids,hk⟩,hfit,hfi,hn,hid2⟩:=q.at hru
 have hnb:=hn.at_
 have lnb:=hnb.lt hf'
 have hlk:=hn.lk l hl
 rw[hid2] at hlk
 change gH h' (ls l) (Li u l) at hlk
 have llk:=hlk.lt hf'
 have unb:=hn.u
 have ulk:=fun b hb=>(hn.ol l hl b hb).1
 obtain⟨ol,cl,hlv⟩:=hlk.val
 have rp:c<=p\/R p:=q.pU.elim (fun q=>.inr (hUR _ q.1)) (fun q=>.inl (by omega))
 have rm:c<=m\/R m:=q.mU.elim (fun q=>.inr (hUR _ q.1)) (fun q=>.inl (by omega))
 have rnb:c<=nb\/R nb:=unb.elim (fun q=>.inr (hUR _ q.1)) (fun q=>.inl (by omega))
 have rlk:∀b,au (ls l)=some b->c<=b\/R b:=fun b hb=>(ulk b hb).elim (fun q=>.inr (hUR _ q.1)) (fun q=>.inl (by omega))
 have lc:=hB.lt hf'
 refine aq ?_
 refine Zu (aj (k:=i) HU rfl rfl hz hi) ?_
 refine Zu (cT HK rfl hB.cel lc hpair) ?_
 refine aq ?_
 refine Zq (aY (k:=0) uw rfl rfl rfl (by omega)) ?_
 refine Zd (aB (dV rfl) rfl ay.same.cel (by omega) rfl) ?_
 refine aq ?_
 refine Zd (bL (pk rfl) (tG rfl) rfl rfl gL (by omega) hk.ks (by rw[hfi])) ?_
 refine aq ?_
 refine Zq (aY (k:=l) ld rfl rfl rfl hl) ?_
 refine Zd (aB (dV rfl) rfl (hnb.cel.other (by omega) |>.other (by omega)) (by omega) (fU hl)) ?_
 rw[hlv]
 refine aq ?_
 refine Zu (aY (k:=1) uw rfl rfl rfl (by omega)) ?_
 refine Zu (aB (dV rfl) rfl ay.same.cel (by omega) rfl) ?_
 refine aq ?_
 have kA:∀b,b<c'->((h'.set c' (some (.cells [.int .i64 0,.int .i64 0]))).set c' (some (.cells [.int .i64 u,.int .i64 v]))).get b=h'.get b:=fun b hb=>(am (by omega)).trans (am (by omega))
 have hlkA:=hlk.keep (fun b hb=>kA b (llk b hb))
 rw[hlv] at hlkA
 refine ax.call rfl rfl (o5 aO hlkA.row (q.up u l) (by omega) v (fun b=>c<=b\/R b) (fun b hb=>rlk b (by rw[hlv];exact hb))) ?_
 rintro v1 hA cA r1 w1 ⟨⟨rfl,e1,e2⟩,hext⟩
 simp only at e1 e2
 subst e1 e2
 have lr1:=Lg.extR (R:=R) (c:=c) az hext (fun b hb q=>q.elim (fun q=>by omega) (fun q=>q))
 have lw1:=Lg.extW (W:=U) (c:=c) az hext (fun _ _ q=>q.elim)
 refine aq ?_
 by_cases hmv:v∈Li u l
 ·rw[decide_eq_true hmv]
  refine aq ?_
  refine aC.goF (2 - (i+1)) Jz [(0,_),(3,_),(19,_),(20,_),(21,.int .i64 (z+1))] (by omega) ⟨_,i+1,z+1,_,_,_,_,rfl,by omega,rfl,by omega,aO,fun b hb hU=>(kA b (by omega)).trans (hkp b hb hU),(kA c (by omega)).trans hB,?_,lr1,lw1,by omega,rfl⟩
  rw[hstep,show qL l Li u v=Li by unfold qL oJ;rw[if_pos hmv,uE]]
  exact(gw.keep ⟨ow,q⟩ hf' (fun b _ hb=>kA b hb)).wide hext.fresh (fun b hb=>hb.imp (fun q=>q) (fun q=>⟨q.1,by omega⟩))
 rw[decide_eq_false hmv]
 refine aq ?_
 refine Zq (aY (k:=0) uw rfl rfl rfl (by omega)) ?_
 refine Zd (aB (dV rfl) rfl ay.same.cel (by omega) rfl) ?_
 refine aq ?_
 refine Zd (bL (pk rfl) (tG rfl) rfl rfl gL (by omega) hk.ks (by rw[hfi])) ?_
 refine aq ?_
 refine Zq (aY (k:=1) uw rfl rfl rfl (by omega)) ?_
 refine Zd (aB (dV rfl) rfl ay.same.cel (by omega) rfl) ?_
 refine aq ?_
 have hlkB:gH (((h'.set c' (some (.cells [.int .i64 0,.int .i64 0]))).set c' (some (.cells [.int .i64 u,.int .i64 v]))).set (c'+1) (some (.cells [.int .i64 v]))) (.slice ol (Li u l).length cl) (Li u l):=hlkA.keep fun b hb=>am (by have:=llk b (by rw[hlv];exact hb);omega)
 refine bN.call rfl rfl (DZ aO hlkB hmv (by omega) ay.same (fun b hb=>by have:=llk b (by rw[hlv];exact hb);omega)) ?_
 rintro v2 h2 c2 r2 w2 ⟨⟨hlk2,hv2,hv2n⟩,hext2⟩
 have fr2:=hext2.fresh
 have le2:=hext2.c
 simp only at fr2 le2 hlk2
 obtain⟨o2,k2,rfl⟩:=hlk2.val
 obtain⟨ap1,ap2,ap3⟩:=q.apart hn hl
 have hw2:∀y∈w2,au (ls l)=some y:=fun y hy=>by
  rcases hext2.wl y hy with u|u
  ·cases u
  ·rw[hlv];exact u.2
 have hlk0:=fun b hb=>llk b hb
 have hx1:bt ⟨[p],[],c'+1,c'+1⟩ ⟨r2,w2,c'+1+1,c2⟩:=bt.rx fun y hy=>(ap1 y (hw2 y hy)).1
 have hx2:bt ⟨[m],[],c'+1,c'+1⟩ ⟨r2,w2,c'+1+1,c2⟩:=bt.rx fun y hy=>(ap1 y (hw2 y hy)).2.1
 have hx3:bt ⟨[c'],[],c'+1,c'+1⟩ ⟨r2,w2,c'+1+1,c2⟩:=bt.rx fun y hy=>by have:=llk y (hw2 y hy);omega
 have kp2:=Kp.ext (W:=U) (h:=h) (c:=c) bW hext2 (by omega) (fun b hb q=>by
  rw[<- hlv] at q
  rcases ulk b q with u|u
  ·exact u.1
  ·omega)
 have lr2:=Lg.extR (R:=R) (c:=c) az hext2 (fun b hb q=>by
  rcases q with q|q
  ·omega
  ·rw[<- hlv] at q
   exact(rlk b q).elim (fun e=>by omega) (fun e=>e))
 have lw2:=Lg.extW (W:=U) (c:=c) az hext2 (fun b hb q=>by
  rw[<- hlv] at q
  rcases ulk b q with u|u
  ·exact u.1
  ·omega)
 have kB:∀b,b<c'->au (ls l)≠some b->h2.get b=h'.get b:=fun b hb hne=>((hext2.h b (by show b<c'+1+1;omega) (fun q=>hne (by rw[hlv];exact q))).trans (am (by omega))).trans (kA b hb)
 have hnb2:ay h2 nb _:=(kB nb lnb (fun e=>(ap1 nb e).2.2 rfl)).trans hnb
 have wnb:c<=nb\/U nb:=unb.elim (fun q=>.inr q.1) (fun q=>.inl (by omega))
 refine⟨i7,?_⟩
 refine aq ?_
 refine Zq (aY (k:=l) ld rfl rfl rfl hl) ?_
 ((with_reducible apply bN.so);rfl;exact(uc rfl);rfl;exact hnb2;omega;exact i7;refine wC ?_;refine⟨_,_,(by(first|exact a8 _|rfl)),rfl,xD hl rfl,?_⟩)
 refine aq ?_
 have hset:=q.setL hf' hru hm ⟨_,hk⟩ hfit hfi hn hid2 hl (V:=fun b=>c'<=b/\b<c2) (h':=h2.set nb (some (.cells (gC vv ru.seq (fun i=>if i=l then .slice o2 (oJ v (Li u l)).length k2 else ls i))))) (v':=.slice o2 (oJ v (Li u l)).length k2) (xs':=oJ v (Li u l)) ay.same (hlk2.keep fun b hb=>am (by have:=hv2 b hb;omega)) (fun b hb=>hb.1) (fun b hb=>.inl ⟨by have:=hv2 b hb;omega,hlk2.lt fr2 b hb⟩) (fun b _ hb hne hne2=>(am hne).trans (kB b hb hne2)) (vW (q.up u l)) (fun y hy=>(yq.1 hy).elim (fun e=>by rw[e];exact rv) (fun e=>q.mem u l y e))
 refine aC.goF (2 - (i+1)) Jz [(0,_),(3,_),(19,_),(20,_),(21,.int .i64 (z+1))] (by omega) ⟨_,i+1,z+1,_,_,_,_,rfl,by omega,rfl,by omega,aO,bW,?_,?_,az,az,by omega,rfl⟩
 ·refine ay.other (fun e=>?_) ((kB c (by omega) fun e=>?_).trans hB)
  ·rcases unb with u|u<;>omega
  ·rcases ulk c e with u|u<;>omega
 ·rw[hstep]
  exact hset.wide (ai.put (by omega) fr2) (fun b hb=>hb.elim (fun e=>e.imp (fun e=>e) (fun e=>⟨e.1,by omega⟩)) (fun e=>.inr ⟨by have:=e.1;omega,e.2⟩))
end Go.Ab.Seat
end
section
namespace Go.Ab.Seat
open Go.Extern Go.Proofs
set_option maxRecDepth 4000
def KO:List Nat:=[0,1,2,3,9,10,11,12,19,20,21,22,44]
set_option maxHeartbeats 16000000 in
theorem tB {h:T ag}{c:Nat}{rl wl:List Nat} (hf:ai h c) {p m dim:Nat}{mt:Int}{G:Gr}{U:Nat->Prop}{ow0:Ow} (q0:jk h p m mt dim G U ow0) (hml:G.M.length<=800) {a b:Int}{l:Nat} (hl:l<5) (ha:∃r,aK a G.M=some r) (hb:∃r,aK b G.M=some r) (R:Nat->Prop) (hUR:∀b,U b->R b) :
  ∃r s',aE (Cs bD) eg 82 [.pointer (some ⟨p,0,none⟩),.int .i64 a,.int .i64 b,.int .i64 (l:Int)] ⟨h,c,rl,wl⟩ r s'/\(∃ow',jk s'.h p m mt dim ⟨G.M,f0 l G.L a b⟩ U ow'/\∀b,b<c->ow' b=ow0 b)/\bA ⟨h,c,rl,wl⟩ s' R (fun b=>U b/\((ow0 b).2=0\/(ow0 b).2=2+l)):=by
 have hbg:dv=1048576:=rfl
 refine Fn.go (aU 82 rfl) MS OA PC rfl rfl ?_
 refine cg ?_
 refine aq ?_
 have hP:∀x∈[(a,b),(b,a)],(∃r,aK x.1 G.M=some r)/\∃r,aK x.2 G.M=some r:=fun x hx=>by
  simp only[List.mem_cons,List.not_mem_nil,or_false] at hx
  rcases hx with rfl|rfl
  ·exact⟨ha,hb⟩
  ·exact⟨hb,ha⟩
 refine Zu (mZ BZ rfl) ?_
 refine aq ?_
 refine Zu (mZ BZ rfl) ?_
 refine aq ?_
 refine Wx.loopF (fun k1 e s=>∃(g:Nat->Value) (i:Nat) (z:Int) (h':T ag) (c':Nat) (rl' wl':List Nat),e=fr g [(0,.pointer (some ⟨p,0,none⟩)),(3,.int .i64 (l:Int)),(19,.slice (some ⟨c,0,none⟩) 2 2),(20,.int .i64 2),(21,.int .i64 z)] KO/\z=i/\s=⟨h',c',rl',wl'⟩/\c+1<=c'/\ai h' c'/\Kp h h' c (fun b=>U b/\((ow0 b).2=0\/(ow0 b).2=2+l))/\ay h' c (.cells (vg (a,b)++vg (b,a)))/\(∃ow,jk h' p m mt dim ⟨G.M,([(a,b),(b,a)].take i).foldl (fun L x=>qM l L x.1 x.2) G.L⟩ (fun b=>U b/\b<c) ow/\∀b,b<c->ow b=ow0 b)/\Lg c R rl'/\Lg c (fun b=>U b/\((ow0 b).2=0\/(ow0 b).2=2+l)) wl'/\i<=2/\k1=2 - i) 2 KO [(0,_),(3,_),(19,_),(20,_),(21,.int .i64 0)] ⟨_,0,0,_,_,_,_,rfl,rfl,rfl,Nat.le_refl _,aO,bW,ay.same,⟨_,(q0.low hf).keep hf (fun b hb hc=>am (by omega)),fun _ _=>rfl⟩,az,az,by omega,rfl⟩ ?_
 rintro k1 e s ⟨g,i,z,h',c',rl',wl',rfl,hz,rfl,hcc,hf',hkp,hB,qm',hlr,hlw,hid,rfl⟩
 (refine Wx.sw (by simp only[KO,i5,i6,dC,dB,Nat.reduceEqDiff,↓reduceIte];rfl) ?_)
 by_cases hi:i<2
 rotate_left
 ·refine aq ?_
  obtain rfl:i=2:=by omega
  refine⟨.inl rfl,aG.nil ⟨by obtain⟨ow,q,e⟩:=qm';exact⟨ow,q.wide hf' (fun b hb=>hb.1),e⟩,bM⟩⟩
 obtain⟨⟨u,v⟩,huv⟩:∃x,[(a,b),(b,a)][i]?=some x:=⟨_,List.getElem?_eq_getElem hi⟩
 obtain⟨⟨ru,hru⟩,rv⟩:=hP _ (List.mem_of_getElem? huv)
 have hpair:=x9 huv
 have hstep:([(a,b),(b,a)].take (i+1)).foldl (fun L x=>qM l L x.1 x.2) G.L=qM l (([(a,b),(b,a)].take i).foldl (fun L x=>qM l L x.1 x.2) G.L) u v:=by
  rw[List.take_add_one,huv,List.foldl_append];rfl
 simp only at hru rv
 generalize hLi:([(a,b),(b,a)].take i).foldl (fun L x=>qM l L x.1 x.2) G.L=Li at qm' hstep
 obtain⟨ow,q,hoe⟩:=qm'
 have hlen:(Li u l).length<=800:=by have:(Li u l).length<=G.M.length:=q.len u l;omega
 have hp:=q.ptr
 obtain⟨lp,lm⟩:=q.lt hf'
 obtain⟨es,n,vi,nb,vv,ls,hm,⟨ids,hk⟩,hfit,hfi,hn,hid2⟩:=q.at hru
 have hnb:=hn.at_
 have lnb:=hnb.lt hf'
 have hlk:=hn.lk l hl
 rw[hid2] at hlk
 change gH h' (ls l) (Li u l) at hlk
 have llk:=hlk.lt hf'
 have unb:=hn.u
 have ulk:=fun b hb=>(hn.ol l hl b hb).1
 have olk:=fun b hb=>(hn.ol l hl b hb).2
 obtain⟨ol,cl,hlv⟩:=hlk.val
 have rp:c<=p\/R p:=.inr (hUR _ q.pU.1)
 have rm:c<=m\/R m:=.inr (hUR _ q.mU.1)
 have rnb:c<=nb\/R nb:=.inr (hUR _ unb.1)
 have rlk:∀b,au (ls l)=some b->c<=b\/R b:=fun b hb=>.inr (hUR _ (ulk b hb).1)
 have lc:=hB.lt hf'
 obtain⟨ap1,ap2,ap3⟩:=q.apart hn hl
 have hple:=qY v (Li u l)
 have hkd:∀b,b<c'->au (ls l)=some b->b≠c':=fun b hb _=>by omega
 refine aq ?_
 refine Zu (aj (k:=i) HU rfl rfl hz hi) ?_
 refine Zu (cT HK rfl hB.cel lc hpair) ?_
 refine aq ?_
 refine Zq (aY (k:=0) uw rfl rfl rfl (by omega)) ?_
 refine Zd (aB (dV rfl) rfl ay.same.cel (by omega) rfl) ?_
 refine aq ?_
 refine Zd (bL (pk rfl) (tG rfl) rfl rfl gL (by omega) hk.ks (by rw[hfi])) ?_
 refine aq ?_
 refine Zq (aY (k:=l) ld rfl rfl rfl hl) ?_
 refine Zd (aB (dV rfl) rfl (hnb.cel.other (by omega) |>.other (by omega)) (by omega) (fU hl)) ?_
 rw[hlv]
 refine aq ?_
 refine Zq (aY (k:=1) uw rfl rfl rfl (by omega)) ?_
 refine Zd (aB (dV rfl) rfl ay.same.cel (by omega) rfl) ?_
 refine aq ?_
 have kA:∀b,b<c'->((h'.set c' (some (.cells [.int .i64 0,.int .i64 0]))).set c' (some (.cells [.int .i64 u,.int .i64 v]))).get b=h'.get b:=fun b hb=>(am (by omega)).trans (am (by omega))
 have hlkA:=hlk.keep (fun b hb=>kA b (llk b hb))
 rw[hlv] at hlkA
 refine bN.call rfl rfl (o5 aO hlkA.row (q.up u l) (by omega) v (fun b=>c<=b\/R b) (fun b hb=>rlk b (by rw[hlv];exact hb))) ?_
 rintro v1 hA cA r1 w1 ⟨⟨rfl,e1,e2⟩,hext⟩
 simp only at e1 e2
 subst e1 e2
 have hqt:=hext.quiet (fun _ _ q=>q)
 have lr1:=Lg.extR (R:=R) (c:=c) az hext (fun b hb q=>q.elim (fun q=>by omega) (fun q=>q))
 have lw1:=Lg.extW (W:=fun b=>U b/\((ow0 b).2=0\/(ow0 b).2=2+l)) (c:=c) az hext (fun _ _ q=>q.elim)
 refine⟨i7,?_⟩
 refine aq ?_
 by_cases hmv:v∈Li u l
 rotate_left
 ·rw[decide_eq_false hmv]
  refine aq ?_
  refine aC.goF (2 - (i+1)) KO [(0,_),(3,_),(19,_),(20,_),(21,.int .i64 (z+1))] (by omega) ⟨_,i+1,z+1,_,_,_,_,rfl,by omega,rfl,by omega,aO,fun b hb hU=>(kA b (by omega)).trans (hkp b hb hU),(kA c (by omega)).trans hB,?_,az,az,by omega,rfl⟩
  rw[hstep,show qM l Li u v=Li by unfold qM;rw[FX hmv,uE]]
  exact⟨ow,(q.keep hf' (fun b _ hb=>kA b hb)).wide hext.fresh (fun b hb=>hb),hoe⟩
 rw[decide_eq_true hmv]
 refine aq ?_
 refine Zq (aY (k:=l) ld rfl rfl rfl hl) ?_
 refine Zd (aB (dV rfl) rfl (hnb.cel.other (by omega) |>.other (by omega)) (by omega) (fU hl)) ?_
 rw[hlv]
 refine aq ?_
 refine bN.call rfl rfl (D3 hext.fresh hlkA (q.up u l) hmv (by omega)) ?_
 rintro v2 h2 c2 r2 w2 ⟨⟨hlk2,hv2,ec2⟩,hext2⟩
 have fr2:=hext2.fresh
 simp only at fr2 ec2 hlk2
 subst ec2
 obtain⟨o2,k2,rfl⟩:=hlk2.val
 have hw2:∀y∈w2,au (ls l)=some y:=fun y hy=>by
  rcases hext2.wl y hy with u|u
  ·cases u
  ·rw[hlv];exact u.2
 have hx1:bt ⟨[nb],[],c'+1,c'+1⟩ ⟨r2,w2,c'+1,c'+1⟩:=bt.rx fun y hy=>(ap1 y (hw2 y hy)).2.2
 have kp2:=Kp.ext (W:=fun b=>U b/\((ow0 b).2=0\/(ow0 b).2=2+l)) (h:=h) (c:=c) bW hext2 (by show c<=c'+1;omega) (fun b hb q=>by
  rw[<- hlv] at q
  exact⟨(ulk b q).1,.inr (by rw[<- hoe b hb,olk b q])⟩)
 have lr2:=Lg.extR (R:=R) (c:=c) az hext2 (fun b hb q=>by
  rw[<- hlv] at q
  exact(rlk b q).elim (fun e=>by omega) (fun e=>e))
 have lw2:=Lg.extW (W:=fun b=>U b/\((ow0 b).2=0\/(ow0 b).2=2+l)) (c:=c) az hext2 (fun b hb q=>by
  rw[<- hlv] at q
  exact⟨(ulk b q).1,.inr (by rw[<- hoe b hb,olk b q])⟩)
 have kB:∀b,b<c'->au (ls l)≠some b->h2.get b=h'.get b:=fun b hb hne=>(hext2.h b (by show b<c'+1;omega) (fun q=>hne (by rw[hlv];exact q))).trans (kA b hb)
 have hnb2:ay h2 nb _:=(kB nb lnb (fun e=>(ap1 nb e).2.2 rfl)).trans hnb
 have wnb:c<=nb\/(U nb/\((ow0 nb).2=0\/(ow0 nb).2=2+l)):=.inr ⟨unb.1,.inl (by rw[<- hoe nb unb.2,hn.o])⟩
 refine⟨i7,?_⟩
 refine aq ?_
 refine Zq (aY (k:=l) ld rfl rfl rfl hl) ?_
 ((with_reducible apply bN.so);rfl;exact(uc rfl);rfl;exact hnb2;omega;exact i7;refine wC ?_;refine⟨_,_,(by(first|exact a8 _|rfl)),rfl,xD hl rfl,?_⟩)
 refine aq ?_
 have hset:=q.setLO hf' hru hm ⟨_,hk⟩ hfit hfi hn hid2 hl (V:=fun _=>False) (h':=h2.set nb (some (.cells (gC vv ru.seq (fun i=>if i=l then .slice o2 (oW v (Li u l)).length k2 else ls i))))) (v':=.slice o2 (oW v (Li u l)).length k2) (xs':=oW v (Li u l)) ay.same (hlk2.keep fun b hb=>am (by have:=(ap1 b (by rw[hlv];exact hv2 b hb)).2.2;exact this)) (fun b hb=>hb.elim) (fun b hb=>.inr (by rw[hlv];exact hv2 b hb)) (fun b _ hb hne hne2=>(am hne).trans (kB b hb hne2)) (rz (q.up u l)) (fun y hy=>q.mem u l y (tv.1 hy).1)
 refine aC.goF (2 - (i+1)) KO [(0,_),(3,_),(19,_),(20,_),(21,.int .i64 (z+1))] (by omega) ⟨_,i+1,z+1,_,_,_,_,rfl,by omega,rfl,by omega,aO,bW,?_,?_,az,az,by omega,rfl⟩
 ·refine ay.other (fun e=>?_) ((kB c (by omega) fun e=>?_).trans hB)
  ·have:=unb.2;omega
  ·have:=(ulk c e).2;omega
 ·rw[hstep]
  exact⟨_,hset.wide (ai.put (by omega) fr2) (fun b hb=>hb.elim (fun e=>e) (fun e=>e.elim)),fun b hb=>by rw[if_neg (by omega)];exact hoe b hb⟩
theorem Ck {h:T ag}{c:Nat}{rl wl:List Nat} (hf:ai h c) {p m dim:Nat}{mt:Int}{G:Gr}{U:Nat->Prop} (qm:gw h p m mt dim G U) (hml:G.M.length<=800) {a b:Int}{l:Nat} (hl:l<5) (ha:∃r,aK a G.M=some r) (hb:∃r,aK b G.M=some r) (R:Nat->Prop) (hUR:∀b,U b->R b) :
  ∃r s',aE (Cs bD) eg 82 [.pointer (some ⟨p,0,none⟩),.int .i64 a,.int .i64 b,.int .i64 (l:Int)] ⟨h,c,rl,wl⟩ r s'/\gw s'.h p m mt dim ⟨G.M,f0 l G.L a b⟩ (fun b=>U b\/c<=b/\b<s'.c)/\bA ⟨h,c,rl,wl⟩ s' R U:=by
 obtain⟨ow,q⟩:=qm
 obtain⟨r,s',h1,⟨ow',h2,_⟩,h3⟩:=tB (rl:=rl) (wl:=wl) hf q hml hl ha hb R hUR
 exact⟨r,s',h1,⟨ow',h2.wide h3.fresh fun b hb=>.inl hb⟩,h3.mono (fun _ _ q=>q) (fun _ _ q=>q.1)⟩
end Go.Ab.Seat
end
