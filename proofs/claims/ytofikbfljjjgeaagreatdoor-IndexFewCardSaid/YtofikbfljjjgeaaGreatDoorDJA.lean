import Derived.Test.YtofikbfljjjgeaaGreatDoorDJ7
import Derived.Test.YtofikbfljjjgeaaGreatDoorDJ2
set_option linter.unusedVariables false
set_option linter.unusedSimpArgs false
section
namespace Go.Ab.Seat
open Go.Extern Go.Proofs
set_option maxRecDepth 4000
def gM (h:T ag) (c n:Nat) (F:List Ht) (S D:List Int):Prop:=∃lv,ay h c (.cells [lv,.int .i64 (n:Int)])/\eG h lv F.length (aF F)/\(∀b,au lv=some b->c+4<=b)/\tQ h (c+1) S/\ay h (c+3) (.cells [.map (some (c+2))])/\tQ h (c+2) D
theorem gM.keep {h h':T ag}{c c' n:Nat}{F:List Ht}{S D:List Int} (x:gM h c n F S D) (hf:ai h c') (k:∀b,c<=b->b<c'->h'.get b=h.get b):gM h' c n F S D:=by
 obtain⟨lv,x1,x2,x3,x4,x5,x6⟩:=x
 refine⟨lv,(k _ (Nat.le_refl _) (x1.lt hf)).trans x1,x2.keep fun b hb=>k b (by have:=x3 b hb;omega) ?_,x3,x4.keep (k _ (by omega) (x4.lt hf)),(k _ (by omega) (x5.lt hf)).trans x5,x6.keep (k _ (by omega) (x6.lt hf))⟩
 rcases x2 with⟨rfl,_⟩|⟨bl,cap,cs,rfl,_,_,g,_⟩
 ·cases hb
 ·cases hb;exact g.lt hf
theorem dx.wfAt {es:List (Value×Value×Nat)}{n:Nat}{ids:List Int} (k:dx es n ids) {x:Int}{v:Value} (h:dU x es=some v):rq x=true:=by
 refine k.wf x (Classical.byContradiction fun q=>?_)
 rw[dh.2 ((bo k.keys).2 q)] at h
 cases h
theorem jk.wf {h:T ag}{p m:Nat}{mt:Int}{dim:Nat}{G:Gr}{U:Nat->Prop}{ow:Ow} (q:jk h p m mt dim G U ow) {id:Int}{r:Rc} (hr:aK id G.M=some r):rq id=true:=by
 obtain⟨es,n,vi,nb,vv,ls,hm,⟨ids,hk⟩,hfit,hfi,_⟩:=q.at hr
 exact hk.wfAt (v:=.pointer (some ⟨nb,0,none⟩)) (by unfold dU;rw[hfi];rfl)
theorem ld {sm:Nat->Option (List Value->M Value)}:yO (Cs sm) 110=some (5,1):=by kernel_rfl
theorem uw {sm:Nat->Option (List Value->M Value)}:yO (Cs sm) 187=some (2,1):=by kernel_rfl
def zX:List Nat:=[0,1,2,3,4,10,11,12,13,15,16,17,19,24,25,26,27,46,66,67,68,69,75]
section
variable {h:T ag}{c:Nat}{rl wl:List Nat}{p m dim:Nat}{mt:Int}{G:Gr}{U:Nat->Prop}{qa:Option Addr}{qc:Nat}{qs:List Int}
theorem tw {c0 n:Nat}{F:List Ht}{S D:List Int} (hf:ai h c) (L:gM h c0 n F S D) (hn:F.length<=900) (hk:n<=900) (x:Ht) :
  ∃r s',aE (Cs bD) eg 138 [.pointer (some ⟨c0,0,none⟩),jw x.id x.sc] ⟨h,c,rl,wl⟩ r s'/\gM s'.h c0 n (eu n F x) S D/\bA ⟨h,c,rl,wl⟩ s' (fun b=>c0<=b) (fun b=>c0<=b):=by
 have L0:=L
 obtain⟨lv,x1,x2,x3,x4,x5,x6⟩:=L
 have l1:=x1.lt hf
 have l4:=x4.lt hf
 have l5:=x5.lt hf
 have l6:=x6.lt hf
 obtain⟨r,s',g1,⟨lv',g2,g3,g4⟩,g5⟩:=uF aU (rfl:bD 200=some gIns) (rl:=rl) (wl:=wl) hf x x1 x2 (fun b hb=>by have:=x3 b hb;omega) hn (by omega)
 have kk:∀b,b<c->b≠c0->(c0<=b->b<c0+4)->s'.h.get b=h.get b:=fun b hb hne hlt=>g5.h b hb fun q=>by
  rcases q with q|q
  ·exact hne q
  ·have:=x3 b q;have:=hlt (by omega);omega
 refine⟨r,s',g1,⟨lv',g2,g3,fun b hb=>?_,x4.keep (kk _ l4 (by omega) (by omega)),(kk _ l5 (by omega) (by omega)).trans x5,x6.keep (kk _ l6 (by omega) (by omega))⟩,g5.mono (fun b _ q=>?_) (fun b _ q=>?_)⟩
 ·rcases g4 b hb with q|q
  ·exact x3 b q
  ·omega
 ·rcases q with q|q
  ·show c0<=b;omega
  ·have:=x3 b q;show c0<=b;omega
 ·rcases q with q|q
  ·show c0<=b;omega
  ·have:=x3 b q;show c0<=b;omega
set_option maxHeartbeats 16000000 in
theorem mX (hf:ai h c) (qm:gw h p m mt dim G U) (hmt:mt=1\/mt=2) (hq:bj h (.slice qa dim qc) dim 1 (qs.map (Value.int .i32))) (hqn:qs.length=dim) (hqb:gc qs) (hd:dim<=1000) {l:Nat} (hl:l<=4) {oa:Option Addr}{fc:Nat}{fs:List Int} (hfr:bj h (.slice oa fs.length fc) fs.length 1 (fs.map (Value.int .i64))) (hfm:∀x∈fs,∃r,aK x G.M=some r) (hfl:fs.length<=900) {n:Nat} (hn:n<=900) (hml:G.M.length<=800) (R:Nat->Prop) (hUR:∀b,U b->R b) (hqR:∀b,au (.slice qa dim qc)=some b->R b) (hfR:∀b,au (.slice oa fs.length fc)=some b->R b) :
  ∃r s',aE (Cs bD) eg 74 [.pointer (some ⟨p,0,none⟩),.slice qa dim qc,.int .i64 (l:Int),.slice oa fs.length fc,.int .i64 (n:Int)] ⟨h,c,rl,wl⟩ r s'/\i8 s'.h c r (b7 mt G qs l fs n)/\bA ⟨h,c,rl,wl⟩ s' R (fun _=>False):=by
 have hbg:dv=1048576:=rfl
 obtain⟨ow,q⟩:=qm
 refine Fn.go (aU 74 rfl) Ov OP ON rfl rfl ?_
 refine cg ?_
 refine aq ?_
 refine ax.call rfl rfl (uX aU aO (n:Int)) ?_
 rintro v1 h1 c1 r1 w1 ⟨⟨rfl,g1,rfl⟩,hext⟩
 simp only at g1
 rw[show max (n:Int) 0=n by omega] at g1
 have kp:=Kp.ext (W:=fun _=>False) (h:=h) (c:=c) bW hext (by omega) (fun _ _ q=>q)
 have lr:=Lg.extR (R:=R) (c:=c) az hext (fun _ _ q=>q.elim)
 have lw:=Lg.extW (W:=fun _=>False) (c:=c) az hext (fun _ _ q=>q)
 have fr1:=hext.fresh
 simp only at fr1
 refine aq ?_
 refine Wx.cutO (fun e s=>∃(g:Nat->Value) (h':T ag) (c':Nat) (rl' wl':List Nat),e=fr g [(0,.pointer (some ⟨p,0,none⟩)),(1,.slice qa dim qc),(2,.int .i64 (l:Int)),(11,.pointer (some ⟨c,0,none⟩)),(12,.map (some (c+1))),(13,.pointer (some ⟨c+3,0,none⟩))] zX/\s=⟨h',c',rl',wl'⟩/\c+4<=c'/\ai h' c'/\Kp h h' c (fun _=>False)/\gM h' c n (me mt G.M qs n fs).f (me mt G.M qs n fs).s []/\Lg c R rl'/\Lg c (fun _=>False) wl') iY ?_ ?_
 ·refine Wx.loopF (fun k1 e s=>∃(g:Nat->Value) (i:Nat) (z:Int) (h':T ag) (c':Nat) (rl' wl':List Nat),e=fr g [(0,.pointer (some ⟨p,0,none⟩)),(1,.slice qa dim qc),(2,.int .i64 (l:Int)),(11,.pointer (some ⟨c,0,none⟩)),(12,.map (some (c+1))),(13,.pointer (some ⟨c+3,0,none⟩)),(24,.slice oa fs.length fc),(25,.int .i64 (fs.length:Int)),(26,.int .i64 z)] zX/\z=i/\s=⟨h',c',rl',wl'⟩/\c+4<=c'/\ai h' c'/\Kp h h' c (fun _=>False)/\gM h' c n ((fs.take i).foldl (gT mt G.M qs n) ([],[])).1 ((fs.take i).foldl (gT mt G.M qs n) ([],[])).2 []/\Lg c R rl'/\Lg c (fun _=>False) wl'/\i<=fs.length/\k1=fs.length - i) fs.length zX [(0,_),(1,_),(2,_),(11,_),(12,_),(13,_),(24,_),(25,_),(26,.int .i64 0)] ⟨_,0,0,_,_,_,_,rfl,rfl,rfl,by omega,aO,bW,⟨_,gL,.inl ⟨rfl,rfl,rfl⟩,(fun b hb=>by cases hb),.nil gL,gL,.nil gL⟩,az,az,by omega,rfl⟩ ?_
  rintro k1 e s ⟨g,i,z,h',c',rl',wl',rfl,hz,rfl,hcc,hf',hkp,hL,hlr,hlw,hid,rfl⟩
  (refine Wx.sw (by simp only[zX,i5,i6,dC,dB,Nat.reduceEqDiff,↓reduceIte];rfl) ?_)
  by_cases hi:i<fs.length
  rotate_left
  ·refine aq ?_
   obtain rfl:i=fs.length:=by omega
   rw[List.take_length] at hL
   exact di.goF zX [(0,_),(1,_),(2,_),(11,_),(12,_),(13,_)] ⟨_,_,_,_,_,rfl,rfl,hcc,hf',hkp,hL,hlr,hlw⟩
  have hgood:dF mt G.M qs n ((fs.take i).foldl (gT mt G.M qs n) ([],[])):=dF.nil.fromAll fun y hy=>hfm y (List.mem_of_mem_take hy)
  have hst:=eX (gT mt G.M qs n) ([],[]) hi
  obtain⟨r0,hr0⟩:=hfm fs[i] (List.getElem_mem hi)
  have hwf:=q.wf hr0
  generalize hFS:(fs.take i).foldl (gT mt G.M qs n) ([],[])=FS at hL hgood hst
  obtain⟨b1,o1,sp1,cs1,rfl,hc1,hn1⟩:=bp (bj.keepF hfr hf (fun b hb=>hkp b hb (fun q=>q))) (j:=i*1) (by omega) (fi (List.getElem?_eq_getElem hi))
  have hR1:=hfR b1 rfl
  have l1:=hc1.lt hf'
  obtain⟨lv,x1,x2,x3,⟨es,en,ids,x4,x4k,x4v⟩,x5,x6⟩:=hL
  have l4:=x4.lt hf'
  refine aq ?_
  refine Zu (aj (k:=i) ct rfl rfl hz (by omega)) ?_
  refine Zu (aB (dV rfl) rfl hc1 (by omega) hn1) ?_
  refine aq ?_
  refine ax.st0 (ef (pk rfl) rfl rfl rfl x4 l4 x4k.ks) ?_
  refine aq ?_
  have kA:∀b,b<c->(h'.set (c+1) (some (.map (eH .i64 fs[i] (.bool true) en es).1 (eH .i64 fs[i] (.bool true) en es).2))).get b=h.get b:=fun b hb=>(am (by omega)).trans (hkp b hb (fun q=>q))
  refine ax.call rfl rfl (mG aO (gw.keep ⟨ow,q⟩ hf (fun b _ hb=>kA b hb)) hmt (bj.keepF hq hf kA) hqn hqb hd hr0 R hUR hqR) ?_
  rintro v2 h2 c2 r2 w2 ⟨rfl,hext2⟩
  have fr2:=hext2.fresh
  have le2:=hext2.c
  simp only at fr2 le2
  have kp2:=Kp.ext (W:=fun _=>False) (h:=h) (c:=c) bW hext2 (by omega) (fun _ _ q=>q)
  have lr2:=Lg.extR (R:=R) (c:=c) az hext2 (fun _ _ q=>q)
  have lw2:=Lg.extW (W:=fun _=>False) (c:=c) az hext2 (fun _ _ q=>q)
  have lbl:∀b,au lv=some b->b<c':=by
   rcases x2 with⟨rfl,_⟩|⟨bl,cap,cs,rfl,_,_,gb,_⟩
   ·intro b hb;cases hb
   ·intro b hb;cases hb;exact gb.lt hf'
  have hL2:gM h2 c n FS.1 (fs[i]::FS.2) []:=by
   have e1:∀b,b<c'->b≠c+1->h2.get b=h'.get b:=fun b hb hne=>(hext2.h b hb (fun q=>q)).trans (am hne)
   refine⟨lv,(e1 c (by omega) (by omega)).trans x1,x2.keep fun b hb=>e1 b (lbl b hb) (by have:=x3 b hb;omega),x3,⟨_,_,_,(hext2.h (c+1) l4 (fun q=>q)).trans ay.same,x4k.put hwf _,fun x=>wQ x4k x4v _ x⟩,(e1 _ (x5.lt hf') (by omega)).trans x5,x6.keep (e1 _ (x6.lt hf') (by omega))⟩
  refine aq ?_
  refine ax.call rfl rfl (tw aO hL2 (by have:=hgood.len;omega) hn (cK mt G.M qs fs[i])) ?_
  rintro v3 h3 c3 r3 w3 ⟨hL3,hext3⟩
  have fr3:=hext3.fresh
  have le3:=hext3.c
  simp only at fr3 le3
  have kp3:=Kp.ext (W:=fun _=>False) (h:=h) (c:=c) kp2 hext3 (by omega) (fun b hb q=>by omega)
  have lr3:=Lg.extR (R:=R) (c:=c) az hext3 (fun b hb q=>by omega)
  have lw3:=Lg.extW (W:=fun _=>False) (c:=c) az hext3 (fun b hb q=>by omega)
  refine aq ?_
  exact aC.goF (fs.length - (i+1)) zX [(0,_),(1,_),(2,_),(11,_),(12,_),(13,_),(24,_),(25,_),(26,.int .i64 (z+1))] (by omega) ⟨_,i+1,z+1,_,_,_,_,rfl,by omega,rfl,by omega,fr3,kp3,by rw[hst];exact hL3,lr3,lw3,by omega,rfl⟩
 rintro e s ⟨g,h2,c2,r2,w2,rfl,rfl,hcc,hf2,hkp2,hL,hlr2,hlw2⟩
 (refine Wx.sw (by simp only[zX,i5,i6,dC,dB,Nat.reduceEqDiff,↓reduceIte];rfl) ?_)
 refine aq ?_
 refine Wx.loopF (fun k1 e s=>∃(g:Nat->Value) (st:LS) (h':T ag) (c':Nat) (rl' wl':List Nat),e=fr g [(0,.pointer (some ⟨p,0,none⟩)),(1,.slice qa dim qc),(2,.int .i64 (l:Int)),(11,.pointer (some ⟨c,0,none⟩)),(12,.map (some (c+1))),(13,.pointer (some ⟨c+3,0,none⟩))] zX/\s=⟨h',c',rl',wl'⟩/\c+4<=c'/\ai h' c'/\Kp h h' c (fun _=>False)/\gM h' c n st.f st.s st.d/\jn mt G qs n st/\gU mt G qs l n k1 st=gI mt G qs l fs n/\st.d.length+k1=G.M.length+1/\Lg c R rl'/\Lg c (fun _=>False) wl') (G.M.length+1) zX [(0,_),(1,_),(2,_),(11,_),(12,_),(13,_)] ⟨_,me mt G.M qs n fs,_,_,_,_,rfl,rfl,hcc,hf2,hkp2,hL,jn.start hfm,rfl,by show 0+_=_;omega,hlr2,hlw2⟩ ?_
 rintro k1 e s ⟨g,st,h2,c2,r2,w2,rfl,rfl,hcc,hf2,hkp2,hL,hgd,hlk,hdk,hlr2,hlw2⟩
 (refine Wx.sw (by simp only[zX,i5,i6,dC,dB,Nat.reduceEqDiff,↓reduceIte];rfl) ?_)
 have hfn:=hgd.f.len
 obtain⟨lv,x1,x2,x3,⟨es,en,ids,x4,x4k,x4v⟩,x5,x6⟩:=hL
 have lbl:∀b,au lv=some b->b<c2:=by
  rcases x2 with⟨rfl,_⟩|⟨bl,cap,cs,rfl,_,_,gb,_⟩
  ·intro b hb;cases hb
  ·intro b hb;cases hb;exact gb.lt hf2
 have l4:=x4.lt hf2
 have l5:=x5.lt hf2
 have l6:=x6.lt hf2
 refine aq ?_
 refine ax.call rfl rfl (ym aU aO x1 x2 (by have:st.f.length<=n:=hfn;omega)) ?_
 rintro v3 h3 c3 r3 w3 ⟨⟨y1,y2⟩,hext3⟩
 have fr3:=hext3.fresh
 have le3:=hext3.c
 simp only at fr3 le3
 have kp3:=Kp.ext (W:=fun _=>False) (h:=h2) (c:=c2) bW hext3 (by omega) (fun _ _ q=>q)
 have lr3:=Lg.extR (R:=R) (c:=c) az hext3 (fun b hb q=>q.elim (fun q=>by omega) (fun q=>by have:=x3 b q;omega))
 have lw3:=Lg.extW (W:=fun _=>False) (c:=c) az hext3 (fun _ _ q=>q)
 obtain⟨oh,ch,rfl,hch,hrow⟩:=y1.row
 refine aq ?_
 refine ax.call rfl rfl (ut aO hrow (by have:st.f.length<=n:=hfn;omega) (fun b=>c2<=b) y2) ?_
 rintro v4 h4 c4 r4 w4 ⟨hI,hext4⟩
 have fr4:=hext4.fresh
 have le4:=hext4.c
 simp only at fr4 le4
 have kp4:=Kp.ext (W:=fun _=>False) (h:=h2) (c:=c2) kp3 hext4 (by omega) (fun _ _ q=>q)
 have lr4:=Lg.extR (R:=R) (c:=c) az hext4 (fun b hb q=>by omega)
 have lw4:=Lg.extW (W:=fun _=>False) (c:=c) az hext4 (fun _ _ q=>q)
 obtain⟨oi,rfl,hir,hib⟩:=hI.val
 have hls:(st.f.map Ht.id).length=st.f.length:=List.length_map _
 have hfn2:st.f.length<=n:=hfn
 refine aq ?_
 refine ax.call rfl rfl (uq aO (fun x=>decide (x∉st.d)) hir (by omega) (fun b=>c<=b) (fun b hb=>by have:=hib b hb;show c<=b;omega) (fun h' c' rl' wl' f' hc' k' x hx=>Ar f' ((k' _ (by omega) (fun q=>q)).trans ((kp4 _ l5 (fun q=>q)).trans x5)) (x6.keep ((k' _ (by omega) (fun q=>q)).trans (kp4 _ l6 (fun q=>q)))) x _ (by show c<=c+3;omega) (by show c<=c+2;omega))) ?_
 rintro v5 h5 c5 r5 w5 ⟨hix,hext5⟩
 have fr5:=hext5.fresh
 have le5:=hext5.c
 simp only at fr5 le5
 have kp5:=Kp.ext (W:=fun _=>False) (h:=h2) (c:=c2) kp4 hext5 (by omega) (fun _ _ q=>q)
 have kpc:Kp h h5 c (fun _=>False):=fun b hb _=>(kp5 b (by omega) (fun q=>q)).trans (hkp2 b hb (fun q=>q))
 have lr5:=Lg.extR (R:=R) (c:=c) az hext5 (fun b hb q=>by omega)
 have lw5:=Lg.extW (W:=fun _=>False) (c:=c) az hext5 (fun _ _ q=>q)
 have hI5:i8 h5 c3 _ (st.f.map Ht.id):=hI.keep fun b hb=>hext5.h b (hI.lt fr4 b hb) (fun q=>q)
 rcases hix with⟨i,x,ix1,ix2,ix3,rfl⟩|⟨rfl,hno⟩
 rotate_left
 ·have hnone:gW st=none:=Be fun y hy=>by simpa using hno y hy
  refine aq ?_
  refine⟨.inr rfl,aG.one rfl ⟨?_,bM⟩⟩
  unfold b7
  rw[<- hlk,mK hnone]
  exact hI5.low (by omega)
 obtain⟨xh,hnx,hxid,hxf⟩:=yU ix1 (by simpa using ix2) (fun y hy=>by simpa using ix3 y hy)
 obtain⟨hi,_⟩:=List.getElem?_eq_some_iff.1 ix1
 obtain⟨r0,hr0⟩:=hgd.f.mem xh (iQ hnx).1
 rw[hxid] at hr0
 have q5:jk h5 p m mt dim G U ow:=q.keep hf (fun b _ hb=>kpc b hb (fun q=>q))
 have hp5:=q5.ptr
 obtain⟨lp,lm⟩:=q.lt hf
 have hpR:=hUR p q.pU
 have hmR:=hUR m q.mU
 obtain⟨es1,n1,vi,nb,vv,ls,hm5,⟨ids1,hk1⟩,hfit,hfi,hn5,hid5⟩:=q5.at hr0
 have lnb:nb<c:=by
  obtain⟨es0,n0,vi0,nb0,vv0,ls0,hm0,_,_,hfi0,hn0,_⟩:=q.at hr0
  have e1:ay h5 m (.map es0 n0):=(kpc m lm (fun q=>q)).trans hm0
  have e2:=hm5.symm.trans e1
  simp only[Option.some.injEq,ag.map.injEq] at e2
  rw[e2.1,hfi0] at hfi
  simp only[Option.some.injEq,Prod.mk.injEq,Value.pointer.injEq,Addr.mk.injEq] at hfi
  rw[<- hfi.2.1]
  exact hn0.at_.lt hf
 have rnb:=hUR nb hn5.u
 have hnb:=hn5.at_
 have hlk5:=hn5.lk l (by omega)
 have hol5:=hn5.ol l (by omega)
 rw[hid5] at hlk5
 obtain⟨ol,cl,hlv⟩:=hlk5.val
 have lol:∀b,au (ls l)=some b->b<c:=by
  obtain⟨es0,n0,vi0,nb0,vv0,ls0,hm0,_,_,hfi0,hn0,hid0⟩:=q.at hr0
  have e1:ay h5 m (.map es0 n0):=(kpc m lm (fun q=>q)).trans hm0
  have e2:=hm5.symm.trans e1
  simp only[Option.some.injEq,ag.map.injEq] at e2
  rw[e2.1,hfi0] at hfi
  simp only[Option.some.injEq,Prod.mk.injEq,Value.pointer.injEq,Addr.mk.injEq] at hfi
  have e3:ay h5 nb (.cells (gC vv0 r0.seq ls0)):=by rw[<- hfi.2.1];exact(kpc nb0 (hn0.at_.lt hf) (fun q=>q)).trans hn0.at_
  have e4:=hnb.symm.trans e3
  have e5:ls l=ls0 l:=by
   have e6:cu (gC vv r0.seq ls) (0+2+l*1)=cu (gC vv0 r0.seq ls0) (0+2+l*1):=by rw[ag.cells.inj (Option.some.inj e4)]
   rw[fU (by omega),fU (by omega)] at e6
   exact Option.some.inj e6
  rw[e5]
  exact(hn0.lk l (by omega)).lt hf
 rw[hlv] at lol hol5 hlk5
 have x55:ay h5 (c+3) (.cells [.map (some (c+2))]):=(kp5 _ l5 (fun q=>q)).trans x5
 obtain⟨esd,nd,idd,z1,z2,z3⟩:=x6.keep (kp5 _ l6 (fun q=>q))
 have hir5:bj h5 (.slice oi (st.f.map Ht.id).length (st.f.map Ht.id).length) (st.f.map Ht.id).length 1 ((st.f.map Ht.id).map (Value.int .i64)):=by
  obtain⟨_,e,g5,_⟩:=hI5.val
  exact g5
 obtain⟨b1,o1,sp1,cs1,rfl,hc1,hn1⟩:=bp hir5 (j:=i*1) (by omega) (fi ix1)
 have hb1:=hib b1 rfl
 have l1:=hc1.lt fr5
 have hwf:=q.wf hr0
 refine aq ?_
 refine Zq (aj (k:=i) ct rfl rfl rfl hi) ?_
 refine Zd (aB (dV rfl) rfl hc1 (by omega) hn1) ?_
 refine bN.op (s1:=⟨h5.set (c+2) (some (.map (eH .i64 x (.bool true) nd esd).1 (eH .i64 x (.bool true) nd esd).2)),c5,[c+2],[c+2]⟩) rfl (ef (pk rfl) rfl rfl rfl z1 (z1.lt fr5) z2.ks) ?_ ?_
 ·exact i7
 dsimp only[put]
 refine aq ?_
 refine Zq (aj (k:=i) ct rfl rfl rfl hi) ?_
 refine Zd (aB (dV rfl) rfl (hc1.other (by omega)) (by omega) hn1) ?_
 refine aq ?_
 refine Zd (bL (pk rfl) (tG rfl) rfl rfl (hm5.other (by omega)) (by omega) hk1.ks (by rw[hfi])) ?_
 refine aq ?_
 refine Zq (aY (k:=l) ld rfl rfl rfl (by omega)) ?_
 refine Zd (aB (dV rfl) rfl (hnb.cel.other (by omega)) (by omega) (fU (by omega))) ?_
 rw[hlv]
 refine aq ?_
 have kp6:∀b,b<c2->b≠c+2->(h5.set (c+2) (some (.map (eH .i64 x (.bool true) nd esd).1 (eH .i64 x (.bool true) nd esd).2))).get b=h2.get b:=fun b hb hne=>(am hne).trans (kp5 b hb (fun q=>q))
 have hLA:gM (h5.set (c+2) (some (.map (eH .i64 x (.bool true) nd esd).1 (eH .i64 x (.bool true) nd esd).2))) c n st.f st.s (x::st.d) :=
  ⟨lv,(kp6 _ (x1.lt hf2) (by omega)).trans x1,x2.keep fun b hb=>kp6 b (lbl b hb) (by have:=x3 b hb;omega),x3,⟨_,_,_,(kp6 _ l4 (by omega)).trans x4,x4k,x4v⟩,ay.other (by omega) x55,⟨_,_,_,ay.same,z2.put hwf _,fun y=>wQ z2 z3 _ y⟩⟩
 have hgd2:=hgd.step (l:=l) hnx (q.mem xh.id l)
 have hlen2:=hgd2.len
 have hdl:(uP mt G qs l n st xh).d.length=st.d.length+1:=rfl
 obtain⟨k1,rfl⟩:∃k,k1=k+1:=⟨k1 - 1,by omega⟩
 rw[iS hnx] at hlk
 have hlen:(G.L x l).length<=800:=by
  have:=ix (a:=G.L x l) (b:=G.M.map Rc.id) ((q.up x l).imp fun h=>by omega) fun y hy=>by
   obtain⟨r,hr⟩:=q.mem x l y hy
   obtain⟨g1,g2⟩:=cF hr
   exact List.mem_map.2 ⟨r,g1,g2⟩
  rw[List.length_map] at this;omega
 refine Wx.loopF (fun k2 e s=>∃(g:Nat->Value) (j:Nat) (z:Int) (h':T ag) (c':Nat) (rl' wl':List Nat),e=fr g [(0,.pointer (some ⟨p,0,none⟩)),(1,.slice qa dim qc),(2,.int .i64 (l:Int)),(11,.pointer (some ⟨c,0,none⟩)),(12,.map (some (c+1))),(13,.pointer (some ⟨c+3,0,none⟩)),(66,.slice ol (G.L x l).length cl),(67,.int .i64 ((G.L x l).length:Int)),(68,.int .i64 z)] zX/\z=j/\s=⟨h',c',rl',wl'⟩/\c+4<=c'/\ai h' c'/\Kp h h' c (fun _=>False)/\gM h' c n (((G.L x l).take j).foldl (i9 mt G.M qs n) (st.f,st.s)).1 (((G.L x l).take j).foldl (i9 mt G.M qs n) (st.f,st.s)).2 (x::st.d)/\Lg c R rl'/\Lg c (fun _=>False) wl'/\j<=(G.L x l).length/\k2=(G.L x l).length - j) (G.L x l).length zX [(0,_),(1,_),(2,_),(11,_),(12,_),(13,_),(66,_),(67,_),(68,.int .i64 0)] ⟨_,0,0,_,_,_,_,rfl,rfl,rfl,by omega,aO,fun b hb _=>(am (by omega)).trans (kpc b hb (fun q=>q)),hLA,az,az,by omega,rfl⟩ ?_
 rintro k2 e s ⟨g,j,z,h',c',rl',wl',rfl,hz,rfl,hcc',hf',hkp,hL,hlr,hlw,hid,rfl⟩
 (refine Wx.sw (by simp only[zX,i5,i6,dC,dB,Nat.reduceEqDiff,↓reduceIte];rfl) ?_)
 by_cases hj:j<(G.L x l).length
 rotate_left
 ·refine aq ?_
  obtain rfl:j=(G.L x l).length:=by omega
  rw[List.take_length] at hL
  refine aC.goF k1 zX [(0,_),(1,_),(2,_),(11,_),(12,_),(13,_)] (by omega) ⟨_,uP mt G qs l n st xh,_,_,_,_,rfl,rfl,hcc',hf',hkp,?_,hgd2,hlk,by rw[hdl];omega,hlr,hlw⟩
  unfold uP
  rw[hxid]
  exact hL
 have hgood:dF mt G.M qs n (((G.L x l).take j).foldl (i9 mt G.M qs n) (st.f,st.s)):=hgd.f.seeAll fun y hy=>q.mem x l y (List.mem_of_mem_take hy)
 have hst:=eX (i9 mt G.M qs n) (st.f,st.s) hj
 obtain⟨ry,hry⟩:=q.mem x l _ (List.getElem_mem hj)
 have hwfy:=q.wf hry
 generalize hFS:((G.L x l).take j).foldl (i9 mt G.M qs n) (st.f,st.s)=FS at hL hgood hst
 obtain⟨bl,ol',spl,csl,rfl,hcl,hnl⟩:=bp (hlk5.keep (h':=h') (fun b hb=>(hkp b (lol b hb) (fun q=>q)).trans (kpc b (lol b hb) (fun q=>q)).symm)).row (j:=j*1) (by omega) (fi (List.getElem?_eq_getElem hj))
 have hRl:=hUR bl (hol5 bl rfl).1
 have ll:=lol bl rfl
 obtain⟨lv',u1,u2,u3,⟨es',en',ids',u4,u4k,u4v⟩,u5,u6⟩:=hL
 have l4':=u4.lt hf'
 refine aq ?_
 refine Zu (aj (k:=j) ct rfl rfl hz (by omega)) ?_
 refine Zu (aB (dV rfl) rfl hcl (by omega) hnl) ?_
 refine aq ?_
 refine Zu (bL (pk rfl) (tG rfl) rfl rfl u4 l4' u4k.ks (yL u4v _)) ?_
 by_cases hs:(G.L x l)[j]∈FS.2
 ·rw[decide_eq_true hs]
  refine aq ?_
  refine aC.goF ((G.L x l).length - (j+1)) zX [(0,_),(1,_),(2,_),(11,_),(12,_),(13,_),(66,_),(67,_),(68,.int .i64 (z+1))] (by omega) ⟨_,j+1,z+1,_,_,_,_,rfl,by omega,rfl,by omega,hf',hkp,?_,az,az,by omega,rfl⟩
  rw[hst]
  unfold i9
  rw[if_pos hs]
  exact⟨lv',u1,u2,u3,⟨_,_,_,u4,u4k,u4v⟩,u5,u6⟩
 rw[decide_eq_false hs]
 refine aq ?_
 refine ax.st0 (ef (pk rfl) rfl rfl rfl u4 l4' u4k.ks) ?_
 refine aq ?_
 have kA:∀b,b<c->(h'.set (c+1) (some (.map (eH .i64 (G.L x l)[j] (.bool true) en' es').1 (eH .i64 (G.L x l)[j] (.bool true) en' es').2))).get b=h.get b:=fun b hb=>(am (by omega)).trans (hkp b hb (fun q=>q))
 refine ax.call rfl rfl (mG aO (gw.keep ⟨ow,q⟩ hf (fun b _ hb=>kA b hb)) hmt (bj.keepF hq hf kA) hqn hqb hd hry R hUR hqR) ?_
 rintro v7 h7 c7 r7 w7 ⟨rfl,hext7⟩
 have fr7:=hext7.fresh
 have le7:=hext7.c
 simp only at fr7 le7
 have kp7:=Kp.ext (W:=fun _=>False) (h:=h) (c:=c) bW hext7 (by omega) (fun _ _ q=>q)
 have lr7:=Lg.extR (R:=R) (c:=c) az hext7 (fun _ _ q=>q)
 have lw7:=Lg.extW (W:=fun _=>False) (c:=c) az hext7 (fun _ _ q=>q)
 have lbl':∀b,au lv'=some b->b<c':=by
  rcases u2 with⟨rfl,_⟩|⟨bl,cap,cs,rfl,_,_,gb,_⟩
  ·intro b hb;cases hb
  ·intro b hb;cases hb;exact gb.lt hf'
 have hL2:gM h7 c n FS.1 ((G.L x l)[j]::FS.2) (x::st.d):=by
  have e1:∀b,b<c'->b≠c+1->h7.get b=h'.get b:=fun b hb hne=>(hext7.h b hb (fun q=>q)).trans (am hne)
  refine⟨lv',(e1 c (by omega) (by omega)).trans u1,u2.keep fun b hb=>e1 b (lbl' b hb) (by have:=u3 b hb;omega),u3,⟨_,_,_,(hext7.h (c+1) l4' (fun q=>q)).trans ay.same,u4k.put hwfy _,fun x=>wQ u4k u4v _ x⟩,(e1 _ (u5.lt hf') (by omega)).trans u5,u6.keep (e1 _ (u6.lt hf') (by omega))⟩
 refine aq ?_
 refine ax.call rfl rfl (tw aO hL2 (by have:=hgood.len;omega) hn (cK mt G.M qs (G.L x l)[j])) ?_
 rintro v8 h8 c8 r8 w8 ⟨hL8,hext8⟩
 have fr8:=hext8.fresh
 have le8:=hext8.c
 simp only at fr8 le8
 have kp8:=Kp.ext (W:=fun _=>False) (h:=h) (c:=c) kp7 hext8 (by omega) (fun b hb q=>by omega)
 have lr8:=Lg.extR (R:=R) (c:=c) az hext8 (fun b hb q=>by omega)
 have lw8:=Lg.extW (W:=fun _=>False) (c:=c) az hext8 (fun b hb q=>by omega)
 refine aq ?_
 refine aC.goF ((G.L x l).length - (j+1)) zX [(0,_),(1,_),(2,_),(11,_),(12,_),(13,_),(66,_),(67,_),(68,.int .i64 (z+1))] (by omega) ⟨_,j+1,z+1,_,_,_,_,rfl,by omega,rfl,by omega,fr8,kp8,?_,lr8,lw8,by omega,rfl⟩
 rw[hst]
 unfold i9
 rw[if_neg hs]
 exact hL8
end
end Go.Ab.Seat
end
section
namespace Go.Ab.Seat
open Go.Extern Go.Proofs
set_option maxRecDepth 4000
namespace InsI
variable {sm:Nat->Option (List Value->M Value)}
theorem gIns_some (HI:sm 144=some gIns) {h:T ag}{c:Nat}{rl wl:List Nat} (hf:ai h c) {b n cap i vb vc:Nat}{sp:Option Nat}{cs ws vv xs:List Value} (hb:ay h b (.cells cs)) (hs:aP 0 (n*1) cs=some xs) (hn:1<=cap) (hc:n<=cap) (hk:n<=1000) (hv:ay h vb (.cells ws)) (hvs:aP 0 1 ws=some vv) (hne:vb≠b) (ha:∀x∈xs,atom x=true) (ha':∀x∈vv,atom x=true) (hi:i<=n) :
  ∃r s',aE (Cs sm) eg 144 [.slice (some ⟨b,0,some 1⟩) n cap,.int .i64 (i:Int),.slice (some ⟨vb,0,sp⟩) 1 vc] ⟨h,c,rl,wl⟩ r s'/\(r=.slice (some ⟨c+1,0,some 1⟩) (n+1) (n+1)/\s'=⟨(h.set b none).set (c+1) (some (.cells (xs.take (i*1)++vv++xs.drop (i*1)))),c+2,vb::b::rl,b::wl⟩):=by
 have l1:=hb.lt hf
 have l2:=hv.lt hf
 refine⟨_,_,aE.of_sm (q:=gIns) HI ?_,rfl,rfl⟩
 show (match CV 1 n cap vb b (i:Int) with|true=>oo b 0 n ((i:Int)).toNat vb 0|false=>M.fail) _=_
 have hok:CV 1 n cap vb b (i:Int)=true:=by
  unfold CV
  rw[aH.2 hn,aH.2 hc,aH.2 hk,bh.2 hne,decide_eq_true (show (0:Int)<=i by omega),decide_eq_true (show (i:Int)<=n by omega)]
  rfl
 rw[hok,Int.toNat_natCast]
 simp only
 unfold oo
 have hat:(ee atom xs&&ee atom vv)=true:=by rw[bT,bT,List.all_eq_true.2 ha,List.all_eq_true.2 ha'];rfl
 rw[ac (bz hb l1),ac (bz hv l2),ac (aw hs),ac (aw hvs),hat]
 simp only
 rw[ac (show zI ⟨h,c,vb::b::rl,wl⟩=some ((),⟨h,c+1,vb::b::rl,wl⟩) from rfl),ac (gD hb (by omega)),ac (bc (ai.put (by omega) (hf.up (by omega))))]
 rfl
theorem gIns_nil (HI:sm 144=some gIns) {h:T ag}{c:Nat}{rl wl:List Nat} (hf:ai h c) {vb vc:Nat}{sp:Option Nat}{ws vv:List Value} (hv:ay h vb (.cells ws)) (hvs:aP 0 1 ws=some vv) :
  ∃r s',aE (Cs sm) eg 144 [.slice none 0 0,.int .i64 0,.slice (some ⟨vb,0,sp⟩) 1 vc] ⟨h,c,rl,wl⟩ r s'/\(r=.slice (some ⟨c,0,some 1⟩) 1 1/\s'=⟨h.set c (some (.cells vv)),c+1,vb::rl,wl⟩):=by
 have l2:=hv.lt hf
 refine⟨_,_,aE.of_sm (q:=gIns) HI ?_,rfl,rfl⟩
 show oy vb 0 _=_
 unfold oy
 rw[ac (bz hv l2),ac (aw hvs),ac (bc hf)]
 rfl
end InsI
section
variable {h:T ag}{c:Nat}{rl wl:List Nat}
theorem Gf (hf:ai h c) (x:Int):∃r s',aE (Cs bD) eg 229 [.int .i64 x] ⟨h,c,rl,wl⟩ r s'/\(r=.bool false/\s'=⟨h,c,rl,wl⟩):=by
 refine Fn.go (aU 229 rfl) JB JP Lm rfl rfl ?_
 refine cg ?_
 refine aq ?_
 exact⟨.inr rfl,aG.one rfl ⟨rfl,rfl⟩⟩
theorem DW (hf:ai h c) (x:Int):∃r s',aE (Cs bD) eg 203 [.int .i64 x] ⟨h,c,rl,wl⟩ r s'/\(r=.bool false/\s'=⟨h,c,rl,wl⟩):=by
 refine Fn.go (aU 203 rfl) KV KA Md rfl rfl ?_
 refine cg ?_
 refine aq ?_
 exact⟨.inr rfl,aG.one rfl ⟨rfl,rfl⟩⟩
theorem Bc (hf:ai h c) (x y:Int):∃r s',aE (Cs bD) eg 202 [.int .i64 x,.int .i64 y] ⟨h,c,rl,wl⟩ r s'/\(r=.bool (decide (x<y))/\s'=⟨h,c,rl,wl⟩):=by
 refine Fn.go (aU 202 rfl) KY L5 KU rfl rfl ?_
 refine cg ?_
 refine aq ?_
 refine ax.call rfl rfl (Gf aO x) ?_
 rintro v1 h1 c1 r1 w1 ⟨rfl,e1⟩
 cases e1
 by_cases hxy:x<y
 ·rw[decide_eq_true hxy]
  refine aq ?_
  exact⟨.inr rfl,aG.one rfl ⟨rfl,rfl⟩⟩
 ·rw[decide_eq_false hxy]
  refine aq ?_
  exact⟨.inr rfl,aG.one rfl ⟨rfl,rfl⟩⟩
def EG:List Nat:=[0,1,4,5,6,7,8,9,15,27]
set_option maxHeartbeats 4000000 in
theorem o5 (hf:ai h c) {oa:Option Addr}{cap:Nat}{l:List Int} (hx:bj h (.slice oa l.length cap) l.length 1 (l.map (Value.int .i64))) (hu:Up l) (hn:l.length<=100000) (v:Int) (R:Nat->Prop) (hR:∀b,au (.slice oa l.length cap)=some b->R b) :
  ∃r s',aE (Cs bD) eg 143 [.slice oa l.length cap,.int .i64 v] ⟨h,c,rl,wl⟩ r s'/\(r=.tuple #[.int .i64 (dD v l:Int),.bool (decide (v∈l))]/\s'.h=h/\s'.c=c)/\bA ⟨h,c,rl,wl⟩ s' R (fun _=>False):=by
 refine Fn.go (aU 143 rfl) Ji Kg Js rfl rfl ?_
 refine cg ?_
 refine aq ?_
 have hple:=qY v l
 refine Wx.loopF (fun k1 e s=>∃(g:Nat->Value) (a b:Nat) (z1 z2:Int) (rl' wl':List Nat),e=fr g [(0,.slice oa l.length cap),(1,.int .i64 v),(6,.int .i64 (l.length:Int)),(7,.int .i64 z1),(8,.int .i64 z2)] EG/\z1=a/\z2=b/\s=⟨h,c,rl',wl'⟩/\Lg c R rl'/\Lg c (fun _=>False) wl'/\a<=dD v l/\dD v l<=b/\b<=l.length/\k1=b - a) l.length EG [(0,_),(1,_),(6,_),(7,.int .i64 0),(8,_)] ⟨_,0,l.length,_,_,_,_,rfl,rfl,rfl,rfl,az,az,by omega,by omega,by omega,by omega⟩ ?_
 rintro k1 e s ⟨g,a,b,z1,z2,rl',wl',rfl,hz1,hz2,rfl,hlr,hlw,ha,hb,hbn,rfl⟩
 (refine Wx.sw (by simp only[EG,i5,i6,dC,dB,Nat.reduceEqDiff,↓reduceIte];rfl) ?_)
 by_cases hab:a<b
 rotate_left
 ·refine aq ?_
  obtain rfl:a=b:=by omega
  have hap:a=dD v l:=by omega
  by_cases hal:a<l.length
  rotate_left
  ·have hm:decide (v∈l)=false:=decide_eq_false fun q=>by
    have:=(rM hu).1 q
    rw[<- hap,List.getElem?_eq_none (by omega)] at this
    cases this
   rw[decide_eq_false (show ¬z1<(l.length:Int) by omega)]
   refine aq ?_
   refine⟨.inr rfl,aG.two rfl rfl ⟨⟨?_,rfl,rfl⟩,bM⟩⟩
   rw[hm,<- hap,<- hz1];rfl
  obtain⟨b1,o1,sp1,cs1,rfl,hc1,hn1⟩:=bp hx (j:=a*1) (by omega) (fi (List.getElem?_eq_getElem hal))
  have hR1:=hR b1 rfl
  have l1:=hc1.lt hf
  by_cases hav:l[a]=v
  ·have hm:decide (v∈l)=true:=decide_eq_true (hav▸List.getElem_mem hal)
   rw[decide_eq_true (show z1<(l.length:Int) by omega)]
   refine aq ?_
   refine Zu (aj (k:=a) ct rfl rfl hz1 (by omega)) ?_
   refine Zu (aB (dV rfl) rfl hc1 (by omega) hn1) ?_
   refine aq ?_
   refine⟨.inr rfl,aG.two rfl rfl ⟨⟨?_,rfl,rfl⟩,bM⟩⟩
   rw[hm,<- hap,<- hz1];rfl
  ·have hm:decide (v∈l)=false:=decide_eq_false fun q=>by
    have:=(rM hu).1 q
    rw[<- hap,List.getElem?_eq_getElem hal] at this
    exact hav (Option.some.inj this)
   rw[decide_eq_true (show z1<(l.length:Int) by omega)]
   refine aq ?_
   refine Zu (aj (k:=a) ct rfl rfl hz1 (by omega)) ?_
   refine Zu (aB (dV rfl) rfl hc1 (by omega) hn1) ?_
   refine aq ?_
   refine Zu (aj (k:=a) ct rfl rfl hz1 (by omega)) ?_
   refine Zu (aB (dV rfl) rfl hc1 (by omega) hn1) ?_
   refine ax.call rfl rfl (DW aO _) ?_
   rintro v1 h1 c1 r1 w1 ⟨rfl,e1⟩
   cases e1
   refine aq ?_
   refine⟨.inr rfl,aG.two rfl rfl ⟨⟨?_,rfl,rfl⟩,bM⟩⟩
   rw[hm,<- hap,<- hz1];rfl
 refine aq ?_
 refine Zu (F0 (k:=1) rfl rfl (by decide)) ?_
 refine aq ?_
 have hmid:cf .i64 ((cf .u64 (z1+z2)).fdiv ((2^1:Nat):Int))=(((a+b) / 2:Nat):Int):=by
  have e1:cf .u64 (z1+z2)=z1+z2:=by
   rw[fB]
   show IntKind.wrap .u64 _=_
   unfold IntKind.wrap
   simp [IntKind.signed,IntKind.bits]
   omega
  rw[e1,Int.fdiv_eq_ediv_of_nonneg _ (by decide),cm (by omega) (by omega)]
  omega
 rw[hmid]
 have hml:(a+b) / 2<l.length:=by omega
 obtain⟨b1,o1,sp1,cs1,rfl,hc1,hn1⟩:=bp hx (j:=(a+b) / 2*1) (by omega) (fi (List.getElem?_eq_getElem hml))
 have hR1:=hR b1 rfl
 have l1:=hc1.lt hf
 have hlt:=mH (v:=v) hu (List.getElem?_eq_getElem hml)
 refine Zu (aj (k:=(a+b) / 2) ct rfl rfl rfl (by omega)) ?_
 refine Zu (aB (dV rfl) rfl hc1 (by omega) hn1) ?_
 refine aq ?_
 refine ax.call rfl rfl (Bc aO _ _) ?_
 rintro v1 h1 c1 r1 w1 ⟨rfl,e1⟩
 cases e1
 by_cases hlv:l[(a+b) / 2]<v
 ·rw[decide_eq_true hlv]
  refine aq ?_
  exact aC.goF (b - ((a+b) / 2+1)) EG [(0,_),(1,_),(6,_),(7,.int .i64 ((((a+b) / 2:Nat):Int)+1)),(8,_)] (by omega) ⟨_,(a+b) / 2+1,b,_,_,_,_,rfl,by omega,hz2,rfl,az,az,by omega,by omega,by omega,by omega⟩
 ·rw[decide_eq_false hlv]
  refine aq ?_
  exact aC.goF ((a+b) / 2 - a) EG [(0,_),(1,_),(6,_),(7,_),(8,_)] (by omega) ⟨_,a,(a+b) / 2,_,_,_,_,rfl,hz1,rfl,rfl,az,az,by omega,by omega,by omega,by omega⟩
end
end Go.Ab.Seat
end
section
namespace Go.Ab.Seat
open Go.Extern Go.Proofs
set_option maxRecDepth 4000
section
variable {h:T ag}{c:Nat}{rl wl:List Nat}
theorem ui (l:List Int):∀x∈l.map (Value.int .i64),atom x=true:=by
 intro x hx
 obtain⟨y,_,rfl⟩:=List.mem_map.1 hx
 rfl
theorem DZ (hf:ai h c) {v:Value}{xs:List Int}{x:Int}{vb:Nat} (hv:gH h v xs) (hx:x∉xs) (hn:xs.length<=1000) (hb:ay h vb (.cells [.int .i64 x])) (hne:∀b,au v=some b->vb≠b) :
  ∃r s',aE (Cs bD) eg 144 [v,.int .i64 (dD x xs:Int),.slice (some ⟨vb,0,none⟩) 1 1] ⟨h,c,rl,wl⟩ r s'/\(gH s'.h r (oJ x xs)/\(∀b,au r=some b->c<=b)/\r≠.slice none 0 0)/\bA ⟨h,c,rl,wl⟩ s' (fun b=>b=vb\/au v=some b) (fun b=>au v=some b):=by
 have hvs:aP 0 1 [Value.int .i64 x]=some [Value.int .i64 x]:=aA _ _ rfl
 have lvb:=hb.lt hf
 have hple:=qY x xs
 have hins:oJ x xs=xs.take (dD x xs)++x::xs.drop (dD x xs):=by unfold oJ;rw[if_neg hx]
 have hil:(oJ x xs).length=xs.length+1:=by rw[hins,List.length_append,List.length_cons,List.length_take,List.length_drop];omega
 rcases hv with⟨rfl,rfl⟩|⟨b,cap,cs,rfl,h1,h2,h3,h4⟩
 ·obtain⟨r,s',g1,rfl,rfl⟩:=InsI.gIns_nil (sm:=bD) rfl (rl:=rl) (wl:=wl) (sp:=none) (vc:=1) hf hb hvs
  refine⟨_,_,g1,⟨.inr ⟨c,1,_,by rw[hil];rfl,Nat.le_refl _,by rw[hil];exact Nat.le_refl _,ay.same,by rw[hil,hins];exact hvs⟩,(fun b hb=>by cases hb;exact Nat.le_refl _),by simp⟩,?_⟩
  exact⟨Nat.le_succ _,hf.new,fun b hb _=>by simp only;rw[T.get_set,if_neg (by simp only at hb;omega)],fun b hb=>by
   rcases List.mem_cons.1 hb with rfl|hb
   ·exact .inr ⟨lvb,.inl rfl⟩
   ·exact .inl hb,fun b hb=>.inl hb⟩
 ·have lb:=h3.lt hf
  have hne':=hne b rfl
  obtain⟨r,s',g1,rfl,rfl⟩:=InsI.gIns_some (sm:=bD) (i:=dD x xs) rfl (rl:=rl) (wl:=wl) (sp:=none) (vc:=1) hf h3 (by rw[Nat.mul_one];exact h4) h1 h2 hn hb hvs hne' (ui xs) (fun v hv=>by rw[List.mem_singleton.1 hv];rfl) hple
  have hxs:(xs.map (Value.int .i64)).take (dD x xs*1)++[Value.int .i64 x]++(xs.map (Value.int .i64)).drop (dD x xs*1)=(oJ x xs).map (Value.int .i64):=by
   rw[hins,Nat.mul_one,List.map_append,List.map_cons,List.map_take,List.map_drop,List.append_assoc];rfl
  rw[hxs] at g1
  refine⟨_,_,g1,⟨.inr ⟨c+1,xs.length+1,_,by rw[hil],by omega,by omega,ay.same,aA _ _ (by rw[List.length_map])⟩,(fun b hb=>by cases hb;exact Nat.le_succ c),by simp⟩,?_⟩
  refine⟨by simp only;omega,ai.new (ai.put (by omega) (hf.up (by omega))),fun b' hb hw=>?_,fun b' hb=>?_,fun b' hb=>?_⟩
  ·simp only at hb hw ⊢
   rw[T.get_set,if_neg (by omega),T.get_set,if_neg]
   rintro rfl
   exact hw rfl
  ·rcases List.mem_cons.1 hb with rfl|hb
   ·exact .inr ⟨lvb,.inl rfl⟩
   ·rcases List.mem_cons.1 hb with rfl|hb
    ·exact .inr ⟨lb,.inr rfl⟩
    ·exact .inl hb
  ·rcases List.mem_cons.1 hb with rfl|hb
   ·exact .inr ⟨lb,rfl⟩
   ·exact .inl hb
set_option maxHeartbeats 4000000 in
theorem D3 (hf:ai h c) {v:Value}{xs:List Int}{x:Int} (hv:gH h v xs) (hu:Up xs) (hx:x∈xs) (hn:xs.length<=1000) :
  ∃r s',aE (Cs bD) eg 148 [v,.int .i64 (dD x xs:Int),.int .i64 ((dD x xs:Int)+1)] ⟨h,c,rl,wl⟩ r s'/\(gH s'.h r (oW x xs)/\(∀b,au r=some b->au v=some b)/\s'.c=c)/\bA ⟨h,c,rl,wl⟩ s' (fun b=>au v=some b) (fun b=>au v=some b):=by
 have hbg:dv=1048576:=rfl
 obtain⟨hrem,hpl⟩:=G9 hu hx
 rcases hv with⟨rfl,rfl⟩|⟨b,cap,cs,rfl,h1,h2,h3,h4⟩
 ·cases hx
 have lb:=h3.lt hf
 generalize hi:dD x xs=i at *
 have hlr:(oW x xs).length=xs.length - 1:=by rw[hrem,List.length_append,List.length_take,List.length_drop];omega
 -- the row in parts
 have hrow:xs.map (Value.int .i64)=(xs.take i).map (Value.int .i64)++(xs.drop i).map (Value.int .i64):=by rw[<- List.map_append,List.take_append_drop]
 have hA:((xs.take i).map (Value.int .i64)).length=i:=by rw[List.length_map,List.length_take];omega
 have hB:((xs.drop (i+1)).map (Value.int .i64)).length=xs.length - (i+1):=by rw[List.length_map,List.length_drop]
 have hD:((xs.drop i).map (Value.int .i64)).length=xs.length - i:=by rw[List.length_map,List.length_drop]
 have h4':aP 0 xs.length cs=some ((xs.take i).map (Value.int .i64)++((xs.drop i).map (Value.int .i64)).take (xs.length - (i+1))++((xs.drop i).map (Value.int .i64)).drop (xs.length - (i+1))):=by
  rw[h4,hrow,List.append_assoc,List.take_append_drop]
 obtain⟨c1,s1,s2⟩:=bG (o:=0) (k:=i) (B':=(xs.drop (i+1)).map (Value.int .i64)) h4' hA (by rw[hB,List.length_take,hD];omega) (ui _)
 have hlast:(((xs.drop i).map (Value.int .i64)).drop (xs.length - (i+1))).length=1:=by rw[List.length_drop,hD];omega
 obtain⟨c2,s3,s4⟩:=bG (o:=0) (k:=xs.length - 1) (A:=(xs.take i).map (Value.int .i64)++(xs.drop (i+1)).map (Value.int .i64)) (B:=((xs.drop i).map (Value.int .i64)).drop (xs.length - (i+1))) (B':=rep [Value.int .i64 0] 1) (D:=[]) (n:=xs.length) (by rw[s2,List.append_nil]) (by rw[List.length_append,hA,hB];omega) (by rw[hlast];rfl) (all_cons rfl a7)
 have hres:aP 0 (xs.length - 1) c2=some ((oW x xs).map (Value.int .i64)):=by
  have e:aP 0 (xs.length - 1+1) c2=some (((xs.take i).map (Value.int .i64)++(xs.drop (i+1)).map (Value.int .i64))++rep [Value.int .i64 0] 1):=by rw[show xs.length - 1+1=xs.length by omega,s4,List.append_nil]
  rw[hrem,List.map_append]
  exact(dP e (by rw[List.length_append,hA,hB];omega)).1
 have key:∀(hh:T ag) (n':Nat),n'=xs.length - 1->ay hh b (.cells c2)->gH hh (.slice (some ⟨b,0,some 1⟩) n' cap) (oW x xs):=fun hh n' e hb=>.inr ⟨b,cap,c2,by rw[hlr,e],h1,by rw[hlr];omega,hb,by rw[hlr];exact hres⟩
 refine Fn.go (aU 148 rfl) Kx JS Lq rfl rfl ?_
 refine cg ?_
 refine aq ?_
 refine Zu (Cn (k:=i) (l:=i+1) (m:=xs.length) ct rfl rfl rfl rfl (by omega) rfl rfl (by omega) (by omega) (by omega) (by omega)) ?_
 refine aq ?_
 refine Zq (cD (k:=i) ct rfl rfl rfl (by omega) (fun a ha=>by cases ha;exact .inr rfl)) ?_
 refine aq ?_
 refine Zq (aZ (k:=i+1) ct rfl rfl (by omega) (by omega) (by omega)) ?_
 by_cases hlast2:xs.length=i+1
 ·rw[show xs.length - (i+1)=0 by omega]
  refine Zq (nJ ik m7 rfl rfl (by omega)) ?_
  refine aq ?_
  refine Zu (uQ (k:=i) (l:=xs.length) ct rfl rfl rfl rfl rfl (by omega) (by omega)) ?_
  rw[show xs.length - i=0+1 by omega]
  have e1:(xs.drop (i+1)).map (Value.int .i64)=[]:=List.eq_nil_of_length_eq_zero (by rw[hB];omega)
  have hcc:c1=cs:=by
   rw[e1] at s1
   rw[cz _ _ _ (by have:=(aN _ _ _ _ h4).2.1;simp;omega) a7] at s1
   simpa using(Option.some.inj s1).symm
  subst hcc
  refine ax.st0 (tm ik rfl h3 lb (by rw[Nat.mul_one];rw[show 0+i=0+(xs.length - 1) by omega];exact s3)) ?_
  refine aq ?_
  refine⟨.inr rfl,aG.one rfl ⟨⟨key _ _ (by omega) ay.same,(fun b' hb=>hb),rfl⟩,bM⟩⟩
 obtain⟨m,hm⟩:∃m,xs.length - (i+1)=m+1:=⟨xs.length - (i+1) - 1,by omega⟩
 rw[hm]
 have hsB:aP (0+(i+1)*1) ((m+1)*1) cs=some ((xs.drop (i+1)).map (Value.int .i64)):=by
  have e:aP 0 (i+1+(m+1)) cs=some ((xs.take (i+1)).map (Value.int .i64)++(xs.drop (i+1)).map (Value.int .i64)):=by
   rw[show i+1+(m+1)=xs.length by omega,h4,<- List.map_append,List.take_append_drop]
  rw[Nat.mul_one,Nat.mul_one]
  exact(dP e (by rw[List.length_map,List.length_take];omega)).2
 have hne:(xs.drop (i+1)).map (Value.int .i64)≠[]:=fun e=>by rw[e] at hB;simp at hB;omega
 refine Zd (nA (k:=m) ik m7 rfl rfl h3.cel lb hsB hne (by omega) h3 lb (by rw[Nat.mul_one];exact s1)) ?_
 refine aq ?_
 refine Zu (uQ (k:=i+(m+1)) (l:=xs.length) ct rfl rfl rfl rfl rfl (by omega) (by omega)) ?_
 rw[show xs.length - (i+(m+1))=0+1 by omega]
 refine ax.st0 (tm ik rfl ay.same (by omega) (by rw[Nat.mul_one];rw[show 0+(i+(m+1))=0+(xs.length - 1) by omega];exact s3)) ?_
 refine aq ?_
 refine⟨.inr rfl,aG.one rfl ⟨⟨key _ _ (by omega) ay.same,(fun b' hb=>hb),rfl⟩,bM⟩⟩
end
end Go.Ab.Seat
end
