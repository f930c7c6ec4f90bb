import Derived.Test.YtofikbfljjjgeaaGreatDoorDK1
set_option linter.unusedVariables false
set_option linter.unusedSimpArgs false
section
namespace Go.Ab.Seat
open Go.Extern Go.Proofs
set_option maxRecDepth 4000
def lG (hv:Nat->Value):List Value:=[hv 0,hv 1,hv 2,hv 3,hv 4]
theorem B1 {hv:Nat->Value}{l:Nat} (h:l<5):cu (lG hv) l=some (hv l):=by
 rcases l with _|_|_|_|_|l
 ·rfl
 ·rfl
 ·rfl
 ·rfl
 ·rfl
 ·omega
theorem xU {hv:Nat->Value}{l:Nat} (h:l<5):cu (lG hv) (0+l*1)=some (hv l):=by rw[Nat.zero_add,Nat.mul_one];exact B1 h
theorem Gv {hv:Nat->Value}{x:Value}{l:Nat} (h:l<5) (ha:atom x=true):bw [x] (lG hv) (0+l*1)=some (lG fun i=>if i=l then x else hv i):=by
 have hl:(lG hv).length=5:=rfl
 rw[cz _ _ _ (by rw[hl];simp;omega) (all_cons ha a7)]
 rcases l with _|_|_|_|_|l
 ·rfl
 ·rfl
 ·rfl
 ·rfl
 ·rfl
 ·omega
theorem F6 {hv:Nat->Value}{zs:List Value} (hz:zs.length=5) (ha:∀i,i<5->atom (hv i)=true):bw (lG hv) zs 0=some (lG hv):=by
 have hl:(lG hv).length=5:=rfl
 have hat:∀x∈lG hv,atom x=true:=all_cons (ha 0 (by omega)) (all_cons (ha 1 (by omega)) (all_cons (ha 2 (by omega)) (all_cons (ha 3 (by omega)) (all_cons (ha 4 (by omega)) a7))))
 rw[cz _ _ (lG hv) (by rw[hz,hl];exact Nat.le_refl 5) hat]
 congr 1
 rw[List.take_zero,List.nil_append,List.drop_of_length_le (by rw[hz,hl];exact Nat.le_refl 5),List.append_nil]
theorem KD {sm:Nat->Option (List Value->M Value)}:Io (Cs sm) 110=some 5:=by kernel_rfl
section
variable {h:T ag}{c:Nat}{rl wl:List Nat}{p m dim:Nat}{mt:Int}{G:Gr}{U:Nat->Prop}
theorem gH.nil {v:Value}{xs:List Int} (x:gH h v xs):∀oa cap,v=.slice oa xs.length cap->oa=none->cap=0/\xs=[]:=by
 rintro oa cap e rfl
 rcases x with⟨rfl,rfl⟩|⟨b,cap',cs,rfl,_⟩
 ·cases e;exact⟨rfl,rfl⟩
 ·cases e
theorem lI.nil {c0:Nat}{v:Value}{xs:List Int} (x:lI h c0 v xs):∀oa cap,v=.slice oa xs.length cap->oa=none->cap=0/\xs=[]:=by
 rintro oa cap e rfl
 rcases x with⟨rfl,rfl⟩|⟨b,rfl,_⟩|⟨b,rfl,_⟩
 ·cases e;exact⟨rfl,rfl⟩
 ·cases e
 ·cases e
theorem lI.lt {c0 c':Nat}{v:Value}{l:List Int} (x:lI h c0 v l) (hf:ai h c'):∀b,au v=some b->l≠[]->b<c':=by
 rcases x with⟨rfl,_⟩|⟨b,rfl,rfl,_⟩|⟨b,rfl,_,_,x3⟩
 ·intro b hb;cases hb
 ·intro b hb hn;exact absurd rfl hn
 ·intro b' hb _;cases hb;exact x3.lt hf
theorem lI.low' {c0 c1:Nat}{v:Value}{l:List Int} (x:lI h c0 v l) (k:c1<=c0):lI h c1 v l:=by
 rcases x with x|⟨b,x1,x2,x3⟩|⟨b,x1,x2,x3,x4⟩
 ·exact .inl x
 ·exact .inr (.inl ⟨b,x1,x2,by omega⟩)
 ·exact .inr (.inr ⟨b,x1,x2,by omega,x4⟩)
theorem jk.del {ow:Ow} (q:jk h p m mt dim G U ow) (hf:ai h c) {id:Int}{es:List (Value×Value×Nat)}{n:Nat}{ids:List Int} (hm:ay h m (.map es n)) (hk:dx es n ids) (hfit:∀x,na h ow U dim G.L (aK x G.M) (dU x es)) (hL:∀x l y,y∈G.L x l->y≠id):jk (h.set m (some (.map (zO id es) n))) p m mt dim ⟨jI id G.M,G.L⟩ U ow:=by
 have hpm:p≠m:=fun e=>by have:=q.po;rw[e,q.mo] at this;simp at this
 obtain⟨ids',hk',_⟩:=hk.del id
 refine⟨q.ptr.other hpm,⟨_,_,ay.same,⟨_,hk'⟩,fun x=>?_⟩,q.pU,q.mU,q.po,q.mo,q.rises.filter _,fun r hr=>q.ok r (List.mem_filter.1 hr).1,q.up,fun x l y hy=>?_⟩
 ·rw[iJ,FQ hk]
  by_cases hx:x=id
  ·rw[if_pos hx,if_pos hx];exact .inl ⟨rfl,rfl⟩
  ·rw[if_neg hx,if_neg hx]
   refine(hfit x).keep hf (fun _ q _=>q) (fun _ _ _=>rfl) (fun _ _=>rfl) fun b hb hc h1 h2=>am fun e=>?_
   rw[e,q.mo] at h2
   simp at h2
 ·show ∃r,aK y (jI id G.M)=some r
  rw[iJ,if_neg (hL x l y hy)]
  exact q.mem x l y hy
def z6:List Nat:=[0,1,4,5,6,7,9,10,11,22,33,34,44,45,46,47,62,63,64]
set_option maxHeartbeats 32000000 in
theorem DS (hf:ai h c) (qm:gw h p m mt dim G U) (w:nC G) (hmt:mt=1\/mt=2) (hd:dim<=1000) (hml:G.M.length<=800) (id:Int) (R:Nat->Prop) (hUR:∀b,U b->R b) :
  ∃r s',aE (Cs bD) eg 27 [.pointer (some ⟨p,0,none⟩),.int .i64 id] ⟨h,c,rl,wl⟩ r s'/\(r=.bool (aK id G.M).isSome/\gw s'.h p m mt dim (ga mt G id) (fun b=>U b\/c<=b/\b<s'.c))/\bA ⟨h,c,rl,wl⟩ s' R U:=by
 have hbg:dv=1048576:=rfl
 have qm0:=qm
 obtain⟨ow,q⟩:=qm
 have hp:=q.ptr
 obtain⟨lp,lm⟩:=q.lt hf
 have hpR:=hUR p q.pU
 have hmR:=hUR m q.mU
 refine Fn.go (aU 27 rfl) N8 N5 Oh rfl rfl ?_
 refine cg ?_
 cases hr0:aK id G.M with
 |none =>
  obtain⟨es,n,hm,⟨ids,hk⟩,hfit⟩:=q.ex
  have hfi:dJ id es=none:=by
   rcases hfit id with⟨_,e2⟩|⟨r,v,e1,_⟩
   ·exact dh.1 e2
   ·rw[hr0] at e1;cases e1
  refine aq ?_
  refine Zu (bL (pk rfl) (tG rfl) rfl rfl hm lm hk.ks (by rw[hfi])) ?_
  refine aq ?_
  refine⟨.inr rfl,aG.one rfl ⟨⟨rfl,?_⟩,bM⟩⟩
  unfold ga
  rw[hr0]
  exact qm0.wide hf fun b hb=>.inl hb
 |some r0 =>
 obtain⟨es,n,vi,nb,vv,ls,hm,⟨ids,hk⟩,hfit,hfi,hn0,hid0⟩:=q.at hr0
 have hnb:=hn0.at_
 have lnb:=hnb.lt hf
 have rnb:=hUR nb hn0.u
 have lls:∀l,l<5->∀b,au (ls l)=some b->b<c:=fun l hl b hb=>(hn0.lk l hl).lt hf b hb
 refine aq ?_
 refine Zu (bL (pk rfl) (tG rfl) rfl rfl hm lm hk.ks (by rw[hfi])) ?_
 refine aq ?_
 refine Zu (bL (pk rfl) (tG rfl) rfl rfl hm lm hk.ks (by rw[hfi])) ?_
 refine aq ?_
 ((with_reducible apply ax.so);rfl;exact(uc rfl);rfl;exact ay.same;omega;refine wC ?_;refine⟨_,_,(by(first|exact a8 _|rfl)),rfl,F6 (hv:=ls) rfl (fun i hi=>(hn0.lk i hi).atom),?_⟩)
 refine aq ?_
 refine Wx.cutO (fun e s=>∃(g:Nat->Value) (hv:Nat->Value) (h':T ag) (c':Nat) (rl' wl':List Nat) (ow':Ow),e=fr g [(0,.pointer (some ⟨p,0,none⟩)),(1,.int .i64 id),(6,.pointer (some ⟨c,0,none⟩))] z6/\s=⟨h',c',rl',wl'⟩/\c+1<=c'/\ai h' c'/\Kp h h' c U/\ay h' c (.cells (lG hv))/\(∀i,i<5->lI h' (c+1) (hv i) (G.L id i))/\jk h' p m mt dim ⟨G.M,jJ G id 5⟩ (fun b=>U b/\b<c) ow'/\Lg c R rl'/\Lg c U wl') iY ?_ ?_
 ·refine Wx.loopF (fun k1 e s=>∃(g:Nat->Value) (k:Nat) (z:Int) (hv:Nat->Value) (h':T ag) (c':Nat) (rl' wl':List Nat) (ow':Ow),e=fr g [(0,.pointer (some ⟨p,0,none⟩)),(1,.int .i64 id),(6,.pointer (some ⟨c,0,none⟩)),(33,.int .i64 z)] z6/\z=k/\s=⟨h',c',rl',wl'⟩/\c+1<=c'/\ai h' c'/\Kp h h' c (fun b=>U b/\((ow b).2=0\/(ow b).2<2+k))/\ay h' c (.cells (lG hv))/\(∀i,i<k->lI h' (c+1) (hv i) (G.L id i))/\(∀i,k<=i->hv i=ls i)/\jk h' p m mt dim ⟨G.M,jJ G id k⟩ (fun b=>U b/\b<c) ow'/\(∀b,b<c->ow' b=ow b)/\Lg c R rl'/\Lg c U wl'/\k<=5/\k1=5 - k) 5 z6 [(0,_),(1,_),(6,_),(33,.int .i64 0)] ⟨_,0,0,ls,_,_,_,_,ow,rfl,rfl,rfl,by omega,aO,bW,ay.same,(fun i hi=>absurd hi (Nat.not_lt_zero i)),(fun i _=>rfl),(q.low hf).keep hf (fun b hb hc=>by rw[am (by omega),am (by omega)]),(fun _ _=>rfl),az,az,by omega,rfl⟩ ?_
  rintro k1 e s ⟨g,k,z,hv,h',c',rl',wl',ow',rfl,hz,rfl,hcc,hf',hkp,hA,hcr,hls,q',hoe,hlr,hlw,hk5,rfl⟩
  subst hz
  (refine Wx.sw (by simp only[z6,i5,i6,dC,dB,Nat.reduceEqDiff,↓reduceIte];rfl) ?_)
  by_cases hi:k<5
  rotate_left
  ·refine aq ?_
   obtain rfl:k=5:=by omega
   exact di.goF z6 [(0,_),(1,_),(6,_)] ⟨_,hv,_,_,_,_,ow',rfl,rfl,hcc,hf',fun b hb hU=>hkp b hb (fun q=>hU q.1),hA,hcr,q',hlr,hlw⟩
  have lc:=hA.lt hf'
  have hlk0:gH h' (ls k) (G.L id k):=by
   have e:=hn0.lk k hi
   rw[hid0] at e
   refine e.keep fun b hb=>hkp b (lls k hi b hb) fun q=>?_
   obtain⟨_,q⟩:=q
   rw[(hn0.ol k hi b hb).2] at q
   rcases q with q|q
   ·simp at q
   ·simp at q
  have hnil:=hlk0.nil
  have hlen:=q.len id k
  have ulk:=fun b hb=>hUR b (hn0.ol k hi b hb).1
  obtain⟨ol,cl,hlv⟩:=hlk0.val
  have hnil:=hnil ol cl hlv
  rw[hlv] at hlk0 ulk
  refine aq ?_
  refine Zu (aY (k:=k) ld rfl rfl rfl hi) ?_
  refine Zu (aB (dV rfl) rfl hA.cel lc (xU hi)) ?_
  rw[hls k (Nat.le_refl k),hlv]
  refine ax.call rfl rfl (p9 aO hlk0.row hnil (by omega) R ulk) ?_
  rintro v2 h2 c2 r2 w2 ⟨hcr2,hext2⟩
  have fr2:=hext2.fresh
  have le2:=hext2.c
  simp only at fr2 le2
  have kp2:=Kp.ext (W:=fun b=>U b/\((ow b).2=0\/(ow b).2<2+k)) (h:=h) (c:=c) hkp hext2 (by omega) (fun b hb q=>q.elim)
  have lr2:=Lg.extR (R:=R) (c:=c) az hext2 (fun b hb q=>q)
  have lw2:=Lg.extW (W:=U) (c:=c) az hext2 (fun b hb q=>q.elim)
  have kB:∀b,b<c'->h2.get b=h'.get b:=fun b hb=>hext2.h b hb (fun q=>q)
  have hA2:ay h2 c _:=(kB c lc).trans hA
  have hcr2':=hcr2
  obtain⟨o2,rfl,hrw2,hb2⟩:=hcr2.val
  refine aq ?_
  refine Zu (aY (k:=k) ld rfl rfl rfl hi) ?_
  ((with_reducible apply ax.so);rfl;exact(uc rfl);rfl;exact hA2;omega;refine wC ?_;refine⟨_,_,(by(first|exact a8 _|rfl)),rfl,Gv hi rfl,?_⟩)
  refine aq ?_
  refine Zu (aY (k:=k) ld rfl rfl rfl hi) ?_
  refine Zu (aB (dV rfl) rfl ay.same.cel (by omega) (xU hi)) ?_
  simp only[↓reduceIte]
  refine aq ?_
  have kC:∀b,b<c'->b≠c->(h2.set c (some (.cells (lG fun i=>if i=k then .slice o2 (G.L id k).length (G.L id k).length else hv i)))).get b=h'.get b:=fun b hb hne=>(am hne).trans (kB b hb)
  refine Wx.loopF (fun k2 e s=>∃(g:Nat->Value) (j:Nat) (zj:Int) (h3:T ag) (c3:Nat) (rl' wl':List Nat) (ow3:Ow),e=fr g [(0,.pointer (some ⟨p,0,none⟩)),(1,.int .i64 id),(6,.pointer (some ⟨c,0,none⟩)),(7,.int .i64 (k:Int)),(33,.int .i64 (k:Int)),(44,.slice o2 (G.L id k).length (G.L id k).length),(45,.int .i64 ((G.L id k).length:Int)),(46,.int .i64 zj)] z6/\zj=j/\s=⟨h3,c3,rl',wl'⟩/\c2<=c3/\ai h3 c3/\Kp h h3 c (fun b=>U b/\((ow b).2=0\/(ow b).2<2+(k+1)))/\(∀b,c<=b->b<c2->h3.get b=(h2.set c (some (.cells (lG fun i=>if i=k then .slice o2 (G.L id k).length (G.L id k).length else hv i)))).get b)/\jk h3 p m mt dim ⟨G.M,((G.L id k).take j).foldl (fun L y=>f0 k L id y) (jJ G id k)⟩ (fun b=>U b/\b<c) ow3/\(∀b,b<c->ow3 b=ow b)/\Lg c R rl'/\Lg c U wl'/\j<=(G.L id k).length/\k2=(G.L id k).length - j) (G.L id k).length z6 [(0,_),(1,_),(6,_),(7,_),(33,_),(44,_),(45,_),(46,.int .i64 0)] ⟨_,0,0,_,_,_,_,ow',rfl,rfl,rfl,Nat.le_refl _,aO,fun b hb hU=>(am (by omega)).trans (kp2 b hb (fun q=>hU ⟨q.1,q.2.imp (fun e=>e) (fun e=>by omega)⟩)),(fun b _ _=>rfl),q'.keep hf' (fun b hb hc=>kC b hc (by have:=hb.2;omega)),hoe,az,az,by omega,rfl⟩ ?_
  rintro k2 e s ⟨g,j,zj,h3,c3,rl3,wl3,ow3,rfl,hzj,rfl,hc3,hf3,hkp3,hk3,q3,hoe3,hlr3,hlw3,hjl,rfl⟩
  (refine Wx.sw (by simp only[z6,i5,i6,dC,dB,Nat.reduceEqDiff,↓reduceIte];rfl) ?_)
  have hA3:ay h3 c (.cells (lG fun i=>if i=k then .slice o2 (G.L id k).length (G.L id k).length else hv i)):=(hk3 c (Nat.le_refl c) (by omega)).trans ay.same
  by_cases hj:j<(G.L id k).length
  rotate_left
  ·refine aq ?_
   obtain rfl:j=(G.L id k).length:=by omega
   rw[List.take_length] at q3
   refine aC.goF (5 - (k+1)) z6 [(0,_),(1,_),(6,_),(33,.int .i64 ((k:Int)+1))] (by omega) ⟨_,k+1,(k:Int)+1,(fun i=>if i=k then .slice o2 (G.L id k).length (G.L id k).length else hv i),_,_,_,_,ow3,rfl,by omega,rfl,by omega,hf3,hkp3,hA3,fun i hik=>?_,fun i hik=>?_,?_,hoe3,hlr3,hlw3,by omega,rfl⟩
   ·by_cases e:i=k
    ·subst e
     simp only[↓reduceIte]
     refine((hcr2'.keep (h':=h3) fun b hb hne=>?_)).low' (by omega)
     have h1:=hb2 b hb
     have h2:=hcr2'.lt fr2 b hb hne
     exact(hk3 b (by omega) h2).trans (am (by omega))
    ·simp only[if_neg e]
     refine(hcr i (by omega)).keep fun b hb hne=>?_
     obtain⟨_,_,_,g2⟩:=(hcr i (by omega)).val
     have h1:=g2 b hb
     have h2:=(hcr i (by omega)).lt hf' b hb hne
     exact(hk3 b (by omega) (by omega)).trans (kC b h2 (by omega))
   ·show (if i=k then _ else hv i)=ls i
    rw[if_neg (by omega)]
    exact hls i (by omega)
   ·have e:jJ G id (k+1)=(G.L id k).foldl (fun L y=>f0 k L id y) (jJ G id k):=by unfold jJ;rw[List.range_succ,List.foldl_append];rfl
    rw[e];exact q3
  have hrw3:bj h3 (.slice o2 (G.L id k).length (G.L id k).length) (G.L id k).length 1 ((G.L id k).map (Value.int .i64)):=by
   obtain⟨_,e,g2,_⟩:=(hcr2'.keep (h':=h3) fun b hb hne=>by
    have h1:=hb2 b hb
    have h2:=hcr2'.lt fr2 b hb hne
    exact(hk3 b (by omega) h2).trans (am (by omega))).val
   exact g2
  have hst:=eX (fun L y=>f0 k L id y) (jJ G id k) hj
  have hym:∃r,aK (G.L id k)[j] G.M=some r:=q.mem id k _ (List.getElem_mem hj)
  obtain⟨b1,o1,sp1,cs1,rfl,hc1,hn1⟩:=bp hrw3 (j:=j*1) (by omega) (fi (List.getElem?_eq_getElem hj))
  have hb1:=hb2 b1 rfl
  have l1:=hc1.lt hf3
  generalize hLj:((G.L id k).take j).foldl (fun L y=>f0 k L id y) (jJ G id k)=Lj at q3 hst
  refine aq ?_
  refine Zu (aj (k:=j) ct rfl rfl hzj (by omega)) ?_
  refine Zu (aB (dV rfl) rfl hc1 (by omega) hn1) ?_
  refine aq ?_
  refine ax.call rfl rfl (tB aO q3 hml hi ⟨r0,hr0⟩ hym (fun b=>c<=b\/R b) (fun b hb=>.inr (hUR b hb.1))) ?_
  rintro v4 h4 c4 r4 w4 ⟨⟨ow4,q4,hoe4⟩,hext4⟩
  have fr4:=hext4.fresh
  have le4:=hext4.c
  simp only at fr4 le4 q4
  have kp4:=Kp.ext (W:=fun b=>U b/\((ow b).2=0\/(ow b).2<2+(k+1))) (h:=h) (c:=c) hkp3 hext4 (by omega) (fun b hb q=>⟨q.1.1,by rw[<- hoe3 b hb];exact q.2.imp (fun e=>e) (fun e=>by omega)⟩)
  have lr4:=Lg.extR (R:=R) (c:=c) az hext4 (fun b hb q=>q.elim (fun q=>by omega) (fun q=>q))
  have lw4:=Lg.extW (W:=U) (c:=c) az hext4 (fun b hb q=>q.1.1)
  refine aq ?_
  refine aC.goF ((G.L id k).length - (j+1)) z6 [(0,_),(1,_),(6,_),(7,_),(33,_),(44,_),(45,_),(46,.int .i64 (zj+1))] (by omega) ⟨_,j+1,zj+1,_,_,_,_,ow4,rfl,by omega,rfl,by omega,fr4,kp4,fun b h1 h2=>(hext4.h b (by show b<c3;omega) (fun q=>by have:=q.1.2;omega)).trans (hk3 b h1 h2),by rw[hst];exact q4,fun b hb=>(hoe4 b (by show b<c3;omega)).trans (hoe3 b hb),lr4,lw4,by omega,rfl⟩
 rintro e s ⟨g,hv,h2,c2,rl2,wl2,ow2,rfl,rfl,hcc,hf2,hkp2,hA,hcr,q2,hlr2,hlw2⟩
 (refine Wx.sw (by simp only[z6,i5,i6,dC,dB,Nat.reduceEqDiff,↓reduceIte];rfl) ?_)
 obtain⟨es2,n2,hm2,⟨ids2,hk2⟩,hfit2⟩:=q2.ex
 have hp2:=q2.ptr
 have lm2:=hm2.lt hf2
 have q3:=q2.del hf2 hm2 hk2 hfit2 (id:=id) (fun x l y hy e=>Eu w (by rw[e] at hy;exact hy))
 have hmc:m≠c:=by omega
 have hMl:(jI id G.M).length<=800:=Nat.le_trans (List.length_filter_le _ _) hml
 have mU:=q.mU
 refine aq ?_
 refine ax.st0 (Dg (pk rfl) rfl rfl hm2 lm2 hk2.ks) ?_
 refine aq ?_
 have kA:∀b,b≠m->(h2.set m (some (.map (zO id es2) n2))).get b=h2.get b:=fun b hb=>am hb
 have hcm:∀i,i<5->∀b,au (hv i)=some b->c+1<=b:=fun i hi b hb=>by obtain⟨_,_,_,g⟩:=(hcr i hi).val;exact g b hb
 refine Wx.loopF (fun k1 e s=>∃(g:Nat->Value) (k:Nat) (z:Int) (h':T ag) (c':Nat) (rl' wl':List Nat),e=fr g [(0,.pointer (some ⟨p,0,none⟩)),(62,.agg ⟨lG hv⟩),(63,.int .i64 z)] z6/\z=k/\s=⟨h',c',rl',wl'⟩/\c2<=c'/\ai h' c'/\Kp h h' c U/\(∀b,c<=b->b<c2->h'.get b=h2.get b)/\gw h' p m mt dim ⟨jI id G.M,mendAll mt (jI id G.M) (G.L id) (jJ G id 5) k⟩ (fun b=>(U b/\b<c)\/c2<=b/\b<c')/\Lg c R rl'/\Lg c U wl'/\k<=5/\k1=5 - k) 5 z6 [(0,_),(62,.agg ⟨lG hv⟩),(63,.int .i64 0)] ⟨_,0,0,_,_,_,_,rfl,rfl,rfl,Nat.le_refl _,aO,bW,(fun b h1 h3=>kA b (by omega)),⟨_,q3.wide (ai.put lm2 hf2) (fun b hb=>.inl hb)⟩,az,az,by omega,rfl⟩ ?_
 rintro k1 e s ⟨g,k,z,h',c',rl',wl',rfl,hz,rfl,hcc',hf',hkp,hk',qm',hlr,hlw,hk5,rfl⟩
 subst hz
 (refine Wx.sw (by simp only[z6,i5,i6,dC,dB,Nat.reduceEqDiff,↓reduceIte];rfl) ?_)
 by_cases hi:k<5
 rotate_left
 ·refine aq ?_
  obtain rfl:k=5:=by omega
  refine⟨.inr rfl,aG.one rfl ⟨⟨rfl,?_⟩,bM⟩⟩
  unfold ga
  rw[hr0]
  exact qm'.wide hf' (fun b hb=>hb.imp (fun q=>q.1) (fun q=>⟨by omega,q.2⟩))
 have hcr':lI h' (c+1) (hv k) (G.L id k):=(hcr k hi).keep fun b hb hne=>hk' b (by have:=hcm k hi b hb;omega) ((hcr k hi).lt hf2 b hb hne)
 have hnil:=hcr'.nil
 have hbk:=hcm k hi
 have hlt:=fun b hb hne=>(hcr k hi).lt hf2 b hb hne
 have hlen:=q.len id k
 obtain⟨ok,hvk,hrk,_⟩:=hcr'.val
 have hnil:=hnil ok _ hvk
 rw[hvk] at hrk hbk hlt
 refine aq ?_
 refine Zu (CT (v:=.slice ok (G.L id k).length (G.L id k).length) KD rfl rfl rfl hi (by rw[<- hvk];exact B1 hi)) ?_
 refine aq ?_
 refine ax.call rfl rfl (DK aO qm' hmt hd hMl hi hrk (fun e=>(hnil e)) (fun x hx=>by
  obtain⟨r,hr,_⟩:=BB w k x hx
  exact⟨r,hr⟩) (by omega) (fun e b hb=>by
  have h1:=hbk b hb
  have h3:=hlt b hb e
  show ¬((U b/\b<c)\/c2<=b/\b<c')
  omega) (fun b=>c<=b\/R b) (fun b hb=>hb.elim (fun q=>.inr (hUR b q.1)) (fun q=>.inl (by omega))) (fun b hb=>.inl (by have:=hbk b hb;omega))) ?_
 rintro v4 h4 c4 r4 w4 ⟨q4,hext4⟩
 have fr4:=hext4.fresh
 have le4:=hext4.c
 simp only at fr4 le4 q4
 have kp4:=Kp.ext (W:=U) (h:=h) (c:=c) hkp hext4 (by omega) (fun b hb q=>q.elim (fun q=>q.1) (fun q=>by omega))
 have lr4:=Lg.extR (R:=R) (c:=c) az hext4 (fun b hb q=>q.elim (fun q=>by omega) (fun q=>q))
 have lw4:=Lg.extW (W:=U) (c:=c) az hext4 (fun b hb q=>q.elim (fun q=>q.1) (fun q=>by omega))
 refine aq ?_
 refine aC.goF (5 - (k+1)) z6 [(0,_),(62,_),(63,.int .i64 ((k:Int)+1))] (by omega) ⟨_,k+1,(k:Int)+1,_,_,_,_,rfl,by omega,rfl,by omega,fr4,kp4,fun b h1 h2=>(hext4.h b (by show b<c';omega) (fun q=>by rcases q with q|q<;>omega)).trans (hk' b h1 h2),?_,lr4,lw4,by omega,rfl⟩
 have e:mendAll mt (jI id G.M) (G.L id) (jJ G id 5) (k+1)=Ed mt (jI id G.M) k (mendAll mt (jI id G.M) (G.L id) (jJ G id 5) k) (G.L id k):=by unfold mendAll;rw[List.range_succ,List.foldl_append];rfl
 rw[e]
 exact q4.wide fr4 (fun b hb=>hb.elim (fun e=>e.imp (fun e=>e) (fun e=>⟨e.1,by omega⟩)) (fun e=>.inr ⟨by omega,e.2⟩))
end
end Go.Ab.Seat
end
section
namespace Go.Ab.Seat
open Go.Extern Go.Proofs
set_option maxRecDepth 4000
section
variable {h:T ag}{c:Nat}{rl wl:List Nat}{p m dim:Nat}{mt:Int}{G:Gr}{U:Nat->Prop}
theorem jk.put {ow:Ow} (q:jk h p m mt dim G U ow) (hf:ai h c) {id:Int}{es:List (Value×Value×Nat)}{n:Nat}{ids:List Int} (hm:ay h m (.map es n)) (hk:dx es n ids) (hfit:∀x,na h ow U dim G.L (aK x G.M) (dU x es)) (hwf:rq id=true) (hL:∀l,G.L id l=[])
  {nb:Nat}{vv:Value}{zs:List Int}{lv:Int} (hnb:ay h nb (.cells (gC vv lv (fun _=>.slice none 0 0)))) (hnU:¬U nb) (hvv:kc h 0 vv dim (zs.map (Value.int .i32))) (hvU:∀b,au vv=some b->¬U b/\b≠nb) (hz:zs.length=dim) (hb:gc zs) (hl:0<=lv/\lv<=4) :
  gw (h.set m (some (.map (eH .i64 id (.pointer (some ⟨nb,0,none⟩)) n es).1 (eH .i64 id (.pointer (some ⟨nb,0,none⟩)) n es).2))) p m mt dim ⟨cJ (qp id zs lv) G.M,G.L⟩ (fun b=>U b\/b=nb\/au vv=some b):=by
 have hpm:p≠m:=fun e=>by have:=q.po;rw[e,q.mo] at this;simp at this
 have hnm:nb≠m:=fun e=>hnU (e▸q.mU)
 have ho:∀b,U b->(fun b=>if b=nb then(id,0) else if au vv=some b then(id,1) else ow b:Ow) b=ow b:=fun b hb=>by
  show (if b=nb then((id,0):Int×Nat) else if au vv=some b then(id,1) else ow b)=ow b
  rw[if_neg (fun e=>hnU (by rw[<- e];exact hb)),if_neg (fun e=>(hvU b e).1 hb)]
 refine⟨fun b=>if b=nb then(id,0) else if au vv=some b then(id,1) else ow b,q.ptr.other hpm,⟨_,_,ay.same,⟨_,hk.put hwf _⟩,fun x=>?_⟩,.inl q.pU,.inl q.mU,(ho p q.pU).trans q.po,(ho m q.mU).trans q.mo,q.rises.put _,fun r hr=>?_,q.up,fun x l y hy=>?_⟩
 ·rw[ek,l8 hk]
  by_cases hx:id=x
  ·subst hx
   rw[if_pos rfl,if_pos rfl]
   refine .inr ⟨_,_,rfl,rfl,nb,vv,fun _=>.slice none 0 0,rfl,hnb.other hnm,.inr (.inl rfl),if_pos rfl,hvv.keep fun b hb=>am fun e=>(hvU b hb).1 (e▸q.mU),fun b hb=>⟨.inr (.inr hb),?_⟩,fun l hl=>?_,fun l hl b hb=>by cases hb⟩
   ·rw[if_neg (hvU b hb).2,if_pos hb]
   ·rw[hL];exact .inl ⟨rfl,rfl⟩
  ·rw[if_neg hx,if_neg fun e=>hx e.symm]
   refine(hfit x).keep hf (fun b hb _=>.inl hb) (fun b hb _=>ho b hb) (fun _ _=>rfl) fun b hb hc h1 h2=>am fun e=>?_
   rw[e,q.mo] at h2
   simp at h2
 ·rcases dQ hr with rfl|hr
  ·exact⟨zs,rfl,hz,hb,hl.1,hl.2⟩
  ·exact q.ok r hr
 ·obtain⟨r,hr⟩:=q.mem x l y hy
  show ∃r,aK y (cJ (qp id zs lv) G.M)=some r
  rw[ek]
  by_cases e:(qp id zs lv).id=y
  ·exact⟨_,if_pos e⟩
  ·exact⟨r,by rw[if_neg e];exact hr⟩
end
theorem kK:∀ {M:List Rc},(∀r∈M,0<=r.seq/\r.seq<=4)->((bg M).2<0->M=[])/\(M≠[]->∃r∈M,r.id=(bg M).1/\r.seq=(bg M).2):=by
 intro M hl
 have gen:∀(l:List Rc) (s:Int×Int),(∀r∈l,0<=r.seq)->(l≠[]->s.2 = -1\/0<=s.2)->(s.2<=(l.foldl (fun s r=>if s.2<r.seq then(r.id,r.seq) else s) s).2/\((l.foldl (fun s r=>if s.2<r.seq then(r.id,r.seq) else s) s)=s\/∃r∈l,r.id=(l.foldl (fun s r=>if s.2<r.seq then(r.id,r.seq) else s) s).1/\r.seq=(l.foldl (fun s r=>if s.2<r.seq then(r.id,r.seq) else s) s).2))/\(∀r∈l,r.seq<=(l.foldl (fun s r=>if s.2<r.seq then(r.id,r.seq) else s) s).2):=by
  intro l
  induction l with
  |nil=>intro s _ _;exact⟨⟨Int.le_refl _,.inl rfl⟩,fun r hr=>by cases hr⟩
  |cons a l ih =>
   intro s h1 h2
   rw[List.foldl_cons]
   by_cases hs:s.2<a.seq
   ·rw[if_pos hs]
    obtain⟨⟨i1,i2⟩,i3⟩:=ih (a.id,a.seq) (fun r hr=>h1 r (List.mem_cons_of_mem _ hr)) (fun _=>.inr (h1 a (List.mem_cons_self ..)))
    simp only at i1
    refine⟨⟨by omega,.inr ?_⟩,fun r hr=>?_⟩
    ·rcases i2 with i2|⟨r,hr,i2⟩
     ·exact⟨a,List.mem_cons_self ..,by rw[i2],by rw[i2]⟩
     ·exact⟨r,List.mem_cons_of_mem _ hr,i2⟩
    ·rcases List.mem_cons.1 hr with rfl|hr
     ·exact i1
     ·exact i3 r hr
   ·rw[if_neg hs]
    obtain⟨⟨i1,i2⟩,i3⟩:=ih s (fun r hr=>h1 r (List.mem_cons_of_mem _ hr)) (fun _=>h2 (by simp))
    refine⟨⟨i1,?_⟩,fun r hr=>?_⟩
    ·rcases i2 with i2|⟨r,hr,i2⟩
     ·exact .inl i2
     ·exact .inr ⟨r,List.mem_cons_of_mem _ hr,i2⟩
    ·rcases List.mem_cons.1 hr with rfl|hr
     ·omega
     ·exact i3 r hr
 obtain⟨⟨g1,g2⟩,g3⟩:=gen M (0,-1) (fun r hr=>(hl r hr).1) (fun _=>.inl rfl)
 refine⟨fun h=>?_,fun hne=>?_⟩
 ·cases M with
  |nil=>rfl
  |cons a l =>
   have:=g3 a (List.mem_cons_self ..)
   have h0:=(hl a (List.mem_cons_self ..)).1
   have h:((a::l).foldl (fun s r=>if s.2<r.seq then(r.id,r.seq) else s) ((0,-1):Int×Int)).2<0:=h
   omega
 ·rcases g2 with g2|g2
  ·cases M with
   |nil=>exact absurd rfl hne
   |cons a l =>
    have:=g3 a (List.mem_cons_self ..)
    have h0:=(hl a (List.mem_cons_self ..)).1
    rw[g2] at this
    simp only at this
    omega
  ·exact g2
theorem lx {G:Gr} (w:nC G) (h:0<=(bg G.M).2):∃r,aK (bg G.M).1 G.M=some r/\r.seq=(bg G.M).2:=by
 obtain⟨_,g2⟩:=kK w.lev
 have hne:G.M≠[]:=fun e=>by rw[e] at h;revert h;show ¬(0<=(-1:Int));decide
 obtain⟨r,h1,h2,h3⟩:=g2 hne
 exact⟨r,dH w.rises h1 h2,h3⟩
theorem vH {G:Gr} (w:nC G) : -1<=(bg G.M).2/\(bg G.M).2<=4:=by
 obtain⟨g1,g2⟩:=kK w.lev
 by_cases hM:G.M=[]
 ·rw[hM];show -1<=(-1:Int)/\(-1:Int)<=4;decide
 ·obtain⟨r,h1,h2,h3⟩:=g2 hM
  have:=w.lev r h1
  omega
theorem nU {mt:Int}{G:Gr}{q:List Int}{l n:Nat}{fs:List Int} (hm:∀x y,y∈G.L x l->∃r,aK y G.M=some r) (hf:∀y∈fs,∃r,aK y G.M=some r):(∀y∈b7 mt G q l fs n,∃r,aK y G.M=some r)/\(b7 mt G q l fs n).length<=n:=by
 obtain⟨s,g⟩:=rS (mt:=mt) (q:=q) (n:=n) hm hf
 unfold b7
 refine⟨fun y hy=>?_,by rw[List.length_map];exact g.len⟩
 obtain⟨x,hx,rfl⟩:=List.mem_map.1 hy
 exact g.mem x hx
theorem kq {mt:Int}{G:Gr}{q:List Int}{l u:Nat}{at_:List Int} (h:u<=l):fy mt G q l u at_=at_:=by
 cases u with
 |zero=>rfl
 |succ u=>unfold fy;rw[if_neg (by omega)]
theorem i4 {mt:Int}{G:Gr}{q:List Int}{l u:Nat}{at_:List Int} (h:l<u+1):fy mt G q l (u+1) at_=fy mt G q l u (b7 mt G q (u+1) at_ 1):=by
 conv=>lhs;unfold fy
 rw[if_pos h]
noncomputable def zg (mt:Int) (id:Int) (q:List Int):Nat->Gr->List Int->Gr
 |0,G,_=>G
 |n+1,G,at_=>ng mt id q n G at_
theorem Br {mt:Int}{id:Int}{q:List Int}{n:Nat}{G:Gr}{at_:List Int}:zg mt id q (n+1) G at_=zg mt id q n ⟨G.M,fK mt G.M n G.L id ((b7 mt G q n at_ 8).take 4)⟩ (b7 mt G q n at_ 8):=by
 cases n with
 |zero=>rfl
 |succ n=>rfl
end Go.Ab.Seat
end
section
namespace Go.Ab.Seat
open Go.Extern Go.Proofs
theorem nW {mt:Int}{G:Gr}{q:List Int}{l n:Nat}{fs:List Int}{P:Int->Prop} (hf:∀y∈fs,P y) (hl:∀x y,y∈G.L x l->P y):∀y∈b7 mt G q l fs n,P y:=by
 have froms:∀(ys:List Int) (st:List Ht×List Int),(∀y∈ys,P y)->(∀x∈st.1,P x.id)->∀x∈(ys.foldl (gT mt G.M q n) st).1,P x.id:=by
  intro ys
  induction ys with
  |nil=>intro st _ h;exact h
  |cons y ys ih =>
   intro st h1 h2
   refine ih _ (fun z hz=>h1 z (List.mem_cons_of_mem _ hz)) fun x hx=>?_
   rcases iW hx with rfl|hx
   ·exact h1 y (List.mem_cons_self ..)
   ·exact h2 x hx
 have sees:∀(ys:List Int) (st:List Ht×List Int),(∀y∈ys,P y)->(∀x∈st.1,P x.id)->∀x∈(ys.foldl (i9 mt G.M q n) st).1,P x.id:=by
  intro ys
  induction ys with
  |nil=>intro st _ h;exact h
  |cons y ys ih =>
   intro st h1 h2
   refine ih _ (fun z hz=>h1 z (List.mem_cons_of_mem _ hz)) fun x hx=>?_
   unfold i9 at hx
   split at hx
   ·exact h2 x hx
   ·rcases iW hx with rfl|hx
    ·exact h1 y (List.mem_cons_self ..)
    ·exact h2 x hx
 have main:∀(k:Nat) (st:LS),(∀x∈st.f,P x.id)->∀x∈gU mt G q l n k st,P x.id:=by
  intro k
  induction k with
  |zero=>intro st h;exact h
  |succ k ih =>
   intro st h
   unfold gU
   cases hx:gW st with
   |none=>exact h
   |some x=>exact ih _ (sees _ _ (hl x.id) h)
 intro y hy
 unfold b7 at hy
 obtain⟨x,hx,rfl⟩:=List.mem_map.1 hy
 exact main _ _ (froms fs _ hf fun x hx=>by cases hx) x hx
section
variable {mt:Int}{M:List Rc}{L:Lk}{l:Nat}
theorem vj {id:Int}{xs:List Int} (h:xs.Nodup):(fM mt M id xs).Perm xs:=by
 have e:(xs.map (cK mt M (sQ M id))).map Ht.id=xs:=by rw[List.map_map];exact List.map_id xs
 have hd:((xs.map (cK mt M (sQ M id))).map Ht.id).Nodup:=by rw[e];exact h
 have hl:(xs.map (cK mt M (sQ M id))).length=xs.length:=List.length_map _
 obtain⟨p,_⟩:=cO (k:=xs.length) hd xs.length (by omega) (Nat.le_refl _)
 rw[List.take_of_length_le (by omega)] at p
 unfold fM
 have:=p.map Ht.id
 rwa [e] at this
theorem uz {id x y:Int}{k:Nat} (h:y∈eb mt M l L id x k):y∈L x k:=(jz.1 h).1
theorem LW.prune {id:Int} (w:LW M L):LW M (eb mt M l L id):=w.parts
theorem Dy {id:Int} (w:LW M L):(eb mt M l L id id l).length<=dG l:=by
 have hp:=vj (mt:=mt) (M:=M) (id:=id) (w.up id l).nodup
 refine Nat.le_trans (fR (q:=(fM mt M id (L id l)).take (dG l)) ((LW.prune w).up id l) fun y hy=>?_) (by rw[List.length_take];omega)
 obtain⟨h1,h2⟩:=jz.1 hy
 have h3:y∈fM mt M id (L id l):=hp.mem_iff.2 h1
 rw[<- List.take_append_drop (dG l) (fM mt M id (L id l))] at h3
 rcases List.mem_append.1 h3 with h3|h3
 ·exact h3
 ·exact absurd ⟨rfl,.inl ⟨rfl,h3⟩⟩ h2
theorem IE {near:List Int}:∀ {L:Lk},LW M L->(∀x k,(L x k).length<=dG k\/(k=l/\x∈near))->LW M (near.foldl (eb mt M l) L)/\(∀x k,(near.foldl (eb mt M l) L x k).length<=dG k)/\∀x k y,y∈near.foldl (eb mt M l) L x k->y∈L x k:=by
 induction near with
 |nil=>intro L w h;exact⟨w,fun x k=>(h x k).elim (fun e=>e) (fun e=>by cases e.2),fun x k y hy=>hy⟩
 |cons z near ih =>
  intro L w h
  obtain⟨g1,g2,g3⟩:=ih (L:=eb mt M l L z) w.prune fun x k=>by
   rcases h x k with e|⟨e1,e2⟩
   ·exact .inl (Nat.le_trans (fR ((LW.prune w).up x k) fun y hy=>uz hy) e)
   ·subst e1
    rcases List.mem_cons.1 e2 with rfl|e2
    ·exact .inl (Dy w)
    ·exact .inr ⟨rfl,e2⟩
  exact⟨g1,g2,fun x k y hy=>uz (g3 x k y hy)⟩
theorem fa {id x y:Int}{k:Nat}:∀ {near:List Int}{L:Lk},y∈near.foldl (fun L y=>eJ l L id y) L x k↔y∈L x k\/(k=l/\((x=id/\y∈near)\/(y=id/\x∈near)))
 | [],L=>by simp
 |z::near,L=>by
  rw[List.foldl_cons,fa (near:=near),gG]
  constructor
  ·rintro((e|⟨e,⟨f,g⟩|⟨f,g⟩⟩)|⟨e,⟨f,g⟩|⟨f,g⟩⟩)
   ·exact .inl e
   ·exact .inr ⟨e,.inl ⟨f,by rw[g];exact List.mem_cons_self ..⟩⟩
   ·exact .inr ⟨e,.inr ⟨g,by rw[f];exact List.mem_cons_self ..⟩⟩
   ·exact .inr ⟨e,.inl ⟨f,List.mem_cons_of_mem _ g⟩⟩
   ·exact .inr ⟨e,.inr ⟨f,List.mem_cons_of_mem _ g⟩⟩
  ·rintro(e|⟨e,⟨f,g⟩|⟨f,g⟩⟩)
   ·exact .inl (.inl e)
   ·rcases List.mem_cons.1 g with g|g
    ·exact .inl (.inr ⟨e,.inl ⟨f,g⟩⟩)
    ·exact .inr ⟨e,.inl ⟨f,g⟩⟩
   ·rcases List.mem_cons.1 g with g|g
    ·exact .inl (.inr ⟨e,.inr ⟨g,f⟩⟩)
    ·exact .inr ⟨e,.inr ⟨f,g⟩⟩
theorem LW.links {id:Int}:∀ {near:List Int}{L:Lk},LW M L->(∃r,aK id M=some r/\(l:Int)<=r.seq)->(∀y∈near,y≠id/\∃r,aK y M=some r/\(l:Int)<=r.seq)->LW M (near.foldl (fun L y=>eJ l L id y) L)
 | [],_,w,_,_=>w
 |z::near,L,w,h1,h2=>LW.links (near:=near) (L:=eJ l L id z) (w.link (Ne.symm (h2 z (List.mem_cons_self ..)).1) h1 (h2 z (List.mem_cons_self ..)).2) h1 fun y hy=>h2 y (List.mem_cons_of_mem _ hy)
theorem uy {id:Int}{near:List Int} (w:LC M L) (hid:∃r,aK id M=some r/\(l:Int)<=r.seq) (hn:∀y∈near,y≠id/\∃r,aK y M=some r/\(l:Int)<=r.seq) (h4:near.length<=4) (h0:L id l=[]):LC M (fK mt M l L id near)/\∀x k,k≠l->∀y,y∈fK mt M l L id near x k->y∈L x k:=by
 have w1:=LW.links (near:=near) w.lw hid hn
 have hm4:4<=dG l:=by unfold dG;split<;>omega
 obtain⟨g1,g2,g3⟩:=IE (mt:=mt) (l:=l) (near:=near) w1 fun x k=>by
  by_cases hk:k=l
  ·subst hk
   by_cases hx:x∈near
   ·exact .inr ⟨rfl,hx⟩
   ·refine .inl ?_
    by_cases hxi:x=id
    ·subst hxi
     refine Nat.le_trans (fR (q:=near) (w1.up x k) fun y hy=>?_) (by omega)
     rcases fa.1 hy with e|⟨_,e|e⟩
     ·rw[h0] at e;cases e
     ·exact e.2
     ·exact absurd e.2 hx
    ·refine Nat.le_trans (fR (w1.up x k) fun y hy=>?_) (w.cap x k)
     rcases fa.1 hy with e|⟨_,e|e⟩
     ·exact e
     ·exact absurd e.1 hxi
     ·exact absurd e.2 hx
  ·refine .inl (Nat.le_trans (fR (w1.up x k) fun y hy=>?_) (w.cap x k))
   rcases fa.1 hy with e|e
   ·exact e
   ·exact absurd e.1 hk
 refine⟨⟨g1,g2⟩,fun x k hk y hy=>?_⟩
 rcases fa.1 (g3 x k y hy) with e|e
 ·exact e
 ·exact absurd e.1 hk
end
theorem C2 {mt id:Int}{q:List Int}:∀(l:Nat) {G:Gr}{at_:List Int},LC G.M G.L->(∃r,aK id G.M=some r/\(l:Int)<=r.seq)->(∀k,k<=l->G.L id k=[])->(∀y∈at_,y≠id/\∃r,aK y G.M=some r/\(l:Int)<=r.seq)->(ng mt id q l G at_).M=G.M/\LC G.M (ng mt id q l G at_).L:=by
 have one:∀(l:Nat) {G:Gr}{at_:List Int},LC G.M G.L->(∃r,aK id G.M=some r/\(l:Int)<=r.seq)->(∀k,k<=l->G.L id k=[])->(∀y∈at_,y≠id/\∃r,aK y G.M=some r/\(l:Int)<=r.seq)->(∀y∈b7 mt G q l at_ 8,y≠id/\∃r,aK y G.M=some r/\(l:Int)<=r.seq)/\LC G.M (fK mt G.M l G.L id ((b7 mt G q l at_ 8).take 4))/\∀k,k<l->fK mt G.M l G.L id ((b7 mt G q l at_ 8).take 4) id k=[]:=by
  intro l G at_ w hid h0 hat
  have hP:∀y∈b7 mt G q l at_ 8,y≠id/\∃r,aK y G.M=some r/\(l:Int)<=r.seq:=nW hat fun x y hy=>⟨(fun e=>by
   have:=w.lw.sym x l y hy
   rw[e,h0 l (Nat.le_refl l)] at this
   cases this),w.lw.mem x l y hy⟩
  obtain⟨g1,g2⟩:=uy (mt:=mt) w hid (near:=(b7 mt G q l at_ 8).take 4) (fun y hy=>hP y (List.mem_of_mem_take hy)) (by rw[List.length_take];omega) (h0 l (Nat.le_refl l))
  refine⟨hP,g1,fun k hk=>?_⟩
  cases hl:fK mt G.M l G.L id ((b7 mt G q l at_ 8).take 4) id k with
  |nil=>rfl
  |cons y ys =>
   have:=g2 id k (by omega) y (by rw[hl];exact List.mem_cons_self ..)
   rw[h0 k (by omega)] at this
   cases this
 intro l
 induction l with
 |zero =>
  intro G at_ w hid h0 hat
  obtain⟨_,g,_⟩:=one 0 w hid h0 hat
  exact⟨rfl,g⟩
 |succ l ih =>
  intro G at_ w hid h0 hat
  obtain⟨g1,g2,g3⟩:=one (l+1) w hid h0 hat
  exact ih (G:=⟨G.M,fK mt G.M (l+1) G.L id ((b7 mt G q (l+1) at_ 8).take 4)⟩) g2 (by obtain⟨r,h1,h2⟩:=hid;exact⟨r,h1,by omega⟩) (fun k hk=>g3 k (by omega)) fun y hy=>by
   obtain⟨h1,r,h2,h3⟩:=g1 y hy
   exact⟨h1,r,h2,by omega⟩
theorem uJ {mt id:Int}{q:List Int}{G:Gr}{l:Nat} (w:LW G.M G.L) (h0:∀k,G.L id k=[]):∀(u:Nat) {at_:List Int},(∀y∈at_,y≠id/\∃r,aK y G.M=some r/\(u:Int)<=r.seq)->∀y∈fy mt G q l u at_,y≠id/\∃r,aK y G.M=some r/\((min l u:Nat):Int)<=r.seq:=by
 intro u
 induction u with
 |zero =>
  intro at_ h y hy
  obtain⟨h1,r,h2,h3⟩:=h y hy
  exact⟨h1,r,h2,by omega⟩
 |succ u ih =>
  intro at_ h
  by_cases hl:l<u+1
  ·rw[i4 hl]
   have hP:∀y∈b7 mt G q (u+1) at_ 1,y≠id/\∃r,aK y G.M=some r/\((u+1:Nat):Int)<=r.seq:=nW h fun x y hy=>⟨(fun e=>by
    have:=w.sym x (u+1) y hy
    rw[e,h0] at this
    cases this),w.mem x (u+1) y hy⟩
   intro y hy
   obtain⟨h1,r,h2,h3⟩:=ih (fun y hy=>by
    obtain⟨h1,r,h2,h3⟩:=hP y hy
    exact⟨h1,r,h2,by omega⟩) y hy
   exact⟨h1,r,h2,by omega⟩
  ·rw[kq (by omega)]
   intro y hy
   obtain⟨h1,r,h2,h3⟩:=h y hy
   exact⟨h1,r,h2,by omega⟩
theorem ED {mt:Int}{G:Gr}{id:Int}:aK id (ga mt G id).M=none:=by
 unfold ga
 cases hr:aK id G.M with
 |none=>exact hr
 |some r=>show aK id (jI id G.M)=none;rw[iJ,if_pos rfl]
theorem y0 {G:Gr} (w:nC G) {id:Int} (hn:aK id G.M=none) (zs:List Int) {lv:Int} (hl:0<=lv/\lv<=4):nC ⟨cJ (qp id zs lv) G.M,G.L⟩:=by
 refine⟨w.rises.put _,fun r hr=>?_,⟨w.lw.up,fun x l y hy=>?_,w.lw.sym,w.lw.irr⟩,w.cap⟩
 ·rcases dQ hr with rfl|hr
  ·exact hl
  ·exact w.lev r hr
 ·obtain⟨r,h1,h2⟩:=w.lw.mem x l y hy
  refine⟨r,?_,h2⟩
  show aK y (cJ (qp id zs lv) G.M)=some r
  rw[ek,if_neg fun e=>?_]
  ·exact h1
  ·have e:id=y:=e
   rw[<- e,hn] at h1;cases h1
theorem A0 {mt:Int}{G:Gr} (w:nC G) (id:Int) (zs:List Int) (dw:Int):(sx mt G id zs dw).M=cJ (qp id zs (bR dw:Int)) (ga mt G id).M/\nC (sx mt G id zs dw):=by
 have w1:=w.del (mt:=mt) id
 have hn:=ED (mt:=mt) (G:=G) (id:=id)
 have hlv:=pD dw
 have w2:=y0 w1 hn zs (lv:=(bR dw:Int)) ⟨by omega,by omega⟩
 unfold sx
 generalize ga mt G id=G1 at w1 hn w2
 by_cases hu:(bg G1.M).2<0
 ·rw[if_pos hu]
  exact⟨rfl,w2⟩
 ·rw[if_neg hu]
  obtain⟨r,hr,hrs⟩:=lx w1 (by omega)
  have hne:(bg G1.M).1≠id:=fun e=>by rw[e,hn] at hr;cases hr
  have hout:=w1.lw.out hn
  have hid:aK id (cJ (qp id zs (bR dw:Int)) G1.M)=some (qp id zs (bR dw:Int)):=by rw[ek];exact if_pos rfl
  have hd:=uJ (mt:=mt) (id:=id) (q:=zs) (l:=bR dw) (G:=⟨cJ (qp id zs (bR dw:Int)) G1.M,G1.L⟩) w2.lw hout (bg G1.M).2.toNat (at_:=[(bg G1.M).1]) fun y hy=>by
   rw[List.mem_singleton.1 hy]
   refine⟨hne,r,?_,by omega⟩
   show aK _ (cJ (qp id zs (bR dw:Int)) G1.M)=some r
   rw[ek,if_neg fun e=>hne e.symm]
   exact hr
  obtain⟨g1,g2⟩:=C2 (mt:=mt) (id:=id) (q:=zs) (min (bR dw) (bg G1.M).2.toNat) (G:=⟨cJ (qp id zs (bR dw:Int)) G1.M,G1.L⟩) ⟨w2.lw,w2.cap⟩ ⟨_,hid,by show ((min (bR dw) (bg G1.M).2.toNat:Nat):Int)<=(bR dw:Int);omega⟩ (fun k _=>hout k) hd
  refine⟨g1,?_⟩
  have e:∀G:Gr,G.M=cJ (qp id zs (bR dw:Int)) G1.M->LC (cJ (qp id zs (bR dw:Int)) G1.M) G.L->nC G:=fun G e1 e2=>⟨by rw[e1];exact w2.rises,by rw[e1];exact w2.lev,by rw[e1];exact e2.lw,e2.cap⟩
  exact e _ g1 g2
theorem nC.put {mt:Int}{G:Gr} (w:nC G) (id:Int) (zs:List Int) (dw:Int):nC (sx mt G id zs dw):=(A0 w id zs dw).2
end Go.Ab.Seat
end
