import Derived.Test.YtofikbfljjjgeaaGreatDoorDY5
import Derived.Test.YtofikbfljjjgeaaGreatDoorDF7
import Derived.Test.YtofikbfljjjgeaaGreatDoorDF3
set_option linter.unusedVariables false
set_option linter.unusedSimpArgs false
section
namespace Go.Ab.Seat
open Go.Extern Go.Proofs
set_option maxRecDepth 4000
def Mj:List Nat:=[0,1,2,4,5,6,7,10,16,17,18,29]
set_option maxHeartbeats 8000000 in
theorem A8 {h:T ag}{c:Nat}{rl wl:List Nat} (hf:ai h c) {bk:Value}{dim:Nat}{lo st:List Int}{U:Nat->Prop} (q:Ay h bk dim lo st U) (hd:dim<=8) {a:Option Addr}{k:Nat}{co:List Int} (hn:co.length=dim) (hx:bj h (.slice a dim k) dim 1 (co.map (Value.int .u8))) (hb:∀i,0<=co.getD i 0/\co.getD i 0<=255) (R:Nat->Prop) (hUR:∀b,U b->R b) (hR:∀x,au (.slice a dim k)=some x->R x) :
  ∃r s',aE (Cs bD) eg 88 [bk,.slice a dim k] ⟨h,c,rl,wl⟩ r s'/\(∃b,r=.slice (some ⟨b,0,none⟩) dim dim/\c<=b/\ay s'.h b (.cells ((n4 lo st co).map (Value.int .i32))))/\bA ⟨h,c,rl,wl⟩ s' R (fun _=>False):=by
 have q0:=q
 obtain⟨⟨al,kl,at_,ks,rfl,h2,h3,h4,h5⟩,h6,h7,h8,h9⟩:=q
 have hbg:dv=1048576:=rfl
 refine Fn.go (aU 88 rfl) Ms Pd Mn rfl rfl ?_
 refine cg ?_
 refine aq ?_
 refine ax.call rfl rfl (sG aO (q0.keep hf (fun _ q=>q) (fun b _ hb=>am (by omega))) (by omega) R hUR) ?_
 rintro v1 h1 c1 r1 w1 ⟨rfl,hext⟩
 have fr1:=hext.fresh
 have le1:=hext.c
 simp only at fr1 le1
 have kp:=Kp.ext (W:=fun _=>False) (h:=h) (c:=c) bW hext (by omega) (fun _ _ q=>q)
 have lr:=Lg.extR (R:=R) (c:=c) az hext (fun _ _ q=>q)
 have lw:=Lg.extW (W:=fun _=>False) (c:=c) az hext (fun _ _ q=>q)
 have gb:=hext.hs (b:=c) ay.same (by omega) (fun q=>q)
 refine aq ?_
 refine Zu (dM (a:=dim) (b:=dim) DT rfl rfl rfl rfl (by omega) (by omega) aO) ?_
 refine aq ?_
 refine Wx.loopF (fun k1 e s=>∃(g:Nat->Value) (i:Nat) (z:Int) (h':T ag) (rl' wl':List Nat),e=fr g [(1,.slice a dim k),(2,.pointer (some ⟨c,0,none⟩)),(5,.slice (some ⟨c1,0,none⟩) dim dim),(16,.int .i64 (dim:Int)),(17,.int .i64 z)] Mj/\z=i/\s=⟨h',c1+1,rl',wl'⟩/\ai h' (c1+1)/\Kp h1 h' c1 (fun _=>False)/\ay h' c1 (.cells (lg .i32 (np lo st co) (fun _=>0) dim i))/\Lg c R rl'/\Lg c (fun _=>False) wl'/\i<=dim/\k1=dim - i) dim Mj [(1,_),(2,_),(5,_),(16,_),(17,.int .i64 0)] ⟨_,0,0,_,_,_,rfl,rfl,rfl,aO,bW,by rw[<- nY];exact ay.same,az,az,by omega,rfl⟩ ?_
 rintro k1 e s ⟨g,i,z,h',rl',wl',rfl,hz,rfl,hf',hkp,hC,hlr,hlw,hid,rfl⟩
 (refine Wx.sw (by simp only[Mj,i5,i6,dC,dB,Nat.reduceEqDiff,↓reduceIte];rfl) ?_)
 have kph:Kp h h' c (fun _=>False):=fun b hb _=>(hkp b (by omega) (fun q=>q)).trans (kp b hb (fun q=>q))
 by_cases hi:i<dim
 ·have gb':ay h' c _:=(hkp c (by omega) (fun q=>q)).trans gb
  obtain⟨b1,o1,sp1,cs1,rfl,hc1,hn1⟩:=bp (bj.keepF hx hf (fun b hb=>kph b hb (fun q=>q))) (j:=i*1) (by omega) (j3 (by omega))
  obtain⟨b2,o2,sp2,cs2,rfl,hc2,hn2⟩:=bp (bj.keepF h2 hf (fun b hb=>kph b hb (fun q=>q))) (j:=i*1) (by omega) (j3 (by omega))
  obtain⟨b3,o3,sp3,cs3,rfl,hc3,hn3⟩:=bp (bj.keepF h3 hf (fun b hb=>kph b hb (fun q=>q))) (j:=i*1) (by omega) (j3 (by omega))
  have l1:=hc1.lt hf'
  have l2:=hc2.lt hf'
  have l3:=hc3.lt hf'
  have r1:=hR b1 rfl
  have r2:=hUR b2 (h4 b2 rfl)
  have r3:=hUR b3 (h5 b3 rfl)
  have q1:=hb i
  have q2:=h8 i
  have q3:=h9 i hi
  have q4:0<=st.getD i 0*co.getD i 0/\st.getD i 0*co.getD i 0<=8226*255:=⟨Int.mul_nonneg (by omega) q1.1,(Int.mul_le_mul q3.2 q1.2 q1.1 (by omega))⟩
  have hstp:=mN .i32 (np lo st co) (fun _=>0) dim i hi
  have hce:np lo st co i=min (max (lo.getD i 0+st.getD i 0*co.getD i 0) (-1048576)) 1048576:=rfl
  have hcr : -1048576<=np lo st co i/\np lo st co i<=1048576:=by unfold np;omega
  refine aq ?_
  refine Zu (aj (k:=i) Ak rfl rfl hz hi) ?_
  refine Zu (aB (dV rfl) rfl hc2 (by omega) hn2) ?_
  refine aq ?_
  simp only[cm (show (-9223372036854775808:Int)<=lo.getD i 0 by omega) (by omega)]
  refine aq ?_
  refine Zq (aj (k:=i) Ak rfl rfl hz hi) ?_
  refine Zd (aB (dV rfl) rfl hc3 (by omega) hn3) ?_
  refine aq ?_
  refine Zq (aj (k:=i) LH rfl rfl hz hi) ?_
  refine Zd (aB (dV rfl) rfl hc1 (by omega) hn1) ?_
  refine aq ?_
  simp only[cm (show (-9223372036854775808:Int)<=st.getD i 0 by omega) (by omega),cm (show (-9223372036854775808:Int)<=co.getD i 0 by omega) (by omega)]
  refine aq ?_
  rw[<- hce]
  simp only[jT (show (-2147483648:Int)<=np lo st co i by omega) (by omega)]
  refine Zu (aj (k:=i) lh rfl rfl hz hi) ?_
  ((with_reducible apply ax.so);rfl;exact(uc rfl);rfl;exact hC;omega;refine wC ?_;refine⟨_,_,(by(first|exact a8 _|rfl)),rfl,hstp,?_⟩)
  refine aq ?_
  exact aC.goF (dim - (i+1)) Mj [(1,_),(2,_),(5,_),(16,_),(17,.int .i64 (z+1))] (by omega) ⟨_,i+1,z+1,_,_,_,rfl,by omega,rfl,aO,bW,ay.same,az,az,by omega,rfl⟩
 ·refine aq ?_
  obtain rfl:i=dim:=by omega
  refine⟨.inr rfl,aG.one rfl ⟨⟨c1,rfl,by omega,?_⟩,?_⟩⟩
  ·unfold n4
   rw[hn,<- oU .i32 (np lo st co) (fun _=>0) i]
   exact hC
  ·exact bM
theorem nr {h:T ag}{c:Nat}{rl wl:List Nat} (hf:ai h c) {b dim k:Nat}{sp:Option Nat}{xs:List Value} (hb:ay h b (.cells xs)) (hl:xs.length=dim) (hd1:1<=dim) (hd:dim<=1000) (R:Nat->Prop) (hR:R b) :
  ∃r s',aE (Cs bD) eg 161 [.slice (some ⟨b,0,sp⟩) dim k] ⟨h,c,rl,wl⟩ r s'/\(r=.slice (some ⟨c+1,0,some 1⟩) dim dim/\s'.c=c+2/\ay s'.h (c+1) (.cells xs))/\bA ⟨h,c,rl,wl⟩ s' R (fun _=>False):=by
 obtain⟨n,rfl⟩:∃n,dim=n+1:=⟨dim - 1,by omega⟩
 have hbg:dv=1048576:=rfl
 have lb:=hb.lt hf
 refine Fn.go (aU 161 rfl) J6 JX Ky rfl rfl ?_
 refine cg ?_
 refine aq ?_
 refine Zu (l9 Id OY rfl rfl (hb.other (by omega)).cel (by omega) (aA _ _ (by omega)) (by omega) aO) ?_
 refine aq ?_
 refine⟨.inr rfl,aG.one rfl ⟨⟨rfl,rfl,ay.same⟩,?_⟩⟩
 exact bM
end Go.Ab.Seat
end
section
namespace Go.Ab.Seat
open Go.Extern Go.Proofs
set_option maxRecDepth 4000
theorem yA {h:T ag}{c:Nat}{rl wl:List Nat} (hf:ai h c) {bl bs dim kl ks:Nat}{sl ss:Option Nat}{xs ys:List Value} (hl:ay h bl (.cells xs)) (hs:ay h bs (.cells ys)) (hxl:xs.length=dim) (hyl:ys.length=dim) (hd1:1<=dim) (hd:dim<=1000) (R:Nat->Prop) (hRl:R bl) (hRs:R bs) :
  ∃r s',aE (Cs bD) eg 92 [.agg ⟨[.slice (some ⟨bl,0,sl⟩) dim kl,.slice (some ⟨bs,0,ss⟩) dim ks]⟩] ⟨h,c,rl,wl⟩ r s'/\(∃b1 b2,r=.agg ⟨[.slice (some ⟨b1,0,some 1⟩) dim dim,.slice (some ⟨b2,0,some 1⟩) dim dim]⟩/\c<=b1/\c<=b2/\b1≠b2/\ay s'.h b1 (.cells xs)/\ay s'.h b2 (.cells ys))/\bA ⟨h,c,rl,wl⟩ s' R (fun _=>False):=by
 have lbl:=hl.lt hf
 have lbs:=hs.lt hf
 refine Fn.go (aU 92 rfl) Pi Nq M6 rfl rfl ?_
 refine cg ?_
 refine aq ?_
 refine bN.call rfl rfl (nr aO (hl.other (by omega) |>.other (by omega)) hxl hd1 hd R hRl) ?_
 rintro v1 h1 c1 r1 w1 ⟨⟨rfl,e1,g1⟩,hext⟩
 have fr1:=hext.fresh
 simp only at fr1 e1 g1
 subst e1
 have hqt:=hext.quiet (fun _ _ q=>q)
 have kp:=Kp.ext (W:=fun _=>False) (h:=h) (c:=c) bW hext (by omega) (fun _ _ q=>q)
 have lr:=Lg.extR (R:=R) (c:=c) az hext (fun _ _ q=>q)
 have lw:=Lg.extW (W:=fun _=>False) (c:=c) az hext (fun _ _ q=>q)
 have gb:=hext.hs (b:=c) (ay.other (by omega) ay.same) (by omega) (fun q=>q)
 have gr:=hext.hs (b:=c+1) ay.same (by omega) (fun q=>q)
 have hap:bt ⟨r1,w1,c+1+1,c+1+1+2⟩ ⟨[c],[],c+1+1+2,c+1+1+2⟩:=bt.wr (fun y hy=>(hqt y hy).elim) (by omega)
 refine⟨i7,?_⟩
 have hs1:=hext.hs (b:=bs) (hs.other (by omega) |>.other (by omega)) (by omega) (fun q=>q)
 refine aq ?_
 refine bN.call rfl rfl (nr aO hs1 hyl hd1 hd R hRs) ?_
 rintro v2 h2 c2 r2 w2 ⟨⟨rfl,e2,g2⟩,hext2⟩
 have fr2:=hext2.fresh
 simp only at fr2 e2 g2
 subst e2
 have hqt2:=hext2.quiet (fun _ _ q=>q)
 have kp2:=Kp.ext (W:=fun _=>False) (h:=h) (c:=c) kp hext2 (by omega) (fun _ _ q=>q)
 have lr2:=Lg.extR (R:=R) (c:=c) az hext2 (fun _ _ q=>q)
 have lw2:=Lg.extW (W:=fun _=>False) (c:=c) az hext2 (fun _ _ q=>q)
 have gr2:=hext2.hs (b:=c+1) gr (by omega) (fun q=>q)
 have g12:=hext2.hs g1 (by omega) (fun q=>q)
 refine⟨i7,?_⟩
 refine aq ?_
 refine⟨.inr rfl,aG.cell rfl (FU rfl) ay.same.cel (by omega) (by rfl) ⟨⟨_,_,rfl,by omega,by omega,by omega,ay.other (by omega) g12,ay.other (by omega) g2⟩,?_⟩⟩
 exact bM
def Hh (h:T ag) (p m:Nat) (U:Nat->Prop) (lo st:List Int) (r:Rc) (v:Value):Prop:=∃w cw,v=.agg ⟨[w,cw]⟩/\kc h 0 w r.xs.length r.xs/\kc h 0 cw r.xs.length ((ja lo st (jS r.xs)).map (Value.int .u8))/\(∀b,au w=some b->U b/\b≠p/\b≠m)/\∀b,au cw=some b->U b/\b≠p/\b≠m
def zW (h:T ag) (p m:Nat) (U:Nat->Prop) (lo st:List Int) (o:Option Rc) (w:Option Value):Prop:=(o=none/\w=none)\/∃r v,o=some r/\w=some v/\Hh h p m U lo st r v
structure jM (h:T ag) (p m:Nat) (vl vs:Value) (mt:Int) (dim:Nat) (lo st:List Int) (M:List Rc) (U:Nat->Prop):Prop where
 ptr:ay h p (.cells [.int .i64 mt,vl,vs,.map (some m)])
 book:Ay h (.agg ⟨[vl,vs]⟩) dim lo st (fun b=>U b/\b≠p/\b≠m)
 ex:∃es n,ay h m (.map es n)/\(∃ids,dx es n ids)/\∀x,zW h p m U lo st (aK x M) (dU x es)
 pU:U p
 mU:U m
 ne:p≠m
 rises:cE M
 ok:∀r∈M,∃zs:List Int,r=Ga r.id zs/\zs.length=dim/\gc zs
theorem Hh.keep {h h':T ag}{p m c:Nat}{U U':Nat->Prop}{lo st:List Int}{r:Rc}{v:Value} (x:Hh h p m U lo st r v) (hf:ai h c) (hU:∀b,U b->U' b) (k:∀b,U b->b<c->b≠p->b≠m->h'.get b=h.get b):Hh h' p m U' lo st r v:=by
 obtain⟨w,cw,e,x1,x2,x3,x4⟩:=x
 exact⟨w,cw,e,x1.keep fun b hb=>k b (x3 b hb).1 ((x1.blk hb).2.lt hf) (x3 b hb).2.1 (x3 b hb).2.2,x2.keep fun b hb=>k b (x4 b hb).1 ((x2.blk hb).2.lt hf) (x4 b hb).2.1 (x4 b hb).2.2,fun b hb=>⟨hU b (x3 b hb).1,(x3 b hb).2⟩,fun b hb=>⟨hU b (x4 b hb).1,(x4 b hb).2⟩⟩
theorem zW.keep {h h':T ag}{p m c:Nat}{U U':Nat->Prop}{lo st:List Int}{o:Option Rc}{w:Option Value} (x:zW h p m U lo st o w) (hf:ai h c) (hU:∀b,U b->U' b) (k:∀b,U b->b<c->b≠p->b≠m->h'.get b=h.get b):zW h' p m U' lo st o w:=by
 rcases x with x|⟨r,v,h1,h2,h3⟩
 ·exact .inl x
 ·exact .inr ⟨r,v,h1,h2,h3.keep hf hU k⟩
theorem jM.keep {h h':T ag}{c p m dim:Nat}{vl vs:Value}{mt:Int}{lo st:List Int}{M:List Rc}{U:Nat->Prop} (q:jM h p m vl vs mt dim lo st M U) (hf:ai h c) (k:∀b,U b->b<c->h'.get b=h.get b):jM h' p m vl vs mt dim lo st M U:=by
 obtain⟨es,n,h1,h2,h3⟩:=q.ex
 exact⟨(k p q.pU (q.ptr.lt hf)).trans q.ptr,q.book.keep hf (fun _ q=>q) (fun b hb hc=>k b hb.1 hc),⟨es,n,(k m q.mU (h1.lt hf)).trans h1,h2,fun x=>(h3 x).keep hf (fun _ q=>q) fun b hb hc _ _=>k b hb hc⟩,q.pU,q.mU,q.ne,q.rises,q.ok⟩
theorem jM.wide {h:T ag}{c p m dim:Nat}{vl vs:Value}{mt:Int}{lo st:List Int}{M:List Rc}{U U':Nat->Prop} (q:jM h p m vl vs mt dim lo st M U) (hf:ai h c) (k:∀b,U b->U' b):jM h p m vl vs mt dim lo st M U':=by
 obtain⟨es,n,h1,h2,h3⟩:=q.ex
 exact⟨q.ptr,q.book.keep hf (fun b hb=>⟨k b hb.1,hb.2⟩) (fun b hb hc=>rfl),⟨es,n,h1,h2,fun x=>(h3 x).keep hf k fun b hb hc _ _=>rfl⟩,k _ q.pU,k _ q.mU,q.ne,q.rises,q.ok⟩
theorem jM.lt {h:T ag}{c p m dim:Nat}{vl vs:Value}{mt:Int}{lo st:List Int}{M:List Rc}{U:Nat->Prop} (q:jM h p m vl vs mt dim lo st M U) (hf:ai h c):p<c/\m<c:=by
 obtain⟨es,n,h1,h2,h3⟩:=q.ex
 exact⟨q.ptr.lt hf,h1.lt hf⟩
theorem jM.hm {h:T ag}{p m dim:Nat}{vl vs:Value}{mt:Int}{lo st:List Int}{M:List Rc}{U:Nat->Prop} (q:jM h p m vl vs mt dim lo st M U):∃es n,ay h m (.map es n):=by
 obtain⟨es,n,h1,_⟩:=q.ex
 exact⟨es,n,h1⟩
def CE (dim:Nat) (vs:List (List Int)):List Int:=(List.range dim).map fun i=>ku i vs
def vp (dim:Nat) (vs:List (List Int)):List Int:=(List.range dim).map fun i=>nf i vs
theorem wP {f:Nat->Int}{dim i:Nat}:((List.range dim).map f).getD i 0=if i<dim then f i else 0:=by
 rw[List.getD_eq_getElem?_getD,List.getElem?_map]
 by_cases h:i<dim
 ·rw[List.getElem?_eq_getElem (by simpa using h),List.getElem_range,if_pos h];rfl
 ·rw[List.getElem?_eq_none (by simpa using h),if_neg h];rfl
set_option maxHeartbeats 8000000 in
theorem Df {h:T ag}{c:Nat}{rl wl:List Nat} (hf:ai h c) {mt:Int} (hmt:mt=1\/mt=2) {v:Value}{dim:Nat}{vs:List (List Int)}{U0:Nat->Prop} (hm0:fe h v dim vs U0) (hn:vs.length<=1000) (hd1:1<=dim) (hd:dim<=8) (R:Nat->Prop) (hUR0:∀b,U0 b->R b) :
  ∃r s',aE (Cs bD) eg 29 [.int .i64 mt,.int .i64 (dim:Int),v] ⟨h,c,rl,wl⟩ r s'/\(∃p m vl vs',r=.pointer (some ⟨p,0,none⟩)/\jM s'.h p m vl vs' mt dim (CE dim vs) (vp dim vs) [] (fun b=>c<=b/\b<s'.c))/\bA ⟨h,c,rl,wl⟩ s' R (fun _=>False):=by
 have hvb:∀v∈vs,gc v:=fun v hv=>(hm0.vok v hv).2
 obtain⟨oa,cap,rfl⟩:=hm0.val
 refine Fn.go (aU 29 rfl) NH OJ PG rfl rfl ?_
 refine cg ?_
 refine aq ?_
 refine ax.call rfl rfl (Da aO hm0 hn hd1 hd R hUR0) ?_
 rintro v1 h1 c1 r1 w1 ⟨⟨bl,bs,rfl,hbl,hbs,hne,gl,gs⟩,hext⟩
 have fr1:=hext.fresh
 have le1:=hext.c
 simp only at fr1 le1 gl gs
 have kp:=Kp.ext (W:=fun _=>False) (h:=h) (c:=c) bW hext (by omega) (fun _ _ q=>q)
 have lr:=Lg.extR (R:=R) (c:=c) az hext (fun _ _ q=>q)
 have lw:=Lg.extW (W:=fun _=>False) (c:=c) az hext (fun _ _ q=>q)
 refine aq ?_
 have of_:∃r s',aE (Cs bD) eg 86 [.int .i64 mt,.agg ⟨[.slice (some ⟨bl,0,none⟩) dim dim,.slice (some ⟨bs,0,none⟩) dim dim]⟩] ⟨h1,c1,r1,w1⟩ r s'/\(∃p m vl vs',r=.pointer (some ⟨p,0,none⟩)/\jM s'.h p m vl vs' mt dim (CE dim vs) (vp dim vs) [] (fun b=>c1<=b/\b<s'.c))/\bA ⟨h1,c1,r1,w1⟩ s' (fun b=>c<=b) (fun _=>False):=by
  have lbl:=gl.lt fr1
  have lbs:=gs.lt fr1
  refine Fn.go (aU 86 rfl) Mu OD Oe rfl rfl ?_
  refine cg ?_
  refine aq ?_
  refine ax.call rfl rfl (iU aU aO mt hmt) ?_
  rintro v2 h2 c2 r2 w2 ⟨rfl,e2⟩
  cases e2
  refine aq ?_
  refine ax.call rfl rfl (yA aO (gl.other (by omega)) (gs.other (by omega)) (kb _ _ _ _ _) (kb _ _ _ _ _) hd1 (by omega) (fun b=>c<=b) hbl hbs) ?_
  rintro v3 h3 c3 r3 w3 ⟨⟨b1,b2,rfl,k1,k2,k3,k4,k5⟩,hext3⟩
  have fr3:=hext3.fresh
  have le3:=hext3.c
  simp only at fr3 le3 k4 k5
  have kp3:=Kp.ext (W:=fun _=>False) (h:=h1) (c:=c1) bW hext3 (by omega) (fun _ _ q=>q)
  have lr3:=Lg.extR (R:=fun b=>c<=b) (c:=c1) az hext3 (fun _ _ q=>q)
  have lw3:=Lg.extW (W:=fun _=>False) (c:=c1) az hext3 (fun _ _ q=>q)
  have l4:=k4.lt fr3
  have l5:=k5.lt fr3
  refine aq ?_
  refine⟨.inr rfl,aG.one rfl ⟨⟨c3+1,c3,.slice (some ⟨b1,0,some 1⟩) dim dim,.slice (some ⟨b2,0,some 1⟩) dim dim,rfl,?_⟩,?_⟩⟩
  ·refine⟨ay.same,⟨⟨_,_,_,_,rfl,.inr ⟨b1,0,some 1,dim,_,rfl,ay.cel (ay.other (by omega) (ay.other (by omega) k4)),?_⟩,.inr ⟨b2,0,some 1,dim,_,rfl,ay.cel (ay.other (by omega) (ay.other (by omega) k5)),?_⟩,?_,?_⟩,by simp [CE],by simp [vp],fun i=>?_,fun i hi=>?_⟩,⟨[],0,ay.other (by omega) ay.same,⟨[],.nil 0⟩,fun x=>.inl ⟨rfl,rfl⟩⟩,⟨by omega,by dsimp only;omega⟩,⟨by omega,by dsimp only;omega⟩,by omega,cE.nil,fun r hr=>by cases hr⟩
   ·rw[oU];exact aA _ _ (by simp [CE])
   ·rw[oU];exact aA _ _ (by simp [vp])
   ·intro b hb
    have e:b1=b:=by simpa [au] using hb
    subst e
    exact⟨⟨by omega,by dsimp only;omega⟩,by omega,by omega⟩
   ·intro b hb
    have e:b2=b:=by simpa [au] using hb
    subst e
    exact⟨⟨by omega,by dsimp only;omega⟩,by omega,by omega⟩
   ·unfold CE
    rw[wP]
    split
    ·have:=oY (i:=i) hvb vs.length (Nat.le_refl _)
     rw[List.take_length] at this
     omega
    ·omega
   ·unfold vp
    rw[wP,if_pos hi]
    exact Cz hvb
  ·exact bM
 refine ax.call rfl rfl of_ ?_
 rintro v2 h2 c2 r2 w2 ⟨⟨p,m,vl,vs',rfl,hC⟩,hext2⟩
 have fr2:=hext2.fresh
 have le2:=hext2.c
 simp only at fr2 le2 hC
 have kp2:=Kp.ext (W:=fun _=>False) (h:=h) (c:=c) kp hext2 (by omega) (fun _ _ q=>q)
 have lr2:=Lg.extR (R:=R) (c:=c) az hext2 (fun b hb q=>by omega)
 have lw2:=Lg.extW (W:=fun _=>False) (c:=c) az hext2 (fun _ _ q=>q)
 refine aq ?_
 refine⟨.inr rfl,aG.one rfl ⟨⟨p,m,vl,vs',rfl,hC.wide fr2 fun b hb=>⟨by omega,hb.2⟩⟩,?_⟩⟩
 exact bM
end Go.Ab.Seat
end
section
namespace Go.Ab.Seat
open Go.Extern Go.Proofs
set_option maxRecDepth 4000
variable {sm:Nat->Option (List Value->M Value)}
theorem wH {h:T ag}{c b m n:Nat}{rl wl:List Nat}{es:List (Value×Value×Nat)} (hf:ai h c) (hb:ay h b (.cells [.map (some m)])) (hm:ay h m (.map es n)) (hk:keyInts es n=some []) :
  ∃v s',aE (Cs bD) eg 84 [.func (.func 164) #[] ⟨[.pointer (some ⟨b,0,none⟩)]⟩] ⟨h,c,rl,wl⟩ v s'/\(v=.slice none 0 0/\s'=⟨h,c,m::b::rl,wl⟩):=by
 refine⟨_,_,⟨0,?_⟩,rfl,rfl⟩
 have hs:(Cs bD).sm 84=some (aX ce):=rfl
 unfold cr
 rw[hs]
 show aX ce _ _=_
 unfold aX
 have e1:iE ce [.func (.func 164) #[] ⟨[.pointer (some ⟨b,0,none⟩)]⟩]=some (164,true,b,0):=rfl
 rw[e1,ac (aw (a:=(164,true,b,0)) rfl)]
 dsimp only
 rw[ac (bU hb.cel (hb.lt hf))]
 have e2:cu [Value.map (some m)] 0=some (.map (some m)):=rfl
 rw[e2,ac (aw (a:=Value.map (some m)) rfl)]
 unfold f9
 dsimp only
 rw[ac (show ((M.lift (fT (Value.map (some m)))).bind cW) _=some ([],⟨h,c,m::b::rl,wl⟩) from by
  have e3:fT (Value.map (some m))=some (some m):=rfl
  rw[e3,ac (aw (a:=some m) rfl)]
  unfold cW
  dsimp only
  rw[ac (dk hm (hm.lt hf))]
  exact aw hk)]
 rfl
theorem xx {h:T ag}{c b m n:Nat}{rl wl:List Nat}{es:List (Value×Value×Nat)}{x:Int}{xs:List Int} (hf:ai h c) (hb:ay h b (.cells [.map (some m)])) (hm:ay h m (.map es n)) (hk:keyInts es n=some (x::xs)) (hl:(x::xs).length<=1000000) :
  ∃v s',aE (Cs bD) eg 84 [.func (.func 164) #[] ⟨[.pointer (some ⟨b,0,none⟩)]⟩] ⟨h,c,rl,wl⟩ v s'/\(v=.slice (some ⟨c,0,some 1⟩) (x::xs).length (x::xs).length/\s'=⟨h.set c (some (.cells ((fx (x::xs)).map fun n=>Value.int .i64 n))),c+1,m::b::rl,wl⟩):=by
 refine⟨_,_,⟨0,?_⟩,rfl,rfl⟩
 have hs:(Cs bD).sm 84=some (aX ce):=rfl
 unfold cr
 rw[hs]
 show aX ce _ _=_
 unfold aX
 have e1:iE ce [.func (.func 164) #[] ⟨[.pointer (some ⟨b,0,none⟩)]⟩]=some (164,true,b,0):=rfl
 rw[e1,ac (aw (a:=(164,true,b,0)) rfl)]
 dsimp only
 rw[ac (bU hb.cel (hb.lt hf))]
 have e2:cu [Value.map (some m)] 0=some (.map (some m)):=rfl
 rw[e2,ac (aw (a:=Value.map (some m)) rfl)]
 unfold f9
 dsimp only
 rw[ac (show ((M.lift (fT (Value.map (some m)))).bind cW) _=some (x::xs,⟨h,c,m::b::rl,wl⟩) from by
  have e3:fT (Value.map (some m))=some (some m):=rfl
  rw[e3,ac (aw (a:=some m) rfl)]
  unfold cW
  dsimp only
  rw[ac (dk hm (hm.lt hf))]
  exact aw hk)]
 unfold iN
 dsimp only
 rw[show Nat.ble (len (x::xs)) 1000000=true from by rw[eD];rw[Nat.ble_eq];exact hl]
 dsimp only
 rw[ac (bc hf),fm,eD]
 rfl
theorem Am (H:pV sm) {h:T ag}{c m:Nat}{rl wl:List Nat} (hf:ai h c) :
  ∃v s',aE (Cs sm) eg 97 [.map (some m)] ⟨h,c,rl,wl⟩ v s'/\(v=.func (.func 164) #[] ⟨[.pointer (some ⟨c,0,none⟩)]⟩/\s'=⟨h.set c (some (.cells [.map (some m)])),c+1,rl,wl⟩):=by
 refine Fn.go (H 97 rfl) OU MM NB rfl rfl ?_
 refine cg ?_
 refine aq ?_
 exact⟨.inr rfl,aG.one rfl ⟨rfl,rfl⟩⟩
end Go.Ab.Seat
end
section
namespace Go.Ab.Seat
open Go.Extern Go.Proofs
set_option maxRecDepth 4000
theorem jM.ids {h:T ag}{p m:Nat}{U:Nat->Prop}{lo st:List Int}{M:List Rc}{n:Nat}{es:List (Value×Value×Nat)}{ids:List Int} (hk:dx es n ids) (hr:cE M) (hv:∀x,zW h p m U lo st (aK x M) (dU x es)):fx ids=M.map Rc.id:=by
 refine im (jd hk.nodup) hr.ids fun x=>?_
 rw[(dy ids).mem_iff]
 constructor
 ·intro hx
  rcases hv x with⟨_,h4⟩|⟨r,v,h4,_,_⟩
  ·exact absurd hx ((bo hk.keys).1 (dh.1 h4))
  ·obtain⟨h5,h6⟩:=cF h4
   exact List.mem_map.2 ⟨r,h5,h6⟩
 ·intro hx
  obtain⟨r,h5,rfl⟩:=List.mem_map.1 hx
  refine Classical.byContradiction fun hn=>?_
  rcases hv r.id with⟨h4,_⟩|⟨r',v,_,h4,_⟩
  ·exact absurd rfl (fk.1 h4 r h5)
  ·rw[dh.2 ((bo hk.keys).2 hn)] at h4
   cases h4
theorem Cw {h:T ag}{c:Nat}{rl wl:List Nat} (hf:ai h c) {p m dim:Nat}{vl vs:Value}{mt:Int}{lo st:List Int}{M:List Rc}{U:Nat->Prop} (q:jM h p m vl vs mt dim lo st M U) (hn:M.length<=1000) :
  ∃r s',aE (Cs bD) eg 43 [.pointer (some ⟨p,0,none⟩)] ⟨h,c,rl,wl⟩ r s'/\kc s'.h c r M.length ((M.map Rc.id).map (Value.int .i64))/\bA ⟨h,c,rl,wl⟩ s' U (fun _=>False):=by
 obtain⟨es,n,hm,⟨ids,h2⟩,h3⟩:=q.ex
 have hp:=q.ptr
 obtain⟨lp,lm⟩:=q.lt hf
 have hpU:=q.pU
 have hmU:=q.mU
 have hs:=jM.ids h2 q.rises h3
 have hlen:ids.length=M.length:=by
  have:=congrArg List.length hs
  rw[(dy ids).length_eq,List.length_map] at this
  exact this
 have hk:=h2.keyInts
 refine Fn.go (aU 43 rfl) N2 NC MC rfl rfl ?_
 refine cg ?_
 refine aq ?_
 refine ax.call rfl rfl (Am aU aO) ?_
 rintro v1 h1 c1 r1 w1 ⟨rfl,e1⟩
 cases e1
 cases ids with
 |nil =>
  obtain rfl:M=[]:=by cases M with|nil=>rfl|cons _ _=>simp at hlen
  refine ax.call rfl rfl (wH aO gL gL hk) ?_
  rintro v1 h1 c1 r1 w1 ⟨rfl,e1⟩
  cases e1
  refine aq ?_
  refine⟨.inr rfl,aG.one rfl ⟨.inl ⟨rfl,rfl,rfl⟩,?_⟩⟩
  exact bM
 |cons x0 xs0 =>
  refine ax.call rfl rfl (xx aO gL gL hk (by omega)) ?_
  rintro v1 h1 c1 r1 w1 ⟨rfl,e1⟩
  cases e1
  rw[hs,hlen]
  refine aq ?_
  refine⟨.inr rfl,aG.one rfl ⟨.inr ⟨c+1,_,_,rfl,Nat.le_refl _,by omega,ay.same⟩,?_⟩⟩
  exact bM
set_option maxHeartbeats 4000000 in
theorem Co {h:T ag}{c:Nat}{rl wl:List Nat} (hf:ai h c) {p m dim:Nat}{vl vs:Value}{mt:Int}{lo st:List Int}{M:List Rc}{U:Nat->Prop} (q:jM h p m vl vs mt dim lo st M U) (id:Int) (hid : -9223372036854775808<=id/\id<=9223372036854775807)
  {a:Option Addr}{cap:Nat}{zs:List Int} (hv:bj h (.slice a dim cap) dim 1 (zs.map (Value.int .i32))) (hx:zs.length=dim) (hb:gc zs) (hd:1<=dim) (hd':dim<=8) (bs:Nat->Prop) (hbs:∀b,au (.slice a dim cap)=some b->bs b) (hbm:¬bs m) :
  ∃r s',aE (Cs bD) eg 30 [.pointer (some ⟨p,0,none⟩),.int .i64 id,.slice a dim cap] ⟨h,c,rl,wl⟩ r s'/\jM s'.h p m vl vs mt dim lo st (cJ (Ga id zs) M) (fun b=>U b\/c<=b/\b<s'.c)/\bA ⟨h,c,rl,wl⟩ s' (fun b=>U b\/bs b) (fun b=>b=m):=by
 obtain⟨es,n,hm,⟨ids,h2⟩,h3⟩:=q.ex
 have hp:=q.ptr
 obtain⟨lp,lm⟩:=q.lt hf
 have hpU:=q.pU
 have hmU:=q.mU
 have hbk:=q.book
 obtain⟨⟨al,kl,at_,ks,ebk,_⟩,_⟩:=_root_.id hbk
 simp only[Value.agg.injEq,Array.mk.injEq,List.cons.injEq,and_true] at ebk
 obtain⟨rfl,rfl⟩:=ebk
 refine Fn.go (aU 30 rfl) M9 Ns Pp rfl rfl ?_
 refine cg ?_
 refine aq ?_
 refine bN.call rfl rfl (jR aU aO hv (by unfold vV;omega) (fun e=>by omega) bs (fun b o sp n' cap e=>hbs b (by rw[e];rfl))) ?_
 rintro v h1 c1 r1 w1 ⟨hown,hext⟩
 have hq:=hext.quiet (fun _ _ q=>q)
 have kp:=Kp.ext (W:=fun b=>b=m) (h:=h) (c:=c) bW hext (by omega) (fun _ _ q=>q.elim)
 have lr:=Lg.extR (R:=fun b=>U b\/bs b) (c:=c) az hext (fun b _ hb=>.inr hb)
 have lw:=Lg.extW (W:=fun b=>b=m) (c:=c) az hext (fun b _ hb=>hb.elim)
 have fr1:=hext.fresh
 have le1:=hext.c
 simp only at le1 fr1
 have hm1:ay h1 m (.map es n):=hext.hs hm lm (fun q=>q)
 have hp1:=hext.hs hp lp (fun q=>q)
 have hrm:∀b∈r1,b≠m:=fun b hb=>by
  rcases hext.rl b hb with u|u
  ·exact absurd u List.not_mem_nil
  ·exact fun e=>hbm (e▸u.2)
 refine⟨i7,?_⟩
 have hv1:bj h1 (.slice a dim cap) dim 1 (zs.map (Value.int .i32)):=bj.keepF hv hf (fun b hb=>hext.get hb (fun q=>q))
 have hbk1:=hbk.keep (U':=fun b=>U b/\b≠p/\b≠m) hf (fun _ q=>q) (fun b _ hb=>hext.get hb (fun q=>q))
 have hap:bt ⟨r1,w1,c,c1⟩ ⟨[p],[],c1,c1⟩:=bt.wr (fun y hy=>(hq y hy).elim) lp
 refine aq ?_
 refine bN.call rfl rfl (Bd aO hbk1 hd' hx hv1 hb (fun b=>(U b/\b≠m)\/bs b) (fun b u=>.inl ⟨u.1,u.2.2⟩) (fun b hb=>.inr (hbs b hb))) ?_
 rintro v2 h2' c2 r2 w2 ⟨⟨cb,rfl,hcb,hcc⟩,hext2⟩
 have hq2:=hext2.quiet (fun _ _ q=>q)
 have kp2:=Kp.ext (W:=fun b=>b=m) (h:=h) (c:=c) kp hext2 (by omega) (fun _ _ q=>q.elim)
 have lr2:=Lg.extR (R:=fun b=>U b\/bs b) (c:=c) az hext2 (fun b _ hb=>hb.imp (fun u=>u.1) (fun u=>u))
 have lw2:=Lg.extW (W:=fun b=>b=m) (c:=c) az hext2 (fun b _ hb=>hb.elim)
 have fr2:=hext2.fresh
 have le2:=hext2.c
 simp only at le2 fr2 hcc
 have lcb:=hcc.lt fr2
 have hm2:ay h2' m (.map es n):=hext2.hs hm1 (by omega) (fun q=>q)
 have hp2:=hext2.hs hp1 (by omega) (fun q=>q)
 have hown2:=hown.keep (h':=h2') (fun b hb=>hext2.get ((hown.blk hb).2.lt fr1) (fun q=>q))
 have hrm2:∀b∈r2,b≠m:=fun b hb=>by
  rcases hext2.rl b hb with u|u
  ·exact absurd u List.not_mem_nil
  ·exact fun e=>u.2.elim (fun u=>u.2 e) (fun u=>hbm (e▸u))
 refine⟨i7,?_⟩
 obtain⟨va,vk,rfl⟩:=hown2.val
 refine aq ?_
 refine bN.op (s1:=⟨h2'.set m (some (.map (eH .i64 id (.agg ⟨[.slice va dim vk,.slice (some ⟨cb,0,none⟩) dim dim]⟩) n es).1 (eH .i64 id (.agg ⟨[.slice va dim vk,.slice (some ⟨cb,0,none⟩) dim dim]⟩) n es).2)),c2,[m],[m]⟩) rfl (ef (pk rfl) rfl rfl rfl hm2 (hm2.lt fr2) h2.ks) ?_ ?_
 ·exact i7
 dsimp only[put]
 refine aq ?_
 refine⟨.inl rfl,aG.nil ⟨?_,?_⟩⟩
 ·refine⟨ay.other (fun e=>q.ne e) hp2,hbk1.keep fr1 (fun b hb=>⟨.inl hb.1,hb.2⟩) (fun b hb hc=>(am hb.2.2).trans (hext2.get hc (fun q=>q))),⟨_,_,ay.same,⟨_,h2.put (by unfold rq;rw[decide_eq_true hid.1,decide_eq_true hid.2];rfl) _⟩,fun x=>?_⟩,.inl hpU,.inl hmU,q.ne,q.rises.put _,fun r hr=>?_⟩
  ·rw[ek,l8 h2]
   by_cases hxi:id=x
   ·rw[if_pos hxi,if_pos hxi.symm]
    refine .inr ⟨_,_,rfl,rfl,_,_,rfl,?_,?_,fun b hb=>?_,fun b hb=>?_⟩
    ·show kc _ 0 _ (zs.map (Value.int .i32)).length _
     rw[List.length_map,hx]
     exact(hown2.low (Nat.zero_le _)).keep fun b hb=>am (by have:=(hown2.blk hb).1;omega)
    ·show kc _ 0 _ (zs.map (Value.int .i32)).length ((ja lo st (jS (zs.map (Value.int .i32)))).map (Value.int .u8))
     rw[List.length_map,hx,gj]
     exact .inr ⟨cb,none,dim,rfl,Nat.le_refl _,Nat.zero_le _,ay.other (by omega) hcc⟩
    ·obtain⟨u1,u2⟩:=hown2.blk hb
     have:=u2.lt fr2
     exact⟨.inr ⟨u1,this⟩,by omega,by omega⟩
    ·have e:cb=b:=by simpa [au] using hb
     subst e
     exact⟨.inr ⟨by omega,lcb⟩,by omega,by omega⟩
   ·rw[if_neg hxi,if_neg fun e=>hxi e.symm]
    exact(h3 x).keep hf (fun b hb=>.inl hb) fun b _ hc _ hm=>(am hm).trans (kp2 b hc hm)
  ·rcases dQ hr with rfl|hr
   ·exact⟨zs,rfl,hx,hb⟩
   ·exact q.ok r hr
 ·exact bM
end Go.Ab.Seat
end
