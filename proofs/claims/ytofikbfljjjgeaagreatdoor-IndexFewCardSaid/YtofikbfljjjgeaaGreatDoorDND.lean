import Derived.Test.YtofikbfljjjgeaaGreatDoorDNB
import Derived.Test.YtofikbfljjjgeaaGreatDoorDJ3
import Derived.Test.YtofikbfljjjgeaaGreatDoorDO3
import Derived.Test.YtofikbfljjjgeaaGreatDoorDI2
import Derived.Test.YtofikbfljjjgeaaGreatDoorDN9
import Derived.Carry
set_option linter.unusedVariables false
set_option linter.unusedSimpArgs false
section
namespace Go.Ab.Seat
open Go.Extern Go.Proofs
set_option maxRecDepth 4000
theorem NI (z:Int) (n:Int) (hn:0<n) (hn':n<=1000):∃k:Nat,1+(z.tmod n+n).tmod n=(k:Int)/\1<=k/\k<=n /\ -n<z.tmod n/\z.tmod n<n:=by
 have h1:=GW z n hn
 have h2:=Int.tmod_lt_of_pos (z.tmod n+n) hn
 have h3:=Int.tmod_nonneg (a:=z.tmod n+n) n (by omega)
 exact⟨(1+(z.tmod n+n).tmod n).toNat,by omega,by omega,by omega,by omega,by omega⟩
theorem Eg {mt:Int}{q:List Int}{M:List Rc} (h:cE M):((bX mt q M).map Ht.id).Nodup:=by
 unfold bX
 rw[List.map_map]
 exact o8 h
theorem Fz {mt:Int}{q:List Int}{M:List Rc} (h:cE M) (k:Nat):(aQ k (bX mt q M)).length=min k M.length:=by
 have hd:=Eg (mt:=mt) (q:=q) h
 have hl:(bX mt q M).length=M.length:=by unfold bX;rw[List.length_map]
 have c1:=iz (k:=k) hd (bX mt q M).length (Nat.le_refl _)
 have c2:=gz (k:=(bX mt q M).length) hd (m:=(bX mt q M).length) (Nat.le_refl _) (Nat.le_refl _)
 rw[List.take_length] at c1 c2
 rw[c1,List.length_take,c2,hl]
theorem uA {h h':T ag}{c:Nat} (g:qN h) (hc:2<=c) (k:∀b,b<c->h'.get b=h.get b):qN h':=⟨(k 0 (by omega)).trans g.g0,(k 1 (by omega)).trans g.g1⟩
theorem zZ {h:T ag}{bv dim:Nat}{zs:List Int} (hv:ay h bv (.cells (zs.map (Value.int .i32)))) (hz:zs.length=dim):bj h (.slice (some ⟨bv,0,none⟩) dim dim) dim 1 (zs.map (Value.int .i32)):=.inr ⟨bv,0,none,dim,_,rfl,hv.cel,aA _ _ (by rw[List.length_map];omega)⟩
def K7:List Nat:=[0,1,2,3,4,10,11,12,13,14,15,16,17,18,19,22,36,48,50,51,52,59,73,83,85,90]
set_option maxHeartbeats 16000000 in
theorem wb {h:T ag}{c:Nat} (hf:ai h c) (hg:qN h) (m k:Int) {v:Value}{zss:List (List Int)} (hv:pz h v zss) (hvn:zss.length<=9223372036854775807) {da:Option Addr}{dn dc:Nat}{dz:List Int} (hd:bj h (.slice da dn dc) dn 1 (dz.map (Value.int .u32))) (hdn:dz.length=dn) (hdw:∀x∈dz,0<=x/\x<4294967296) {qa:Option Addr}{qn qc:Nat}{zq:List Int} (hq:bj h (.slice qa qn qc) qn 1 (zq.map (Value.int .i32))) (hqn:zq.length=qn) :
  ∃r s',aE (Cs bD) eg 7 [.int .i64 m,v,.slice da dn dc,.slice qa qn qc,.int .i64 k] ⟨h,c,[],[]⟩ r s'/\r=.bool true:=by
 obtain⟨kk,hkk,hk1,hk2,hk3,hk4⟩:=NI k 5 (by omega) (by omega)
 have hm2:=vI m
 have lg1:=hg.g1.lt hf
 obtain⟨oa1,cap1,rfl,_⟩:=_root_.id hv
 refine Fn.go (aU 7 rfl) PI Qa Qh rfl rfl ?_
 refine cg ?_
 refine aq ?_
 refine ax.call rfl rfl (Ic aO hg) ?_
 rintro v1 h1 c1 r1 w1 ⟨rfl,e1⟩
 cases e1
 refine aq ?_
 refine Zu (GQ rfl rfl) ?_
 refine aq ?_
 rw[hkk]
 have hmm:1+wL m=1\/1+wL m=2:=by omega
 generalize hmt:1+wL m=mt at hmm
 refine ax.call rfl rfl (vC aU (n:=5) (dim:=2) aO hv (by omega) (by omega) hvn) ?_
 rintro lv h1 c1 r1 w1 ⟨hV,hext1⟩
 have fr1:=hext1.fresh
 have le1:=hext1.c
 have kp1:∀b,b<c->h1.get b=h.get b:=fun b hb=>hext1.get hb (fun q=>q)
 simp only at le1 fr1
 generalize hvs:fI zss 2 5=V at hV
 have hVlen:V.length<=5:=by rw[<- hvs];unfold fI;rw[List.length_map,List.length_take];omega
 have hVb:∀zs∈V,gc zs:=fun zs hz=>by
  rw[<- hvs] at hz
  unfold fI at hz
  obtain⟨y,_,rfl⟩:=List.mem_map.1 hz
  exact tu _ _
 obtain⟨ov,rfl⟩:=hV.val
 refine aq ?_
 have hq1:=bj.keepF hq hf kp1
 refine ax.call rfl rfl (yo aU aO hqn hq1 2 (by omega) (fun _=>True) (fun _ _=>trivial)) ?_
 rintro w2 h2 c2 r2 w2 ⟨⟨rfl,hq2⟩,hext2⟩
 have fr2:=hext2.fresh
 have le2:=hext2.c
 have kp2:∀b,b<c1->h2.get b=h1.get b:=fun b hb=>hext2.get hb (fun q=>q)
 simp only at le2 fr2
 have lq2:=hq2.lt fr2
 have hV2:=hV.keep fr1 fun b hb _ _=>kp2 b hb
 have kc2:∀b,b<c->h2.get b=h.get b:=fun b hb=>(kp2 b (by omega)).trans (kp1 b hb)
 have hBV:(aQ kk (bX mt (rT zq 2) (jU V V.length))).length=min kk V.length:=by rw[Fz (rV _ _),yz]
 generalize hHT:aQ kk (bX mt (rT zq 2) (jU V V.length))=HT at hBV
 have hBI:(HT.length:Int)=min (kk:Int) (V.length:Int):=by omega
 refine aq ?_
 refine Wx.loopF (fun k1 e s=>∃(g:Nat->Value) (i:Nat) (z:Int) (h':T ag) (c':Nat) (rl' wl':List Nat) (v13:Value),e=fr g [(0,.int .i64 mt),(1,.slice oa1 zss.length cap1),(2,.slice da dn dc),(3,.slice (some ⟨c1,0,none⟩) 2 2),(4,.int .i64 (kk:Int)),(12,.slice ov V.length V.length),(13,v13),(14,.int .i64 z)] K7/\z=(i:Int)+1/\s=⟨h',c',rl',wl'⟩/\c2<=c'/\ai h' c'/\(∀b,b<c2->h'.get b=h2.get b)/\(i=0\/∃o13 k13,v13=.slice o13 HT.length k13/\bj h' v13 HT.length 2 (aF HT))/\i<=4/\k1=4 - i) 4 K7 [(0,_),(1,_),(2,_),(3,_),(4,_),(12,_),(13,_),(14,.int .i64 1)] ⟨_,0,1,_,_,_,_,_,rfl,rfl,rfl,Nat.le_refl _,fr2,(fun _ _=>rfl),.inl rfl,by omega,rfl⟩ ?_
 rintro k1 e s ⟨g,i,z,h3,c3,rl3,wl3,v13,rfl,hz,rfl,hcc,hf3,hkp,h13,hid,rfl⟩
 (refine Wx.sw (by simp only[K7,i5,i6,dC,dB,Nat.reduceEqDiff,↓reduceIte];rfl) ?_)
 by_cases hi:4<=i
 ·obtain⟨o13,k13,rfl,row13⟩:∃o13 k13,v13=.slice o13 HT.length k13/\bj h3 v13 HT.length 2 (aF HT):=h13.resolve_left (by omega)
  refine aq ?_
  exact⟨.inr rfl,aG.one rfl rfl⟩
 have hk3:∀b,b<c->h3.get b=h.get b:=fun b hb=>(hkp b (by omega)).trans (kc2 b hb)
 refine aq ?_
 refine ax.call rfl rfl (vC aU (n:=2) (dim:=2) aO (hv.keep hf hk3) (by omega) (by omega) hvn) ?_
 rintro lv4 h4 c4 r4 w4 ⟨hV4,hext4⟩
 have fr4:=hext4.fresh
 have le4:=hext4.c
 have kp4:∀b,b<c3->h4.get b=h3.get b:=fun b hb=>hext4.get hb (fun q=>q)
 simp only at le4 fr4
 have hM4:=hV4.mrow (fun zs hz=>by
  unfold fI at hz
  obtain⟨y,_,rfl⟩:=List.mem_map.1 hz
  exact tu _ _)
 have hV4l:(fI zss 2 2).length<=2:=by unfold fI;rw[List.length_map,List.length_take];omega
 generalize fI zss 2 2=V4 at hM4 hV4l
 refine aq ?_
 refine ax.call rfl rfl (DR aO (kd:=z) (by omega) hmm hM4 (by omega) (by omega) (by omega) (fun _=>True) (fun _ _=>trivial)) ?_
 rintro v5 h5 c5 r5 w5 ⟨⟨p,rfl,hp1,hp2,hX⟩,hext5⟩
 have fr5:=hext5.fresh
 have le5:=hext5.c
 have kp5:∀b,b<c4->h5.get b=h4.get b:=fun b hb=>hext5.get hb (fun q=>q)
 simp only at le5 fr5 hX hp2
 have hF5:(Ix.new z 2 V4).Few V 0:=Ix.few_new hV4l
 generalize Ix.new z 2 V4=S5 at hX hF5
 have kp35:∀b,b<c3->h5.get b=h3.get b:=fun b hb=>(kp5 b (by omega)).trans (kp4 b hb)
 refine aq ?_
 refine Wx.cutO (fun e s=>∃(g:Nat->Value) (h':T ag) (c':Nat) (rl' wl':List Nat) (S:Ix) (U:Nat->Prop),e=fr g [(0,.int .i64 mt),(1,.slice oa1 zss.length cap1),(2,.slice da dn dc),(3,.slice (some ⟨c1,0,none⟩) 2 2),(4,.int .i64 (kk:Int)),(12,.slice ov V.length V.length),(13,v13),(14,.int .i64 z),(15,.pointer (some ⟨p,0,none⟩))] K7/\s=⟨h',c',rl',wl'⟩/\c3<=c'/\ai h' c'/\(∀b,b<c3->h'.get b=h3.get b)/\Hn h' p mt 2 S U/\S.Few V V.length) iY ?_ ?_
 ·refine Wx.loopF (fun k1 e s=>∃(g:Nat->Value) (j:Nat) (y:Int) (h':T ag) (c':Nat) (rl' wl':List Nat) (S:Ix) (U:Nat->Prop),e=fr g [(0,.int .i64 mt),(1,.slice oa1 zss.length cap1),(2,.slice da dn dc),(3,.slice (some ⟨c1,0,none⟩) 2 2),(4,.int .i64 (kk:Int)),(12,.slice ov V.length V.length),(13,v13),(14,.int .i64 z),(15,.pointer (some ⟨p,0,none⟩)),(50,.int .i64 (V.length:Int)),(51,.int .i64 y)] K7/\y=(j:Int)/\s=⟨h',c',rl',wl'⟩/\c3<=c'/\ai h' c'/\(∀b,b<c3->h'.get b=h3.get b)/\Hn h' p mt 2 S U/\S.Few V j/\(∀b,U b->c3<=b/\b<c')/\j<=V.length/\k1=V.length - j) V.length K7 [(0,_),(1,_),(2,_),(3,_),(4,_),(12,_),(13,_),(14,_),(15,_),(50,_),(51,.int .i64 0)] ⟨_,0,0,_,_,_,_,_,_,rfl,rfl,rfl,by omega,fr5,kp35,hX,hF5,(fun b hb=>by omega),by omega,rfl⟩ ?_
  rintro k1 e s ⟨g,j,y,h',c',rl',wl',S,U,rfl,hy,rfl,hcc',hf',hkp',hX',hF',hU',hjd,rfl⟩
  (refine Wx.sw (by simp only[K7,i5,i6,dC,dB,Nat.reduceEqDiff,↓reduceIte];rfl) ?_)
  by_cases hj:j<V.length
  rotate_left
  ·refine aq ?_
   obtain rfl:j=V.length:=by omega
   exact di.goF K7 [(0,_),(1,_),(2,_),(3,_),(4,_),(12,_),(13,_),(14,_),(15,_)] ⟨_,_,_,_,_,S,U,rfl,rfl,hcc',hf',hkp',hX',hF'⟩
  have hkc:∀b,b<c->h'.get b=h.get b:=fun b hb=>(hkp' b (by omega)).trans (hk3 b hb)
  obtain⟨g1,bV,vals,bi,rfl,g2,g3,g4,g5,g6⟩:=hV2.at (List.getElem?_eq_getElem hj)
  have lV:=g3.lt fr2
  have li:=g6.lt fr2
  replace g3:ay h' bV (.cells vals):=(hkp' bV (by omega)).trans ((hkp bV lV).trans g3)
  replace g6:ay h' bi _:=(hkp' bi (by omega)).trans ((hkp bi li).trans g6)
  have hd':=bj.keepF hd hf hkc
  have hSl:=hF'.len
  by_cases hj2:j<dn
  ·have hj3:j<dz.length:=by omega
   obtain⟨bd,od,sd,csd,rfl,hcd,hsd⟩:=Ac hd' (by omega)
   have lbd:=hcd.lt hf'
   have gd:cu csd (od+j*1)=some (.int .u32 dz[j]):=by
    have:=(aN _ _ _ _ hsd).2.2 j (by omega)
    rw[b8,Nat.mul_one,<- this,List.getElem?_map,List.getElem?_eq_getElem hj3];rfl
   refine aq ?_
   refine Zu (aj (k:=j) Nd rfl rfl hy hj2) ?_
   refine Zu (aB (dV rfl) rfl hcd (by omega) gd) ?_
   refine aq ?_
   refine Zu (aj (k:=j) lz rfl rfl hy hj) ?_
   refine Zu (aB (dV rfl) rfl g3.cel (by omega) g4) ?_
   refine aq ?_
   refine ax.call rfl rfl (vh aO hX' (uA hg (by omega) hkc) (fun b hb=>by have:=hU' b hb;omega) hmm (by omega) (by omega) (by omega) (y+1) (by omega) (zZ g6 g1) g1 (hVb _ (List.getElem_mem hj)) (fun b e=>by cases e;intro q;have:=hU' bi q;omega) (dw:=dz[j]) (hdw _ (List.getElem_mem _)) (fun _=>True) (fun _ _=>trivial) trivial (fun _ _=>trivial)) ?_
   rintro v6 h6 c6 r6 w6 ⟨⟨rfl,hX6⟩,hext6⟩
   have fr6:=hext6.fresh
   have le6:=hext6.c
   simp only at fr6 le6 hX6
   have kp6:∀b,b<c3->h6.get b=h3.get b:=fun b hb=>(hext6.get (by omega) (fun q=>by have:=hU' b q;omega)).trans (hkp' b hb)
   have hF6:=hF'.put (mt:=mt) (dw:=dz[j]) hj (by omega)
   rw[<- hy] at hF6
   refine aq ?_
   exact aC.goF (V.length - (j+1)) K7 [(0,_),(1,_),(2,_),(3,_),(4,_),(12,_),(13,_),(14,_),(15,_),(50,_),(51,.int .i64 (y+1))] (by omega) ⟨_,j+1,y+1,_,_,_,_,_,_,rfl,by omega,rfl,by omega,fr6,kp6,hX6,hF6,(fun b hb=>hb.elim (fun q=>by have:=hU' b q;omega) (fun q=>by omega)),by omega,rfl⟩
  ·have hw:cf .u32 y=y:=by rw[oX];omega
   refine aq ?_
   rw[hw]
   refine aq ?_
   refine Zu (aj (k:=j) lz rfl rfl hy hj) ?_
   refine Zu (aB (dV rfl) rfl g3.cel (by omega) g4) ?_
   refine aq ?_
   refine ax.call rfl rfl (vh aO hX' (uA hg (by omega) hkc) (fun b hb=>by have:=hU' b hb;omega) hmm (by omega) (by omega) (by omega) (y+1) (by omega) (zZ g6 g1) g1 (hVb _ (List.getElem_mem hj)) (fun b e=>by cases e;intro q;have:=hU' bi q;omega) (dw:=y) (by omega) (fun _=>True) (fun _ _=>trivial) trivial (fun _ _=>trivial)) ?_
   rintro v6 h6 c6 r6 w6 ⟨⟨rfl,hX6⟩,hext6⟩
   have fr6:=hext6.fresh
   have le6:=hext6.c
   simp only at fr6 le6 hX6
   have kp6:∀b,b<c3->h6.get b=h3.get b:=fun b hb=>(hext6.get (by omega) (fun q=>by have:=hU' b q;omega)).trans (hkp' b hb)
   have hF6:=hF'.put (mt:=mt) (dw:=y) hj (by omega)
   rw[<- hy] at hF6
   refine aq ?_
   exact aC.goF (V.length - (j+1)) K7 [(0,_),(1,_),(2,_),(3,_),(4,_),(12,_),(13,_),(14,_),(15,_),(50,_),(51,.int .i64 (y+1))] (by omega) ⟨_,j+1,y+1,_,_,_,_,_,_,rfl,by omega,rfl,by omega,fr6,kp6,hX6,hF6,(fun b hb=>hb.elim (fun q=>by have:=hU' b q;omega) (fun q=>by omega)),by omega,rfl⟩
 ·rintro e s ⟨g,h6,c6,rl6,wl6,S,U,rfl,rfl,hcc6,hf6,hkp6,hX6,hF6⟩
  (refine Wx.sw (by simp only[K7,i5,i6,dC,dB,Nat.reduceEqDiff,↓reduceIte];rfl) ?_)
  have hSl:=hF6.len
  have kc6:∀b,b<c2->h6.get b=h2.get b:=fun b hb=>(hkp6 b (by omega)).trans (hkp b hb)
  have hqr:=zZ ((kc6 c1 lq2).trans hq2) (oP _ _)
  refine aq ?_
  refine ax.call rfl rfl (wy aO hX6 hmm (by omega) (by omega) (by omega) hqr (oP _ _) (tu _ _) (by omega) (fun _=>True) (fun _ _=>trivial) (fun _ _=>trivial)) ?_
  rw[hF6.hits (by omega) (by omega),hHT]
  rintro w7 h7 c7 r7 w7' ⟨⟨v7,rfl,gA1,gA2⟩,hext7⟩
  have fr7:=hext7.fresh
  have le7:=hext7.c
  have kp7:∀b,b<c6->h7.get b=h6.get b:=fun b hb=>hext7.get hb (fun q=>q)
  simp only at le7 fr7
  obtain⟨oA,cA,rfl,_,rowA⟩:=gA1.row
  have hHl:HT.length<=1000:=by omega
  have kp27:∀b,b<c2->h7.get b=h2.get b:=fun b hb=>(kp7 b (by omega)).trans (kc6 b hb)
  by_cases hz1:z=1
  ·refine aq ?_
   refine ax.call rfl rfl (uo aU aO rowA rowA hHl) ?_
   rintro w9 h9 c9 r9 w9' ⟨rfl,e9,e9',hext9⟩
   simp only at e9 e9'
   subst e9 e9'
   refine aq ?_
   exact aC.goF (4 - (i+1)) K7 [(0,_),(1,_),(2,_),(3,_),(4,_),(12,_),(13,_),(14,.int .i64 (z+1))] (by omega) ⟨_,i+1,z+1,_,_,_,_,_,rfl,by omega,rfl,by omega,fr7,kp27,.inr ⟨_,_,rfl,rowA⟩,by omega,rfl⟩
  ·obtain⟨o13,k13,rfl,row13⟩:∃o13 k13,v13=.slice o13 HT.length k13/\bj h3 v13 HT.length 2 (aF HT):=h13.resolve_left (by omega)
   have row7:=bj.keepF row13 hf3 (fun b hb=>(kp7 b (by omega)).trans (hkp6 b hb))
   refine aq ?_
   refine ax.call rfl rfl (uo aU aO rowA row7 hHl) ?_
   rintro w9 h9 c9 r9 w9' ⟨rfl,e9,e9',hext9⟩
   simp only at e9 e9'
   subst e9 e9'
   refine aq ?_
   exact aC.goF (4 - (i+1)) K7 [(0,_),(1,_),(2,_),(3,_),(4,_),(12,_),(13,_),(14,.int .i64 (z+1))] (by omega) ⟨_,i+1,z+1,_,_,_,_,_,rfl,by omega,rfl,by omega,fr7,kp27,.inr ⟨_,_,rfl,row7⟩,by omega,rfl⟩
end Go.Ab.Seat
end
section
namespace Go.Ab.Seat
open Go.Extern Go.Proofs Go.RowKit
theorem BV:qN s0.h:=⟨by unfold ay;rw[pR,if_neg (by omega),if_pos rfl],by unfold ay;rw[pR,if_pos rfl]⟩
end Go.Ab.Seat
namespace Go.Proofs.YtofikbfljjjgeaaGreatDoor
open Go.ChangeShapes Go.WideShapes Go.RowKit Go.Ab Go.Ab.Seat
theorem Hd {H:Type}{enc:TypeId×Value->H}{P:Program}{w:World}{base:Nat}{sp:Nat->Bool}{held:Bool}{fuel:Nat}{t e n:Nat} (hu:P.underlying t=some (.array n e))
  {cs:List Value}{x:DataW H×List MemPlace} (h:DataW.trod enc P w base sp held fuel t cs=some x):cs.length=P.cellsOf t:=by
 cases fuel with
 |zero=>simp [DataW.trod] at h
 |succ k =>
  rw[DataW.trod_step] at h
  unfold DataW.trodStep at h
  simp only[hu] at h
  split at h
  ·assumption
  ·cases h
theorem MY:Tryz.prog.cellsOf 193=32:=by kernel_rfl
structure _root_.Go.Ab.Seat.LaidX (w:World):Prop where
 laid:Laid w
 x0:∃c t fr,w.heap[0]?=some (.cells c t fr)/\c.toList=pP
 x1:∃c t fr,w.heap[1]?=some (.cells c t fr)/\c.toList=[rt iZ]
theorem laidx_of {W:World} (h:laidMetH Tryz.prog laidVars W) (hs:W.ShapedOpen Tryz.prog):LaidX W:=by
 have h' : laidMet Tryz.prog [("math/bits.deBruijn32tab", Rows.laid_math_bits_deBruijn32tab)] W /\ handlesMet Tryz.prog [("errors.errorType", Rows.laid_errors_errorType)] W := h
 have hl:=laid_of h hs
 refine⟨hl,?_,?_⟩
 ·obtain⟨ps,⟨g,t,cs,fuel,p,q,hg,ht,hvar,hd,_,_⟩,_⟩:=h'.1
  obtain rfl:=Option.some.inj (K0.symm.trans hg)
  obtain rfl:=Option.some.inj (HN.symm.trans ht)
  have h1:=Hd L4 hd
  rw[MY] at h1
  obtain⟨c,t,fr,hH,_,hc⟩:=hl.var0
  refine⟨c,t,fr,hH,?_⟩
  have hv:=hvar
  unfold World.var? at hv
  rw[hg] at hv
  simp only[Option.bind_some] at hv
  rw[hH] at hv
  cases hv
  have ht:pP.length=32:=by rfl
  refine List.ext_getElem? fun i=>?_
  by_cases hi:i<32
  ·have:pP[i]?=some pP[i]:=List.getElem?_eq_getElem (by omega)
   rw[this,Array.getElem?_toList]
   exact hc i _ this
  ·rw[List.getElem?_eq_none (by omega),List.getElem?_eq_none (by omega)]
 ·obtain⟨name,u,ty,e1,e2,e3,e4,e5⟩:=h'.2 _ (List.mem_singleton.2 rfl)
  have en:name=[101,114,114,111,114]:=(Option.some.inj e1).symm
  subst en
  obtain rfl:=Option.some.inj (LM.symm.trans e2)
  have hm:ty∈(List.range 391).filter fun t=>Tryz.prog.rowNamed t [101,114,114,111,114]:=List.mem_filter.2 ⟨List.mem_range.2 (by rw[<- HD];exact e3),e4⟩
  rw[EA] at hm
  obtain rfl:=List.mem_singleton.1 hm
  have hv:=e5
  unfold World.var? at hv
  rw[PT] at hv
  simp only[Option.bind_some] at hv
  split at hv
  ·rename_i c t fr hH
   obtain rfl:=Option.some.inj hv
   refine⟨_,t,fr,hH,?_⟩
   have hh:typeHandle Tryz.prog iZ=hd iZ:=by unfold typeHandle;rw[Eh];rfl
   rw[hh]
   rfl
  ·cases hv
theorem _root_.Go.Ab.Seat.LaidX.low {w:World} (h:LaidX w):pd s0.h w.heap:=by
 have hr:=h.laid.hr
 have hle:(ι0 w).le (ιW w.heap):=by
  intro b L hb
  unfold ι0 at hb
  split at hb
  ·cases hb
   have:=h.laid.size
   unfold ιW
   exact if_pos (by omega)
  ·cases hb
 refine⟨?_,?_,?_⟩
 ·intro b o hb
  rw[pR] at hb
  split at hb
  ·cases hb;rfl
  ·split at hb
   ·cases hb;rfl
   ·cases hb
 ·intro b o hb
  obtain⟨L,h1,h2⟩:=hr.obj b o hb
  exact⟨L,hle _ _ h1,h2.mono hle⟩
 ·intro b o hb c t fr hH i v hv hp
  rw[pR] at hb
  split at hb
  ·rename_i h0
   subst h0
   cases hb
   obtain⟨c',t',fr',hH',hc'⟩:=h.x1
   rw[hH] at hH'
   cases hH'
   rw[<- Array.getElem?_toList,hc'] at hv
   cases i with
   |zero=>cases hv;cases hp
   |succ i=>simp at hv
  ·split at hb
   ·rename_i h0
    subst h0
    cases hb
    obtain⟨c',t',fr',hH',hc'⟩:=h.x0
    rw[hH] at hH'
    cases hH'
    rw[<- Array.getElem?_toList,hc'] at hv
    refine⟨pP,rfl,?_⟩
    have hm:=List.mem_of_getElem? hv
    unfold pP at hm
    obtain⟨n,_,rfl⟩:=List.mem_map.1 hm
    exact hv
   ·cases hb
theorem _root_.Go.Ab.Seat.LaidX.glob {w:World} (h:LaidX w):qN (hW w.heap s0.h):=⟨h.low.has BV.1,h.low.has BV.2⟩
theorem uV {f:Nat}{args args':List Value}{w:World} (hsm:bD f=none) (hex:ex f=none) (hl:LaidX w) (ha:bS (ιW w.heap) args args')
  (h:∃v s',aE CQ eg f args ⟨hW w.heap s0.h,w.heap.size,[],[]⟩ v s'/\v=.bool true) :
  Calls Tryz.prog f args'.toArray w fun e w'=>e=.returned (.bool true)/\Below w.heap.size w w':=by
 obtain⟨v,s',h1,rfl⟩:=h
 obtain⟨n,h2⟩:=aE.callB hsm hex h1
 refine(fq Ib n f h2 ha (hl.low.hr (by have:=hl.laid.size;omega)) (fun b h1 _=>?_) fun v' w' ι' hv hp=>?_).2
 ·have:w.heap.size<=b:=h1
  exact if_neg (by omega)
 ·cases hv
  exact⟨rfl,hp.os,hp.tape,hp.output,hp.size,fun k hk=>hp.frame k hk hl.low.owned⟩
#print axioms uV
end Go.Proofs.YtofikbfljjjgeaaGreatDoor
end
section
namespace Go.Proofs.YtofikbfljjjgeaaGreatDoor
open Go.ChangeShapes Go.WideShapes Go.RowKit Go.Ab Go.Ab.Seat
theorem ze {q:IntKind}{g:Nat->List Value}:∀ {n:Nat},(∀i,i<n->∃z:Int,g i=[.int q z]/\(Lit.int q z).wf=true)->∃zs:List Int,zs.length=n/\HP g n=zs.map (Value.int q)/\∀z∈zs,(Lit.int q z).wf=true
 |0,_=>⟨[],rfl,rfl,fun z hz=>by cases hz⟩
 |n+1,h=>by
  obtain⟨zs,h1,h2,h3⟩:=ze (n:=n) fun i hi=>h i (by omega)
  obtain⟨z,hz,hw⟩:=h n (by omega)
  refine⟨zs++[z],by simp [h1],by rw[sR,h2,hz];simp,fun y hy=>?_⟩
  rcases List.mem_append.1 hy with hy|hy
  ·exact h3 y hy
  ·obtain rfl:=List.mem_singleton.1 hy
   exact hw
theorem BQ {H:Type}{enc:TypeId×Value->H}{W:World}{fuel:Nat} (hl:LaidX W) {t e:Nat}{q:IntKind} (ht:Tryz.prog.underlying t=some (.slice e)) (he:Tryz.prog.underlying e=some (.int q)) (hc:Tryz.prog.cellsOf e=1) {v:Value}{x:DataW H×List MemPlace} (h:DataW.trod enc Tryz.prog W 0 (fun _=>true) true fuel t [v]=some x) :
  ∃oa n cap,∃zs:List Int,ij W.heap.size v=.slice oa n cap/\zs.length=n/\n<=maxLen/\bj (hW W.heap s0.h) (.slice oa n cap) n 1 (zs.map (Value.int q))/\∀z∈zs,(Lit.int q z).wf=true:=by
 obtain⟨oa,oa',n,cap,f,rfl,ha,hn,hm,hf,hr⟩:=uS hl.low ht hc (by decide) (fun m cs y hy x hx=>by
  obtain⟨z,rfl,_⟩:=DataW.trod_int he hy
  obtain rfl:=List.mem_singleton.1 hx
  rfl) h
 rw[ha] at hr ⊢
 obtain⟨zs,h1,h2,h3⟩:=ze (q:=q) (g:=fun i=>(f i).map (ij W.heap.size)) (n:=n) fun i hi=>by
  obtain⟨_,m,y,hy⟩:=hf i hi
  obtain⟨z,hz,_,hw⟩:=DataW.trod_int he hy
  exact⟨z,by rw[hz];rfl,hw⟩
 rw[h2] at hr
 exact⟨_,_,_,zs,rfl,h1,Nat.le_trans hn hm,hr,h3⟩
end Go.Proofs.YtofikbfljjjgeaaGreatDoor
end
section
namespace Go.Proofs.YtofikbfljjjgeaaGreatDoor
open Go.ChangeShapes Go.WideShapes Go.RowKit Go.Ab Go.Ab.Seat
theorem Qx:Tryz.prog.cellsOf 21=1:=by kernel_rfl
theorem QD:Tryz.prog.cellsOf 25=1:=by kernel_rfl
theorem c3:Tryz.prog.cellsOf 3=1:=by kernel_rfl
section
variable {H:Type}{enc:TypeId×Value->H}{W:World}{fuel:Nat}
theorem AJ (hl:LaidX W) {v:Value}{x:DataW H×List MemPlace} (h:DataW.trod enc Tryz.prog W 0 (fun _=>true) true fuel 25 [v]=some x) :
  wv v=true/\∃va nv kv,∃zs:List Int,ij W.heap.size v=.slice va nv kv/\zs.length=nv/\nv<=maxLen/\bj (hW W.heap s0.h) (.slice va nv kv) nv 1 (zs.map (Value.int .i32)):=by
 obtain⟨oa,n,cap,zs,ha,h1,h3,h2,_⟩:=BQ hl Tryz.underlying25 Tryz.underlying21 Qx h
 have hp:∃ob m c,v=.slice ob m c:=by
  rcases DataW.trod_slice Tryz.underlying25 h with⟨e,_⟩|⟨a,len,c,_,_,_,_,e,_⟩
  ·exact⟨none,0,0,by simpa using e⟩
  ·exact⟨some a,len,c,by simpa using e⟩
 obtain⟨ob,m,c,rfl⟩:=hp
 exact⟨rfl,oa,n,cap,zs,ha,h1,h3,h2⟩
end
end Go.Proofs.YtofikbfljjjgeaaGreatDoor
end
section
namespace Go.Proofs.YtofikbfljjjgeaaGreatDoor
open Go.ChangeShapes Go.WideShapes Go.RowKit Go.Ab Go.Ab.Seat
section
variable {H:Type}{enc:TypeId×Value->H}{W:World}{fuel:Nat}
theorem Qd:Tryz.prog.cellsOf 32=1:=by kernel_rfl
theorem _root_.Go.Ab.Seat.LaidX.pos (hl:LaidX W):0<W.heap.size:=by
 have:=hl.glob.g0.lt (xW _ _)
 exact this
theorem GU {dw:Int} (h:(Lit.int .u32 dw).wf=true):0<=dw/\dw<4294967296:=by
 have h1:IntKind.u32.min<=dw/\dw<=IntKind.u32.max:=by simpa [Lit.wf] using h
 have e1:IntKind.u32.min=0:=rfl
 have e2:IntKind.u32.max=4294967295:=rfl
 omega
end
end Go.Proofs.YtofikbfljjjgeaaGreatDoor
end
section
namespace Go.Proofs.YtofikbfljjjgeaaGreatDoor
open Go.ChangeShapes Go.WideShapes Go.RowKit Go.Ab Go.Ab.Seat
theorem qk {α:Type}{P:Nat->α->Prop}:∀ {n:Nat},(∀i,i<n->∃x,P i x)->∃l:List α,l.length=n/\∀(i:Nat) (x:α),l[i]?=some x->P i x
 |0,_=>⟨[],rfl,fun i x h=>by cases h⟩
 |n+1,h=>by
  obtain⟨l,h1,h2⟩:=qk (P:=P) (n:=n) fun i hi=>h i (by omega)
  obtain⟨x,hx⟩:=h n (by omega)
  refine⟨l++[x],by rw[List.length_append,h1];rfl,fun i y hy=>?_⟩
  rcases Nat.lt_or_ge i n with q|q
  ·rw[List.getElem?_append_left (by omega)] at hy
   exact h2 i y hy
  ·rw[List.getElem?_append_right (by omega),h1] at hy
   rcases Nat.eq_zero_or_pos (i - n) with e|e
   ·rw[e] at hy
    simp only[List.getElem?_cons_zero,Option.some.injEq] at hy
    subst hy
    rw[show i=n by omega];exact hx
   ·rw[List.getElem?_eq_none (by simp;omega)] at hy
    cases hy
section
variable {H:Type}{enc:TypeId×Value->H}{W:World}{fuel:Nat}
theorem He (hl:LaidX W) {v:Value}{x:DataW H×List MemPlace} (h:DataW.trod enc Tryz.prog W 0 (fun _=>true) true fuel 22 [v]=some x) :
  ∃zss,pz (hW W.heap s0.h) (ij W.heap.size v) zss/\zss.length<=9223372036854775807:=by
 obtain⟨oa,oa',n,cap,f,rfl,ha,hn,hm,hf,hr⟩:=uS hl.low Tryz.underlying22 QD (by decide) (fun m cs y hy x hx=>by
  have hlen:cs.length=1:=by
   rcases DataW.trod_slice Tryz.underlying25 hy with⟨e,_⟩|⟨a,len,c,_,_,_,_,e,_⟩
   ·rw[e];rfl
   ·rw[e];rfl
  obtain⟨w,rfl⟩:∃w,cs=[w]:=by
   match cs,hlen with
   | [w],_=>exact⟨w,rfl⟩
  obtain rfl:=List.mem_singleton.1 hx
  exact(AJ hl hy).1) h
 rw[ha] at hr ⊢
 have one:∀i,i<n->∃zs:List Int,∃b o sp cs a k,oa'=some ⟨b,o,sp⟩/\gX (hW W.heap s0.h) b cs/\cu cs (o+i*1)=some (.slice a zs.length k)/\bj (hW W.heap s0.h) (.slice a zs.length k) zs.length 1 (zs.map (Value.int .i32)):=by
  intro i hi
  obtain⟨hl1,m,y,hy⟩:=hf i hi
  obtain⟨w,hw⟩:∃w,f i=[w]:=by
   match hfi:f i,hl1 with
   | [w],_=>exact⟨w,rfl⟩
  rw[hw] at hy
  obtain⟨_,va,nv,kv,zs,e1,e2,_,e3⟩:=AJ hl hy
  subst e2
  obtain⟨b,o,sp,cs,e4,e5,e6⟩:=bp hr (j:=i*1) (by omega) (x:=.slice va zs.length kv) (by
   have hlen:∀i,i<n->((f i).map (ij W.heap.size)).length=1:=fun i hi=>by rw[List.length_map];exact(hf i hi).1
   have:=xc (g:=fun i=>(f i).map (ij W.heap.size)) (k:=1) (i:=i) (r:=0) (by decide) hlen hi
   rw[Nat.add_zero] at this
   rw[this,hw]
   show some (ij W.heap.size w)=_
   rw[e1])
  exact⟨zs,b,o,sp,cs,va,kv,e4,e5,e6,e3⟩
 obtain⟨zss,h1,h2⟩:=qk one
 subst h1
 refine⟨zss,⟨oa',cap,rfl,h2⟩,?_⟩
 have:maxLen<=9223372036854775807:=by decide
 omega
end
end Go.Proofs.YtofikbfljjjgeaaGreatDoor
end
section
namespace Go.Ab.Seat
open Go.ChangeShapes Go.RowKit
variable {H:Type}{enc:TypeId×Value->H}{P:Program}{w:World}{base:Nat}{spare:Nat->Bool}{held:Bool}
theorem trodAll_five {t t1 t2 t3 t4:TypeId}{args:Array Value}{ds:List (DataW H)}{ps:List MemPlace} (h:DataW.TrodAll enc P w base spare held [t,t1,t2,t3,t4] args.toList ds ps) :
  ∃v v1 v2 v3 v4 d d1 d2 d3 d4 p p1 p2 p3 p4,args=#[v,v1,v2,v3,v4]/\ds=[d,d1,d2,d3,d4]/\ps=p++p1++p2++p3++p4/\DataW.Trod enc P w base spare held t v d p/\DataW.Trod enc P w base spare held t1 v1 d1 p1/\DataW.Trod enc P w base spare held t2 v2 d2 p2/\DataW.Trod enc P w base spare held t3 v3 d3 p3/\DataW.Trod enc P w base spare held t4 v4 d4 p4:=by
 obtain⟨v,vs,d,ds',p,q,hargs,rfl,rfl,hd,g⟩:=trodAll_cons h
 obtain⟨v1,vs1,d1,ds1,p1,q1,rfl,rfl,rfl,hd1,g1⟩:=trodAll_cons g
 obtain⟨v2,vs2,d2,ds2,p2,q2,rfl,rfl,rfl,hd2,g2⟩:=trodAll_cons g1
 obtain⟨v3,vs3,d3,ds3,p3,q3,rfl,rfl,rfl,hd3,g3⟩:=trodAll_cons g2
 obtain⟨v4,vs4,d4,ds4,p4,q4,rfl,rfl,rfl,hd4,g4⟩:=trodAll_cons g3
 obtain⟨rfl,rfl,rfl⟩:=trodAll_nil g4
 exact⟨v,v1,v2,v3,v4,d,d1,d2,d3,d4,p,p1,p2,p3,p4,by cases args;simp_all,rfl,by simp,hd,hd1,hd2,hd3,hd4⟩
end Go.Ab.Seat
end
section
namespace Go.Proofs.YtofikbfljjjgeaaGreatDoor
open Go.ChangeShapes Go.WideShapes Go.RowKit Go.Ab Go.Ab.Seat
theorem indexFew_walk {H:Type}{enc:TypeId×Value->H}{W:World} (hl:LaidX W) {m k:Int}{v u q:Value}{m0 m1 m2:Nat}{x0 x1 x2:DataW H×List MemPlace} (h0:DataW.trod enc Tryz.prog W 0 (fun _=>true) true m0 22 [v]=some x0) (hu:DataW.trod enc Tryz.prog W 0 (fun _=>true) true m1 23 [u]=some x1) (hq:DataW.trod enc Tryz.prog W 0 (fun _=>true) true m2 25 [q]=some x2) :
  Calls Tryz.prog 7 #[.int .i64 m,v,u,q,.int .i64 k] W fun e w'=>e=.returned (.bool true)/\Below W.heap.size W w':=by
 obtain⟨zss,a1,a2⟩:=He hl h0
 obtain⟨da,dn,dc,dz,d1,d2,_,d3,d4⟩:=BQ hl Tryz.underlying23 Tryz.underlying32 Qd hu
 obtain⟨_,va,nv,kv,zs,e1,e2,_,e3⟩:=AJ hl hq
 have r0:=q9 W.heap v
 have r1:=q9 W.heap u
 have r2:=q9 W.heap q
 rw[d1] at r1
 rw[e1] at r2
 refine uV (args:=[.int .i64 m,ij W.heap.size v,.slice da dn dc,.slice va nv kv,.int .i64 k]) (args':=[.int .i64 m,v,u,q,.int .i64 k]) (aU 7 rfl) (PI (sm:=bD)) hl (bS.cons (.int _ _) (bS.cons r0 (bS.cons r1 (bS.cons r2 (bS.cons (.int _ _) (bS.nil _)))))) ?_
 exact wb (xW _ _) hl.glob m k a1 a2 d3 d2 (fun x hx=>GU (d4 x hx)) e3 e2
#print axioms indexFew_walk
end Go.Proofs.YtofikbfljjjgeaaGreatDoor
end
