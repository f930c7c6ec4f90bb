import Derived.Test.YtofikbfljjjgeaaGreatDoorDY8
set_option linter.unusedVariables false
set_option linter.unusedSimpArgs false
namespace Go.Ab.Seat
open Go.Extern Go.Proofs
set_option maxRecDepth 4000
def lT (mt:Int) (qs lo st:List Int) (r:Rc):Ht:=⟨r.id,cX mt qs (n4 lo st (ja lo st (jS r.xs)))⟩
def nZ (mt:Int) (qs lo st:List Int) (kk:Nat) (M:List Rc):List Ht:=aQ (2*min kk M.length+4) (M.map (lT mt qs lo st))
noncomputable def gY (mt:Int) (qs:List Int) (M:List Rc) (x:Ht):Ht:=⟨x.id,cX mt qs (jS ((aK x.id M).elim [] Rc.xs))⟩
noncomputable def sj (mt:Int) (qs lo st:List Int) (kk:Nat) (M:List Rc):List Ht:=aQ kk ((nZ mt qs lo st kk M).map (gY mt qs M))
theorem vn:∀(l:List Ht) (i:Nat) (y:Ht),i<l.length->(l[i]?.elim 0 Ht.id)=y.id->aF (l.set i y)=(aF l).set (i*2+1) (.int .i64 y.sc)
 | [],i,_,h,_=>by simp at h
 |x::l,0,y,_,h=>by
  have h:x.id=y.id:=h
  show (Value.int .i64 y.id)::_::_=_
  rw[<- h];rfl
 |x::l,i+1,y,h,h2=>by
  have e:=vn l i y (by simpa using h) (by simpa using h2)
  show Value.int .i64 x.id::.int .i64 x.sc::aF (l.set i y)=_
  rw[e,show (i+1)*2+1=i*2+1+2 by omega];rfl
theorem KZ {l:List Ht}{i:Nat}{cs:List Value}{y:Ht} (hs:aP 0 (l.length*2) cs=some (aF l)) (hi:i<l.length) (hy:(l[i]?.elim 0 Ht.id)=y.id):∃cs',bw [.int .i64 y.sc] cs (0+i*2+1)=some cs'/\aP 0 ((l.set i y).length*2) cs'=some (aF (l.set i y)):=by
 obtain⟨h1,h2,_⟩:=aN _ _ _ _ hs
 rw[fj 0 _ cs h2] at hs
 have hs:=Option.some.inj hs
 rw[List.drop_zero] at hs
 refine⟨_,cz _ _ _ (by show _+1<=_;omega) (all_cons rfl a7),?_⟩
 rw[show cs.take (0+i*2+1)++[.int .i64 y.sc]++cs.drop (0+i*2+1+[Value.int .i64 y.sc].length)=cs.set (i*2+1) (.int .i64 y.sc) by
  rw[List.set_eq_take_append_cons_drop,if_pos (by omega),Nat.zero_add,List.append_assoc];rfl]
 rw[List.length_set,fj _ _ _ (by rw[List.length_set];omega),List.drop_zero,List.take_set,hs,vn l i y hi hy]
theorem NQ {l:List Ht}{i:Nat}{cs:List Value}{x:Ht} (hs:aP 0 (l.length*2) cs=some (aF l)) (hx:l[i]?=some x):cu cs (0+i*2+0)=some (.int .i64 x.id):=by
 have h:=gZ hs hx
 obtain⟨h1,h2,_⟩:=aN _ _ _ _ h
 rw[fj _ _ cs h2] at h
 have h:=congrArg (fun l=>l[0]?) (Option.some.inj h)
 rw[b8]
 simpa [List.getElem?_take,List.getElem?_drop] using h
def pL (f:Ht->Ht) (l:List Ht) (i:Nat):List Ht:=(l.take i).map f++l.drop i
theorem FJ (f:Ht->Ht) (l:List Ht) (i:Nat):(pL f l i).length=l.length:=by
 unfold pL;rw[List.length_append,List.length_map,List.length_take,List.length_drop];omega
theorem Cd {f:Ht->Ht}{l:List Ht}{i:Nat} (hi:i<l.length):(pL f l i)[i]?=some l[i]:=by
 unfold pL
 rw[List.getElem?_append_right (by rw[List.length_map,List.length_take];omega),List.length_map,List.length_take,List.getElem?_drop,show i+(i - min i l.length)=i by omega,List.getElem?_eq_getElem hi]
theorem Do {f:Ht->Ht}{l:List Ht}{i:Nat} (hi:i<l.length):(pL f l i).set i (f l[i])=pL f l (i+1):=by
 unfold pL
 have hl:((l.take i).map f).length=i:=by rw[List.length_map,List.length_take];omega
 rw[List.set_append,if_neg (by omega),hl,Nat.sub_self,List.drop_eq_getElem_cons hi,List.take_succ_eq_append_getElem hi,List.map_append,List.append_assoc]
 rfl
theorem EM (f:Ht->Ht) (l:List Ht):pL f l l.length=l.map f:=by
 unfold pL;rw[List.take_length,List.drop_length,List.append_nil]
theorem uL (lo st zs:List Int):(ja lo st zs).length=zs.length:=by unfold ja;rw[List.length_map,List.length_range]
theorem uG (lo st co:List Int):(n4 lo st co).length=co.length:=by unfold n4;rw[List.length_map,List.length_range]
theorem Cu (lo st zs:List Int) (i:Nat):0<=(ja lo st zs).getD i 0/\(ja lo st zs).getD i 0<=255:=by
 unfold ja
 rw[wP]
 split
 ·exact uT lo st zs i
 ·omega
theorem Dc (lo st co:List Int):gc (n4 lo st co):=fun i=>by
 unfold n4
 rw[wP]
 split
 ·unfold np;omega
 ·omega
theorem E9 {k:Nat}{p:List Ht}{x y:Ht} (h:y∈eu k p x):y∈p\/y=x:=by
 unfold eu at h
 split at h
 ·exact .inl h
 ·split at h
  ·exact .inl h
  ·have h:=List.mem_of_mem_take h
   rcases List.mem_append.1 h with h|h
   ·exact .inl (List.mem_of_mem_take h)
   ·rcases List.mem_cons.1 h with h|h
    ·exact .inr h
    ·exact .inl (List.mem_of_mem_drop h)
theorem sS {k:Nat}:∀ {l:List Ht}{y:Ht} (m:Nat),m<=l.length->y∈aQ k (l.take m)->y∈l.take m
 |l,y,0,_,h=>by simp [aQ] at h
 |l,y,m+1,hm,h=>by
  rw[eL (by omega)] at h
  rw[List.take_succ_eq_append_getElem (by omega)]
  rcases E9 h with h|h
  ·exact List.mem_append_left _ (sS m (by omega) h)
  ·exact List.mem_append_right _ (List.mem_singleton.2 h)
theorem CC {mt:Int}{qs lo st:List Int}{kk:Nat}{M:List Rc}{x:Ht} (h:x∈nZ mt qs lo st kk M):∃r∈M,x.id=r.id:=by
 unfold nZ at h
 rw[<- List.take_length (l:=M.map _)] at h
 have h:=sS _ (Nat.le_refl _) h
 rw[List.take_length] at h
 obtain⟨r,h1,rfl⟩:=List.mem_map.1 h
 exact⟨r,h1,rfl⟩
theorem C9 {mt:Int}{qs lo st:List Int}{kk:Nat}{M:List Rc}:(nZ mt qs lo st kk M).length<=M.length:=by
 have:=iP (2*min kk M.length+4) (M.map (lT mt qs lo st))
 rwa [List.length_map] at this
def Bp:List Nat:=[0,1,2,6,7,9,10,16,18,19,20,21,57,58,59]
set_option maxHeartbeats 16000000 in
theorem wN {h:T ag}{c:Nat}{rl wl:List Nat} (hf:ai h c) {p m dim:Nat}{vl vs:Value}{mt:Int}{lo st:List Int}{M:List Rc}{U:Nat->Prop} (q:jM h p m vl vs mt dim lo st M U) (hmt:mt=1\/mt=2) {qa:Option Addr}{qc:Nat}{qs:List Int} (hq:bj h (.slice qa dim qc) dim 1 (qs.map (Value.int .i32))) (hqn:qs.length=dim) (hqb:gc qs) (hd:dim<=8) (k:Int) {kk:Nat} (hk:max k 0=(kk:Int)) (hkk:kk<=400) (hn:M.length<=400) (R:Nat->Prop) (hUR:∀b,U b->R b) (hqR:∀b,au (.slice qa dim qc)=some b->R b) :
  ∃r s',aE (Cs bD) eg 31 [.pointer (some ⟨p,0,none⟩),.slice qa dim qc,.int .i64 k] ⟨h,c,rl,wl⟩ r s'/\(eG s'.h r (sj mt qs lo st kk M).length (aF (sj mt qs lo st kk M))/\∀b,au r=some b->c<=b)/\bA ⟨h,c,rl,wl⟩ s' R (fun _=>False):=by
 have hp:=q.ptr
 obtain⟨lp,lm⟩:=q.lt hf
 have hpU:=hUR p q.pU
 have hmU:=hUR m q.mU
 have hbg:dv=1048576:=rfl
 refine Fn.go (aU 31 rfl) OS Pe OF rfl rfl ?_
 refine cg ?_
 by_cases hk0:k<=0
 ·obtain rfl:kk=0:=by omega
  have e0:sj mt qs lo st 0 M=[]:=by
   have:=qv 0 ((nZ mt qs lo st 0 M).map (gY mt qs M)) _ (Nat.le_refl _)
   rw[List.take_length] at this
   exact List.length_eq_zero_iff.1 (by unfold sj;omega)
  rw[e0]
  refine aq ?_
  refine⟨.inr rfl,aG.one rfl ⟨⟨.inl ⟨rfl,rfl,rfl⟩,fun b hb=>by cases hb⟩,?_⟩⟩
  exact bM
 refine aq ?_
 refine ax.call rfl rfl (Cw aO q (by omega)) ?_
 rintro v1 h1 c1 r1 w1 ⟨hids,hext⟩
 have kp:=Kp.ext (W:=fun _=>False) (h:=h) (c:=c) bW hext (by omega) (fun _ _ q=>q)
 have lr:=Lg.extR (R:=R) (c:=c) az hext (fun b hb u=>hUR b u)
 have lw:=Lg.extW (W:=fun _=>False) (c:=c) az hext (fun _ _ q=>q)
 have fr1:=hext.fresh
 have le1:=hext.c
 simp only at le1 fr1
 obtain⟨oi,ic,rfl⟩:=hids.val
 have hrow1:=hids.row (by rw[List.length_map,List.length_map])
 have hlen:∀i,i<=M.length->((M.take i).map (lT mt qs lo st)).length=i:=fun i hi=>by rw[List.length_map,List.length_take];omega
 refine aq ?_
 refine Wx.cutO (fun e s=>∃(g:Nat->Value) (lv:Value) (h':T ag) (c':Nat) (rl' wl':List Nat),e=fr g [(0,.pointer (some ⟨p,0,none⟩)),(1,.slice qa dim qc),(2,.int .i64 k),(7,lv)] Bp/\s=⟨h',c',rl',wl'⟩/\c1<=c'/\ai h' c'/\Kp h h' c (fun _=>False)/\HL h' c1 lv (M.map (lT mt qs lo st))/\Lg c R rl'/\Lg c (fun _=>False) wl') iY ?_ ?_
 ·refine Wx.loopF (fun k1 e s=>∃(g:Nat->Value) (i:Nat) (z:Int) (lv:Value) (h':T ag) (c':Nat) (rl' wl':List Nat),e=fr g [(0,.pointer (some ⟨p,0,none⟩)),(1,.slice qa dim qc),(2,.int .i64 k),(7,lv),(18,.slice oi M.length ic),(19,.int .i64 (M.length:Int)),(20,.int .i64 z)] Bp/\z=i/\s=⟨h',c',rl',wl'⟩/\c1<=c'/\ai h' c'/\Kp h1 h' c1 (fun _=>False)/\HL h' c1 lv ((M.take i).map (lT mt qs lo st))/\Lg c R rl'/\Lg c (fun _=>False) wl'/\i<=M.length/\k1=M.length - i) M.length Bp [(0,_),(1,_),(2,_),(7,.slice none 0 0),(18,_),(19,_),(20,.int .i64 0)] ⟨_,0,0,_,_,_,_,_,rfl,rfl,rfl,Nat.le_refl _,fr1,Kp.refl,.inl ⟨rfl,rfl⟩,az,az,by omega,rfl⟩ ?_
  rintro k1 e s ⟨g,i,z,lv,h',c',rl',wl',rfl,hz,rfl,hcc,hf',hkp,hHL,hlr,hlw,hid,rfl⟩
  (refine Wx.sw (by simp only[Bp,i5,i6,dC,dB,Nat.reduceEqDiff,↓reduceIte];rfl) ?_)
  by_cases hi:i<M.length
  rotate_left
  ·refine aq ?_
   obtain rfl:i=M.length:=by omega
   rw[List.take_length] at hHL
   exact di.goF Bp [(0,_),(1,_),(2,_),(7,_)] ⟨_,_,_,_,_,_,rfl,rfl,hcc,hf',(fun b hb _=>(hkp b (by omega) (fun q=>q)).trans (kp b hb (fun q=>q))),hHL,hlr,hlw⟩
  have hrow':=bj.keepF hrow1 fr1 (fun b hb=>hkp b hb (fun q=>q))
  have hgid:((M.map Rc.id).map (Value.int .i64))[i]?=some (.int .i64 M[i].id):=by
   rw[List.getElem?_map,List.getElem?_map,List.getElem?_eq_getElem hi];rfl
  obtain⟨b1,o1,sp1,cs1,rfl,hc1,hn1⟩:=bp hrow' (j:=i*1) (by omega) (by rw[Nat.mul_one];exact hgid)
  have hb1:c<=b1:=by
   rcases hids with⟨e,_⟩|⟨b',sp',cap',e,_,g,_⟩
   ·simp only[Value.slice.injEq] at e;cases e.1
   ·simp only[Value.slice.injEq,Option.some.injEq,Addr.mk.injEq] at e;rw[e.1.1];exact g
  have l1:=hc1.lt hf'
  have kph:Kp h h' c (fun _=>False):=fun b hb _=>(hkp b (by omega) (fun q=>q)).trans (kp b hb (fun q=>q))
  have hq0:=bj.keepF hq hf (fun b hb=>kph b hb (fun q=>q))
  have q':=q.keep hf (fun b _ hb=>kph b hb (fun q=>q))
  have hp':=q'.ptr
  obtain⟨es,n,hm',⟨ids,h2⟩,h3⟩:=q'.ex
  obtain⟨lp',lm'⟩:=q'.lt hf'
  obtain⟨zs,hzs,hzl,hzb⟩:=q.ok M[i] (List.getElem_mem hi)
  have e5:jS M[i].xs=zs:=by rw[hzs];exact gj zs
  have e6:M[i].xs.length=dim:=by rw[hzs];show (zs.map _).length=_;rw[List.length_map,hzl]
  obtain⟨v,cv,hv1,hv2,hv3⟩:∃v cv,dU M[i].id es=some (.agg ⟨[v,cv]⟩)/\kc h' 0 cv dim ((ja lo st zs).map (Value.int .u8))/\∀b,au cv=some b->U b:=by
   rcases h3 M[i].id with⟨e1,_⟩|⟨r,v,e1,e2,w,cw,rfl,e3,e4,e7,e8⟩
   ·exact absurd rfl (fk.1 e1 M[i] (List.getElem_mem hi))
   ·rw[dH q.rises (List.getElem_mem hi) rfl] at e1
    cases e1
    rw[e5,e6] at e4
    exact⟨w,cw,e2,e4,fun b hb=>(e8 b hb).1⟩
  obtain⟨va,vk,rfl⟩:=hv2.val
  obtain⟨vi,hv4⟩:=iw hv1
  have hvr:=hv2.row (by rw[List.length_map,uL];exact hzl)
  refine aq ?_
  refine Zu (aj (k:=i) ct rfl rfl hz (by omega)) ?_
  refine Zu (aB (dV rfl) rfl hc1 (by omega) hn1) ?_
  refine aq ?_
  refine Zd (bL (pk rfl) (tG rfl) rfl rfl hm' lm' h2.ks (by rw[hv4])) ?_
  refine aq ?_
  have hcl:(ja lo st zs).length=dim:=by rw[uL,hzl]
  have hbk:=q'.book
  refine bN.call rfl rfl (A8 aO hbk hd hcl hvr (Cu lo st zs) R (fun b hb=>hUR b hb.1) (fun b hb=>hUR b (hv3 b hb))) ?_
  rintro v2 h2' c2 r2 w2 ⟨⟨bb,rfl,hbb,hbc⟩,hext2⟩
  have hqt2:=hext2.quiet (fun _ _ q=>q)
  have kp2:=Kp.ext (W:=fun _=>False) (h:=h1) (c:=c1) hkp hext2 (by omega) (fun _ _ q=>q)
  have lr2:=Lg.extR (R:=R) (c:=c) az hext2 (fun _ _ q=>q)
  have lw2:=Lg.extW (W:=fun _=>False) (c:=c) az hext2 (fun _ _ q=>q)
  have fr2:=hext2.fresh
  have le2:=hext2.c
  simp only at le2 fr2 hbc
  have lbb:=hbc.lt fr2
  refine⟨i7,?_⟩
  have hq2:=bj.keepF hq0 hf' (fun b hb=>hext2.get hb (fun q=>q))
  have hHL2:HL h2' c1 lv ((M.take i).map (lT mt qs lo st)):=hHL.imp (fun q=>q) (fun⟨b,f1,f2,f3,f4⟩=>⟨b,f1,f2,f3,hext2.hs f4 (f4.lt hf') (fun q=>q)⟩)
  refine aq ?_
  refine bN.call rfl rfl (gh aU aO hmt hqn (by rw[uG,hcl]) hq2 (.inr ⟨bb,0,_,_,_,rfl,hbc.cel,aA _ _ (by rw[List.length_map,uG,hcl,Nat.mul_one])⟩) hqb (Dc _ _ _) (by omega) (fun b=>R b\/b=bb) (fun b hb=>hb.elim (fun q=>.inl (hqR b q)) (fun q=>.inr (by simpa [au] using q.symm)))) ?_
  rintro v h3' c3 r3 w3 ⟨⟨rfl,e1,e2⟩,hext3⟩
  simp only at e1 e2
  subst e1 e2
  have hqt:=hext3.quiet (fun _ _ q=>q)
  have lr3:=Lg.extR (R:=R) (c:=c) az hext3 (fun b hb q=>q.elim (fun q=>q) (fun q=>by omega))
  have lw3:=Lg.extW (W:=fun _=>False) (c:=c) az hext3 (fun _ _ q=>q)
  refine⟨i7,?_⟩
  have hhit:(M.take (i+1)).map (lT mt qs lo st)=(M.take i).map (lT mt qs lo st)++[⟨M[i].id,cX mt qs (n4 lo st (ja lo st zs))⟩]:=by
   rw[List.take_succ_eq_append_getElem hi,List.map_append]
   show _++[lT mt qs lo st M[i]]=_
   unfold lT
   rw[e5]
  have hfl:aF ((M.take (i+1)).map (lT mt qs lo st))=aF ((M.take i).map (lT mt qs lo st))++[.int .i64 M[i].id,.int .i64 (cX mt qs (n4 lo st (ja lo st zs)))]:=by rw[hhit,fg];rfl
  have hl0:=hlen i (by omega)
  have hl1:=hlen (i+1) (by omega)
  rcases hHL2 with⟨rfl,hnil⟩|⟨bl,rfl,hne,hbl,hbc2⟩
  ·refine aq ?_
   refine Zd (cy iB lR rfl rfl (k:=0) ay.same.cel (by omega) (aA _ _ rfl) (by omega) aO) ?_
   refine aq ?_
   refine aC.goF (M.length - (i+1)) Bp [(0,_),(1,_),(2,_),(7,_),(18,_),(19,_),(20,.int .i64 (z+1))] (by omega) ⟨_,i+1,z+1,_,_,_,_,_,rfl,by omega,rfl,by omega,aO,bW,?_,az,az,by omega,rfl⟩
   have hi0:i=0:=by rw[hnil] at hl0;simpa using hl0.symm
   refine .inr ⟨c3+1,?_,?_,by omega,?_⟩
   ·rw[hl1,hi0]
   ·intro e;rw[e] at hl1;simp at hl1
   ·rw[hfl,hnil];exact ay.same
  ·have l3:=hbc2.lt fr2
   refine aq ?_
   refine Zd (dg iB lR rfl rfl (k:=0) ay.same.cel (by omega) (aA _ _ rfl) (by omega) (by omega) (hbc2.other (by omega)) (by omega) (aA _ _ (cN _).symm) (all_cons rfl (all_cons rfl a7)) aO) ?_
   refine aq ?_
   refine aC.goF (M.length - (i+1)) Bp [(0,_),(1,_),(2,_),(7,_),(18,_),(19,_),(20,.int .i64 (z+1))] (by omega) ⟨_,i+1,z+1,_,_,_,_,_,rfl,by omega,rfl,by omega,aO,bW,?_,az,az,by omega,rfl⟩
   refine .inr ⟨c3+1,?_,?_,by omega,?_⟩
   ·rw[hl1,hl0]
   ·intro e;rw[e] at hl1;simp at hl1
   ·rw[hfl];exact ay.same
 ·rintro e s ⟨g,lv,h',c',rl',wl',rfl,rfl,hcc,hf',hkp,hHL,hlr,hlw⟩
  (refine Wx.sw (by simp only[Bp,i5,i6,dC,dB,Nat.reduceEqDiff,↓reduceIte];rfl) ?_)
  obtain⟨oa,rfl,hrow,hge⟩:=hHL.val
  have hl2:(M.map (lT mt qs lo st)).length=M.length:=List.length_map ..
  refine aq ?_
  refine ax.call rfl rfl (ph aU rfl aO hrow (k:=2*min k ((M.map (lT mt qs lo st)).length:Int)+4) (kk:=2*min kk M.length+4) (by omega) (by omega) (by omega) (fun b=>c1<=b) hge) ?_
  rintro v2 h2 c2 r2 w2 ⟨⟨g1,g2⟩,hext2⟩
  have kp2:=Kp.ext (W:=fun _=>False) (h:=h) (c:=c) bW hext2 (by omega) (fun _ _ q=>q)
  have lr2:=Lg.extR (R:=R) (c:=c) az hext2 (fun b hb u=>by omega)
  have lw2:=Lg.extW (W:=fun _=>False) (c:=c) az hext2 (fun _ _ q=>q)
  have fr2:=hext2.fresh
  have le2:=hext2.c
  simp only at le2 fr2 g1
  have hcl:=C9 (mt:=mt) (qs:=qs) (lo:=lo) (st:=st) (kk:=kk) (M:=M)
  have hcm:=@CC mt qs lo st kk M
  have hH:sj mt qs lo st kk M=aQ kk ((nZ mt qs lo st kk M).map (gY mt qs M)):=rfl
  change eG h2 v2 (nZ mt qs lo st kk M).length (aF (nZ mt qs lo st kk M)) at g1
  generalize hcd:nZ mt qs lo st kk M=cd at g1 hcl hcm hH
  have g2':∀b,au v2=some b->c'<=b:=g2
  obtain⟨ov,cv,rfl,hgv⟩:∃ov cv,v2=.slice ov cd.length cv/\((cd=[]/\ov=none/\cv=0)\/∃b cs,ov=some ⟨b,0,some 2⟩/\cd.length<=cv/\c'<=b/\ay h2 b (.cells cs)/\aP 0 (cd.length*2) cs=some (aF cd)):=by
   rcases g1 with⟨rfl,h5,h6⟩|⟨b,cap,cs,rfl,h5,h6,h7,h8⟩
   ·exact⟨_,_,by rw[h5],.inl ⟨List.length_eq_zero_iff.1 h5,rfl,rfl⟩⟩
   ·exact⟨_,_,rfl,.inr ⟨b,cs,rfl,h6,g2' b rfl,h7,h8⟩⟩
  refine aq ?_
  refine Wx.cutO (fun e s=>∃(g:Nat->Value) (h':T ag) (rl' wl':List Nat),e=fr g [(2,.int .i64 k),(7,.slice ov cd.length cv)] Bp/\s=⟨h',c2,rl',wl'⟩/\ai h' c2/\Kp h h' c (fun _=>False)/\bj h' (.slice ov cd.length cv) cd.length 2 (aF (cd.map (gY mt qs M)))/\Lg c R rl'/\Lg c (fun _=>False) wl') iY ?_ ?_
  ·refine Wx.loopF (fun k1 e s=>∃(g:Nat->Value) (i:Nat) (z:Int) (h':T ag) (rl' wl':List Nat),e=fr g [(0,.pointer (some ⟨p,0,none⟩)),(1,.slice qa dim qc),(2,.int .i64 k),(7,.slice ov cd.length cv),(57,.int .i64 (cd.length:Int)),(58,.int .i64 z)] Bp/\z=i/\s=⟨h',c2,rl',wl'⟩/\ai h' c2/\Kp h h' c (fun _=>False)/\((cd=[]/\ov=none/\cv=0)\/∃b cs,ov=some ⟨b,0,some 2⟩/\cd.length<=cv/\c<=b/\ay h' b (.cells cs)/\aP 0 ((pL (gY mt qs M) cd i).length*2) cs=some (aF (pL (gY mt qs M) cd i)))/\Lg c R rl'/\Lg c (fun _=>False) wl'/\i<=cd.length/\k1=cd.length - i) cd.length Bp [(0,_),(1,_),(2,_),(7,_),(57,_),(58,.int .i64 0)] ⟨_,0,0,_,_,_,rfl,rfl,rfl,aO,bW,hgv.imp (fun q=>q) (fun⟨b,cs,f1,f2,f3,f4,f5⟩=>⟨b,cs,f1,f2,by omega,f4,f5⟩),az,az,by omega,rfl⟩ ?_
   rintro k1 e s ⟨g,i,z,h',rl',wl',rfl,hz,rfl,hf',hkp,hB,hlr,hlw,hid,rfl⟩
   (refine Wx.sw (by simp only[Bp,i5,i6,dC,dB,Nat.reduceEqDiff,↓reduceIte];rfl) ?_)
   by_cases hi:i<cd.length
   rotate_left
   ·refine aq ?_
    obtain rfl:i=cd.length:=by omega
    refine di.goF Bp [(2,_),(7,_)] ⟨_,_,_,_,rfl,rfl,hf',hkp,?_,hlr,hlw⟩
    rcases hB with⟨f1,rfl,rfl⟩|⟨b,cs,rfl,f2,f3,f4,f5⟩
    ·subst f1;exact .inl ⟨rfl,rfl,_,_,rfl⟩
    ·rw[EM,List.length_map] at f5
     exact .inr ⟨b,0,_,_,_,rfl,f4.cel,f5⟩
   obtain⟨b,cs,rfl,f2,f3,f4,f5⟩:∃b cs,ov=some ⟨b,0,some 2⟩/\cd.length<=cv/\c<=b/\ay h' b (.cells cs)/\aP 0 ((pL (gY mt qs M) cd i).length*2) cs=some (aF (pL (gY mt qs M) cd i)):=by
    rcases hB with⟨f1,_⟩|f
    ·subst f1;simp at hi
    ·exact f
   have lb:=f4.lt hf'
   obtain⟨r,hr,hrid⟩:=hcm (List.getElem_mem hi)
   have hml:=FJ (gY mt qs M) cd i
   have hn1:=NQ f5 (Cd hi)
   obtain⟨cs',hs1,hs2⟩:=KZ (i:=i) (y:=gY mt qs M cd[i]) f5 (by rw[hml];exact hi) (by rw[Cd hi];rfl)
   rw[Do hi] at hs2
   have hq0:=bj.keepF hq hf (fun b hb=>hkp b hb (fun q=>q))
   have q':=q.keep hf (fun b _ hb=>hkp b hb (fun q=>q))
   have hp':=q'.ptr
   obtain⟨es,n,hm',⟨ids,h2⟩,h3⟩:=q'.ex
   obtain⟨lp',lm'⟩:=q'.lt hf'
   obtain⟨zs,hzs,hzl,hzb⟩:=q.ok r hr
   have e5:jS r.xs=zs:=by rw[hzs];exact gj zs
   have e6:r.xs.length=dim:=by rw[hzs];show (zs.map _).length=_;rw[List.length_map,hzl]
   have e7:r.xs=zs.map (Value.int .i32):=by rw[hzs]
   have etr:gY mt qs M cd[i]=⟨cd[i].id,cX mt qs zs⟩:=by
    unfold gY
    rw[hrid,dH q.rises hr rfl]
    show Ht.mk _ (cX mt qs (jS r.xs))=_
    rw[e5]
   rw[etr] at hs1
   obtain⟨v,cv2,hv1,hv2,hv3⟩:∃v cv,dU cd[i].id es=some (.agg ⟨[v,cv]⟩)/\kc h' 0 v dim (zs.map (Value.int .i32))/\∀b,au v=some b->U b:=by
    rw[hrid]
    rcases h3 r.id with⟨e1,_⟩|⟨r',v,e1,e2,w,cw,rfl,e3,e4,e8,e9⟩
    ·exact absurd rfl (fk.1 e1 r hr)
    ·rw[dH q.rises hr rfl] at e1
     cases e1
     rw[e6,e7] at e3
     exact⟨w,cw,e2,e3,fun b hb=>(e8 b hb).1⟩
   obtain⟨va,vk,rfl⟩:=hv2.val
   obtain⟨vi,hv4⟩:=iw hv1
   have hvr:=hv2.row (by rw[List.length_map];exact hzl)
   refine aq ?_
   refine Zq (aj (k:=i) ej rfl rfl hz hi) ?_
   refine aq ?_
   refine Zd (aB (dV rfl) rfl f4.cel (by omega) hn1) ?_
   refine aq ?_
   refine Zd (bL (pk rfl) (tG rfl) rfl rfl hm' lm' h2.ks (by rw[hv4])) ?_
   refine aq ?_
   refine bN.call rfl rfl (gh aU aO hmt hqn hzl hq0 hvr hqb hzb (by omega) R (fun b hb=>hb.elim (hqR b) (fun u=>hUR b (hv3 b u)))) ?_
   rintro v h3' c3 r3 w3 ⟨⟨rfl,e1,e2⟩,hext3⟩
   simp only at e1 e2
   subst e1 e2
   have hqt:=hext3.quiet (fun _ _ q=>q)
   have lr3:=Lg.extR (R:=R) (c:=c) az hext3 (fun b hb q=>q)
   have lw3:=Lg.extW (W:=fun _=>False) (c:=c) az hext3 (fun _ _ q=>q)
   refine⟨i7,?_⟩
   refine aq ?_
   refine Zq (aj (k:=i) ej rfl rfl hz hi) ?_
   refine aq ?_
   ((with_reducible apply bN.so);rfl;exact(uc rfl);rfl;exact f4;omega;exact i7;refine wC ?_;refine⟨_,_,(by(first|exact a8 _|rfl)),rfl,hs1,?_⟩)
   refine aq ?_
   refine aC.goF (cd.length - (i+1)) Bp [(0,_),(1,_),(2,_),(7,_),(57,_),(58,.int .i64 (z+1))] (by omega) ⟨_,i+1,z+1,_,_,_,rfl,by omega,rfl,aO,bW,.inr ⟨b,_,rfl,f2,f3,ay.same,hs2⟩,az,az,by omega,rfl⟩
  ·rintro e s ⟨g,h',rl',wl',rfl,rfl,hf',hkp,hR2,hlr,hlw⟩
   (refine Wx.sw (by simp only[Bp,i5,i6,dC,dB,Nat.reduceEqDiff,↓reduceIte];rfl) ?_)
   have hge2:∀b,au (.slice ov cd.length cv)=some b->c<=b:=fun b hb=>by have:=g2' b hb;omega
   have hll:cd.length=(cd.map (gY mt qs M)).length:=(List.length_map ..).symm
   rw[hll] at hR2 hge2 ⊢
   refine aq ?_
   refine ax.call rfl rfl (ph aU rfl aO (l:=cd.map (gY mt qs M)) hR2 hk (by omega) (by omega) (fun b=>c<=b) hge2) ?_
   rw[<- hH]
   rintro v3 h3 c3 r3 w3 ⟨⟨k1,k2⟩,hext3⟩
   have kp3:=Kp.ext (W:=fun _=>False) (h:=h) (c:=c) bW hext3 (by omega) (fun _ _ q=>q)
   have lr3:=Lg.extR (R:=R) (c:=c) az hext3 (fun b hb u=>by omega)
   have lw3:=Lg.extW (W:=fun _=>False) (c:=c) az hext3 (fun _ _ q=>q)
   have fr3:=hext3.fresh
   have le3:=hext3.c
   simp only at le3 fr3
   refine aq ?_
   refine⟨.inr rfl,aG.one rfl ⟨⟨k1,fun b hb=>by have:=k2 b hb;omega⟩,?_⟩⟩
   exact bM
end Go.Ab.Seat
