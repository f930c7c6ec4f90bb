import Derived.Test.YtofikbfljjjgeaaGreatDoorDJC
import Derived.Test.YtofikbfljjjgeaaGreatDoorDF3
import Derived.Test.YtofikbfljjjgeaaGreatDoorDF7
set_option linter.unusedVariables false
set_option linter.unusedSimpArgs false
section
namespace Go.Ab.Seat
open Go.Extern Go.Proofs
set_option maxRecDepth 4000
theorem HL.of {h:T ag}{c b n:Nat}{l:List Ht} (hB:ay h b (.cells (aF l))) (hc:c<=b) (hl:l.length=n) (hn:n≠0):HL h c (.slice (some ⟨b,0,some 2⟩) n n) l:=by
 subst hl
 exact .inr ⟨b,rfl,fun e=>hn (by rw[e];rfl),hc,hB⟩
def El:List Nat:=[0,1,2,6,7,9,10,11,12,13]
set_option maxHeartbeats 8000000 in
theorem pY {h:T ag}{c:Nat}{rl wl:List Nat} (hf:ai h c) {p m dim:Nat}{mt:Int}{G:Gr}{U:Nat->Prop} (qm:gw h p m mt dim G U) (hmt:mt=1\/mt=2) (hd:dim<=1000) {id:Int} (hid:∃r,aK id G.M=some r) {oa:Option Addr}{cap:Nat}{l:List Int} (hx:bj h (.slice oa l.length cap) l.length 1 (l.map (Value.int .i64))) (hl:∀x∈l,∃r,aK x G.M=some r) (hn:l.length<=800) (R:Nat->Prop) (hUR:∀b,U b->R b) (hR:∀b,au (.slice oa l.length cap)=some b->R b) :
  ∃r s',aE (Cs bD) eg 145 [.pointer (some ⟨p,0,none⟩),.int .i64 id,.slice oa l.length cap] ⟨h,c,rl,wl⟩ r s'/\i8 s'.h c r (fM mt G.M id l)/\bA ⟨h,c,rl,wl⟩ s' R (fun _=>False):=by
 have hbg:dv=1048576:=rfl
 obtain⟨ow,q⟩:=qm
 obtain⟨r0,hr0⟩:=hid
 have hp:=q.ptr
 obtain⟨lp,lm⟩:=q.lt hf
 have hpR:=hUR p q.pU
 have hmR:=hUR m q.mU
 obtain⟨es,n,vi,nb,vv,ls,hm,⟨ids,hk⟩,hfit,hfi,hn0,hid0⟩:=q.at hr0
 obtain⟨hzs,hzl,hzb,_,_⟩:=q.zs hr0
 have hnb:=hn0.at_
 unfold gC at hnb
 have lnb:=hnb.lt hf
 have rnb:=hUR nb hn0.u
 have hown:=hn0.own
 have hov:=hn0.ov
 obtain⟨va,vk,rfl⟩:=hown.val
 rw[hzs] at hown
 have hvr:=hown.row (by rw[List.length_map];exact hzl)
 have hhl:(l.map (cK mt G.M (sQ G.M id))).length=l.length:=List.length_map _
 refine Fn.go (aU 145 rfl) KK Kb Kf rfl rfl ?_
 refine cg ?_
 refine aq ?_
 refine Wx.loopF (fun k1 e s=>∃(g:Nat->Value) (i:Nat) (z:Int) (lv:Value) (h':T ag) (c':Nat) (rl' wl':List Nat),e=fr g [(0,.pointer (some ⟨p,0,none⟩)),(1,.int .i64 id),(7,lv),(10,.slice oa l.length cap),(11,.int .i64 (l.length:Int)),(12,.int .i64 z)] El/\z=i/\s=⟨h',c',rl',wl'⟩/\c<=c'/\ai h' c'/\Kp h h' c (fun _=>False)/\HL h' c lv ((l.map (cK mt G.M (sQ G.M id))).take i)/\Lg c R rl'/\Lg c (fun _=>False) wl'/\i<=l.length/\k1=l.length - i) l.length El [(0,_),(1,_),(7,.slice none 0 0),(10,_),(11,_),(12,.int .i64 0)] ⟨_,0,0,_,_,_,_,_,rfl,rfl,rfl,Nat.le_refl _,aO,bW,.inl ⟨rfl,rfl⟩,az,az,by omega,rfl⟩ ?_
 rintro k1 e s ⟨g,i,z,lv,h',c',rl',wl',rfl,hz,rfl,hcc,hf',hkp,hL,hlr,hlw,hid,rfl⟩
 (refine Wx.sw (by simp only[El,i5,i6,dC,dB,Nat.reduceEqDiff,↓reduceIte];rfl) ?_)
 by_cases hi:i<l.length
 rotate_left
 ·obtain rfl:i=l.length:=by omega
  rw[List.take_of_length_le (by omega)] at hL
  obtain⟨ol,hlv,hrow,hlb⟩:=hL.val
  subst hlv
  refine aq ?_
  refine ax.call rfl rfl (ph aU (rfl:bD 200=some gIns) aO hrow (kk:=l.length) (by rw[hhl];omega) (by omega) (by rw[hhl];omega) (fun b=>c<=b\/R b) (fun b hb=>.inl (hlb b hb))) ?_
  rintro v1 h1 c1 r1 w1 ⟨⟨y1,y2⟩,hext1⟩
  have fr1:=hext1.fresh
  have le1:=hext1.c
  simp only at fr1 le1
  have kp1:=Kp.ext (W:=fun _=>False) (h:=h) (c:=c) bW hext1 (by omega) (fun _ _ q=>q)
  have lr1:=Lg.extR (R:=R) (c:=c) az hext1 (fun b hb q=>q.elim (fun q=>by omega) (fun q=>q))
  have lw1:=Lg.extW (W:=fun _=>False) (c:=c) az hext1 (fun _ _ q=>q)
  obtain⟨oh,ch,rfl,hch,hrow1⟩:=y1.row
  have hbl:=iP l.length (l.map (cK mt G.M (sQ G.M id)))
  refine aq ?_
  refine ax.call rfl rfl (ut aO hrow1 (by omega) (fun b=>c<=b) (fun b hb=>by have:=y2 b hb;show c<=b;omega)) ?_
  rintro v2 h2 c2 r2 w2 ⟨hI,hext2⟩
  have fr2:=hext2.fresh
  have le2:=hext2.c
  simp only at fr2 le2
  have kp2:=Kp.ext (W:=fun _=>False) (h:=h) (c:=c) kp1 hext2 (by omega) (fun _ _ q=>q)
  have lr2:=Lg.extR (R:=R) (c:=c) az hext2 (fun b hb q=>by omega)
  have lw2:=Lg.extW (W:=fun _=>False) (c:=c) az hext2 (fun _ _ q=>q)
  refine aq ?_
  exact⟨.inr rfl,aG.one rfl ⟨hI.low (by omega),bM⟩⟩
 obtain⟨rx,hrx⟩:=hl _ (List.getElem_mem hi)
 obtain⟨b1,o1,sp1,cs1,rfl,hc1,hn1⟩:=bp (bj.keepF hx hf (fun b hb=>hkp b hb (fun q=>q))) (j:=i*1) (by omega) (fi (List.getElem?_eq_getElem hi))
 have hR1:=hR b1 rfl
 have l1:=hc1.lt hf'
 have kA:∀b,b<c->h'.get b=h.get b:=fun b hb=>hkp b hb (fun q=>q)
 have q':=q.keep hf (fun b _ hb=>kA b hb)
 have hp':=q'.ptr
 have hm':ay h' m _:=(kA m lm).trans hm
 have hnb':ay h' nb _:=(kA nb lnb).trans hnb
 have hlen:((l.map (cK mt G.M (sQ G.M id))).take i).length=i:=by rw[List.length_take,hhl];omega
 have hstep:(l.map (cK mt G.M (sQ G.M id))).take (i+1)=(l.map (cK mt G.M (sQ G.M id))).take i++[cK mt G.M (sQ G.M id) l[i]]:=by rw[List.take_succ_eq_append_getElem (by omega),List.getElem_map]
 refine aq ?_
 refine Zu (aj (k:=i) ct rfl rfl hz (by omega)) ?_
 refine Zu (aB (dV rfl) rfl hc1 (by omega) hn1) ?_
 refine aq ?_
 refine Zu (bL (pk rfl) (tG rfl) rfl rfl hm' (by omega) hk.ks (by rw[hfi])) ?_
 refine aq ?_
 refine ax.call rfl rfl (mG aO ⟨ow,q'⟩ hmt (bj.keepF hvr hf kA) hzl hzb hd hrx R hUR (fun b hb=>hUR b (hov b hb).1)) ?_
 rintro v2 h2 c2 r2 w2 ⟨rfl,hext2⟩
 have fr2:=hext2.fresh
 have le2:=hext2.c
 simp only at fr2 le2
 have kp2:=Kp.ext (W:=fun _=>False) (h:=h) (c:=c) bW hext2 (by omega) (fun _ _ q=>q)
 have lr2:=Lg.extR (R:=R) (c:=c) az hext2 (fun _ _ q=>q)
 have lw2:=Lg.extW (W:=fun _=>False) (c:=c) az hext2 (fun _ _ q=>q)
 have hfl:aF ((l.map (cK mt G.M (sQ G.M id))).take (i+1))=aF ((l.map (cK mt G.M (sQ G.M id))).take i)++(cK mt G.M (sQ G.M id) l[i]).cells:=by rw[hstep,fg];unfold aF;simp
 refine aq ?_
 rcases hL with⟨rfl,e0⟩|⟨bl,rfl,hne,hbl,hB⟩
 ·refine Zu (cy iB lR rfl rfl (k:=0) ay.same.cel (by omega) (aA _ _ rfl) (by omega) aO) ?_
  refine aq ?_
  have hi0:i=0:=by rw[e0] at hlen;exact hlen.symm
  refine aC.goF (l.length - (i+1)) El [(0,_),(1,_),(7,_),(10,_),(11,_),(12,.int .i64 (z+1))] (by omega) ⟨_,i+1,z+1,_,_,_,_,_,rfl,by omega,rfl,by omega,aO,bW,.of (by rw[hfl,e0];exact ay.same) (by omega) (by rw[hstep,e0];rfl) (n:=1) (by decide),az,az,by omega,rfl⟩
 ·have lb:=hB.lt hf'
  have hB2:ay h2 bl _:=hext2.hs hB (by omega) (fun q=>q)
  refine Zu (dg iB lR rfl rfl (k:=0) ay.same.cel (by omega) (aA _ _ rfl) (by omega) (by omega) (hB2.other (by omega)) (by omega) (aA _ _ (cN _).symm) (all_cons rfl (all_cons rfl a7)) aO) ?_
  refine aq ?_
  refine aC.goF (l.length - (i+1)) El [(0,_),(1,_),(7,_),(10,_),(11,_),(12,.int .i64 (z+1))] (by omega) ⟨_,i+1,z+1,_,_,_,_,_,rfl,by omega,rfl,by omega,aO,bW,.of (by rw[hfl];exact ay.same) (by omega) (by rw[hstep,List.length_append];rfl) (Nat.succ_ne_zero _),az,az,by omega,rfl⟩
theorem pt {mt:Int}{M:List Rc}{id x:Int}{l:List Int} (h:x∈fM mt M id l):x∈l:=by
 unfold fM at h
 obtain⟨y,hy,rfl⟩:=List.mem_map.1 h
 have:∀(k:Nat) (l a:List Ht),y∈l.foldl (eu k) a->y∈a\/y∈l:=by
  intro k l
  induction l with
  |nil=>intro a h;exact .inl h
  |cons z l ih =>
   intro a h
   rcases ih _ h with h|h
   ·rcases iW h with rfl|h
    ·exact .inr (List.mem_cons_self ..)
    ·exact .inl h
   ·exact .inr (List.mem_cons_of_mem _ h)
 rcases this _ _ _ hy with h|h
 ·cases h
 ·obtain⟨z,hz,rfl⟩:=List.mem_map.1 h
  exact hz
theorem CB (mt:Int) (M:List Rc) (id:Int) (l:List Int):(fM mt M id l).length<=l.length:=by
 unfold fM
 rw[List.length_map]
 have:=iP l.length (l.map (cK mt M (sQ M id)))
 rw[List.length_map] at this
 exact this
theorem vd {h:T ag}{c:Nat}{rl wl:List Nat} (hf:ai h c) (l:Nat):∃r s',aE (Cs bD) eg 146 [.int .i64 (l:Int)] ⟨h,c,rl,wl⟩ r s'/\(r=.int .i64 (dG l:Int)/\s'=⟨h,c,rl,wl⟩):=by
 refine Fn.go (aU 146 rfl) K1 Jy J4 rfl rfl ?_
 refine cg ?_
 unfold dG
 by_cases hl:l=0
 ·refine aq ?_
  exact⟨.inr rfl,aG.one rfl ⟨by rw[if_pos hl];rfl,rfl⟩⟩
 ·refine aq ?_
  exact⟨.inr rfl,aG.one rfl ⟨by rw[if_neg hl];rfl,rfl⟩⟩
end Go.Ab.Seat
end
section
namespace Go.Ab.Seat
open Go.Extern Go.Proofs
set_option maxRecDepth 4000
def Lp (k:Nat):Value->Value
 |.slice (some ⟨b,o,sp⟩) n cap=>.slice (some ⟨b,o+k*1,sp⟩) (n - k) (cap - k)
 |v=>v
theorem GN {h0:T ag}{c:Nat}{e:aR}{s:St}{d:Option Nat}{ty:TypeId}{ps:String}{af:Array Edge}{g:Option (Nat×Bool)}{x lo:Operand}{v:Value}{l:List Int}{k:Nat}{z:Int} (hI:i8 h0 c v l) (hx:ae e x=v) (hl:ae e lo=.int .i64 z) (hz:z=(k:Int)) (hk:k<=l.length) :
  aW (Cs bD) eg e ⟨d,.slice 45 x (some lo) none none,ty,ps,af,g⟩ s (Lp k v) s:=by
 rcases hI with⟨rfl,rfl⟩|⟨b,rfl,hne,hc,hB⟩
 ·have:k=0:=by simpa using hk
  subst this
  exact jr ct hx hl hz
 ·exact aZ ct hx hl hz hk (Nat.le_refl _)
theorem Gs {h:T ag}{c:Nat}{v:Value}{l:List Int}{k:Nat} (hI:i8 h c v l) (hk:k<=l.length):∃od cd,Lp k v=.slice od (l.drop k).length cd/\bj h (.slice od (l.drop k).length cd) (l.drop k).length 1 ((l.drop k).map (Value.int .i64))/\∀b,au (.slice od (l.drop k).length cd)=some b->au v=some b:=by
 rcases hI with⟨rfl,rfl⟩|⟨b,rfl,hne,hc,hB⟩
 ·refine⟨none,0,?_,?_,fun b hb=>hb⟩
  ·rw[List.drop_nil];rfl
  ·rw[List.drop_nil];exact .inl ⟨rfl,rfl,_,_,rfl⟩
 ·refine⟨some ⟨b,0+k*1,some 1⟩,l.length - k,?_,?_,fun b hb=>hb⟩
  ·rw[List.length_drop];rfl
  ·refine .inr ⟨b,0+k*1,_,_,_,rfl,hB.cel,?_⟩
   have e:aP 0 (k+(l.length - k)) (l.map (Value.int .i64))=some ((l.take k).map (Value.int .i64)++(l.drop k).map (Value.int .i64)):=by
    rw[<- List.map_append,List.take_append_drop]
    exact aA _ _ (by rw[List.length_map];omega)
   rw[List.length_drop,Nat.mul_one,Nat.mul_one]
   exact(dP e (by rw[List.length_map,List.length_take];omega)).2
def Mm:List Nat:=[0,1,2,6,8,29,30,31,32]
set_option maxHeartbeats 8000000 in
theorem z7 {h:T ag}{c:Nat}{rl wl:List Nat} (hf:ai h c) {p m dim:Nat}{mt:Int}{G:Gr}{U:Nat->Prop} (qm:gw h p m mt dim G U) (hmt:mt=1\/mt=2) (hd:dim<=1000) (hml:G.M.length<=800) {id:Int}{l:Nat} (hl:l<5) (hid:∃r,aK id G.M=some r) (R:Nat->Prop) (hUR:∀b,U b->R b) :
  ∃r s',aE (Cs bD) eg 76 [.pointer (some ⟨p,0,none⟩),.int .i64 id,.int .i64 (l:Int)] ⟨h,c,rl,wl⟩ r s'/\gw s'.h p m mt dim ⟨G.M,eb mt G.M l G.L id⟩ (fun b=>U b\/c<=b/\b<s'.c)/\bA ⟨h,c,rl,wl⟩ s' R U:=by
 have hbg:dv=1048576:=rfl
 have qm0:=qm
 obtain⟨ow,q⟩:=qm
 obtain⟨r0,hr0⟩:=hid
 have hp:=q.ptr
 obtain⟨lp,lm⟩:=q.lt hf
 have hpR:=hUR p q.pU
 have hmR:=hUR m q.mU
 obtain⟨es,n,vi,nb,vv,ls,hm,⟨ids,hk⟩,hfit,hfi,hn0,hid0⟩:=q.at hr0
 have hnb:=hn0.at_
 have lnb:=hnb.lt hf
 have rnb:=hUR nb hn0.u
 have hlk:=hn0.lk l hl
 rw[hid0] at hlk
 have ulk:=fun b hb=>(hn0.ol l hl b hb).1
 have hlen:=q.len id l
 obtain⟨ol,cl,hlv⟩:=hlk.val
 rw[hlv] at hlk ulk
 refine Fn.go (aU 76 rfl) MX Pv Pz rfl rfl ?_
 refine cg ?_
 refine aq ?_
 refine Zu (bL (pk rfl) (tG rfl) rfl rfl hm lm hk.ks (by rw[hfi])) ?_
 refine aq ?_
 refine Zu (aY (k:=l) ld rfl rfl rfl hl) ?_
 refine Zu (aB (dV rfl) rfl hnb.cel lnb (fU hl)) ?_
 rw[hlv]
 refine ax.call rfl rfl (pY aO qm0 hmt hd ⟨r0,hr0⟩ hlk.row (q.mem id l) (by omega) R hUR (fun b hb=>hUR b (ulk b hb))) ?_
 rintro v1 h1 c1 r1 w1 ⟨hI,hext1⟩
 have fr1:=hext1.fresh
 have le1:=hext1.c
 simp only at fr1 le1
 have kp1:=Kp.ext (W:=U) (h:=h) (c:=c) bW hext1 (by omega) (fun _ _ q=>q.elim)
 have lr1:=Lg.extR (R:=R) (c:=c) az hext1 (fun _ _ q=>q)
 have lw1:=Lg.extW (W:=U) (c:=c) az hext1 (fun _ _ q=>q.elim)
 have kF:∀b,b<c->h1.get b=h.get b:=fun b hb=>hext1.h b hb (fun q=>q)
 have hrm:∀x∈fM mt G.M id (G.L id l),∃r,aK x G.M=some r:=fun x hx=>q.mem id l x (pt hx)
 have hrn:=CB mt G.M id (G.L id l)
 unfold eb
 generalize hrk:fM mt G.M id (G.L id l)=rk at hI hrm hrn
 obtain⟨oi,rfl,hir,hib⟩:=hI.val
 have hkk:min rk.length (dG l)<=rk.length:=Nat.min_le_left _ _
 obtain⟨od,cd,hcv,hrow,hcb⟩:=Gs hI hkk
 have hdr:rk.drop (min rk.length (dG l))=rk.drop (dG l):=by
  rcases Nat.le_total rk.length (dG l) with h|h
  ·rw[Nat.min_eq_left h,List.drop_of_length_le (by omega),List.drop_of_length_le h]
  ·rw[Nat.min_eq_right h]
 rw[hdr] at hcv hrow hcb
 have hrdl:(rk.drop (dG l)).length<=800:=by rw[List.length_drop];omega
 refine aq ?_
 refine ax.call rfl rfl (vd aO l) ?_
 rintro v2 h2 c2 r2 w2 ⟨rfl,e2⟩
 cases e2
 refine aq ?_
 refine Zu (GN (k:=min rk.length (dG l)) hI rfl rfl (by omega) hkk) ?_
 rw[hcv]
 generalize hrd:rk.drop (dG l)=rd at hrow hcb hrdl
 have hrdm:∀x∈rd,∃r,aK x G.M=some r:=fun x hx=>hrm x (List.mem_of_mem_drop (by rw[hrd];exact hx))
 have hob:∀b,au (.slice od rd.length cd)=some b->c<=b/\b<c1:=fun b hb=>⟨hib b (hcb b hb),hI.lt fr1 b (hcb b hb)⟩
 refine aq ?_
 refine Wx.loopF (fun k1 e s=>∃(g:Nat->Value) (i:Nat) (z:Int) (h':T ag) (c':Nat) (rl' wl':List Nat),e=fr g [(0,.pointer (some ⟨p,0,none⟩)),(1,.int .i64 id),(2,.int .i64 (l:Int)),(29,.slice od rd.length cd),(30,.int .i64 (rd.length:Int)),(31,.int .i64 z)] Mm/\z=i/\s=⟨h',c',rl',wl'⟩/\c1<=c'/\ai h' c'/\Kp h h' c U/\bj h' (.slice od rd.length cd) rd.length 1 (rd.map (Value.int .i64))/\gw h' p m mt dim ⟨G.M,(rd.take i).foldl (fun L x=>f0 l L id x) G.L⟩ (fun b=>(U b/\b<c)\/c1<=b/\b<c')/\Lg c R rl'/\Lg c U wl'/\i<=rd.length/\k1=rd.length - i) rd.length Mm [(0,_),(1,_),(2,_),(29,_),(30,_),(31,.int .i64 0)] ⟨_,0,0,_,_,_,_,rfl,rfl,rfl,Nat.le_refl _,aO,bW,hrow,((qm0.low hf).wide hf (fun b hb=>.inl hb)).keep hf (fun b hb hc=>kF b hc),az,az,by omega,rfl⟩ ?_
 rintro k1 e s ⟨g,i,z,h',c',rl',wl',rfl,hz,rfl,hcc,hf',hkp,hRw,qm',hlr,hlw,hid,rfl⟩
 (refine Wx.sw (by simp only[Mm,i5,i6,dC,dB,Nat.reduceEqDiff,↓reduceIte];rfl) ?_)
 by_cases hi:i<rd.length
 rotate_left
 ·refine aq ?_
  obtain rfl:i=rd.length:=by omega
  rw[List.take_length] at qm'
  exact⟨.inl rfl,aG.nil ⟨qm'.wide hf' (fun b hb=>hb.imp (fun q=>q.1) (fun q=>⟨by omega,q.2⟩)),bM⟩⟩
 obtain⟨b1,o1,sp1,cs1,rfl,hc1,hn1⟩:=bp hRw (j:=i*1) (by omega) (fi (List.getElem?_eq_getElem hi))
 obtain⟨hb1,hb2⟩:=hob b1 rfl
 have l1:=hc1.lt hf'
 have hst:=eX (fun L x=>f0 l L id x) G.L hi
 generalize hLi:(rd.take i).foldl (fun L x=>f0 l L id x) G.L=Li at qm' hst
 refine aq ?_
 refine Zu (aj (k:=i) ct rfl rfl hz (by omega)) ?_
 refine Zu (aB (dV rfl) rfl hc1 (by omega) hn1) ?_
 refine aq ?_
 refine ax.call rfl rfl (Ck aO qm' hml hl ⟨r0,hr0⟩ (hrdm _ (List.getElem_mem hi)) (fun b=>c<=b\/R b) (fun b hb=>hb.elim (fun q=>.inr (hUR b q.1)) (fun q=>.inl (by omega)))) ?_
 rintro v3 h3 c3 r3 w3 ⟨q3,hext3⟩
 have fr3:=hext3.fresh
 have le3:=hext3.c
 simp only at fr3 le3 q3
 have kp3:=Kp.ext (W:=U) (h:=h) (c:=c) bW hext3 (by omega) (fun b hb q=>q.elim (fun q=>q.1) (fun q=>by omega))
 have lr3:=Lg.extR (R:=R) (c:=c) az hext3 (fun b hb q=>q.elim (fun q=>by omega) (fun q=>q))
 have lw3:=Lg.extW (W:=U) (c:=c) az hext3 (fun b hb q=>q.elim (fun q=>q.1) (fun q=>by omega))
 have hRw3:bj h3 (.slice (some ⟨b1,o1,sp1⟩) rd.length cd) rd.length 1 (rd.map (Value.int .i64)):=by
  rcases hRw with⟨e0,_⟩|⟨b',o',sp',cap',cs',e1,e2,e3⟩
  ·omega
  ·simp only[Value.slice.injEq,Option.some.injEq,Addr.mk.injEq] at e1
   obtain⟨⟨rfl,rfl,rfl⟩,_,rfl⟩:=e1
   exact .inr ⟨b1,o1,sp1,_,cs',rfl,hext3.cl e2 (by omega) (fun q=>by rcases q with q|q<;>omega),e3⟩
 refine aq ?_
 refine aC.goF (rd.length - (i+1)) Mm [(0,_),(1,_),(2,_),(29,_),(30,_),(31,.int .i64 (z+1))] (by omega) ⟨_,i+1,z+1,_,_,_,_,rfl,by omega,rfl,by omega,fr3,kp3,hRw3,?_,lr3,lw3,by omega,rfl⟩
 rw[hst]
 exact q3.wide fr3 (fun b hb=>hb.elim (fun e=>e.imp (fun e=>e) (fun e=>⟨e.1,by omega⟩)) (fun e=>.inr ⟨by omega,e.2⟩))
end Go.Ab.Seat
end
section
namespace Go.Ab.Seat
open Go.Extern Go.Proofs
set_option maxRecDepth 4000
def EX (oa:Option Addr) (n cap:Nat) (x z:Int) (j5 j9 j16:Value):L :=
 .cons 1 (.int .i64 x) (.cons 0 (.slice oa n cap) (.cons 4 (.int .i64 0) (.cons 7 (.int .i64 (n:Int)) (.cons 8 (.int .i64 z) (.cons 5 j5 (.cons 9 j9 (.cons 16 j16 .nil)))))))
set_option maxHeartbeats 4000000 in
theorem zA {h:T ag}{c:Nat}{rl wl:List Nat} (hf:ai h c) {oa:Option Addr}{cap n:Nat}{l:List Int} (hln:l.length=n) (hl:bj h (.slice oa n cap) n 1 (l.map (Value.int .i64))) (hn:n<=1000) (x:Int) (R:Nat->Prop) (hR:∀b,au (.slice oa n cap)=some b->R b) :
  ∃r s',aE (Cs bD) eg 188 [.slice oa n cap,.int .i64 x] ⟨h,c,rl,wl⟩ r s'/\((∃z:Int,r=.int .i64 z/\(0<=z↔x∈l))/\s'.h=h/\s'.c=c)/\bA ⟨h,c,rl,wl⟩ s' R (fun _=>False):=by
 refine Fn.go (aU 188 rfl) Kh Kz KS rfl rfl ?_
 refine cg ?_
 refine aq ?_
 refine Wx.loopE (fun k1 e s=>∃(i:Nat) (z:Int) (j5 j9 j16:Value) (rl' wl':List Nat),e=EX oa n cap x z j5 j9 j16/\z=i/\s=⟨h,c,rl',wl'⟩/\x∉l.take i/\Lg c R rl'/\Lg c (fun _=>False) wl'/\i<=n/\k1=n - i) n (EX oa n cap x 0 top top top) iY ?_ ?_ ?_
 ·unfold EX
  exact eI
 ·exact⟨0,0,_,_,_,_,_,rfl,rfl,rfl,List.not_mem_nil,az,az,by omega,rfl⟩
 ·rintro k1 e s ⟨i,z,j5,j9,j16,rl',wl',rfl,hz,rfl,hnm,hlr,hlw,hid,rfl⟩
  unfold EX
  by_cases hi:i<n
  ·have hil:i<l.length:=by omega
   have hgi:(l.map (Value.int .i64))[i]?=some (.int .i64 l[i]):=by rw[List.getElem?_map,List.getElem?_eq_getElem hil];rfl
   obtain⟨b1,o1,sp1,cs1,rfl,hc1,hn1⟩:=bp hl (j:=i*1) (by omega) (by rw[Nat.mul_one];exact hgi)
   have l1:=hc1.lt hf
   have rb:=hR b1 rfl
   by_cases hx:x=l[i]
   ·refine aq ?_
    refine Zu (aj (k:=i) ct rfl rfl hz (by omega)) ?_
    refine Zu (aB (dV rfl) rfl hc1 (by omega) hn1) ?_
    refine aq ?_
    refine⟨.inr rfl,aG.one rfl ⟨⟨⟨z,rfl,?_⟩,rfl,rfl⟩,?_⟩⟩
    ·exact⟨fun _=>hx▸List.getElem_mem hil,fun _=>by omega⟩
    ·exact bM
   ·refine aq ?_
    refine Zu (aj (k:=i) ct rfl rfl hz (by omega)) ?_
    refine Zu (aB (dV rfl) rfl hc1 (by omega) hn1) ?_
    refine aq ?_
    refine aC.go (n - (i+1)) (EX _ n cap x (z+1) _ _ _) (by omega) eI ⟨i+1,z+1,_,_,_,_,_,rfl,by omega,rfl,?_,az,az,by omega,rfl⟩
    rw[List.take_succ_eq_append_getElem hil]
    intro hm
    rcases List.mem_append.1 hm with hm|hm
    ·exact hnm hm
    ·exact hx (List.mem_singleton.1 hm)
  ·refine aq ?_
   refine⟨.inr rfl,aG.one rfl ⟨⟨⟨-1,rfl,?_⟩,rfl,rfl⟩,?_⟩⟩
   ·rw[List.take_of_length_le (by omega)] at hnm
    exact⟨fun h=>by omega,fun h=>absurd h hnm⟩
   ·exact bM
theorem lM {h:T ag}{c:Nat}{rl wl:List Nat} (hf:ai h c) {oa:Option Addr}{cap n:Nat}{l:List Int} (hln:l.length=n) (hl:bj h (.slice oa n cap) n 1 (l.map (Value.int .i64))) (hn:n<=1000) (x:Int) (R:Nat->Prop) (hR:∀b,au (.slice oa n cap)=some b->R b) :
  ∃r s',aE (Cs bD) eg 134 [.slice oa n cap,.int .i64 x] ⟨h,c,rl,wl⟩ r s'/\(r=.bool (decide (x∈l))/\s'.h=h/\s'.c=c)/\bA ⟨h,c,rl,wl⟩ s' R (fun _=>False):=by
 refine Fn.go (aU 134 rfl) Lh JY Lo rfl rfl ?_
 refine cg ?_
 refine aq ?_
 refine ax.call rfl rfl (zA aO hln hl hn x R hR) ?_
 rintro v1 h1 c1 r1 w1 ⟨⟨⟨z,rfl,hz⟩,e1,e2⟩,hext⟩
 simp only at e1 e2
 subst e1 e2
 have lr:=Lg.extR (R:=R) (c:=c1) az hext (fun _ _ q=>q)
 have lw:=Lg.extW (W:=fun _=>False) (c:=c1) az hext (fun _ _ q=>q)
 by_cases h0:0<=z
 ·refine aq ?_
  refine⟨.inr rfl,aG.one rfl ⟨⟨?_,rfl,rfl⟩,?_⟩⟩
  ·rw[decide_eq_true (hz.1 h0)];rfl
  ·exact bM
 ·refine aq ?_
  refine⟨.inr rfl,aG.one rfl ⟨⟨?_,rfl,rfl⟩,?_⟩⟩
  ·rw[decide_eq_false (fun q=>h0 (hz.2 q))];rfl
  ·exact bM
theorem ax.appI {all os:List Oper}{loc kept:L}{h:T ag}{c:Nat}{rl wl:List Nat}{Q:aR->St->Prop}{d:Nat}{ty:TypeId}{ps:String}{af:Array Edge}{g:Option (Nat×Bool)}{a x:Operand}{v:Value}{c0 ob cap:Nat}{sp:Option Nat}{y:Int}{l:List Int}
  (hw:aJ all (.mk loc kept) ⟨some d,.call ⟨.builtin .append,#[a,x],#[45,45]⟩,ty,ps,af,g⟩=some true) (ha:ae (.mk loc kept) a=v) (hx:ae (.mk loc kept) x=.slice (some ⟨ob,0,sp⟩) 1 cap) (hHI:HI h c0 v l) (hb:ay h ob (.cells [.int .i64 y])) (hob:c0<=ob) (hn:l.length<=10000) (hf:ai h c) (hc0:c0<=c)
  (k:∀h2 rl2 wl2,ai h2 (c+1)->Kp h h2 c (fun b=>au v=some b)->ay h2 c (.cells ((l++[y]).map (Value.int .i64)))->(∀b∈rl2,b∈rl\/c0<=b)->(∀b∈wl2,b∈wl\/c0<=b)->ax (Cs bD) eg all os (.mk (.cons d (.slice (some ⟨c,0,some 1⟩) (l.length+1) (l.length+1)) loc) kept) ⟨h2,c+1,rl2,wl2⟩ Q) :
  ax (Cs bD) eg all (⟨some d,.call ⟨.builtin .append,#[a,x],#[45,45]⟩,ty,ps,af,g⟩::os) (.mk loc kept) ⟨h,c,rl,wl⟩ Q:=by
 have lo:=hb.lt hf
 have hbg:dv=1048576:=rfl
 rcases hHI with⟨rfl,rfl⟩|⟨bl,rfl,hne,hbl,hbc⟩
 ·refine ax.stg hw (cy (k:=0) ik m7 ha hx hb.cel lo (aA _ _ rfl) (by omega) hf) (k _ _ _ aO bW ay.same ?_ (fun b hb=>.inl hb))
  intro b hb
  rcases List.mem_cons.1 hb with rfl|hb
  ·exact .inr hob
  ·exact .inl hb
 ·have l3:=hbc.lt hf
  refine ax.stg hw (dg (k:=0) ik m7 ha hx hb.cel lo (aA _ _ rfl) (by omega) (by omega) hbc l3 (aA _ _ (by simp)) (all_cons rfl a7) hf) (k _ _ _ aO bW ?_ ?_ ?_)
  ·rw[List.map_append];exact ay.same
  ·intro b hb
   rcases List.mem_cons.1 hb with rfl|hb
   ·exact .inr hbl
   ·rcases List.mem_cons.1 hb with rfl|hb
    ·exact .inr hob
    ·exact .inl hb
  ·intro b hb
   rcases List.mem_cons.1 hb with rfl|hb
   ·exact .inr hbl
   ·exact .inl hb
def el (n:Nat):Nat:=if n=0 then 1 else min n 2
def lX (mid:List (List Int)) (qs:List Int):List Int:=(pK mid qs++[0]).take (el mid.length)
def gV (mt:Int) (qs:List Int) (mid:List (List Int)) (M:List Rc):List Ht:=bX mt qs (M.filter fun r=>decide (r.seq∈lX mid qs))
theorem ye (n:Nat):el n<=n+1/\el n<=2:=by unfold el;split<;>omega
theorem CA (mid:List (List Int)) (qs:List Int):(lX mid qs).length=el mid.length:=by
 have:=ye mid.length
 unfold lX
 rw[List.length_take,List.length_append,jL]
 show min _ (mid.length+1)=_
 omega
def EN (p:Nat) (qa:Option Addr) (dim qc:Nat) (k:Int) (b nn n:Nat) (j27:Value):L :=
 .cons 2 (.int .i64 k) (.cons 1 (.slice qa dim qc) (.cons 0 (.pointer (some ⟨p,0,none⟩)) (.cons 6 (.slice none 0 0) (.cons 13 (.bool false) (.cons 7 (.slice (some ⟨b,0,some 1⟩) nn (n+1)) (.cons 27 j27 .nil))))))
def Gj (p:Nat) (qa:Option Addr) (dim qc:Nat) (k:Int) (b nn n:Nat) (j27 lv:Value) (oi:Option Addr) (mn ic:Nat) (z:Int) (j10 j11 j40 j52:Value):L :=
 .cons 2 (.int .i64 k) (.cons 1 (.slice qa dim qc) (.cons 0 (.pointer (some ⟨p,0,none⟩)) (.cons 6 (.slice none 0 0) (.cons 13 (.bool false) (.cons 7 (.slice (some ⟨b,0,some 1⟩) nn (n+1)) (.cons 27 j27 (.cons 8 lv (.cons 37 (.slice oi mn ic) (.cons 38 (.int .i64 (mn:Int)) (.cons 39 (.int .i64 z) (.cons 10 j10 (.cons 11 j11 (.cons 40 j40 (.cons 52 j52 .nil))))))))))))))
set_option maxHeartbeats 8000000 in
theorem xo {h:T ag}{c:Nat}{rl wl:List Nat} (hf:ai h c) {p m dim:Nat}{mv:Value}{mt:Int}{mid:List (List Int)}{M:List Rc}{U:Nat->Prop} (q:mq h p m mv mt dim mid M U) (hmn:mid.length<=12) (hmt:mt=1\/mt=2) {qa:Option Addr}{qc:Nat}{qs:List Int} (hq:bj h (.slice qa dim qc) dim 1 (qs.map (Value.int .i32))) (hqn:qs.length=dim) (hqb:gc qs) (hd:dim<=1000) (k:Int) {kk:Nat} (hk:max k 0=(kk:Int)) (hkk:kk<=1000) (hn:M.length<=800) (R:Nat->Prop) (hUR:∀b,U b->R b) (hqR:∀b,au (.slice qa dim qc)=some b->R b) :
  ∃r s',aE (Cs bD) eg 70 [.pointer (some ⟨p,0,none⟩),.slice qa dim qc,.int .i64 k] ⟨h,c,rl,wl⟩ r s'/\(eG s'.h r (aQ kk (gV mt qs mid M)).length (aF (aQ kk (gV mt qs mid M)))/\∀b,au r=some b->c<=b)/\bA ⟨h,c,rl,wl⟩ s' R (fun _=>False):=by
 have hp:=q.ptr
 obtain⟨lp,lm⟩:=q.lt hf
 have hpU:=hUR p q.pU
 have hmU:=hUR m q.mU
 obtain⟨oa1,cap1,rfl⟩:=q.mids.val
 refine Fn.go (aU 70 rfl) OL NS MV rfl rfl ?_
 refine cg ?_
 refine aq ?_
 refine ax.call rfl rfl (sY aO q.mids hmn hd hq hqn hqb R (fun b u=>hUR b u.1) hqR) ?_
 rintro v1 h1 c1 r1 w1 ⟨hHI,hext⟩
 have kp:=Kp.ext (W:=fun _=>False) (h:=h) (c:=c) bW hext (by omega) (fun _ _ q=>q)
 have lr:=Lg.extR (R:=R) (c:=c) az hext (fun b hb u=>u)
 have lw:=Lg.extW (W:=fun _=>False) (c:=c) az hext (fun _ _ q=>q)
 have fr1:=hext.fresh
 have le1:=hext.c
 simp only at le1 fr1 hHI
 have hol:=jL mid qs
 refine aq ?_
 refine ax.appI (v:=v1) rfl rfl rfl (l:=pK mid qs) (c0:=c) (y:=0) (hHI.imp (fun q=>q) (fun⟨b,e1,e2,e3,e4⟩=>⟨b,e1,e2,e3,e4.other (by have:=e4.lt fr1;omega)⟩)) ay.same (by omega) (by omega) aO (by omega) ?_
 intro h2 rl2 wl2 fr2 kp2 hN hrl2 hwl2
 have kp2':Kp h h2 c (fun _=>False):=fun b hb _=>by
  rw[kp2 b (by omega) (fun q=>?_),am (by omega)]
  ·exact kp b hb (fun q=>q)
  ·rcases hHI with⟨e,_⟩|⟨b',e,_,e3,_⟩
   ·rw[e] at q;cases q
   ·rw[e] at q
    have q':b'=b:=by simpa [au] using q
    omega
 have lr2:Lg c R rl2:=fun b hb=>(hrl2 b hb).elim (fun u=>lr b u) (fun u=>.inl u)
 have lw2:Lg c (fun _=>False) wl2:=fun b hb=>(hwl2 b hb).elim (fun u=>lw b u) (fun u=>.inl u)
 have hp2:ay h2 p (.cells [.int .i64 mt,.slice oa1 mid.length cap1,.map (some m)]):=(kp2' p lp (fun q=>q)).trans hp
 rw[hol]
 refine aq ?_
 have hnn:=ye mid.length
 have hlen:∀l:List Rc,(gV mt qs mid l).length<=l.length:=fun l=>by unfold gV bX;rw[List.length_map];exact List.length_filter_le _ _
 refine Wx.cut (fun e s=>∃(j27:Value) (rl':List Nat),e=EN p qa dim qc k (c1+1) (el mid.length) mid.length j27/\s=⟨h2,c1+2,rl',wl2⟩/\Lg c R rl') iY ?_ ?_
 ·by_cases h0:mid.length=0
  ·have e1:el mid.length=mid.length+1:=by unfold el;rw[if_pos h0];omega
   refine aq ?_
   exact di.go (EN p qa dim qc k (c1+1) (el mid.length) mid.length _) (by unfold EN;rw[e1];exact eI) ⟨_,_,rfl,rfl,az⟩
  ·have e1:el mid.length=min mid.length 2:=by unfold el;rw[if_neg h0]
   refine aq ?_
   refine Zu (cD (k:=el mid.length) ct rfl rfl (by rw[e1];omega) (by omega) (fun a ha=>by cases ha;exact .inr rfl)) ?_
   refine aq ?_
   exact di.go (EN p qa dim qc k (c1+1) (el mid.length) mid.length _) (by unfold EN;exact eI) ⟨_,_,rfl,rfl,az⟩
 ·rintro e s ⟨j27,rl3,rfl,rfl,lr3⟩
  unfold EN
  have q2:=q.keep hf (fun b _ hb=>kp2' b hb (fun q=>q))
  have hnr:bj h2 (.slice (some ⟨c1+1,0,some 1⟩) (el mid.length) (mid.length+1)) (el mid.length) 1 ((lX mid qs).map (Value.int .i64)):=by
   refine .inr ⟨c1+1,0,some 1,_,_,rfl,hN.cel,?_⟩
   rw[fj _ _ _ (by rw[List.length_map,List.length_append,jL];show _<=mid.length+1;omega),List.drop_zero,Nat.mul_one]
   unfold lX
   rw[List.map_take]
  refine aq ?_
  refine ax.call rfl rfl (DB aO q2 (by omega)) ?_
  rintro v3 h3 c3 r3 w3 ⟨hids,hext3⟩
  have kp3:=Kp.ext (W:=fun _=>False) (h:=h) (c:=c) kp2' hext3 (by omega) (fun _ _ q=>q)
  have lr4:=Lg.extR (R:=R) (c:=c) lr3 hext3 (fun b hb u=>hUR b u)
  have lw4:=Lg.extW (W:=fun _=>False) (c:=c) lw2 hext3 (fun _ _ q=>q)
  have fr3:=hext3.fresh
  have le3:=hext3.c
  simp only at le3 fr3
  obtain⟨oi,ic,rfl⟩:=hids.val
  have hrow1:=hids.row (by rw[List.length_map,List.length_map])
  have hnr3:=bj.keepF hnr fr2 (fun b hb=>hext3.get hb (fun q=>q))
  have hst:∀i (hi:i<M.length),gV mt qs mid (M.take (i+1))=gV mt qs mid (M.take i)++(if M[i].seq∈lX mid qs then[Cj mt qs M[i]] else[]):=fun i hi=>by
   unfold gV bX
   rw[List.take_succ_eq_append_getElem hi,List.filter_append,List.map_append]
   by_cases hm:M[i].seq∈lX mid qs
   ·rw[if_pos hm,List.filter_cons_of_pos (by simpa using hm)];rfl
   ·rw[if_neg hm,List.filter_cons_of_neg (by simpa using hm)];rfl
  have hbg:dv=1048576:=rfl
  refine aq ?_
  refine Wx.cutO (fun e s=>∃(lv j10 j11 j40 j52:Value) (h':T ag) (c':Nat) (rl' wl':List Nat),e=Gj p qa dim qc k (c1+1) (el mid.length) mid.length j27 lv oi M.length ic M.length j10 j11 j40 j52/\s=⟨h',c',rl',wl'⟩/\c3<=c'/\ai h' c'/\Kp h h' c (fun _=>False)/\HL h' c3 lv (gV mt qs mid M)/\Lg c R rl'/\Lg c (fun _=>False) wl') iY ?_ ?_
  ·refine Wx.loopE (fun k1 e s=>∃(i:Nat) (z:Int) (lv j10 j11 j40 j52:Value) (h':T ag) (c':Nat) (rl' wl':List Nat),e=Gj p qa dim qc k (c1+1) (el mid.length) mid.length j27 lv oi M.length ic z j10 j11 j40 j52/\z=i/\s=⟨h',c',rl',wl'⟩/\c3<=c'/\ai h' c'/\Kp h3 h' c3 (fun _=>False)/\HL h' c3 lv (gV mt qs mid (M.take i))/\Lg c R rl'/\Lg c (fun _=>False) wl'/\i<=M.length/\k1=M.length - i) M.length (Gj p qa dim qc k (c1+1) (el mid.length) mid.length j27 (.slice none 0 0) oi M.length ic 0 top top top top) iY ?_ ?_ ?_
   ·unfold Gj
    exact eI
   ·exact⟨0,0,_,_,_,_,_,_,_,_,_,rfl,rfl,rfl,Nat.le_refl _,fr3,Kp.refl,.inl ⟨rfl,rfl⟩,az,az,by omega,rfl⟩
   ·rintro k1 e s ⟨i,z,lv,j10,j11,j40,j52,h',c',rl',wl',rfl,hz,rfl,hcc,hf',hkp,hHL,hlr,hlw,hid,rfl⟩
    unfold Gj
    by_cases hi:i<M.length
    ·have hrow':=bj.keepF hrow1 fr3 (fun b hb=>hkp b hb (fun q=>q))
     have hnr':=bj.keepF hnr3 fr3 (fun b hb=>hkp b hb (fun q=>q))
     have hgid:((M.map Rc.id).map (Value.int .i64))[i]?=some (.int .i64 M[i].id):=by
      rw[List.getElem?_map,List.getElem?_map,List.getElem?_eq_getElem hi];rfl
     obtain⟨b1,o1,sp1,cs1,rfl,hc1,hn1⟩:=bp hrow' (j:=i*1) (by omega) (by rw[Nat.mul_one];exact hgid)
     have hb1:c<=b1:=by
      rcases hids with⟨e,_⟩|⟨b',sp',cap',e,_,g,_⟩
      ·simp only[Value.slice.injEq] at e;cases e.1
      ·simp only[Value.slice.injEq,Option.some.injEq,Addr.mk.injEq] at e;rw[e.1.1];omega
     have l1:=hc1.lt hf'
     have kph:Kp h h' c (fun _=>False):=fun b hb _=>(hkp b (by omega) (fun q=>q)).trans (kp3 b hb (fun q=>q))
     have hq0:=bj.keepF hq hf (fun b hb=>kph b hb (fun q=>q))
     have q':=q.keep hf (fun b _ hb=>kph b hb (fun q=>q))
     have hp':=q'.ptr
     obtain⟨es,n,hm',⟨ids,h2k⟩,h3k⟩:=q'.ex
     obtain⟨lp',lm'⟩:=q'.lt hf'
     obtain⟨zs,hzs,hzl,hzb⟩:=q.ok M[i] (List.getElem_mem hi)
     obtain⟨v,hv1,hv2,hv3⟩:∃v,dU M[i].id es=some (.agg ⟨[v,.int .i64 M[i].seq]⟩)/\kc h' 0 v dim (zs.map (Value.int .i32))/\∀b,au v=some b->U b:=by
      rcases h3k M[i].id with⟨e1,_⟩|⟨r,v,e1,e2,w,rfl,e3,e4⟩
      ·exact absurd rfl (fk.1 e1 M[i] (List.getElem_mem hi))
      ·rw[dH q.rises (List.getElem_mem hi) rfl] at e1
       cases e1
       have e5:M[i].xs=zs.map (Value.int .i32):=by rw[hzs]
       rw[e5,List.length_map,hzl] at e3
       exact⟨w,e2,e3,fun b hb=>(e4 b hb).1⟩
     obtain⟨va,vk,rfl⟩:=hv2.val
     obtain⟨vi,hv4⟩:=iw hv1
     have hvr:=hv2.row (by rw[List.length_map];exact hzl)
     have hsi:=hst i hi
     have hhr:Cj mt qs M[i]=⟨M[i].id,cX mt qs zs⟩:=by
      have e5:M[i].xs=zs.map (Value.int .i32):=by rw[hzs]
      unfold Cj
      rw[e5,gj]
     have hl2:=hlen (M.take i)
     have hl3:(M.take i).length=i:=by rw[List.length_take];omega
     refine aq ?_
     refine Zu (aj (k:=i) ct rfl rfl hz (by omega)) ?_
     refine Zu (aB (dV rfl) rfl hc1 (by omega) hn1) ?_
     refine aq ?_
     refine Zu (bL (pk rfl) (tG rfl) rfl rfl hm' lm' h2k.ks (by rw[hv4])) ?_
     refine aq ?_
     have kA:∀b,b<c'->((h'.set c' (some (.cells [.slice none 0 0,.int .i64 0]))).set c' (some (.cells [.slice va dim vk,.int .i64 M[i].seq]))).get b=h'.get b:=fun b hb=>by rw[am (by omega),am (by omega)]
     refine ax.call rfl rfl (lM aO (CA mid qs) (bj.keepF hnr' hf' kA) (by omega) M[i].seq (fun b=>b=c1+1) (fun b hb=>by cases hb;rfl)) ?_
     rintro v5 h5 c5 r5 w5 ⟨⟨rfl,e1,e2⟩,hext5⟩
     simp only at e1 e2
     subst e1 e2
     have lr5:=Lg.extR (R:=R) (c:=c) az hext5 (fun b hb u=>by omega)
     have lw5:=Lg.extW (W:=fun _=>False) (c:=c) az hext5 (fun _ _ q=>q)
     by_cases hin:M[i].seq∈lX mid qs
     ·rw[decide_eq_true hin]
      rw[if_pos hin,hhr] at hsi
      refine aq ?_
      refine bN.call rfl rfl (gh aU aO hmt hqn hzl (bj.keepF hq0 hf' kA) (bj.keepF hvr hf' kA) hqb hzb hd R (fun b hb=>hb.elim (hqR b) (fun u=>hUR b (hv3 b u)))) ?_
      rintro v h6 c6 r6 w6 ⟨⟨rfl,e1,e2⟩,hext6⟩
      simp only at e1 e2
      subst e1 e2
      have hqt:=hext6.quiet (fun _ _ q=>q)
      have lr6:=Lg.extR (R:=R) (c:=c) az hext6 (fun _ _ q=>q)
      have lw6:=Lg.extW (W:=fun _=>False) (c:=c) az hext6 (fun _ _ q=>q)
      refine⟨i7,?_⟩
      have hfl:aF (gV mt qs mid (M.take (i+1)))=aF (gV mt qs mid (M.take i))++[.int .i64 M[i].id,.int .i64 (cX mt qs zs)]:=by rw[hsi,fg];rfl
      have hl4:(gV mt qs mid (M.take (i+1))).length=(gV mt qs mid (M.take i)).length+1:=by rw[hsi,List.length_append];rfl
      rcases hHL with⟨rfl,hnil⟩|⟨bl,rfl,hne,hbl,hbc⟩
      ·refine aq ?_
       refine Zd (cy iB lR rfl rfl (k:=0) ay.same.cel (by omega) (aA _ _ rfl) (by omega) aO) ?_
       refine aq ?_
       refine aC.go (M.length - (i+1)) (Gj p qa dim qc k (c1+1) (el mid.length) mid.length j27 _ _ M.length ic (z+1) _ _ _ _) (by omega) eI ⟨i+1,z+1,_,_,_,_,_,_,_,_,_,rfl,by omega,rfl,by omega,aO,bW,?_,az,az,by omega,rfl⟩
       refine .inr ⟨c'+2,?_,?_,by omega,?_⟩
       ·rw[hl4,hnil];rfl
       ·intro e;rw[e] at hl4;cases hl4
       ·rw[hfl,hnil];exact ay.same
      ·have l3:=hbc.lt hf'
       refine aq ?_
       refine Zd (dg iB lR rfl rfl (k:=0) ay.same.cel (by omega) (aA _ _ rfl) (by omega) (by omega) gL (by omega) (aA _ _ (cN _).symm) (all_cons rfl (all_cons rfl a7)) aO) ?_
       refine aq ?_
       refine aC.go (M.length - (i+1)) (Gj p qa dim qc k (c1+1) (el mid.length) mid.length j27 _ _ M.length ic (z+1) _ _ _ _) (by omega) eI ⟨i+1,z+1,_,_,_,_,_,_,_,_,_,rfl,by omega,rfl,by omega,aO,bW,?_,az,az,by omega,rfl⟩
       refine .inr ⟨c'+2,?_,?_,by omega,?_⟩
       ·rw[hl4]
       ·intro e;rw[e] at hl4;cases hl4
       ·rw[hfl];exact ay.same
     ·rw[decide_eq_false hin]
      rw[if_neg hin,List.append_nil] at hsi
      refine aq ?_
      refine aC.go (M.length - (i+1)) (Gj p qa dim qc k (c1+1) (el mid.length) mid.length j27 lv _ M.length ic (z+1) _ _ _ _) (by omega) eI ⟨i+1,z+1,_,_,_,_,_,_,_,_,_,rfl,by omega,rfl,by omega,aO,bW,?_,az,az,by omega,rfl⟩
      rw[hsi]
      rcases hHL with hHL|⟨bl,e1,e2,e3,e4⟩
      ·exact .inl hHL
      ·exact .inr ⟨bl,e1,e2,e3,(e4.other (by have:=e4.lt hf';omega)).other (by have:=e4.lt hf';omega)⟩
    ·refine aq ?_
     obtain rfl:i=M.length:=by omega
     subst hz
     rw[List.take_length] at hHL
     exact di.go (Gj p qa dim qc k (c1+1) (el mid.length) mid.length j27 lv oi M.length ic M.length _ _ _ _) eI ⟨_,_,_,_,_,_,_,_,_,rfl,rfl,hcc,hf',(fun b hb _=>(hkp b (by omega) (fun q=>q)).trans (kp3 b hb (fun q=>q))),hHL,az,az⟩
  ·rintro e s ⟨lv,j10,j11,j40,j52,h',c',rl',wl',rfl,rfl,hcc,hf',hkp,hHL,hlr,hlw⟩
   unfold Gj
   obtain⟨oa,rfl,hrow,hge⟩:=hHL.val
   have hl2:=hlen M
   refine aq ?_
   refine ax.call rfl rfl (ph aU rfl aO hrow hk hkk (by omega) (fun b=>c3<=b) hge) ?_
   rintro v h2 c2 r2 w2 ⟨⟨g1,g2⟩,hext2⟩
   have kp2:=Kp.ext (W:=fun _=>False) (h:=h) (c:=c) bW hext2 (by omega) (fun _ _ q=>q)
   have lr2:=Lg.extR (R:=R) (c:=c) az hext2 (fun b hb u=>by omega)
   have lw2:=Lg.extW (W:=fun _=>False) (c:=c) az hext2 (fun _ _ q=>q)
   have fr2:=hext2.fresh
   have le2:=hext2.c
   simp only at le2 fr2
   refine aq ?_
   refine⟨.inr rfl,aG.one rfl ⟨⟨g1,fun b hb=>by have:=g2 b hb;omega⟩,?_⟩⟩
   exact bM
end Go.Ab.Seat
end
