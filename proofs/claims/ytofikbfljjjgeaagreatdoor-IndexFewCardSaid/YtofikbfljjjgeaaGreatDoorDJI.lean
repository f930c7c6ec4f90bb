import Derived.Test.YtofikbfljjjgeaaGreatDoorDO7
set_option linter.unusedVariables false
set_option linter.unusedSimpArgs false
section
namespace Go.Ab.Seat
open Go.Extern Go.Proofs
set_option maxRecDepth 4000
section
variable {h:T ag}{c:Nat}{rl wl:List Nat}{p m dim:Nat}{mt:Int}{G:Gr}{U:Nat->Prop}
theorem uO (hf:ai h c) (qm:gw h p m mt dim G U) {gb lb:Nat}{l:Nat} (hl:l<5) (hg:ay h gb (.cells [.pointer (some ⟨p,0,none⟩)])) (hlb:ay h lb (.cells [.int .i64 (l:Int)])) {id:Int} (hid:∃r,aK id G.M=some r) (R:Nat->Prop) (hUR:∀b,U b->R b) (hR1:R gb) (hR2:R lb) :
  ∃r s',aE (Cs bD) eg 149 [.int .i64 id,.pointer (some ⟨gb,0,none⟩),.pointer (some ⟨lb,0,none⟩)] ⟨h,c,rl,wl⟩ r s'/\r=.bool (wW l G.L id)/\bA ⟨h,c,rl,wl⟩ s' R (fun _=>False):=by
 obtain⟨ow,q⟩:=qm
 obtain⟨r0,hr0⟩:=hid
 have hp:=q.ptr
 obtain⟨lp,lm⟩:=q.lt hf
 have hpR:=hUR p q.pU
 have hmR:=hUR m q.mU
 have l1:=hg.lt hf
 have l2:=hlb.lt hf
 obtain⟨es,n,vi,nb,vv,ls,hm,⟨ids,hk⟩,hfit,hfi,hn0,hid0⟩:=q.at hr0
 have hnb:=hn0.at_
 have lnb:=hnb.lt hf
 have rnb:=hUR nb hn0.u
 have hlk:=hn0.lk l hl
 rw[hid0] at hlk
 obtain⟨ol,cl,hlv⟩:=hlk.val
 refine Fn.go (aU 149 rfl) Kv Jf KH rfl rfl ?_
 refine cg ?_
 refine aq ?_
 refine Zd (bL (pk rfl) (tG rfl) rfl rfl hm lm hk.ks (by rw[hfi])) ?_
 refine aq ?_
 refine Zq (aY (k:=l) ld rfl rfl rfl hl) ?_
 refine Zd (aB (dV rfl) rfl hnb.cel lnb (fU hl)) ?_
 rw[hlv]
 refine aq ?_
 refine bN.call rfl rfl (vd aO l) ?_
 rintro v2 h2 c2 r2 w2 ⟨rfl,e2⟩
 cases e2
 refine⟨i7,?_⟩
 refine aq ?_
 refine⟨.inr rfl,aG.one rfl ⟨?_,bM⟩⟩
 unfold wW
 show Value.bool (decide (((G.L id l).length:Int)<(dG l:Int)))=_
 congr 1
 exact decide_eq_decide.2 (by omega)
noncomputable def Cf (l:Nat) (L:Lk) (id x:Int):Bool:=decide (x=id)||!wW l L x||decide (x∈L id l)
theorem Dv (hf:ai h c) (qm:gw h p m mt dim G U) (hml:G.M.length<=800) {ib fb gb lb:Nat}{l:Nat} (hl:l<5) {id:Int} (hib:ay h ib (.cells [.int .i64 id])) (hfb:ay h fb (.cells [.func (.func 149) #[] ⟨[.pointer (some ⟨gb,0,none⟩),.pointer (some ⟨lb,0,none⟩)]⟩])) (hg:ay h gb (.cells [.pointer (some ⟨p,0,none⟩)])) (hlb:ay h lb (.cells [.int .i64 (l:Int)])) (hid:∃r,aK id G.M=some r) {x:Int} (hx:∃r,aK x G.M=some r) (R:Nat->Prop) (hUR:∀b,U b->R b) (hR0:R ib) (hR3:R fb) (hR1:R gb) (hR2:R lb) :
  ∃r s',aE (Cs bD) eg 151 [.int .i64 x,.pointer (some ⟨ib,0,none⟩),.pointer (some ⟨fb,0,none⟩),.pointer (some ⟨gb,0,none⟩),.pointer (some ⟨lb,0,none⟩)] ⟨h,c,rl,wl⟩ r s'/\r=.bool (Cf l G.L id x)/\bA ⟨h,c,rl,wl⟩ s' R (fun _=>False):=by
 have qm0:=qm
 obtain⟨ow,q⟩:=qm
 obtain⟨r0,hr0⟩:=hid
 have hp:=q.ptr
 obtain⟨lp,lm⟩:=q.lt hf
 have hpR:=hUR p q.pU
 have hmR:=hUR m q.mU
 have l1:=hg.lt hf
 have l2:=hlb.lt hf
 have l3:=hib.lt hf
 have l4:=hfb.lt hf
 obtain⟨es,n,vi,nb,vv,ls,hm,⟨ids,hk⟩,hfit,hfi,hn0,hid0⟩:=q.at hr0
 have hnb:=hn0.at_
 have lnb:=hnb.lt hf
 have rnb:=hUR nb hn0.u
 have hlk:=hn0.lk l hl
 have ulk:=fun b hb=>(hn0.ol l hl b hb).1
 rw[hid0] at hlk
 have hlen:=q.len id l
 obtain⟨ol,cl,hlv⟩:=hlk.val
 rw[hlv] at hlk ulk
 refine Fn.go (aU 151 rfl) I6 Lu LD rfl rfl ?_
 refine cg ?_
 unfold Cf
 by_cases hxi:x=id
 ·refine aq ?_
  refine⟨.inr rfl,aG.one rfl ⟨?_,bM⟩⟩
  rw[decide_eq_true hxi];rfl
 refine aq ?_
 refine bN.callV rfl rfl rfl (uO aO qm0 hl hg hlb hx R hUR hR1 hR2) ?_
 rintro v1 h1 c1 r1 w1 ⟨rfl,hext1⟩
 have fr1:=hext1.fresh
 have le1:=hext1.c
 simp only at fr1 le1
 have hq1:=hext1.quiet (fun _ _ q=>q)
 have lr1:=Lg.extR (R:=R) (c:=c) az hext1 (fun _ _ q=>q)
 have lw1:=Lg.extW (W:=fun _=>False) (c:=c) az hext1 (fun _ _ q=>q)
 have k1:∀b,b<c->h1.get b=h.get b:=fun b hb=>hext1.h b hb (fun q=>q)
 have kp1:Kp h h1 c (fun _=>False):=fun b hb _=>k1 b hb
 refine⟨i7,?_⟩
 rw[decide_eq_false hxi]
 cases hmx:wW l G.L x
 ·refine aq ?_
  exact⟨.inr rfl,aG.one rfl ⟨rfl,bM⟩⟩
 ·have hp1:ay h1 p _:=(k1 p lp).trans hp
  have hm1:ay h1 m _:=(k1 m lm).trans hm
  have hg1:ay h1 gb _:=(k1 gb l1).trans hg
  have hlb1:ay h1 lb _:=(k1 lb l2).trans hlb
  have hib1:ay h1 ib _:=(k1 ib l3).trans hib
  have hnb1:ay h1 nb _:=(k1 nb lnb).trans hnb
  refine aq ?_
  refine Zd (bL (pk rfl) (tG rfl) rfl rfl hm1 (by omega) hk.ks (by rw[hfi])) ?_
  refine aq ?_
  refine Zq (aY (k:=l) ld rfl rfl rfl hl) ?_
  refine Zd (aB (dV rfl) rfl hnb1.cel (by omega) (fU hl)) ?_
  rw[hlv]
  refine aq ?_
  refine bN.call rfl rfl (lM aO rfl (bj.keepF hlk.row hf (fun b hb=>k1 b hb)) (by omega) x R (fun b hb=>hUR b (ulk b hb))) ?_
  rintro v2 h2 c2 r2 w2 ⟨⟨rfl,e1,e2⟩,hext2⟩
  simp only at e1 e2
  subst e1 e2
  have hq2:=hext2.quiet (fun _ _ q=>q)
  have lr2:=Lg.extR (R:=R) (c:=c) az hext2 (fun _ _ q=>q)
  have lw2:=Lg.extW (W:=fun _=>False) (c:=c) az hext2 (fun _ _ q=>q)
  refine⟨i7,?_⟩
  refine aq ?_
  refine⟨.inr rfl,aG.one rfl ⟨?_,bM⟩⟩
  simp
  rfl
end
end Go.Ab.Seat
end
section
namespace Go.Ab.Seat
open Go.Extern Go.Proofs
set_option maxRecDepth 4000
def lI (h:T ag) (c0:Nat) (v:Value) (l:List Int):Prop:=(v=.slice none 0 0/\l=[])\/(∃b,v=.slice (some ⟨b,0,none⟩) 0 0/\l=[]/\c0<=b)\/∃b,v=.slice (some ⟨b,0,some 1⟩) l.length l.length/\l≠[]/\c0<=b/\ay h b (.cells (l.map (Value.int .i64)))
theorem lI.val {h:T ag}{c:Nat}{v:Value}{l:List Int} (x:lI h c v l):∃oa,v=.slice oa l.length l.length/\bj h v l.length 1 (l.map (Value.int .i64))/\∀b,au v=some b->c<=b:=by
 rcases x with⟨rfl,rfl⟩|⟨b,rfl,rfl,h1⟩|⟨b,rfl,_,h1,h2⟩
 ·exact⟨_,rfl,.inl ⟨rfl,rfl,_,_,rfl⟩,fun b hb=>by cases hb⟩
 ·exact⟨_,rfl,.inl ⟨rfl,rfl,_,_,rfl⟩,fun b hb=>by cases hb;exact h1⟩
 ·exact⟨_,rfl,.inr ⟨b,0,_,_,_,rfl,h2.cel,aA _ _ (by rw[List.length_map,Nat.mul_one])⟩,fun b hb=>by cases hb;exact h1⟩
theorem lI.keep {h h':T ag}{c:Nat}{v:Value}{l:List Int} (x:lI h c v l) (k:∀b,au v=some b->l≠[]->h'.get b=h.get b):lI h' c v l:=by
 rcases x with x|x|⟨b,rfl,x1,x2,x3⟩
 ·exact .inl x
 ·exact .inr (.inl x)
 ·exact .inr (.inr ⟨b,rfl,x1,x2,(k b rfl x1).trans x3⟩)
section
variable {h:T ag}{c:Nat}{rl wl:List Nat}
theorem p9 (hf:ai h c) {oa:Option Addr}{cap:Nat}{l:List Int} (hx:bj h (.slice oa l.length cap) l.length 1 (l.map (Value.int .i64))) (hz:oa=none->cap=0/\l=[]) (hn:l.length<=1000) (R:Nat->Prop) (hR:∀b,au (.slice oa l.length cap)=some b->R b) :
  ∃r s',aE (Cs bD) eg 81 [.slice oa l.length cap] ⟨h,c,rl,wl⟩ r s'/\lI s'.h c r l/\bA ⟨h,c,rl,wl⟩ s' R (fun _=>False):=by
 have hbg:dv=1048576:=rfl
 refine Fn.go (aU 81 rfl) Np NO OT rfl rfl ?_
 refine cg ?_
 cases oa with
 |none =>
  obtain⟨rfl,rfl⟩:=hz rfl
  refine aq ?_
  exact⟨.inr rfl,aG.one rfl ⟨.inl ⟨rfl,rfl⟩,bM⟩⟩
 |some a =>
  obtain⟨ab,ao,asp⟩:=a
  by_cases h0:l=[]
  ·subst h0
   refine aq ?_
   refine Zu (nJ ik m7 rfl rfl (by omega)) ?_
   refine aq ?_
   exact⟨.inr rfl,aG.one rfl ⟨.inr (.inl ⟨c,rfl,rfl,Nat.le_refl _⟩),bM⟩⟩
  ·obtain⟨n,hl⟩:∃n,l.length=n+1:=⟨l.length - 1,by have:l.length≠0:=fun e=>h0 (List.length_eq_zero_iff.1 e);omega⟩
   rcases hx with⟨e0,_⟩|⟨b,o,sp,cap',cs,e1,e2,e3⟩
   ·omega
   simp only[Value.slice.injEq,Option.some.injEq,Addr.mk.injEq] at e1
   obtain⟨⟨rfl,rfl,rfl⟩,_,rfl⟩:=e1
   have lb:=e2.lt hf
   have rb:=hR ab rfl
   rw[hl] at e3 ⊢
   refine aq ?_
   refine Zu (l9 ik m7 rfl rfl (e2.other (by omega)) (by omega) e3 (by omega) aO) ?_
   refine aq ?_
   exact⟨.inr rfl,aG.one rfl ⟨.inr (.inr ⟨c+1,by rw[hl];rfl,h0,by omega,ay.same⟩),bM⟩⟩
def Ge:List Nat:=[0,1,4,5,6,7,12,19,29]
set_option maxHeartbeats 8000000 in
theorem CS (hf:ai h c) {c0 f:Nat}{v:Value}{l:List Int}{caps:List Value} (P:Int->Bool) (hx:lI h c0 v l) (hn:l.length<=1000) (R:Nat->Prop) (hR:∀b,au v=some b->R b)
  (hcl:∀(h':T ag) (c':Nat) (rl' wl':List Nat),ai h' c'->c<=c'->Kp h h' c (fun b=>au v=some b)->∀x∈l,∃r s',aE (Cs bD) eg f (.int .i64 x::caps) ⟨h',c',rl',wl'⟩ r s'/\r=.bool (P x)/\bA ⟨h',c',rl',wl'⟩ s' R (fun _=>False)) :
  ∃r s',aE (Cs bD) eg 150 [v,.func (.func f) #[] ⟨caps⟩] ⟨h,c,rl,wl⟩ r s'/\((∃oa cap,r=.slice oa (l.filter fun x=>!P x).length cap/\(l.filter fun x=>!P x).length<=cap)/\bj s'.h r (l.filter fun x=>!P x).length 1 ((l.filter fun x=>!P x).map (Value.int .i64))/\∀b,au r=some b->au v=some b)/\bA ⟨h,c,rl,wl⟩ s' R (fun b=>au v=some b):=by
 have hbg:dv=1048576:=rfl
 have hx0:=hx
 obtain⟨oa,rfl,hrow,hcb⟩:=hx.val
 refine Fn.go (aU 150 rfl) LY Jr KR rfl rfl ?_
 refine cg ?_
 refine aq ?_
 refine ax.call rfl rfl (uq aO P hrow (by omega) R hR (fun h' c' rl' wl' f' hc' k' x hx=>hcl h' c' rl' wl' f' hc' (fun b hb _=>k' b hb (fun q=>q)) x hx)) ?_
 rintro v1 h1 c1 r1 w1 ⟨hix,hext1⟩
 have fr1:=hext1.fresh
 have le1:=hext1.c
 simp only at fr1 le1
 have kp1:=Kp.ext (W:=fun b=>au (.slice oa l.length l.length)=some b) (h:=h) (c:=c) bW hext1 (by omega) (fun _ _ q=>q.elim)
 have lr1:=Lg.extR (R:=R) (c:=c) az hext1 (fun _ _ q=>q)
 have lw1:=Lg.extW (W:=fun b=>au (.slice oa l.length l.length)=some b) (c:=c) az hext1 (fun _ _ q=>q.elim)
 rcases hix with⟨i0,x0,hi0,hP0,hPn,rfl⟩|⟨rfl,hno⟩
 rotate_left
 ·have hfl:l.filter (fun x=>!P x)=l:=List.filter_eq_self.2 fun x hx=>by rw[hno x hx];rfl
  rw[hfl]
  refine aq ?_
  exact⟨.inr rfl,aG.one rfl ⟨⟨⟨_,_,rfl,Nat.le_refl _⟩,bj.keepF hrow hf (fun b hb=>hext1.h b hb (fun q=>q)),fun b hb=>hb⟩,bM⟩⟩
 obtain⟨hi0l,hi0x⟩:=List.getElem?_eq_some_iff.1 hi0
 rcases hx0 with⟨e,rfl⟩|⟨_,_,rfl,_⟩|⟨b,e,hne,hcb0,hB⟩
 ·cases hi0l
 ·cases hi0l
 simp only[Value.slice.injEq] at e
 obtain⟨rfl,_,_⟩:=e
 have lb:=hB.lt hf
 have rb:=hR b rfl
 have hB1:ay h1 b _:=hext1.hs hB lb (fun q=>q)
 have hFt:(l.take i0).filter (fun x=>!P x)=l.take i0:=List.filter_eq_self.2 fun x hx=>by rw[hPn x hx];rfl
 have hF1:(l.take (i0+1)).filter (fun x=>!P x)=l.take i0:=by
  rw[List.take_succ_eq_append_getElem hi0l,List.filter_append,hFt,hi0x,List.filter_cons,hP0];simp
 have hlt:(l.take i0).length=i0:=by rw[List.length_take];omega
 refine aq ?_
 refine Wx.loopF (fun k1 e s=>∃(g:Nat->Value) (j:Nat) (zi z:Int) (Mid:List Int) (h':T ag) (c':Nat) (rl' wl':List Nat),e=fr g [(0,.slice (some ⟨b,0,some 1⟩) l.length l.length),(1,.func (.func f) #[] ⟨caps⟩),(5,.int .i64 zi),(6,.int .i64 z)] Ge/\z=j/\zi=(((l.take j).filter (fun x=>!P x)).length:Nat)/\s=⟨h',c',rl',wl'⟩/\c<=c'/\ai h' c'/\Kp h h' c (fun b'=>au (.slice (some ⟨b,0,some 1⟩) l.length l.length)=some b')/\ay h' b (.cells (((l.take j).filter (fun x=>!P x)++Mid++l.drop j).map (Value.int .i64)))/\((l.take j).filter (fun x=>!P x)).length+Mid.length=j/\0<Mid.length/\Lg c R rl'/\Lg c (fun b'=>au (.slice (some ⟨b,0,some 1⟩) l.length l.length)=some b') wl'/\j<=l.length/\k1=l.length - j) (l.length - (i0+1)) Ge [(0,_),(1,_),(5,.int .i64 (i0:Int)),(6,.int .i64 ((i0:Int)+1))] ⟨_,i0+1,_,_,[x0],_,_,_,_,rfl,by omega,by rw[hF1,hlt],rfl,le1,fr1,kp1,by rw[hF1,<- hi0x,<- List.take_succ_eq_append_getElem hi0l,List.take_append_drop];exact hB1,by rw[hF1,hlt];rfl,by simp,lr1,lw1,by omega,rfl⟩ ?_
 rintro k1 e s ⟨g,j,zi,z,Mid,h',c',rl',wl',rfl,hz,hzi,rfl,hcc,hf',hkp,hB',hMl,hM0,hlr,hlw,hid,rfl⟩
 (refine Wx.sw (by simp only[Ge,i5,i6,dC,dB,Nat.reduceEqDiff,↓reduceIte];rfl) ?_)
 have hcl2:(((l.take j).filter (fun x=>!P x)++Mid++l.drop j).map (Value.int .i64)).length=l.length:=by rw[List.length_map,List.length_append,List.length_append,List.length_drop];omega
 by_cases hj:j<l.length
 rotate_left
 ·obtain rfl:j=l.length:=by omega
  rw[List.take_length] at hzi hMl
  rw[List.take_length,List.drop_length,List.append_nil] at hB'
  generalize hFF:l.filter (fun x=>!P x)=FF at hzi hMl hB'
  refine aq ?_
  refine Zu (aZ (k:=FF.length) ct rfl rfl hzi (by omega) (by omega)) ?_
  obtain⟨m',hm'⟩:∃m',l.length - FF.length=m'+1:=⟨l.length - FF.length - 1,by omega⟩
  rw[hm']
  have hsm:bw (rep [Value.int .i64 0] (m'+1)) ((FF++Mid).map (Value.int .i64)) (0+FF.length*1)=some (FF.map (Value.int .i64)++rep [Value.int .i64 0] (m'+1)):=by
   have hr:(rep [Value.int .i64 0] (m'+1)).length=m'+1:=by rw[dT];simp
   rw[cz _ _ _ (by rw[hr,List.length_map,List.length_append];omega) (fun x hx=>by
    have:∀n,∀x∈rep [Value.int .i64 0] n,atom x=true:=by
     intro n
     induction n with
     |zero=>intro x hx;cases hx
     |succ n ih =>
      intro x hx
      rcases List.mem_cons.1 (show x∈Value.int .i64 0::rep [Value.int .i64 0] n from hx) with rfl|hx
      ·rfl
      ·exact ih x hx
    exact this _ x hx),hr,List.map_append]
   congr 1
   rw[Nat.zero_add,Nat.mul_one,List.take_left' (by rw[List.length_map]),List.drop_of_length_le (by rw[List.length_append,List.length_map,List.length_map];omega),List.append_nil]
  refine ax.st0 (tm ik rfl hB' (by omega) hsm) ?_
  refine aq ?_
  refine Zu (cD (k:=FF.length) ct rfl rfl hzi (by omega) (fun a ha=>by cases ha;exact .inr rfl)) ?_
  refine aq ?_
  refine⟨.inr rfl,aG.one rfl ⟨⟨⟨_,_,rfl,by omega⟩,.inr ⟨b,0,_,_,_,rfl,ay.same.cel,?_⟩,fun b' hb=>hb⟩,bM⟩⟩
  rw[Nat.mul_one]
  refine(dP (a:=FF.length) (b:=m'+1) (y:=rep [Value.int .i64 0] (m'+1)) (aA _ _ ?_) (by rw[List.length_map])).1
  rw[List.length_append,List.length_map,dT];simp
 have hdr:l.drop j=l[j]::l.drop (j+1):=List.drop_eq_getElem_cons hj
 have hnj:cu (((l.take j).filter (fun x=>!P x)++Mid++l.drop j).map (Value.int .i64)) (0+j*1)=some (.int .i64 l[j]):=by
  rw[b8,Nat.zero_add,Nat.mul_one,List.getElem?_map,List.getElem?_append_right (by rw[List.length_append];omega),List.length_append,show j - (((l.take j).filter (fun x=>!P x)).length+Mid.length)=0 by omega,hdr]
  rfl
 have hFs:(l.take (j+1)).filter (fun x=>!P x)=(l.take j).filter (fun x=>!P x)++(if P l[j]=true then[] else[l[j]]):=by
  rw[List.take_succ_eq_append_getElem hj,List.filter_append,List.filter_cons]
  cases P l[j]<;>simp
 generalize hFF:(l.take j).filter (fun x=>!P x)=FF at hzi hMl hB' hFs hnj hcl2
 have lb':=hB'.lt hf'
 refine aq ?_
 refine Zu (aj (k:=j) ct rfl rfl hz (by omega)) ?_
 refine Zu (aB (dV rfl) rfl hB'.cel lb' hnj) ?_
 refine aq ?_
 refine ax.callV rfl rfl rfl (hcl _ _ _ _ aO hcc hkp l[j] (List.getElem_mem hj)) ?_
 rintro v3 h3 c3 r3 w3 ⟨rfl,hext3⟩
 have fr3:=hext3.fresh
 have le3:=hext3.c
 simp only at fr3 le3
 have kp3:=Kp.ext (W:=fun b'=>au (.slice (some ⟨b,0,some 1⟩) l.length l.length)=some b') (h:=h) (c:=c) hkp hext3 (by omega) (fun _ _ q=>q.elim)
 have lr3:=Lg.extR (R:=R) (c:=c) az hext3 (fun _ _ q=>q)
 have lw3:=Lg.extW (W:=fun b'=>au (.slice (some ⟨b,0,some 1⟩) l.length l.length)=some b') (c:=c) az hext3 (fun _ _ q=>q.elim)
 have hB3:=hext3.hs hB' lb' (fun q=>q)
 cases hP:P l[j]
 ·rw[hP] at hFs
  simp only[Bool.false_eq_true,if_false] at hFs
  obtain⟨m0,Mid',rfl⟩:∃m0 Mid',Mid=m0::Mid':=by cases Mid with|nil=>simp at hM0|cons a b=>exact⟨a,b,rfl⟩
  have hsm:bw [Value.int .i64 l[j]] ((FF++m0::Mid'++l.drop j).map (Value.int .i64)) (0+FF.length*1)=some ((FF++[l[j]]++(Mid'++[l[j]])++l.drop (j+1)).map (Value.int .i64)):=by
   have e0:FF++m0::Mid'++l.drop j=FF++(m0::(Mid'++l.drop j)):=by simp
   rw[cz _ _ _ (by rw[hcl2];simp;omega) (all_cons rfl a7),e0]
   congr 1
   rw[Nat.zero_add,Nat.mul_one,List.map_append,List.map_cons,List.take_left' (by rw[List.length_map]),List.drop_append,List.length_map,List.drop_of_length_le (by rw[List.length_map];simp)]
   have e1:FF.length+[Value.int .i64 l[j]].length - FF.length=1:=by simp
   rw[e1,hdr]
   simp
  refine aq ?_
  refine Zu (aj (k:=FF.length) ct rfl rfl hzi (by simp only[List.length_cons] at hMl;omega)) ?_
  ((with_reducible apply ax.so);rfl;exact(uc rfl);rfl;exact hB3;omega;refine wC ?_;refine⟨_,_,(by(first|exact a8 _|rfl)),rfl,hsm,?_⟩)
  refine aq ?_
  refine aC.goF (l.length - (j+1)) Ge [(0,_),(1,_),(5,.int .i64 (zi+1)),(6,.int .i64 (z+1))] (by omega) ⟨_,j+1,_,_,Mid'++[l[j]],_,_,_,_,rfl,by omega,by rw[hFs,List.length_append];simp;omega,rfl,by omega,aO,bW,by rw[hFs];exact ay.same,by rw[hFs,List.length_append,List.length_append];simp only[List.length_cons,List.length_nil] at hMl ⊢;omega,by rw[List.length_append];simp,az,az,by omega,rfl⟩
 ·rw[hP] at hFs
  simp only[if_true,List.append_nil] at hFs
  refine aq ?_
  refine aC.goF (l.length - (j+1)) Ge [(0,_),(1,_),(5,.int .i64 zi),(6,.int .i64 (z+1))] (by omega) ⟨_,j+1,_,_,Mid++[l[j]],_,_,_,_,rfl,by omega,by rw[hFs];exact hzi,rfl,by omega,fr3,kp3,?_,by rw[hFs,List.length_append];simp only[List.length_cons,List.length_nil];omega,by rw[List.length_append];simp,lr3,lw3,by omega,rfl⟩
  rw[hFs,show FF++(Mid++[l[j]])++l.drop (j+1)=FF++Mid++l.drop j by rw[hdr];simp]
  exact hB3
end
end Go.Ab.Seat
end
section
namespace Go.Ab.Seat
open Go.Extern Go.Proofs
set_option maxRecDepth 4000
theorem q8 {k:Nat} (hk:1<=k) {l:List Ht}{x:Ht}:l≠[]\/True->eu k l x≠[]:=by
 intro _ h
 unfold eu at h
 split at h
 ·rename_i ha
  rw[h] at ha
  simp at ha
 ·split at h
  ·rename_i hle
   rw[h] at hle
   simp [iH] at hle
   omega
  ·have:=congrArg List.length h
   rw[List.length_take,List.length_append,List.length_cons] at this
   simp at this
   omega
theorem DE {k:Nat} (hk:1<=k) {l:List Ht} (h:l≠[]):aQ k l≠[]:=by
 obtain⟨i,x,rfl⟩:∃i x,l=i++[x]:=⟨l.dropLast,l.getLast h,(List.dropLast_concat_getLast h).symm⟩
 unfold aQ
 rw[List.foldl_append]
 exact q8 hk (.inr trivial)
theorem Fi {mt:Int}{M:List Rc}{id:Int}{l:List Int} (h:l≠[]):fM mt M id l≠[]:=by
 unfold fM
 intro e
 rw[List.map_eq_nil_iff] at e
 refine DE ?_ ?_ e
 ·have:l.length≠0:=fun q=>h (List.length_eq_zero_iff.1 q)
  omega
 ·exact fun q=>h (List.map_eq_nil_iff.1 q)
def IT:List Nat:=[0,1,2,3,5,6,8,9,11,12,13,14,28]
set_option maxHeartbeats 16000000 in
theorem DK {h:T ag}{c:Nat}{rl wl:List Nat} (hf:ai h c) {p m dim:Nat}{mt:Int}{G:Gr}{U:Nat->Prop} (qm:gw h p m mt dim G U) (hmt:mt=1\/mt=2) (hd:dim<=1000) (hml:G.M.length<=800) {l:Nat} (hl:l<5) {oa:Option Addr}{cap:Nat}{xs:List Int} (hx:bj h (.slice oa xs.length cap) xs.length 1 (xs.map (Value.int .i64))) (hz:oa=none->cap=0/\xs=[]) (hxm:∀x∈xs,∃r,aK x G.M=some r) (hxn:xs.length<=800) (hxU:xs≠[]->∀b,au (.slice oa xs.length cap)=some b->¬U b) (R:Nat->Prop) (hUR:∀b,U b->R b) (hR:∀b,au (.slice oa xs.length cap)=some b->R b) :
  ∃r s',aE (Cs bD) eg 83 [.pointer (some ⟨p,0,none⟩),.slice oa xs.length cap,.int .i64 (l:Int)] ⟨h,c,rl,wl⟩ r s'/\gw s'.h p m mt dim ⟨G.M,Ed mt G.M l G.L xs⟩ (fun b=>U b\/c<=b/\b<s'.c)/\bA ⟨h,c,rl,wl⟩ s' R U:=by
 have hbg:dv=1048576:=rfl
 refine Fn.go (aU 83 rfl) NY Pc MR rfl rfl ?_
 refine cg ?_
 refine aq ?_
 refine Wx.loopF (fun k1 e s=>∃(g:Nat->Value) (i:Nat) (z:Int) (h':T ag) (c':Nat) (rl' wl':List Nat),e=fr g [(1,.slice oa xs.length cap),(3,.pointer (some ⟨c,0,none⟩)),(5,.pointer (some ⟨c+1,0,none⟩)),(6,.pointer (some ⟨c+2,0,none⟩)),(11,.slice oa xs.length cap),(12,.int .i64 (xs.length:Int)),(13,.int .i64 z)] IT/\z=i/\s=⟨h',c',rl',wl'⟩/\c+3<=c'/\ai h' c'/\Kp h h' c U/\ay h' c (.cells [.pointer (some ⟨p,0,none⟩)])/\ay h' (c+1) (.cells [.int .i64 (l:Int)])/\ay h' (c+2) (.cells [.func (.func 149) ⟨[]⟩ ⟨[.pointer (some ⟨c,0,none⟩),.pointer (some ⟨c+1,0,none⟩)]⟩])/\gw h' p m mt dim ⟨G.M,(xs.take i).foldl (mend1 mt G.M l xs) G.L⟩ (fun b=>(U b/\b<c)\/c+3<=b/\b<c')/\Lg c R rl'/\Lg c U wl'/\i<=xs.length/\k1=xs.length - i) xs.length IT [(1,_),(3,_),(5,_),(6,_),(11,_),(12,_),(13,.int .i64 0)] ⟨_,0,0,_,_,_,_,rfl,rfl,rfl,by omega,aO,bW,gL,gL,ay.same,((qm.low hf).wide hf (fun b hb=>.inl hb)).keep hf (fun b hb hc=>by rw[am (by omega),am (by omega),am (by omega),am (by omega)]),az,az,by omega,rfl⟩ ?_
 rintro k1 e s ⟨g,i,z,h',c',rl',wl',rfl,hz1,rfl,hcc,hf',hkp,hA,hB,hC,qm',hlr,hlw,hid,rfl⟩
 (refine Wx.sw (by simp only[IT,i5,i6,dC,dB,Nat.reduceEqDiff,↓reduceIte];rfl) ?_)
 by_cases hi:i<xs.length
 rotate_left
 ·refine aq ?_
  obtain rfl:i=xs.length:=by omega
  rw[List.take_length] at qm'
  exact⟨.inl rfl,aG.nil ⟨qm'.wide hf' (fun b hb=>hb.imp (fun q=>q.1) (fun q=>⟨by omega,q.2⟩)),bM⟩⟩
 have hst:=eX (mend1 mt G.M l xs) G.L hi
 have hxsm:=hxm _ (List.getElem_mem hi)
 generalize hLi:(xs.take i).foldl (mend1 mt G.M l xs) G.L=Li at qm' hst
 have lc:=hA.lt hf'
 have Mh:=hB.lt hf'
 have Mz:=hC.lt hf'
 have hrow':bj h' (.slice oa xs.length cap) xs.length 1 (xs.map (Value.int .i64)):=by
  rcases hx with hx|⟨b,o,sp,cap',cs,e1,e2,e3⟩
  ·exact .inl hx
  ·refine .inr ⟨b,o,sp,cap',cs,e1,?_,e3⟩
   have hb:=hxU (fun q=>by rw[q] at hi;cases hi) b (by rw[e1];rfl)
   have lb:=e2.lt hf
   exact e2.imp (hkp b lb hb).trans (Or.imp (hkp b lb hb).trans (hkp b lb hb).trans)
 obtain⟨b1,o1,sp1,cs1,rfl,hc1,hn1⟩:=bp hrow' (j:=i*1) (by omega) (fi (List.getElem?_eq_getElem hi))
 have l1:=hc1.lt hf'
 have r1:=hR b1 rfl
 have lb1:b1<c:=by
  rcases hx with⟨e0,_⟩|⟨b,o,sp,cap',cs,e1,e2,e3⟩
  ·omega
  ·simp only[Value.slice.injEq,Option.some.injEq,Addr.mk.injEq] at e1
   rw[e1.1.1];exact e2.lt hf
 refine aq ?_
 refine Zu (aj (k:=i) ct rfl rfl hz1 (by omega)) ?_
 refine Zu (aB (dV rfl) rfl hc1 (by omega) hn1) ?_
 refine aq ?_
 have kA:∀b,b<c'->((h'.set c' (some (.cells [.int .i64 0]))).set c' (some (.cells [.int .i64 xs[i]]))).get b=h'.get b:=fun b hb=>(am (by omega)).trans (am (by omega))
 refine ax.call rfl rfl (p9 aO (bj.keepF hrow' hf' (fun b hb=>kA b hb)) (fun e=>by cases e) (by omega) R hR) ?_
 rintro v2 h2 c2 r2 w2 ⟨hcr,hext2⟩
 have fr2:=hext2.fresh
 have le2:=hext2.c
 simp only at fr2 le2
 have kp2:=Kp.ext (W:=U) (h:=h) (c:=c) bW hext2 (by omega) (fun b hb q=>q.elim)
 have lr2:=Lg.extR (R:=R) (c:=c) az hext2 (fun b hb q=>q)
 have lw2:=Lg.extW (W:=U) (c:=c) az hext2 (fun b hb q=>q.elim)
 have kB:∀b,b<c'->h2.get b=h'.get b:=fun b hb=>(hext2.h b (by show b<c'+1;omega) (fun q=>q)).trans (kA b hb)
 have hI2:ay h2 c' (.cells [.int .i64 xs[i]]):=hext2.hs ay.same (by omega) (fun q=>q)
 have hA2:ay h2 c _:=(kB c lc).trans hA
 have hB2:ay h2 (c+1) _:=(kB _ Mh).trans hB
 have hC2:ay h2 (c+2) _:=(kB _ Mz).trans hC
 have q2:gw h2 p m mt dim ⟨G.M,Li⟩ (fun b=>(U b/\b<c)\/c+3<=b/\b<c'):=qm'.keep hf' (fun b _ hb=>kB b hb)
 refine aq ?_
 have hUR':∀b,((U b/\b<c)\/c+3<=b/\b<c')->c<=b\/R b:=fun b q=>q.elim (fun q=>.inr (hUR b q.1)) (fun q=>.inl (by omega))
 refine ax.call rfl rfl (CS aO (Cf l Li xs[i]) hcr (by omega) (fun b=>c<=b\/R b) (fun b hb=>.inl (by obtain⟨_,_,_,g⟩:=hcr.val;have:=g b hb;omega)) (fun h' c'' rl' wl' f' hc' k' x hx=>by
  have kk:∀b,b<c'+1->h'.get b=h2.get b:=fun b hb=>k' b (by omega) (fun q=>by obtain⟨_,_,_,g⟩:=hcr.val;have:=g b q;omega)
  exact Dv f' (q2.keep (hf'.up (Nat.le_succ c') |> fun _=>fr2) (fun b hu _=>kk b (by rcases hu with u|u<;>omega))) hml hl ((kk _ (by omega)).trans hI2) ((kk _ (by omega)).trans hC2) ((kk _ (by omega)).trans hA2) ((kk _ (by omega)).trans hB2) hxsm (hxm x hx) (fun b=>c<=b\/R b) hUR' (.inl (by omega)) (.inl (by omega)) (.inl (by omega)) (.inl (by omega)))) ?_
 have hclb:∀b,au v2=some b->c'+1<=b:=fun b hb=>by obtain⟨_,_,_,g⟩:=hcr.val;exact g b hb
 rintro v3 h3 c3 r3 w3 ⟨⟨⟨o3,k3,rfl,hk3⟩,hrw3,hb3⟩,hext3⟩
 have fr3:=hext3.fresh
 have le3:=hext3.c
 simp only at fr3 le3 hrw3
 have kp3:=Kp.ext (W:=U) (h:=h) (c:=c) kp2 hext3 (by omega) (fun b hb q=>by have:=hclb b q;omega)
 have lr3:=Lg.extR (R:=R) (c:=c) az hext3 (fun b hb q=>q.elim (fun q=>by omega) (fun q=>q))
 have lw3:=Lg.extW (W:=U) (c:=c) az hext3 (fun b hb q=>by have:=hclb b q;omega)
 have kC:∀b,b<c'+1->h3.get b=h2.get b:=fun b hb=>hext3.h b (by show b<c2;omega) (fun q=>by have:=hclb b q;omega)
 have hI3:ay h3 c' _:=(kC c' (by omega)).trans hI2
 have hA3:ay h3 c _:=(kC c (by omega)).trans hA2
 have hB3:ay h3 (c+1) _:=(kC _ (by omega)).trans hB2
 have hC3:ay h3 (c+2) _:=(kC _ (by omega)).trans hC2
 have q3:gw h3 p m mt dim ⟨G.M,Li⟩ (fun b=>(U b/\b<c)\/c+3<=b/\b<c'):=q2.keep fr2 (fun b hu hb=>kC b (by rcases hu with u|u<;>omega))
 have hoth:xs.filter (fun x=>!Cf l Li xs[i] x)=fw l Li xs xs[i]:=rfl
 rw[hoth] at hrw3 hk3 ⊢
 have hom:∀x∈fw l Li xs xs[i],∃r,aK x G.M=some r:=fun x hx=>hxm x (List.mem_filter.1 hx).1
 have hol:(fw l Li xs xs[i]).length<=xs.length:=List.length_filter_le _ _
 refine aq ?_
 refine ax.callV rfl rfl rfl (uO aO q3 hl hA3 hB3 hxsm (fun b=>c<=b\/R b) hUR' (.inl (by omega)) (.inl (by omega))) ?_
 rintro v4 h4 c4 r4 w4 ⟨rfl,hext4⟩
 have fr4:=hext4.fresh
 have le4:=hext4.c
 simp only at fr4 le4
 have kp4:=Kp.ext (W:=U) (h:=h) (c:=c) kp3 hext4 (by omega) (fun b hb q=>q.elim)
 have lr4:=Lg.extR (R:=R) (c:=c) az hext4 (fun b hb q=>q.elim (fun q=>by omega) (fun q=>q))
 have lw4:=Lg.extW (W:=U) (c:=c) az hext4 (fun b hb q=>q.elim)
 have kD:∀b,b<c3->h4.get b=h3.get b:=fun b hb=>hext4.h b hb (fun q=>q)
 have hI4:ay h4 c' _:=(kD c' (by omega)).trans hI3
 have hA4:ay h4 c _:=(kD c (by omega)).trans hA3
 have hB4:ay h4 (c+1) _:=(kD _ (by omega)).trans hB3
 have hC4:ay h4 (c+2) _:=(kD _ (by omega)).trans hC3
 have q4:gw h4 p m mt dim ⟨G.M,Li⟩ (fun b=>(U b/\b<c)\/c+3<=b/\b<c'):=q3.keep fr3 (fun b hu hb=>kD b hb)
 have hrw4:=bj.keepF hrw3 fr3 (fun b hb=>kD b hb)
 -- nothing is linked
 have stay:∀g':Nat->Value,mend1 mt G.M l xs Li xs[i]=Li->gw h4 p m mt dim ⟨G.M,(xs.take (i+1)).foldl (mend1 mt G.M l xs) G.L⟩ (fun b=>(U b/\b<c)\/c+3<=b/\b<c4):=fun _ e=>by
  rw[hst,e]
  exact q4.wide fr4 (fun b hb=>hb.imp (fun q=>q) (fun q=>⟨q.1,by omega⟩))
 cases hmay:wW l Li xs[i]
 ·refine aq ?_
  exact aC.goF (xs.length - (i+1)) IT [(1,_),(3,_),(5,_),(6,_),(11,_),(12,_),(13,.int .i64 (z+1))] (by omega) ⟨_,i+1,z+1,_,_,_,_,rfl,by omega,rfl,by omega,fr4,kp4,hA4,hB4,hC4,stay (fun _=>top) (by unfold mend1;rw[hmay,if_neg (by decide)]),lr4,lw4,by omega,rfl⟩
 refine aq ?_
 by_cases ho:fw l Li xs xs[i]=[]
 ·rw[decide_eq_false (show ¬((0:Int)<((fw l Li xs xs[i]).length:Int)) by rw[ho];simp)]
  refine aq ?_
  exact aC.goF (xs.length - (i+1)) IT [(1,_),(3,_),(5,_),(6,_),(11,_),(12,_),(13,.int .i64 (z+1))] (by omega) ⟨_,i+1,z+1,_,_,_,_,rfl,by omega,rfl,by omega,fr4,kp4,hA4,hB4,hC4,stay (fun _=>top) (by unfold mend1;rw[hmay,if_pos rfl,ho];rfl),az,az,by omega,rfl⟩
 have hol0:(fw l Li xs xs[i]).length≠0:=fun e=>ho (List.length_eq_zero_iff.1 e)
 rw[decide_eq_true (show ((0:Int)<((fw l Li xs xs[i]).length:Int)) by omega)]
 refine aq ?_
 refine bN.call rfl rfl (pY aO q4 hmt hd hxsm hrw4 hom (by omega) (fun b=>c<=b\/R b) hUR' (fun b hb=>.inl (by have:=hclb b (hb3 b hb);omega))) ?_
 rintro v5 h5 c5 r5 w5 ⟨hI,hext5⟩
 have fr5:=hext5.fresh
 have le5:=hext5.c
 simp only at fr5 le5 hI
 have hq5:=hext5.quiet (fun _ _ q=>q)
 have kp5:=Kp.ext (W:=U) (h:=h) (c:=c) kp4 hext5 (by omega) (fun b hb q=>q.elim)
 have lr5:=Lg.extR (R:=R) (c:=c) az hext5 (fun b hb q=>q.elim (fun q=>by omega) (fun q=>q))
 have lw5:=Lg.extW (W:=U) (c:=c) az hext5 (fun b hb q=>q.elim)
 have kE:∀b,b<c4->h5.get b=h4.get b:=fun b hb=>hext5.h b hb (fun q=>q)
 have hA5:ay h5 c _:=(kE c (by omega)).trans hA4
 have hB5:ay h5 (c+1) _:=(kE _ (by omega)).trans hB4
 have hC5:ay h5 (c+2) _:=(kE _ (by omega)).trans hC4
 have q5:gw h5 p m mt dim ⟨G.M,Li⟩ (fun b=>(U b/\b<c)\/c+3<=b/\b<c'):=q4.keep fr4 (fun b hu hb=>kE b hb)
 refine⟨i7,?_⟩
 obtain⟨y,ys,hys⟩:∃y ys,fM mt G.M xs[i] (fw l Li xs xs[i])=y::ys:=by
  cases hr:fM mt G.M xs[i] (fw l Li xs xs[i]) with
  |nil=>exact absurd hr (Fi ho)
  |cons a b=>exact⟨a,b,rfl⟩
 have hym:∃r,aK y G.M=some r:=hom y (pt (by rw[hys];exact List.mem_cons_self ..))
 change i8 h5 c4 v5 (fM mt G.M xs[i] (fw l Li xs xs[i])) at hI
 rw[hys] at hI
 rcases hI with⟨_,e⟩|⟨b5,rfl,_,hb5,hB5r⟩
 ·cases e
 have l5:=hB5r.lt fr5
 have hx5:bt ⟨r5,w5,c4,c5⟩ ⟨[c+1],[],c5,c5⟩:=bt.wr (fun y hy=>(hq5 y hy).elim) (by omega)
 refine aq ?_
 refine Zq (aj (k:=0) ct rfl rfl rfl (by simp)) ?_
 refine Zd (aB (dV rfl) rfl hB5r.cel (by omega) rfl) ?_
 refine aq ?_
 refine bN.call rfl rfl (u7 aO q5 hml hl hxsm hym (fun b=>c<=b\/R b) hUR') ?_
 rintro v6 h6 c6 r6 w6 ⟨q6,hext6⟩
 have fr6:=hext6.fresh
 have le6:=hext6.c
 simp only at fr6 le6 q6
 have kp6:=Kp.ext (W:=U) (h:=h) (c:=c) kp5 hext6 (by omega) (fun b hb q=>q.elim (fun q=>q.1) (fun q=>by omega))
 have lr6:=Lg.extR (R:=R) (c:=c) az hext6 (fun b hb q=>q.elim (fun q=>by omega) (fun q=>q))
 have lw6:=Lg.extW (W:=U) (c:=c) az hext6 (fun b hb q=>q.elim (fun q=>q.1) (fun q=>by omega))
 have kF:∀b,c<=b->b<c+3->h6.get b=h5.get b:=fun b h1 h2=>hext6.h b (by show b<c5;omega) (fun q=>by rcases q with q|q<;>omega)
 refine⟨i7,?_⟩
 refine aq ?_
 refine aC.goF (xs.length - (i+1)) IT [(1,_),(3,_),(5,_),(6,_),(11,_),(12,_),(13,.int .i64 (z+1))] (by omega) ⟨_,i+1,z+1,_,_,_,_,rfl,by omega,rfl,by omega,fr6,kp6,(kF c (by omega) (by omega)).trans hA5,(kF _ (by omega) (by omega)).trans hB5,(kF _ (by omega) (by omega)).trans hC5,?_,az,az,by omega,rfl⟩
 rw[hst,show mend1 mt G.M l xs Li xs[i]=eJ l Li xs[i] y by unfold mend1;rw[hmay,if_pos rfl,hys]]
 exact q6.wide fr6 (fun b hb=>hb.elim (fun e=>e.imp (fun e=>e) (fun e=>⟨e.1,by omega⟩)) (fun e=>.inr ⟨by omega,e.2⟩))
end Go.Ab.Seat
end
