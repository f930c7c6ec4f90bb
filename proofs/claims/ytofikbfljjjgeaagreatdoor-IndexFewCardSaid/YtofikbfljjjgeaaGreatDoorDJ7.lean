import Derived.Test.YtofikbfljjjgeaaGreatDoorDJ5
import Derived.Test.YtofikbfljjjgeaaGreatDoorDF7
import Derived.Test.YtofikbfljjjgeaaGreatDoorDF2
import Derived.Test.YtofikbfljjjgeaaGreatDoorDJ3
import Derived.Test.YtofikbfljjjgeaaGreatDoorDP1
set_option linter.unusedVariables false
set_option linter.unusedSimpArgs false
section
namespace Go.Ab.Seat
open Go.Extern Go.Proofs
set_option maxRecDepth 4000
def tQ (h:T ag) (b:Nat) (l:List Int):Prop:=∃es n ids,ay h b (.map es n)/\dx es n ids/\∀x,dU x es=if x∈l then some (.bool true) else none
theorem tQ.nil {h:T ag}{b:Nat} (k:ay h b (.map [] 0)):tQ h b []:=⟨[],0,[],k,.nil 0,fun x=>rfl⟩
theorem tQ.keep {h h':T ag}{b:Nat}{l:List Int} (x:tQ h b l) (k:h'.get b=h.get b):tQ h' b l:=by
 obtain⟨es,n,ids,h1,h2⟩:=x
 exact⟨es,n,ids,k.trans h1,h2⟩
theorem tQ.lt {h:T ag}{b c:Nat}{l:List Int} (x:tQ h b l) (hf:ai h c):b<c:=by
 obtain⟨es,n,ids,h1,h2⟩:=x
 exact h1.lt hf
theorem yL {es:List (Value×Value×Nat)}{l:List Int} (hv:∀x,dU x es=if x∈l then some (.bool true) else none) (x:Int):(match dJ x es with|some p=>p.2|none=>.bool false)=Value.bool (decide (x∈l)):=by
 have h:=hv x
 by_cases hx:x∈l
 ·rw[if_pos hx] at h
  obtain⟨i,hi⟩:=iw h
  rw[hi,decide_eq_true hx]
 ·rw[if_neg hx] at h
  rw[dh.1 h,decide_eq_false hx]
theorem wQ {es:List (Value×Value×Nat)}{n:Nat}{ids l:List Int} (hk:dx es n ids) (hv:∀x,dU x es=if x∈l then some (.bool true) else none) (y x:Int):dU x (eH .i64 y (.bool true) n es).1=if x∈y::l then some (.bool true) else none:=by
 rw[l8 hk]
 by_cases hx:x=y
 ·rw[if_pos hx,if_pos (by rw[hx];exact List.mem_cons_self ..)]
 ·rw[if_neg hx,hv]
  by_cases hl:x∈l
  ·rw[if_pos hl,if_pos (List.mem_cons_of_mem _ hl)]
  ·rw[if_neg hl,if_neg fun q=>(List.mem_cons.1 q).elim hx hl]
def i8 (h:T ag) (c0:Nat) (v:Value) (l:List Int):Prop:=(v=.slice none 0 0/\l=[])\/∃b,v=.slice (some ⟨b,0,some 1⟩) l.length l.length/\l≠[]/\c0<=b/\ay h b (.cells (l.map (Value.int .i64)))
theorem i8.val {h:T ag}{c:Nat}{v:Value}{l:List Int} (x:i8 h c v l):∃oa,v=.slice oa l.length l.length/\bj h v l.length 1 (l.map (Value.int .i64))/\∀b,au v=some b->c<=b:=by
 rcases x with⟨rfl,rfl⟩|⟨b,rfl,_,h1,h2⟩
 ·exact⟨_,rfl,.inl ⟨rfl,rfl,_,_,rfl⟩,fun b hb=>by cases hb⟩
 ·exact⟨_,rfl,.inr ⟨b,0,_,_,_,rfl,h2.cel,aA _ _ (by rw[List.length_map,Nat.mul_one])⟩,fun b hb=>by cases hb;exact h1⟩
theorem i8.keep {h h':T ag}{c:Nat}{v:Value}{l:List Int} (x:i8 h c v l) (k:∀b,au v=some b->h'.get b=h.get b):i8 h' c v l:=by
 rcases x with x|⟨b,rfl,x1,x2,x3⟩
 ·exact .inl x
 ·exact .inr ⟨b,rfl,x1,x2,(k b rfl).trans x3⟩
theorem i8.low {h:T ag}{c c':Nat}{v:Value}{l:List Int} (x:i8 h c v l) (k:c'<=c):i8 h c' v l:=by
 rcases x with x|⟨b,rfl,x1,x2,x3⟩
 ·exact .inl x
 ·exact .inr ⟨b,rfl,x1,by omega,x3⟩
theorem i8.lt {h:T ag}{c c':Nat}{v:Value}{l:List Int} (x:i8 h c v l) (hf:ai h c'):∀b,au v=some b->b<c':=by
 rcases x with⟨rfl,_⟩|⟨b,rfl,x1,x2,x3⟩
 ·intro b hb;cases hb
 ·intro b' hb;cases hb;exact x3.lt hf
theorem i8.of {h:T ag}{c b n:Nat}{l:List Int} (hB:ay h b (.cells (l.map (Value.int .i64)))) (hc:c<=b) (hl:l.length=n) (hn:n≠0):i8 h c (.slice (some ⟨b,0,some 1⟩) n n) l:=by
 subst hl
 exact .inr ⟨b,rfl,fun e=>hn (by rw[e];rfl),hc,hB⟩
theorem fi {l:List Int}{i:Nat}{x:Int} (h:l[i]?=some x):(l.map (Value.int .i64))[i*1]?=some (.int .i64 x):=by
 rw[Nat.mul_one,List.getElem?_map,h];rfl
def ET:List Nat:=[0,2,3,5,6,7,8,9]
set_option maxHeartbeats 4000000 in
theorem ut {h:T ag}{c:Nat}{rl wl:List Nat} (hf:ai h c) {oa:Option Addr}{cap:Nat}{l:List Ht} (hx:bj h (.slice oa l.length cap) l.length 2 (aF l)) (hn:l.length<=1000) (R:Nat->Prop) (hR:∀b,au (.slice oa l.length cap)=some b->R b) :
  ∃r s',aE (Cs bD) eg 139 [.slice oa l.length cap] ⟨h,c,rl,wl⟩ r s'/\i8 s'.h c r (l.map Ht.id)/\bA ⟨h,c,rl,wl⟩ s' R (fun _=>False):=by
 have hbg:dv=1048576:=rfl
 refine Fn.go (aU 139 rfl) Lz JC JI rfl rfl ?_
 refine cg ?_
 refine aq ?_
 refine Wx.loopF (fun k1 e s=>∃(g:Nat->Value) (i:Nat) (z:Int) (lv:Value) (h':T ag) (c':Nat) (rl' wl':List Nat),e=fr g [(3,lv),(6,.slice oa l.length cap),(7,.int .i64 (l.length:Int)),(8,.int .i64 z)] ET/\z=i/\s=⟨h',c',rl',wl'⟩/\c<=c'/\ai h' c'/\Kp h h' c (fun _=>False)/\i8 h' c lv ((l.take i).map Ht.id)/\Lg c R rl'/\Lg c (fun _=>False) wl'/\i<=l.length/\k1=l.length - i) l.length ET [(3,.slice none 0 0),(6,_),(7,_),(8,.int .i64 0)] ⟨_,0,0,_,_,_,_,_,rfl,rfl,rfl,Nat.le_refl _,aO,bW,.inl ⟨rfl,rfl⟩,az,az,by omega,rfl⟩ ?_
 rintro k1 e s ⟨g,i,z,lv,h',c',rl',wl',rfl,hz,rfl,hcc,hf',hkp,hI,hlr,hlw,hid,rfl⟩
 (refine Wx.sw (by simp only[ET,i5,i6,dC,dB,Nat.reduceEqDiff,↓reduceIte];rfl) ?_)
 by_cases hi:i<l.length
 rotate_left
 ·refine aq ?_
  obtain rfl:i=l.length:=by omega
  rw[List.take_length] at hI
  exact⟨.inr rfl,aG.one rfl ⟨hI,bM⟩⟩
 obtain⟨b1,o1,sp1,cs1,rfl,hc1,hs1⟩:=Ac (bj.keepF hx hf (fun b hb=>hkp b hb (fun q=>q))) (by omega)
 have hR1:=hR b1 rfl
 have l1:=hc1.lt hf'
 have hg:=gZ hs1 (List.getElem?_eq_getElem hi)
 have hlen:((l.take i).map Ht.id).length=i:=by rw[List.length_map,List.length_take];omega
 have hstep:((l.take (i+1)).map Ht.id)=(l.take i).map Ht.id++[l[i].id]:=by rw[List.take_succ_eq_append_getElem hi,List.map_append];rfl
 refine aq ?_
 refine Zu (aj (k:=i) ej rfl rfl hz (by omega)) ?_
 refine Zu (cT Cp rfl hc1 (by omega) hg) ?_
 refine aq ?_
 rcases hI with⟨rfl,e0⟩|⟨bl,rfl,hne,hbl,hB⟩
 ·refine Zu (cy ik m7 rfl rfl (k:=0) ay.same.cel (by omega) (aA _ _ rfl) (by omega) aO) ?_
  refine aq ?_
  have hi0:i=0:=by rw[e0] at hlen;exact hlen.symm
  refine aC.goF (l.length - (i+1)) ET [(3,_),(6,_),(7,_),(8,.int .i64 (z+1))] (by omega) ⟨_,i+1,z+1,_,_,_,_,_,rfl,by omega,rfl,by omega,aO,bW,.of (by rw[hstep,e0];exact ay.same) (by omega) (by rw[hstep,e0];rfl) (n:=1) (by decide),az,az,by omega,rfl⟩
 ·have lb:=hB.lt hf'
  refine Zu (dg ik m7 rfl rfl (k:=0) ay.same.cel (by omega) (aA _ _ rfl) (by omega) (by omega) (((hB.other (by omega)).other (by omega)).other (by omega)) (by omega) (aA _ _ (by simp)) (all_cons rfl a7) aO) ?_
  refine aq ?_
  refine aC.goF (l.length - (i+1)) ET [(3,_),(6,_),(7,_),(8,.int .i64 (z+1))] (by omega) ⟨_,i+1,z+1,_,_,_,_,_,rfl,by omega,rfl,by omega,aO,bW,.of (by rw[hstep,List.map_append];exact ay.same) (by omega) (by rw[hstep,List.length_append];rfl) (Nat.succ_ne_zero _),az,az,by omega,rfl⟩
def G6:List Nat:=[0,1,4,5,7,8,9,16]
set_option maxHeartbeats 4000000 in
theorem uq {h:T ag}{c:Nat}{rl wl:List Nat} (hf:ai h c) {oa:Option Addr}{cap f:Nat}{l:List Int}{caps:List Value} (P:Int->Bool) (hx:bj h (.slice oa l.length cap) l.length 1 (l.map (Value.int .i64))) (hn:l.length<=100000) (R:Nat->Prop) (hR:∀b,au (.slice oa l.length cap)=some b->R b)
  (hcl:∀(h':T ag) (c':Nat) (rl' wl':List Nat),ai h' c'->c<=c'->Kp h h' c (fun _=>False)->∀x∈l,∃v s',aE (Cs bD) eg f (.int .i64 x::caps) ⟨h',c',rl',wl'⟩ v s'/\v=.bool (P x)/\bA ⟨h',c',rl',wl'⟩ s' R (fun _=>False)) :
  ∃r s',aE (Cs bD) eg 141 [.slice oa l.length cap,.func (.func f) #[] ⟨caps⟩] ⟨h,c,rl,wl⟩ r s'/\((∃(i:Nat) (x:Int),l[i]?=some x/\P x=true/\(∀y∈l.take i,P y=false)/\r=.int .i64 (i:Int))\/(r=.int .i64 (-1)/\∀y∈l,P y=false))/\bA ⟨h,c,rl,wl⟩ s' R (fun _=>False):=by
 refine Fn.go (aU 141 rfl) J5 Jn LP rfl rfl ?_
 refine cg ?_
 refine aq ?_
 refine Wx.loopF (fun k1 e s=>∃(g:Nat->Value) (i:Nat) (z:Int) (h':T ag) (c':Nat) (rl' wl':List Nat),e=fr g [(0,.slice oa l.length cap),(1,.func (.func f) #[] ⟨caps⟩),(7,.int .i64 (l.length:Int)),(8,.int .i64 z)] G6/\z=i/\s=⟨h',c',rl',wl'⟩/\c<=c'/\ai h' c'/\Kp h h' c (fun _=>False)/\Lg c R rl'/\Lg c (fun _=>False) wl'/\(∀y∈l.take i,P y=false)/\i<=l.length/\k1=l.length - i) l.length G6 [(0,_),(1,_),(7,_),(8,.int .i64 0)] ⟨_,0,0,_,_,_,_,rfl,rfl,rfl,Nat.le_refl _,aO,bW,az,az,(fun y hy=>by simp at hy),by omega,rfl⟩ ?_
 rintro k1 e s ⟨g,i,z,h',c',rl',wl',rfl,hz,rfl,hcc,hf',hkp,hlr,hlw,hno,hid,rfl⟩
 (refine Wx.sw (by simp only[G6,i5,i6,dC,dB,Nat.reduceEqDiff,↓reduceIte];rfl) ?_)
 by_cases hi:i<l.length
 rotate_left
 ·refine aq ?_
  obtain rfl:i=l.length:=by omega
  rw[List.take_length] at hno
  exact⟨.inr rfl,aG.one rfl ⟨.inr ⟨rfl,hno⟩,bM⟩⟩
 obtain⟨b1,o1,sp1,cs1,rfl,hc1,hn1⟩:=bp (bj.keepF hx hf (fun b hb=>hkp b hb (fun q=>q))) (j:=i*1) (by omega) (fi (List.getElem?_eq_getElem hi))
 have hR1:=hR b1 rfl
 have l1:=hc1.lt hf'
 refine aq ?_
 refine Zu (aj (k:=i) ct rfl rfl hz (by omega)) ?_
 refine Zu (aB (dV rfl) rfl hc1 (by omega) hn1) ?_
 refine ax.callV rfl rfl rfl (hcl _ _ _ _ aO (by omega) hkp l[i] (List.getElem_mem hi)) ?_
 rintro v h1 c1 r1 w1 ⟨rfl,hext⟩
 have kp:=Kp.ext (W:=fun _=>False) (h:=h) (c:=c) hkp hext (by omega) (fun _ _ q=>q)
 have lr:=Lg.extR (R:=R) (c:=c) az hext (fun q _ hq=>hq)
 have lw:=Lg.extW (W:=fun _=>False) (c:=c) az hext (fun _ _ q=>q)
 have fr1:=hext.fresh
 have le1:=hext.c
 simp only at le1 fr1
 cases hP:P l[i]
 ·refine aq ?_
  refine aC.goF (l.length - (i+1)) G6 [(0,_),(1,_),(7,_),(8,.int .i64 (z+1))] (by omega) ⟨_,i+1,z+1,_,_,_,_,rfl,by omega,rfl,by omega,fr1,kp,lr,lw,?_,by omega,rfl⟩
  intro x hx
  rw[List.take_succ_eq_append_getElem hi] at hx
  rcases List.mem_append.1 hx with hx|hx
  ·exact hno x hx
  ·rw[List.mem_singleton.1 hx];exact hP
 ·refine aq ?_
  exact⟨.inr rfl,aG.one rfl ⟨.inl ⟨i,l[i],List.getElem?_eq_getElem hi,hP,hno,by rw[<- hz];rfl⟩,bM⟩⟩
theorem Ar {h:T ag}{c:Nat}{rl wl:List Nat} (hf:ai h c) {bd md:Nat}{d:List Int} (hb:ay h bd (.cells [.map (some md)])) (hs:tQ h md d) (x:Int) (R:Nat->Prop) (hR1:R bd) (hR2:R md) :
  ∃v s',aE (Cs bD) eg 142 [.int .i64 x,.pointer (some ⟨bd,0,none⟩)] ⟨h,c,rl,wl⟩ v s'/\v=.bool (decide (x∉d))/\bA ⟨h,c,rl,wl⟩ s' R (fun _=>False):=by
 obtain⟨es,n,ids,hm,hk,hv⟩:=hs
 have l1:=hb.lt hf
 have l2:=hm.lt hf
 refine Fn.go (aU 142 rfl) K6 JG Jq rfl rfl ?_
 refine cg ?_
 refine aq ?_
 refine Zu (bL (pk rfl) (tG rfl) rfl rfl hm l2 hk.ks (yL hv x)) ?_
 refine aq ?_
 refine⟨.inr rfl,aG.one rfl ⟨?_,bM⟩⟩
 by_cases hx:x∈d<;>simp [hx]
 all_goals rfl
end Go.Ab.Seat
end
section
namespace Go.Ab.Seat
open Go.Extern Go.Proofs
theorem iW {k:Nat}{l:List Ht}{x z:Ht} (h:z∈eu k l x):z=x\/z∈l:=by
 unfold eu at h
 split at h
 ·exact .inr h
 ·split at h
  ·exact .inr h
  ·have h:=List.mem_of_mem_take h
   rcases List.mem_append.1 h with h|h
   ·exact .inr (List.mem_of_mem_take h)
   ·rcases List.mem_cons.1 h with h|h
    ·exact .inl h
    ·exact .inr (List.mem_of_mem_drop h)
theorem A9 {k:Nat}{l:List Ht}{x:Ht} (h:(l.map Ht.id).Nodup):((eu k l x).map Ht.id).Nodup:=by
 unfold eu
 cases ha:l.any (fun y=>decide (y.id=x.id))
 ·rw[if_neg (by decide)]
  split
  ·exact h
  ·have h2:∀y∈l,y.id≠x.id:=fun y hy=>by
    have:=List.any_eq_false.1 ha y hy
    simpa using this
   have h3:((l.take (iH x l)++x::l.drop (iH x l)).map Ht.id).Nodup:=by
    have h4:(l.take (iH x l)++x::l.drop (iH x l)).Perm (x::l):=jN x l
    rw[(h4.map Ht.id).nodup_iff,List.map_cons,List.nodup_cons]
    refine⟨fun q=>?_,h⟩
    obtain⟨y,hy,e⟩:=List.mem_map.1 q
    exact h2 y hy e
   exact h3.sublist ((List.take_sublist _ _).map _)
 ·rw[if_pos rfl];exact h
structure dF (mt:Int) (M:List Rc) (q:List Int) (n:Nat) (st:List Ht×List Int):Prop where
 ord:Gi st.1
 len:st.1.length<=n
 nd:(st.1.map Ht.id).Nodup
 hit:∀x∈st.1,x=cK mt M q x.id
 mem:∀x∈st.1,∃r,aK x.id M=some r
 seen:∀x∈st.1,x.id∈st.2
section
variable {mt:Int}{M:List Rc}{q:List Int}{n:Nat}{st:List Ht×List Int}
theorem dF.nil:dF mt M q n ([],[]):=⟨List.Pairwise.nil,Nat.zero_le _,List.Pairwise.nil,(fun x h=>by cases h),(fun x h=>by cases h),(fun x h=>by cases h)⟩
theorem dF.from_ (g:dF mt M q n st) {y:Int} (hy:∃r,aK y M=some r):dF mt M q n (gT mt M q n st y):=by
 refine⟨yH g.ord,yh g.len,A9 g.nd,fun x hx=>?_,fun x hx=>?_,fun x hx=>?_⟩
 ·rcases iW hx with rfl|hx
  ·rfl
  ·exact g.hit x hx
 ·rcases iW hx with rfl|hx
  ·exact hy
  ·exact g.mem x hx
 ·rcases iW hx with rfl|hx
  ·exact List.mem_cons_self ..
  ·exact List.mem_cons_of_mem _ (g.seen x hx)
theorem dF.see (g:dF mt M q n st) {y:Int} (hy:∃r,aK y M=some r):dF mt M q n (i9 mt M q n st y):=by
 unfold i9
 split
 ·exact g
 ·exact g.from_ hy
theorem dF.fromAll:∀ {l:List Int}{st:List Ht×List Int},dF mt M q n st->(∀y∈l,∃r,aK y M=some r)->dF mt M q n (l.foldl (gT mt M q n) st)
 | [],_,g,_=>g
 |y::l,st,g,h=>dF.fromAll (l:=l) (st:=gT mt M q n st y) (g.from_ (h y (List.mem_cons_self ..))) fun z hz=>h z (List.mem_cons_of_mem _ hz)
theorem dF.seeAll:∀ {l:List Int}{st:List Ht×List Int},dF mt M q n st->(∀y∈l,∃r,aK y M=some r)->dF mt M q n (l.foldl (i9 mt M q n) st)
 | [],_,g,_=>g
 |y::l,st,g,h=>dF.seeAll (l:=l) (st:=i9 mt M q n st y) (g.see (h y (List.mem_cons_self ..))) fun z hz=>h z (List.mem_cons_of_mem _ hz)
end
theorem eX {α β:Type} (f:α->β->α) (a:α) {l:List β}{i:Nat} (hi:i<l.length):(l.take (i+1)).foldl f a=f ((l.take i).foldl f a) l[i]:=by
 rw[List.take_succ_eq_append_getElem hi,List.foldl_append];rfl
structure jn (mt:Int) (G:Gr) (q:List Int) (n:Nat) (st:LS):Prop where
 f:dF mt G.M q n (st.f,st.s)
 dn:st.d.Nodup
 dm:∀x∈st.d,∃r,aK x G.M=some r
theorem iQ {st:LS}{x:Ht} (h:gW st=some x):x∈st.f/\x.id∉st.d:=by
 unfold gW at h
 refine⟨List.mem_of_find?_eq_some h,?_⟩
 have:=List.find?_some h
 simpa using this
theorem yU {st:LS}{i:Nat}{x:Int} (h:(st.f.map Ht.id)[i]?=some x) (h1:x∉st.d) (h2:∀y∈(st.f.map Ht.id).take i,y∈st.d):∃z,gW st=some z/\z.id=x/\st.f[i]?=some z:=by
 rw[List.getElem?_map] at h
 cases hf:st.f[i]? with
 |none=>rw[hf] at h;cases h
 |some z =>
  rw[hf] at h
  obtain rfl:z.id=x:=Option.some.inj h
  refine⟨z,?_,rfl,rfl⟩
  obtain⟨hi,e⟩:=List.getElem?_eq_some_iff.1 hf
  unfold gW
  have e2:st.f=st.f.take i++z::st.f.drop (i+1):=by
   conv=>lhs;rw[<- List.take_append_drop i st.f,List.drop_eq_getElem_cons hi,e]
  rw[e2,List.find?_append]
  have e3:(st.f.take i).find? (fun x=>decide (x.id∉st.d))=none:=by
   rw[List.find?_eq_none]
   intro y hy
   have:=h2 y.id (by rw[<- List.map_take];exact List.mem_map_of_mem hy)
   simp [this]
  rw[e3,Option.none_or,List.find?_cons,decide_eq_true h1]
theorem Be {st:LS} (h:∀y∈st.f.map Ht.id,y∈st.d):gW st=none:=by
 unfold gW
 rw[List.find?_eq_none]
 intro y hy
 have:=h y.id (List.mem_map_of_mem hy)
 simp [this]
theorem jn.start {mt:Int}{G:Gr}{q:List Int}{n:Nat}{l:List Int} (h:∀y∈l,∃r,aK y G.M=some r):jn mt G q n (me mt G.M q n l) :=
 ⟨dF.nil.fromAll h,List.Pairwise.nil,fun x hx=>by cases hx⟩
theorem jn.step {mt:Int}{G:Gr}{q:List Int}{n l:Nat}{st:LS}{x:Ht} (g:jn mt G q n st) (hx:gW st=some x) (hm:∀y∈G.L x.id l,∃r,aK y G.M=some r):jn mt G q n (uP mt G q l n st x):=by
 obtain⟨h1,h2⟩:=iQ hx
 refine⟨g.f.seeAll hm,List.nodup_cons.2 ⟨h2,g.dn⟩,fun y hy=>?_⟩
 rcases List.mem_cons.1 hy with rfl|hy
 ·exact g.f.mem x h1
 ·exact g.dm y hy
theorem ix:∀ {a b:List Int},a.Nodup->(∀x∈a,x∈b)->a.length<=b.length
 | [],b,_,_=>Nat.zero_le _
 |x::a,b,hn,h=>by
  obtain⟨h1,h2⟩:=List.nodup_cons.1 hn
  have hb:=h x (List.mem_cons_self ..)
  have:=ix (b:=b.erase x) h2 fun y hy=>(List.mem_erase_of_ne (fun e=>h1 (by rw[<- e];exact hy))).2 (h y (List.mem_cons_of_mem _ hy))
  rw[List.length_erase_of_mem hb] at this
  have:0<b.length:=List.length_pos_of_mem hb
  rw[List.length_cons];omega
theorem jn.len {mt:Int}{G:Gr}{q:List Int}{n:Nat}{st:LS} (g:jn mt G q n st):st.d.length<=G.M.length:=by
 have:=ix (b:=G.M.map Rc.id) g.dn fun x hx=>by
  obtain⟨r,hr⟩:=g.dm x hx
  obtain⟨h1,h2⟩:=cF hr
  exact List.mem_map.2 ⟨r,h1,h2⟩
 rwa [List.length_map] at this
theorem rG {mt:Int}{G:Gr}{q:List Int}{n l:Nat} (hm:∀x y,y∈G.L x l->∃r,aK y G.M=some r):∀(k:Nat) {st:LS},jn mt G q n st->∃s,dF mt G.M q n (gU mt G q l n k st,s)
 |0,st,g=>⟨st.s,g.f⟩
 |k+1,st,g=>by
  unfold gU
  cases hx:gW st with
  |none=>exact⟨st.s,g.f⟩
  |some x=>exact rG hm k (g.step hx (hm x.id))
theorem rS {mt:Int}{G:Gr}{q:List Int}{n l:Nat}{fs:List Int} (hm:∀x y,y∈G.L x l->∃r,aK y G.M=some r) (hf:∀y∈fs,∃r,aK y G.M=some r):∃s,dF mt G.M q n (gI mt G q l fs n,s):=rG hm _ (jn.start hf)
theorem mK {mt:Int}{G:Gr}{q:List Int}{n l k:Nat}{st:LS} (h:gW st=none):gU mt G q l n k st=st.f:=by
 cases k with
 |zero=>rfl
 |succ k=>unfold gU;rw[h]
theorem iS {mt:Int}{G:Gr}{q:List Int}{n l k:Nat}{st:LS}{x:Ht} (h:gW st=some x):gU mt G q l n (k+1) st=gU mt G q l n k (uP mt G q l n st x):=by
 conv=>lhs;unfold gU
 rw[h]
end Go.Ab.Seat
end
