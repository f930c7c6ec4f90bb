import Derived.Test.YtofikbfljjjgeaaGreatDoorDP3
import Derived.Test.YtofikbfljjjgeaaGreatDoorDF3
import Derived.Test.YtofikbfljjjgeaaGreatDoorDZ0
import Derived.Test.YtofikbfljjjgeaaGreatDoorDF2
import Derived.Test.YtofikbfljjjgeaaGreatDoorDX1
import Derived.Test.YtofikbfljjjgeaaGreatDoorDP1
set_option linter.unusedVariables false
set_option linter.unusedSimpArgs false
section
namespace Go.Ab.Seat
open Go.Extern Go.Proofs
def lg (k:IntKind) (f g:Nat->Int) (n i:Nat):List Value:=(List.range n).map fun j=>.int k (if j<i then f j else g j)
theorem kb (k:IntKind) (f g:Nat->Int) (n i:Nat):(lg k f g n i).length=n:=by simp [lg]
theorem xe {k:IntKind}{f g:Nat->Int}{n i j:Nat} (hj:j<n):(lg k f g n i)[j]?=some (.int k (if j<i then f j else g j)):=by
 unfold lg
 rw[List.getElem?_map,List.getElem?_eq_getElem (by simpa using hj),List.getElem_range];rfl
theorem mN (k:IntKind) (f g:Nat->Int) (n i:Nat) (hi:i<n):bw [.int k (f i)] (lg k f g n i) (0+i*1)=some (lg k f g n (i+1)):=by
 rw[Hm (by rw[kb];exact hi) rfl]
 congr 1
 refine List.ext_getElem? fun j=>?_
 rw[List.getElem?_set,kb]
 rcases Nat.lt_or_ge j n with r|r
 ·by_cases hij:i=j
  ·subst hij
   rw[if_pos rfl,if_pos hi,xe hi,if_pos (by omega)]
  ·rw[if_neg hij,xe r,xe r]
   by_cases hji:j<i
   ·rw[if_pos hji,if_pos (by omega)]
   ·rw[if_neg hji,if_neg (by omega)]
 ·rw[List.getElem?_eq_none (by rw[kb];exact r),List.getElem?_eq_none (by rw[kb];exact r)]
  split
  ·omega
  ·rfl
theorem nY (k:IntKind) (f:Nat->Int):∀n,rep [Value.int k 0] n=lg k f (fun _=>0) n 0:=fun n=>by
 unfold lg
 rw[show (fun j=>Value.int k (if j<0 then f j else 0))=fun _:Nat=>Value.int k 0 from funext fun j=>by rw[if_neg (by omega)]]
 rw[List.map_const',List.length_range]
 induction n with
 |zero=>rfl
 |succ n ih=>rw[List.replicate_succ];show _=[Value.int k 0]++_;rw[<- ih];rfl
theorem oU (k:IntKind) (f g:Nat->Int) (n:Nat):lg k f g n n=((List.range n).map f).map (Value.int k):=by
 unfold lg
 rw[List.map_map]
 refine List.map_congr_left fun j hj=>?_
 rw[if_pos (List.mem_range.1 hj)];rfl
def PU (dim x:Nat):Value:=.slice (some ⟨x,0,some 1⟩) dim dim
def MG (h:T ag) (c0:Nat) (lv:Value) (dim:Nat) (ms:List (List Int)):Prop :=
 (lv=.slice none 0 0/\ms=[])\/∃(b:Nat) (bs:List Nat),lv=.slice (some ⟨b,0,some 1⟩) ms.length ms.length/\ms≠[]/\c0<=b/\ay h b (.cells (bs.map (PU dim)))/\bs.length=ms.length/\bs.Nodup/\(∀x∈bs,c0<=x/\x≠b) /\
  ∀(i:Nat) (zs:List Int),ms[i]?=some zs->zs.length=dim/\gc zs/\∃x,bs[i]?=some x/\ay h x (.cells (zs.map (Value.int .i32)))
theorem MG.val {h:T ag}{c0 dim:Nat}{lv:Value}{ms:List (List Int)} (q:MG h c0 lv dim ms):∃oa,lv=.slice oa ms.length ms.length:=by
 rcases q with⟨rfl,rfl⟩|⟨b,bs,h1,_⟩
 ·exact⟨_,rfl⟩
 ·exact⟨_,h1⟩
theorem MG.keep {h h':T ag}{c c0 dim:Nat}{lv:Value}{ms:List (List Int)} (q:MG h c0 lv dim ms) (hf:ai h c) (k:∀b,c0<=b->b<c->h'.get b=h.get b):MG h' c0 lv dim ms:=by
 rcases q with q|⟨b,bs,h1,h2,h3,h4,h5,h6,h7,h8⟩
 ·exact .inl q
 ·refine .inr ⟨b,bs,h1,h2,h3,(k b h3 (h4.lt hf)).trans h4,h5,h6,h7,fun i zs hi=>?_⟩
  obtain⟨g1,g2,x,g3,g4⟩:=h8 i zs hi
  exact⟨g1,g2,x,g3,(k x (h7 x (List.mem_of_getElem? g3)).1 (g4.lt hf)).trans g4⟩
theorem MG.grow {h:T ag}{c c0 dim:Nat}{lv:Value}{ms:List (List Int)} (q:MG h c0 lv dim ms) (hf:ai h c):pw h lv dim ms (fun b=>c0<=b/\b<c):=by
 rcases q with q|⟨b,bs,h1,h2,h3,h4,h5,h6,h7,h8⟩
 ·exact .inl q
 ·refine .inr ⟨b,_,h1,h2,⟨h3,h4.lt hf⟩,h4,by rw[List.length_map,h5],fun i zs hi=>?_⟩
  obtain⟨g1,g2,x,g3,g4⟩:=h8 i zs hi
  refine⟨g1,g2,some ⟨x,0,some 1⟩,dim,by rw[List.getElem?_map,g3];rfl,.inr ⟨x,0,some 1,dim,_,rfl,g4.cel,aA _ _ (by rw[List.length_map];omega)⟩,fun b' hb'=>?_⟩
  have e:x=b':=by simpa [au] using hb'
  exact e▸⟨(h7 x (List.mem_of_getElem? g3)).1,g4.lt hf⟩
theorem MG.upd {h h':T ag}{c c0 dim b k x:Nat}{bs:List Nat}{ms:List (List Int)}{zs:List Int} (h2:ms≠[]) (h3:c0<=b) (h4:ay h b (.cells (bs.map (PU dim)))) (h5:bs.length=ms.length) (h6:bs.Nodup) (h7:∀x∈bs,c0<=x/\x≠b) (h8:∀(i:Nat) (zs:List Int),ms[i]?=some zs->zs.length=dim/\gc zs/\∃x,bs[i]?=some x/\ay h x (.cells (zs.map (Value.int .i32))))
  (hf:ai h c) (hk:bs[k]?=some x) (hz:zs.length=dim) (hb:gc zs) (hx:ay h' x (.cells (zs.map (Value.int .i32)))) (kp:∀y,c0<=y->y<c->y≠x->h'.get y=h.get y):MG h' c0 (.slice (some ⟨b,0,some 1⟩) ms.length ms.length) dim (ms.set k zs):=by
 have hxb:=(h7 x (List.mem_of_getElem? hk)).2
 refine .inr ⟨b,bs,by rw[List.length_set],fun e=>h2 (by have:=congrArg List.length e;rw[List.length_set] at this;exact List.length_eq_zero_iff.1 this),h3,(kp b h3 (h4.lt hf) (fun e=>hxb e.symm)).trans h4,by rw[List.length_set];exact h5,h6,h7,fun i ys hi=>?_⟩
 rw[List.getElem?_set] at hi
 by_cases hki:k=i
 ·subst hki
  rw[if_pos rfl] at hi
  split at hi
  ·cases hi
   exact⟨hz,hb,x,hk,hx⟩
  ·cases hi
 ·rw[if_neg hki] at hi
  obtain⟨g1,g2,y,g3,g4⟩:=h8 i ys hi
  have hyx:y≠x:=fun e=>by
   subst e
   obtain⟨q1,q2⟩:=List.getElem?_eq_some_iff.1 g3
   obtain⟨q3,q4⟩:=List.getElem?_eq_some_iff.1 hk
   exact hki ((List.getElem_inj h6).1 (q4.trans q2.symm))
  exact⟨g1,g2,y,g3,(kp y (h7 y (List.mem_of_getElem? g3)).1 (g4.lt hf) hyx).trans g4⟩
end Go.Ab.Seat
end
section
namespace Go.Ab.Seat
open Go.Extern Go.Proofs
set_option maxRecDepth 4000
end Go.Ab.Seat
end
section
namespace Go.Ab.Seat
open Go.Extern Go.Proofs
set_option maxRecDepth 4000
variable {sm:Nat->Option (List Value->M Value)}
def LK (a:Option Addr) (n k:Nat) (b:Option Addr) (k':Nat) (z:Int) (j5 j14 j24:Value):L :=
 .cons 0 (.slice a n k) (.cons 1 (.slice b n k') (.cons 4 (.bool false) (.cons 10 (.bool false) (.cons 12 (.int .i64 (n:Int)) (.cons 13 (.int .i64 z) (.cons 5 j5 (.cons 14 j14 (.cons 24 j24 .nil))))))))
end Go.Ab.Seat
end
section
namespace Go.Ab.Seat
open Go.Extern Go.Proofs
set_option maxRecDepth 4000
abbrev Ga (id:Int) (zs:List Int):Rc:=⟨id,zs.map (Value.int .i32),.empty,0,false⟩
def Hp (h:T ag) (p m:Nat) (U:Nat->Prop) (r:Rc) (v:Value):Prop:=kc h 0 v r.xs.length r.xs/\∀b,au v=some b->U b/\b≠p/\b≠m
def yF (h:T ag) (p m:Nat) (U:Nat->Prop) (o:Option Rc) (w:Option Value):Prop:=(o=none/\w=none)\/∃r v,o=some r/\w=some v/\Hp h p m U r v
structure fJ (h:T ag) (p m:Nat) (mt:Int) (dim:Nat) (M:List Rc) (U:Nat->Prop):Prop where
 ptr:ay h p (.cells [.int .i64 mt,.map (some m)])
 ex:∃es n,ay h m (.map es n)/\(∃ids,dx es n ids)/\∀x,yF h p m U (aK x M) (dU x es)
 pU:U p
 mU:U m
 ne:p≠m
 rises:cE M
 ok:∀r∈M,∃zs:List Int,r.xs=zs.map (Value.int .i32)/\zs.length=dim/\gc zs
theorem Hp.keep {h h':T ag}{p m c:Nat}{U U':Nat->Prop}{r:Rc}{v:Value} (x:Hp h p m U r v) (hf:ai h c) (hU:∀b,U b->U' b) (k:∀b,U b->b<c->b≠p->b≠m->h'.get b=h.get b):Hp h' p m U' r v :=
 ⟨x.1.keep fun b hb=>k b (x.2 b hb).1 ((x.1.blk hb).2.lt hf) (x.2 b hb).2.1 (x.2 b hb).2.2,fun b hb=>⟨hU b (x.2 b hb).1,(x.2 b hb).2⟩⟩
theorem yF.keep {h h':T ag}{p m c:Nat}{U U':Nat->Prop}{o:Option Rc}{w:Option Value} (x:yF h p m U o w) (hf:ai h c) (hU:∀b,U b->U' b) (k:∀b,U b->b<c->b≠p->b≠m->h'.get b=h.get b):yF h' p m U' o w:=by
 rcases x with x|⟨r,v,h1,h2,h3⟩
 ·exact .inl x
 ·exact .inr ⟨r,v,h1,h2,h3.keep hf hU k⟩
theorem fJ.keep {h h':T ag}{c p m dim:Nat}{mt:Int}{M:List Rc}{U:Nat->Prop} (q:fJ h p m mt dim M U) (hf:ai h c) (k:∀b,U b->b<c->h'.get b=h.get b):fJ h' p m mt dim M U:=by
 obtain⟨es,n,h1,h2,h3⟩:=q.ex
 exact⟨(k p q.pU (q.ptr.lt hf)).trans q.ptr,⟨es,n,(k m q.mU (h1.lt hf)).trans h1,h2,fun x=>(h3 x).keep hf (fun _ q=>q) fun b hb hc _ _=>k b hb hc⟩,q.pU,q.mU,q.ne,q.rises,q.ok⟩
theorem fJ.lt {h:T ag}{c p m dim:Nat}{mt:Int}{M:List Rc}{U:Nat->Prop} (q:fJ h p m mt dim M U) (hf:ai h c):p<c/\m<c:=by
 obtain⟨es,n,h1,h2,h3⟩:=q.ex
 exact⟨q.ptr.lt hf,h1.lt hf⟩
theorem fJ.new {h:T ag}{p m dim:Nat}{mt:Int} (hp:ay h p (.cells [.int .i64 mt,.map (some m)])) (hm:ay h m (.map [] 0)) (hne:p≠m):fJ h p m mt dim [] (fun b=>b=p\/b=m) :=
 ⟨hp,⟨[],0,hm,⟨[],.nil 0⟩,fun x=>.inl ⟨rfl,rfl⟩⟩,.inl rfl,.inr rfl,hne,cE.nil,fun r hr=>by cases hr⟩
theorem fJ.ids {h:T ag}{p m:Nat}{U:Nat->Prop}{M:List Rc}{n:Nat}{es:List (Value×Value×Nat)}{ids:List Int} (hk:dx es n ids) (hr:cE M) (hv:∀x,yF h p m U (aK x M) (dU x es)):fx ids=M.map Rc.id:=by
 refine im (jd hk.nodup) hr.ids fun x=>?_
 rw[(dy ids).mem_iff]
 constructor
 ·intro hx
  rcases hv x with⟨_,h4⟩|⟨r,v,h4,_,_⟩
  ·exact absurd hx ((bo hk.keys).1 (dh.1 h4))
  ·obtain⟨h5,h6⟩:=cF h4
   exact List.mem_map.2 ⟨r,h5,h6⟩
 ·intro hx
  obtain⟨r,h5,rfl⟩:=List.mem_map.1 hx
  refine Classical.byContradiction fun hn=>?_
  rcases hv r.id with⟨h4,_⟩|⟨r',v,_,h4,_⟩
  ·exact absurd rfl (fk.1 h4 r h5)
  ·rw[dh.2 ((bo hk.keys).2 hn)] at h4
   cases h4
theorem ur {h:T ag}{c:Nat}{rl wl:List Nat} (hf:ai h c) {p m dim:Nat}{mt:Int}{M:List Rc}{U:Nat->Prop} (q:fJ h p m mt dim M U) (id:Int) (hid : -9223372036854775808<=id/\id<=9223372036854775807)
  {a:Option Addr}{cap:Nat}{zs:List Int} (hv:bj h (.slice a dim cap) dim 1 (zs.map (Value.int .i32))) (hx:zs.length=dim) (hb:gc zs) (hd:1<=dim) (hd':dim<=1000) (bs:Nat->Prop) (hbs:∀b o sp,a=some ⟨b,o,sp⟩->bs b) (hbm:¬bs m) :
  ∃r s',aE (Cs bD) eg 20 [.pointer (some ⟨p,0,none⟩),.int .i64 id,.slice a dim cap] ⟨h,c,rl,wl⟩ r s'/\fJ s'.h p m mt dim (cJ (Ga id zs) M) (fun b=>U b\/c<=b/\b<s'.c)/\bA ⟨h,c,rl,wl⟩ s' (fun b=>U b\/bs b) (fun b=>b=m):=by
 obtain⟨es,n,hm,⟨ids,h2⟩,h3⟩:=q.ex
 have hp:=q.ptr
 obtain⟨lp,lm⟩:=q.lt hf
 have hpU:=q.pU
 have hmU:=q.mU
 refine Fn.go (aU 20 rfl) PE Mq Nx rfl rfl ?_
 refine cg ?_
 refine aq ?_
 refine bN.call rfl rfl (jR aU aO hv (by unfold vV;omega) (fun e=>by omega) bs (fun b o sp n' cap e=>hbs b o sp (by simp only[Value.slice.injEq] at e;exact e.1))) ?_
 rintro v h1 c1 r1 w1 ⟨hown,hext⟩
 have hq:=hext.quiet (fun _ _ q=>q)
 have kp:=Kp.ext (W:=fun b=>b=m) (h:=h) (c:=c) bW hext (by omega) (fun _ _ q=>q.elim)
 have lr:=Lg.extR (R:=fun b=>U b\/bs b) (c:=c) az hext (fun b _ hb=>.inr hb)
 have lw:=Lg.extW (W:=fun b=>b=m) (c:=c) az hext (fun b _ hb=>hb.elim)
 have fr1:=hext.fresh
 have le1:=hext.c
 simp only at le1 fr1
 have hm1:ay h1 m (.map es n):=hext.hs hm lm (fun q=>q)
 have hp1:=hext.hs hp lp (fun q=>q)
 have hrm:∀b∈r1,b≠m:=fun b hb=>by
  rcases hext.rl b hb with u|u
  ·exact absurd u List.not_mem_nil
  ·exact fun e=>hbm (e▸u.2)
 refine⟨i7,?_⟩
 refine aq ?_
 refine bN.op (s1:=⟨h1.set m (some (.map (eH .i64 id v n es).1 (eH .i64 id v n es).2)),c1,[m],[m]⟩) rfl (ef (pk rfl) rfl rfl rfl hm1 (hm1.lt fr1) h2.ks) ?_ ?_
 ·exact i7
 dsimp only[put]
 refine aq ?_
 refine⟨.inl rfl,aG.nil ⟨?_,?_⟩⟩
 ·obtain⟨va,vk,rfl⟩:=hown.val
  refine⟨ay.other (fun e=>q.ne e) hp1,⟨_,_,ay.same,⟨_,h2.put (by unfold rq;rw[decide_eq_true hid.1,decide_eq_true hid.2];rfl) _⟩,fun x=>?_⟩,.inl hpU,.inl hmU,q.ne,q.rises.put _,fun r hr=>?_⟩
  ·rw[ek,l8 h2]
   by_cases hxi:id=x
   ·rw[if_pos hxi,if_pos hxi.symm]
    refine .inr ⟨_,_,rfl,rfl,?_,fun b hb=>?_⟩
    ·show kc _ 0 _ (zs.map (Value.int .i32)).length _
     rw[List.length_map,hx]
     exact(hown.low (Nat.zero_le _)).keep fun b hb=>am (by have:=(hown.blk hb).1;omega)
    ·obtain⟨u1,u2⟩:=hown.blk hb
     have:=u2.lt fr1
     exact⟨.inr ⟨u1,this⟩,by omega,by omega⟩
   ·rw[if_neg hxi,if_neg fun e=>hxi e.symm]
    exact(h3 x).keep hf (fun b hb=>.inl hb) fun b _ hc _ hm=>(am hm).trans (kp b hc hm)
  ·rcases dQ hr with rfl|hr
   ·exact⟨zs,rfl,hx,hb⟩
   ·exact q.ok r hr
 ·exact bM
end Go.Ab.Seat
end
section
namespace Go.Ab.Seat
open Go.Extern Go.Proofs
set_option maxRecDepth 4000
variable {sm:Nat->Option (List Value->M Value)}
theorem yJ (H:pV sm) {h:T ag}{c:Nat}{rl wl:List Nat} (hf:ai h c) {lv:Value}{l:List Ht} (hl:eG h lv l.length (aF l)) (hn:l.length<=1000) :
  ∃r s',aE (Cs sm) eg 201 [lv] ⟨h,c,rl,wl⟩ r s'/\(eG s'.h r l.length (aF l)/\∀b,au r=some b->c<=b)/\bA ⟨h,c,rl,wl⟩ s' (fun b=>au lv=some b) (fun _=>False):=by
 have hbg:dv=1048576:=rfl
 rcases _root_.id hl with⟨rfl,h1,h2⟩|⟨b,cap,cs,rfl,h1,h2,h3,h4⟩
 ·refine Fn.go (H 201 rfl) Hy HX HS rfl rfl ?_
  refine cg ?_
  refine aq ?_
  refine⟨.inr rfl,aG.one rfl ⟨⟨.inl ⟨rfl,h1,h2⟩,(fun b hb=>by cases hb)⟩,?_⟩⟩
  exact bM
 ·have lb:=h3.lt hf
  have hRb:au (.slice (some ⟨b,0,some 2⟩) l.length cap)=some b:=rfl
  obtain⟨m,hm⟩:∃m,l.length=m+1:=⟨l.length - 1,by omega⟩
  rw[hm] at h1 h2 h4 hn hRb ⊢
  refine Fn.go (H 201 rfl) Hy HX HS rfl rfl ?_
  refine cg ?_
  refine aq ?_
  refine Zu (l9 iB lR rfl rfl (h3.other (by omega)).cel (by omega) h4 (by omega) aO) ?_
  refine aq ?_
  refine⟨.inr rfl,aG.one rfl ⟨⟨.inr ⟨c+1,_,_,rfl,by omega,Nat.le_refl _,ay.same,aA _ _ (by rw[cN];omega)⟩,(fun b hb=>by cases hb;exact Nat.le_succ c)⟩,?_⟩⟩
  exact bM
theorem ym (H:pV sm) {h:T ag}{c:Nat}{rl wl:List Nat} (hf:ai h c) {p:Nat}{kv lv:Value}{l:List Ht} (hp:ay h p (.cells [lv,kv])) (hl:eG h lv l.length (aF l)) (hn:l.length<=1000) :
  ∃r s',aE (Cs sm) eg 140 [.pointer (some ⟨p,0,none⟩)] ⟨h,c,rl,wl⟩ r s'/\(eG s'.h r l.length (aF l)/\∀b,au r=some b->c<=b)/\bA ⟨h,c,rl,wl⟩ s' (fun b=>b=p\/au lv=some b) (fun _=>False):=by
 have lp:=hp.lt hf
 refine Fn.go (H 140 rfl) K8 LX Mf rfl rfl ?_
 refine cg ?_
 refine aq ?_
 refine ax.call rfl rfl (yJ H aO hl hn) ?_
 rintro v h1 c1 r1 w1 ⟨⟨g1,g2⟩,hext⟩
 have kp:=Kp.ext (W:=fun _=>False) (h:=h) (c:=c) bW hext (by omega) (fun _ _ q=>q)
 have lr:=Lg.extR (R:=fun b=>b=p\/au lv=some b) (c:=c) az hext (fun q hq hb=>.inr hb)
 have lw:=Lg.extW (W:=fun _=>False) (c:=c) az hext (fun _ _ q=>q)
 have fr1:=hext.fresh
 have le1:=hext.c
 simp only at le1 fr1
 refine aq ?_
 refine⟨.inr rfl,aG.one rfl ⟨⟨g1,g2⟩,?_⟩⟩
 exact bM
def HF (k:Int) (oa:Option Addr) (n cap p:Nat) (z:Int) (j7 j13:Value):L :=
 .cons 0 (.int .i64 k) (.cons 1 (.slice oa n cap) (.cons 4 (.slice none 0 0) (.cons 5 (.pointer (some ⟨p,0,none⟩)) (.cons 10 (.slice oa n cap) (.cons 11 (.int .i64 (n:Int)) (.cons 12 (.int .i64 z) (.cons 7 j7 (.cons 13 j13 .nil))))))))
set_option maxHeartbeats 4000000 in
theorem ph (H:pV sm) (HI:sm 200=some gIns) {h:T ag}{c:Nat}{rl wl:List Nat} (hf:ai h c) {k:Int}{kk:Nat}{oa:Option Addr}{cap:Nat}{l:List Ht} (hx:bj h (.slice oa l.length cap) l.length 2 (aF l)) (hk:max k 0=(kk:Int)) (hkk:kk<=1000) (hn:l.length<=800) (R:Nat->Prop) (hR:∀x,au (.slice oa l.length cap)=some x->R x) :
  ∃r s',aE (Cs sm) eg 79 [.int .i64 k,.slice oa l.length cap] ⟨h,c,rl,wl⟩ r s'/\(eG s'.h r (aQ kk l).length (aF (aQ kk l))/\∀b,au r=some b->c<=b)/\bA ⟨h,c,rl,wl⟩ s' R (fun _=>False):=by
 refine Fn.go (H 79 rfl) N6 OM Nv rfl rfl ?_
 refine cg ?_
 refine aq ?_
 refine ax.call rfl rfl (uX H aO k) ?_
 rintro v h1 c1 r1 w1 ⟨⟨rfl,hp1,e1⟩,hext⟩
 simp only at e1
 subst e1
 rw[hk] at hp1
 have kp:=Kp.ext (W:=fun _=>False) (h:=h) (c:=c) bW hext (by omega) (fun _ _ q=>q)
 have lr:=Lg.extR (R:=R) (c:=c) az hext (fun q hq hb=>hb.elim)
 have lw:=Lg.extW (W:=fun _=>False) (c:=c) az hext (fun _ _ q=>q)
 have fr1:=hext.fresh
 simp only at fr1
 refine aq ?_
 refine Wx.cutO (fun e s=>∃(j7 j13 lv:Value) (h':T ag) (c':Nat) (rl' wl':List Nat),e=HF k oa l.length cap c l.length j7 j13/\s=⟨h',c',rl',wl'⟩/\c+1<=c'/\ai h' c'/\Kp h h' c (fun _=>False)/\ay h' c (.cells [lv,.int .i64 (kk:Int)])/\eG h' lv (aQ kk l).length (aF (aQ kk l))/\(∀b,au lv=some b->c<b)/\Lg c R rl'/\Lg c (fun _=>False) wl') iY ?_ ?_
 ·refine Wx.loopE (fun k1 e s=>∃(i:Nat) (z:Int) (j7 j13 lv:Value) (h':T ag) (c':Nat) (rl' wl':List Nat),e=HF k oa l.length cap c z j7 j13/\z=i/\s=⟨h',c',rl',wl'⟩/\c+1<=c'/\ai h' c'/\Kp h h' c (fun _=>False)/\ay h' c (.cells [lv,.int .i64 (kk:Int)])/\eG h' lv (aQ kk (l.take i)).length (aF (aQ kk (l.take i)))/\(∀b,au lv=some b->c<b)/\Lg c R rl'/\Lg c (fun _=>False) wl'/\i<=l.length/\k1=l.length - i) l.length (HF k oa l.length cap c 0 top top) iY ?_ ?_ ?_
  ·unfold HF
   exact eI
  ·exact⟨0,0,_,_,_,_,_,_,_,rfl,rfl,rfl,Nat.le_refl _,fr1,kp,hp1,.inl ⟨rfl,rfl,rfl⟩,(fun b hb=>by cases hb),az,az,by omega,rfl⟩
  ·rintro k1 e s ⟨i,z,j7,j13,lv,h',c',rl',wl',rfl,hz,rfl,hcc,hf',hkp,hp',hb',hlv,hlr,hlw,hid,rfl⟩
   unfold HF
   by_cases hi:i<l.length
   ·have hx':=bj.keepF hx hf (fun b hb=>hkp b hb (fun q=>q))
    obtain⟨b1,o1,sp1,cs1,rfl,hc1,hs1⟩:=Ac hx' (by omega)
    have hR1:=hR b1 rfl
    have l1:=hc1.lt hf'
    have hg:=gZ hs1 (List.getElem?_eq_getElem hi)
    have hlen:=iP kk (l.take i)
    rw[List.length_take] at hlen
    refine aq ?_
    refine Zu (aj (k:=i) ej rfl rfl hz (by omega)) ?_
    refine Zu (cT Cp rfl hc1 (by omega) hg) ?_
    refine aq ?_
    have hlt:∀b,au lv=some b->b<c':=by
     intro b hb
     rcases hb' with⟨rfl,_⟩|⟨b',cap',cs,rfl,_,_,q3,_⟩
     ·cases hb
     ·cases hb;exact q3.lt hf'
    refine ax.call rfl rfl (uF H HI aO (x:=l[i]) gL (hb'.keep fun b hb=>?_) (fun b hb=>by have:=hlv b hb;omega) (by omega) hkk) ?_
    ·have:=hlt b hb
     exact(am (by omega)).trans (am (by omega))
    rintro v h2 c2 r2 w2 ⟨⟨lv',g1,g2,g3⟩,hext2⟩
    have kp2:=Kp.ext (W:=fun _=>False) (h:=h) (c:=c) bW hext2 (by omega) (fun b hb q=>by rcases q with q|q;(· omega);(· have:=hlv b q;omega))
    have lr2:=Lg.extR (R:=R) (c:=c) az hext2 (fun b hb q=>by rcases q with q|q;(· omega);(· have:=hlv b q;omega))
    have lw2:=Lg.extW (W:=fun _=>False) (c:=c) az hext2 (fun b hb q=>by rcases q with q|q;(· omega);(· have:=hlv b q;omega))
    have fr2:=hext2.fresh
    have le2:=hext2.c
    simp only at le2 fr2
    refine aq ?_
    refine aC.go (l.length - (i+1)) (HF k _ l.length cap c (z+1) _ _) (by omega) eI ⟨i+1,z+1,_,_,lv',_,_,_,_,rfl,by omega,rfl,by omega,fr2,kp2,g1,?_,?_,az,az,by omega,rfl⟩
    ·rw[eL hi];exact g2
    ·intro b hb
     rcases g3 b hb with q|q
     ·exact hlv b q
     ·omega
   ·refine aq ?_
    obtain rfl:i=l.length:=by omega
    subst hz
    rw[List.take_length] at hb'
    exact di.go (HF k _ l.length cap c l.length _ _) eI ⟨_,_,_,_,_,_,_,rfl,rfl,hcc,hf',hkp,hp',hb',hlv,az,az⟩
 ·rintro e s ⟨j7,j13,lv,h',c',rl',wl',rfl,rfl,hcc,hf',hkp,hp',hb',hlv,hlr,hlw⟩
  unfold HF
  refine aq ?_
  have:=iP kk l
  refine ax.call rfl rfl (ym H aO hp' hb' (by omega)) ?_
  rintro v h2 c2 r2 w2 ⟨⟨g1,g2⟩,hext2⟩
  have kp2:=Kp.ext (W:=fun _=>False) (h:=h) (c:=c) bW hext2 (by omega) (fun b hb q=>q)
  have lr2:=Lg.extR (R:=R) (c:=c) az hext2 (fun b hb q=>by rcases q with q|q;(· omega);(· have:=hlv b q;omega))
  have lw2:=Lg.extW (W:=fun _=>False) (c:=c) az hext2 (fun b hb q=>q)
  have fr2:=hext2.fresh
  have le2:=hext2.c
  simp only at le2 fr2
  refine aq ?_
  refine⟨.inr rfl,aG.one rfl ⟨⟨g1,fun b hb=>by have:=g2 b hb;omega⟩,?_⟩⟩
  exact bM
end Go.Ab.Seat
end
section
namespace Go.Ab.Seat
open Go.Extern Go.Proofs
set_option maxRecDepth 4000
theorem DF {h:T ag}{c:Nat}{rl wl:List Nat} (hf:ai h c) {p m dim:Nat}{mt:Int}{M:List Rc}{U:Nat->Prop} (q:fJ h p m mt dim M U) (hn:M.length<=1000) :
  ∃r s',aE (Cs bD) eg 78 [.pointer (some ⟨p,0,none⟩)] ⟨h,c,rl,wl⟩ r s'/\kc s'.h c r M.length ((M.map Rc.id).map (Value.int .i64))/\bA ⟨h,c,rl,wl⟩ s' U (fun _=>False):=by
 obtain⟨es,n,hm,⟨ids,h2⟩,h3⟩:=q.ex
 have hp:=q.ptr
 obtain⟨lp,lm⟩:=q.lt hf
 have hpU:=q.pU
 have hmU:=q.mU
 have hs:=fJ.ids h2 q.rises h3
 have hlen:ids.length=M.length:=by
  have:=congrArg List.length hs
  rw[(dy ids).length_eq,List.length_map] at this
  exact this
 have hk:=h2.keyInts
 refine Fn.go (aU 78 rfl) Po MO Ps rfl rfl ?_
 refine cg ?_
 refine aq ?_
 refine ax.call rfl rfl (CO aU aO) ?_
 rintro v1 h1 c1 r1 w1 ⟨rfl,e1⟩
 cases e1
 cases ids with
 |nil =>
  obtain rfl:M=[]:=by cases M with|nil=>rfl|cons _ _=>simp at hlen
  refine ax.call rfl rfl (zw aO gL gL hk) ?_
  rintro v1 h1 c1 r1 w1 ⟨rfl,e1⟩
  cases e1
  refine aq ?_
  refine⟨.inr rfl,aG.one rfl ⟨.inl ⟨rfl,rfl,rfl⟩,?_⟩⟩
  exact bM
 |cons x0 xs0 =>
  refine ax.call rfl rfl (xQ aO gL gL hk (by omega)) ?_
  rintro v1 h1 c1 r1 w1 ⟨rfl,e1⟩
  cases e1
  rw[hs,hlen]
  refine aq ?_
  refine⟨.inr rfl,aG.one rfl ⟨.inr ⟨c+1,_,_,rfl,Nat.le_refl _,by omega,ay.same⟩,?_⟩⟩
  exact bM
def jS (xs:List Value):List Int:=xs.map fun v=>match v with|.int _ z=>z|_=>0
theorem gj (zs:List Int):jS (zs.map (Value.int .i32))=zs:=by
 unfold jS
 rw[List.map_map]
 exact List.map_id zs
def Cj (mt:Int) (qs:List Int) (r:Rc):Ht:=⟨r.id,cX mt qs (jS r.xs)⟩
def bX (mt:Int) (qs:List Int) (M:List Rc):List Ht:=M.map (Cj mt qs)
def HL (h:T ag) (c0:Nat) (v:Value) (l:List Ht):Prop:=(v=.slice none 0 0/\l=[])\/∃b,v=.slice (some ⟨b,0,some 2⟩) l.length l.length/\l≠[]/\c0<=b/\ay h b (.cells (aF l))
theorem HL.val {h:T ag}{c:Nat}{v:Value}{l:List Ht} (x:HL h c v l):∃oa,v=.slice oa l.length l.length/\bj h v l.length 2 (aF l)/\∀b,au v=some b->c<=b:=by
 rcases x with⟨rfl,rfl⟩|⟨b,rfl,_,h1,h2⟩
 ·exact⟨_,rfl,.inl ⟨rfl,rfl,_,_,rfl⟩,fun b hb=>by cases hb⟩
 ·exact⟨_,rfl,.inr ⟨b,0,_,_,_,rfl,h2.cel,aA _ _ (cN l).symm⟩,fun b hb=>by cases hb;exact h1⟩
def GO (p:Nat) (qa:Option Addr) (dim qc:Nat) (k:Int) (lv:Value) (oi:Option Addr) (n ic:Nat) (z:Int) (j9 j14:Value):L :=
 .cons 0 (.pointer (some ⟨p,0,none⟩)) (.cons 1 (.slice qa dim qc) (.cons 2 (.int .i64 k) (.cons 6 (.slice none 0 0) (.cons 7 lv (.cons 11 (.slice oi n ic) (.cons 12 (.int .i64 (n:Int)) (.cons 13 (.int .i64 z) (.cons 9 j9 (.cons 14 j14 .nil)))))))))
set_option maxHeartbeats 4000000 in
theorem vL {h:T ag}{c:Nat}{rl wl:List Nat} (hf:ai h c) {p m dim:Nat}{mt:Int}{M:List Rc}{U:Nat->Prop} (q:fJ h p m mt dim M U) (hmt:mt=1\/mt=2) {qa:Option Addr}{qc:Nat}{qs:List Int} (hq:bj h (.slice qa dim qc) dim 1 (qs.map (Value.int .i32))) (hqn:qs.length=dim) (hqb:gc qs) (hd:dim<=1000) (k:Int) {kk:Nat} (hk:max k 0=(kk:Int)) (hkk:kk<=1000) (hn:M.length<=800) (R:Nat->Prop) (hUR:∀b,U b->R b) (hqR:∀b,au (.slice qa dim qc)=some b->R b) :
  ∃r s',aE (Cs bD) eg 24 [.pointer (some ⟨p,0,none⟩),.slice qa dim qc,.int .i64 k] ⟨h,c,rl,wl⟩ r s'/\(eG s'.h r (aQ kk (bX mt qs M)).length (aF (aQ kk (bX mt qs M)))/\∀b,au r=some b->c<=b)/\bA ⟨h,c,rl,wl⟩ s' R (fun _=>False):=by
 have hp:=q.ptr
 obtain⟨lp,lm⟩:=q.lt hf
 have hpU:=hUR p q.pU
 have hmU:=hUR m q.mU
 refine Fn.go (aU 24 rfl) NW PA No rfl rfl ?_
 refine cg ?_
 refine aq ?_
 refine ax.call rfl rfl (DF aO q (by omega)) ?_
 rintro v1 h1 c1 r1 w1 ⟨hids,hext⟩
 have kp:=Kp.ext (W:=fun _=>False) (h:=h) (c:=c) bW hext (by omega) (fun _ _ q=>q)
 have lr:=Lg.extR (R:=R) (c:=c) az hext (fun b hb u=>hUR b u)
 have lw:=Lg.extW (W:=fun _=>False) (c:=c) az hext (fun _ _ q=>q)
 have fr1:=hext.fresh
 have le1:=hext.c
 simp only at le1 fr1
 obtain⟨oi,ic,rfl⟩:=hids.val
 have hrow1:=hids.row (by rw[List.length_map,List.length_map])
 have hlen:∀i,i<=M.length->(bX mt qs (M.take i)).length=i:=fun i hi=>by unfold bX;rw[List.length_map,List.length_take];omega
 refine aq ?_
 refine Wx.cutO (fun e s=>∃(lv j9 j14:Value) (h':T ag) (c':Nat) (rl' wl':List Nat),e=GO p qa dim qc k lv oi M.length ic M.length j9 j14/\s=⟨h',c',rl',wl'⟩/\c1<=c'/\ai h' c'/\Kp h h' c (fun _=>False)/\HL h' c1 lv (bX mt qs M)/\Lg c R rl'/\Lg c (fun _=>False) wl') iY ?_ ?_
 ·refine Wx.loopE (fun k1 e s=>∃(i:Nat) (z:Int) (lv j9 j14:Value) (h':T ag) (c':Nat) (rl' wl':List Nat),e=GO p qa dim qc k lv oi M.length ic z j9 j14/\z=i/\s=⟨h',c',rl',wl'⟩/\c1<=c'/\ai h' c'/\Kp h1 h' c1 (fun _=>False)/\HL h' c1 lv (bX mt qs (M.take i))/\Lg c R rl'/\Lg c (fun _=>False) wl'/\i<=M.length/\k1=M.length - i) M.length (GO p qa dim qc k (.slice none 0 0) oi M.length ic 0 top top) iY ?_ ?_ ?_
  ·unfold GO
   exact eI
  ·exact⟨0,0,_,_,_,_,_,_,_,rfl,rfl,rfl,Nat.le_refl _,fr1,Kp.refl,.inl ⟨rfl,rfl⟩,az,az,by omega,rfl⟩
  ·rintro k1 e s ⟨i,z,lv,j9,j14,h',c',rl',wl',rfl,hz,rfl,hcc,hf',hkp,hHL,hlr,hlw,hid,rfl⟩
   unfold GO
   by_cases hi:i<M.length
   ·have hrow':=bj.keepF hrow1 fr1 (fun b hb=>hkp b hb (fun q=>q))
    have hgid:((M.map Rc.id).map (Value.int .i64))[i]?=some (.int .i64 M[i].id):=by
     rw[List.getElem?_map,List.getElem?_map,List.getElem?_eq_getElem hi];rfl
    obtain⟨b1,o1,sp1,cs1,rfl,hc1,hn1⟩:=bp hrow' (j:=i*1) (by omega) (by rw[Nat.mul_one];exact hgid)
    have hb1:c<=b1:=by
     rcases hids with⟨e,_⟩|⟨b',sp',cap',e,_,g,_⟩
     ·simp only[Value.slice.injEq] at e;cases e.1
     ·simp only[Value.slice.injEq,Option.some.injEq,Addr.mk.injEq] at e;rw[e.1.1];exact g
    have l1:=hc1.lt hf'
    have kph:Kp h h' c (fun _=>False):=fun b hb _=>(hkp b (by omega) (fun q=>q)).trans (kp b hb (fun q=>q))
    have hq0:=bj.keepF hq hf (fun b hb=>kph b hb (fun q=>q))
    have q':=q.keep hf (fun b _ hb=>kph b hb (fun q=>q))
    have hp':=q'.ptr
    obtain⟨es,n,hm',⟨ids,h2⟩,h3⟩:=q'.ex
    obtain⟨lp',lm'⟩:=q'.lt hf'
    obtain⟨zs,hzs,hzl,hzb⟩:=q.ok M[i] (List.getElem_mem hi)
    obtain⟨v,hv1,hv2,hv3⟩:∃v,dU M[i].id es=some v/\kc h' 0 v dim (zs.map (Value.int .i32))/\∀b,au v=some b->U b:=by
     rcases h3 M[i].id with⟨e1,_⟩|⟨r,v,e1,e2,e3,e4⟩
     ·exact absurd rfl (fk.1 e1 M[i] (List.getElem_mem hi))
     ·rw[dH q.rises (List.getElem_mem hi) rfl] at e1
      cases e1
      rw[hzs,List.length_map,hzl] at e3
      exact⟨v,e2,e3,fun b hb=>(e4 b hb).1⟩
    obtain⟨va,vk,rfl⟩:=hv2.val
    obtain⟨vi,hv4⟩:=iw hv1
    have hvr:=hv2.row (by rw[List.length_map];exact hzl)
    refine aq ?_
    refine Zu (aj (k:=i) ct rfl rfl hz (by omega)) ?_
    refine Zu (aB (dV rfl) rfl hc1 (by omega) hn1) ?_
    refine aq ?_
    refine Zd (bL (pk rfl) (tG rfl) rfl rfl hm' lm' h2.ks (by rw[hv4])) ?_
    refine bN.call rfl rfl (gh aU aO hmt hqn hzl hq0 hvr hqb hzb hd R (fun b hb=>hb.elim (hqR b) (fun u=>hUR b (hv3 b u)))) ?_
    rintro v h2' c2 r2 w2 ⟨⟨rfl,e1,e2⟩,hext2⟩
    simp only at e1 e2
    subst e1 e2
    have hqt:=hext2.quiet (fun _ _ q=>q)
    have lr2:=Lg.extR (R:=R) (c:=c) az hext2 (fun _ _ q=>q)
    have lw2:=Lg.extW (W:=fun _=>False) (c:=c) az hext2 (fun _ _ q=>q)
    refine⟨i7,?_⟩
    have hhit:bX mt qs (M.take (i+1))=bX mt qs (M.take i)++[⟨M[i].id,cX mt qs zs⟩]:=by
     unfold bX
     rw[List.take_succ_eq_append_getElem hi,List.map_append]
     show _++[Cj mt qs M[i]]=_
     unfold Cj
     rw[hzs,gj]
    have hfl:aF (bX mt qs (M.take (i+1)))=aF (bX mt qs (M.take i))++[.int .i64 M[i].id,.int .i64 (cX mt qs zs)]:=by rw[hhit,fg];rfl
    have hl0:=hlen i (by omega)
    have hl1:=hlen (i+1) (by omega)
    have hbg:dv=1048576:=rfl
    rcases hHL with⟨rfl,hnil⟩|⟨bl,rfl,hne,hbl,hbc⟩
    ·refine aq ?_
     refine Zd (cy iB lR rfl rfl (k:=0) ay.same.cel (by omega) (aA _ _ rfl) (by omega) aO) ?_
     refine aq ?_
     refine aC.go (M.length - (i+1)) (GO p qa dim qc k _ _ M.length ic (z+1) _ _) (by omega) eI ⟨i+1,z+1,_,_,_,_,_,_,_,rfl,by omega,rfl,by omega,aO,bW,?_,az,az,by omega,rfl⟩
     have hi0:i=0:=by rw[hnil] at hl0;simpa using hl0.symm
     refine .inr ⟨c2+1,?_,?_,by omega,?_⟩
     ·rw[hl1,hi0]
     ·intro e;rw[e] at hl1;simp at hl1
     ·rw[hfl,hnil];exact ay.same
    ·have l3:=hbc.lt hf'
     refine aq ?_
     refine Zd (dg iB lR rfl rfl (k:=0) ay.same.cel (by omega) (aA _ _ rfl) (by omega) (by omega) (hbc.other (by omega)) (by omega) (aA _ _ (cN _).symm) (all_cons rfl (all_cons rfl a7)) aO) ?_
     refine aq ?_
     refine aC.go (M.length - (i+1)) (GO p qa dim qc k _ _ M.length ic (z+1) _ _) (by omega) eI ⟨i+1,z+1,_,_,_,_,_,_,_,rfl,by omega,rfl,by omega,aO,bW,?_,az,az,by omega,rfl⟩
     refine .inr ⟨c2+1,?_,?_,by omega,?_⟩
     ·rw[hl1,hl0]
     ·intro e;rw[e] at hl1;simp at hl1
     ·rw[hfl];exact ay.same
   ·refine aq ?_
    obtain rfl:i=M.length:=by omega
    subst hz
    rw[List.take_length] at hHL
    exact di.go (GO p qa dim qc k lv oi M.length ic M.length _ _) eI ⟨_,_,_,_,_,_,_,rfl,rfl,hcc,hf',(fun b hb _=>(hkp b (by omega) (fun q=>q)).trans (kp b hb (fun q=>q))),hHL,az,az⟩
 ·rintro e s ⟨lv,j9,j14,h',c',rl',wl',rfl,rfl,hcc,hf',hkp,hHL,hlr,hlw⟩
  unfold GO
  obtain⟨oa,rfl,hrow,hge⟩:=hHL.val
  have hl2:=hlen M.length (Nat.le_refl _)
  rw[List.take_length] at hl2
  refine aq ?_
  refine ax.call rfl rfl (ph aU rfl aO hrow hk hkk (by omega) (fun b=>c1<=b) hge) ?_
  rintro v h2 c2 r2 w2 ⟨⟨g1,g2⟩,hext2⟩
  have kp2:=Kp.ext (W:=fun _=>False) (h:=h) (c:=c) bW hext2 (by omega) (fun _ _ q=>q)
  have lr2:=Lg.extR (R:=R) (c:=c) az hext2 (fun b hb u=>by omega)
  have lw2:=Lg.extW (W:=fun _=>False) (c:=c) az hext2 (fun _ _ q=>q)
  have fr2:=hext2.fresh
  have le2:=hext2.c
  simp only at le2 fr2
  refine aq ?_
  refine⟨.inr rfl,aG.one rfl ⟨⟨g1,fun b hb=>by have:=g2 b hb;omega⟩,?_⟩⟩
  exact bM
end Go.Ab.Seat
end
