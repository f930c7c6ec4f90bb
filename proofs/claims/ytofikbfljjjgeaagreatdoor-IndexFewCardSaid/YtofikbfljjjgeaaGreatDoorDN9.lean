import Derived.Test.YtofikbfljjjgeaaGreatDoorDF3
import Derived.Test.YtofikbfljjjgeaaGreatDoorDP4
import Derived.Test.YtofikbfljjjgeaaGreatDoorDF7
import Derived.Test.YtofikbfljjjgeaaGreatDoorDJ3
import Derived.Test.YtofikbfljjjgeaaGreatDoorDO7
import Derived.Test.YtofikbfljjjgeaaGreatDoorDP1
import Derived.Test.YtofikbfljjjgeaaGreatDoorDN4
import Derived.Test.YtofikbfljjjgeaaGreatDoorDY9
import Derived.Test.YtofikbfljjjgeaaGreatDoorDK5
set_option linter.unusedVariables false
set_option linter.unusedSimpArgs false
section
namespace Go.Ab.Seat
open Go.Extern Go.Proofs
set_option maxRecDepth 4000
theorem Db {h:T ag}{c:Nat}{rl wl:List Nat} (hf:ai h c) {mt:Int} (hmt:mt=1\/mt=2) {v:Value}{dim:Nat}{vs:List (List Int)}{U:Nat->Prop} (hm:fe h v dim vs U) (hn:vs.length<=1000) (hd1:1<=dim) (hd:dim<=1000) (R:Nat->Prop) (hUR:∀b,U b->R b) :
  ∃r s',aE (Cs bD) eg 62 [.int .i64 mt,v] ⟨h,c,rl,wl⟩ r s'/\(∃p m mv,r=.pointer (some ⟨p,0,none⟩)/\mq s'.h p m mv mt dim (jD 4 vs 3) [] (fun b=>c<=b/\b<s'.c))/\bA ⟨h,c,rl,wl⟩ s' R (fun _=>False):=by
 have hok:=oO (n:=4) hm.vok 3
 obtain⟨oa,cap,rfl⟩:=hm.val
 refine Fn.go (aU 62 rfl) Oi Oc M5 rfl rfl ?_
 refine cg ?_
 refine aq ?_
 refine ax.call rfl rfl (wS aO (N:=4) (tt:=3) (by omega) (by omega) (by omega) hm hn hd1 hd R hUR) ?_
 rintro v1 h1 c1 r1 w1 ⟨hG,hext⟩
 have fr1:=hext.fresh
 have le1:=hext.c
 simp only at le1 fr1 hG
 have kp:=Kp.ext (W:=fun _=>False) (h:=h) (c:=c) bW hext (by omega) (fun _ _ q=>q)
 have lr:=Lg.extR (R:=R) (c:=c) az hext (fun _ _ q=>q)
 have lw:=Lg.extW (W:=fun _=>False) (c:=c) az hext (fun _ _ q=>q)
 refine aq ?_
 refine ax.call rfl rfl (Fo aO hmt hG.mrow (by omega) hd hd1 (fun b=>c<=b) (fun b q=>q.1)) ?_
 rintro v2 h2 c2 r2 w2 ⟨⟨p,m,mv,rfl,hI⟩,hext2⟩
 have fr2:=hext2.fresh
 have le2:=hext2.c
 simp only at le2 fr2 hI
 have kp2:=Kp.ext (W:=fun _=>False) (h:=h) (c:=c) kp hext2 (by omega) (fun _ _ q=>q)
 have lr2:=Lg.extR (R:=R) (c:=c) lr hext2 (fun b hb q=>by omega)
 have lw2:=Lg.extW (W:=fun _=>False) (c:=c) lw hext2 (fun _ _ q=>q)
 refine aq ?_
 refine⟨.inr rfl,aG.one rfl ⟨⟨p,m,mv,rfl,?_⟩,?_⟩⟩
 ·obtain⟨es,n,a1,a2,a3⟩:=hI.ex
  have hw:∀b,c1<=b/\b<c2->c<=b/\b<c2:=fun b q=>by omega
  exact⟨hI.ptr,hI.mids.keep fr2 (fun b q=>⟨hw b q.1,q.2⟩) (fun b _ _ _=>rfl),⟨es,n,a1,a2,fun x=>(a3 x).keep fr2 hw (fun b _ _ _ _=>rfl)⟩,hw _ hI.pU,hw _ hI.mU,hI.ne,hI.rises,hI.ok⟩
 ·exact bM
end Go.Ab.Seat
end
section
namespace Go.Ab.Seat
open Go.Extern Go.Proofs
set_option maxRecDepth 4000
end Go.Ab.Seat
end
section
namespace Go.Ab.Seat
open Go.Extern Go.Proofs
set_option maxRecDepth 4000
def Qp (kd id k:Int) (oa:Option Addr) (on oc:Nat) (dw:Int):Value:=.agg ⟨[.int .i64 kd,.int .i64 id,.int .i64 k,.slice oa on oc,.int .u32 dw]⟩
end Go.Ab.Seat
end
section
namespace Go.Ab.Seat
open Go.Extern Go.Proofs
def H9 (h:T ag) (c0:Nat) (oa:Option Addr) (n:Nat):Prop:=∀i,i<n->∃b o sp cs kd id k va nv kv,∃zs:List Int,∃dw,oa=some ⟨b,o,sp⟩/\b<c0/\gX h b cs/\aP (o+i*5) 5 cs=some [.int .i64 kd,.int .i64 id,.int .i64 k,.slice va nv kv,.int .u32 dw] /\
 bj h (.slice va nv kv) nv 1 (zs.map (Value.int .i32))/\zs.length=nv/\(0<=dw/\dw<4294967296)/\∀b,au (.slice va nv kv)=some b->b<c0
theorem H9.keep {h h':T ag}{c0 n:Nat}{oa:Option Addr} (x:H9 h c0 oa n) (k:∀b,b<c0->h'.get b=h.get b):H9 h' c0 oa n:=fun i hi=>by
 obtain⟨b,o,sp,cs,kd,id,k1,va,nv,kv,zs,dw,h1,h2,h3,h4,h5,h6,h8,h7⟩:=x i hi
 exact⟨b,o,sp,cs,kd,id,k1,va,nv,kv,zs,dw,h1,h2,by unfold gX ay at h3 ⊢;rw[k b h2];exact h3,h4,bj.keepBT h5 (fun b hb=>k b (h7 b hb)),h6,h8,h7⟩
def zk (h:T ag) (v:Value) (dim:Nat) (o:Option Rc):Prop:=(o=none/\∃a k,v=.slice a 0 k/\bj h (.slice a 0 k) 0 1 [])\/∃(r0:Rc) (zs:List Int) (a:Option Addr) (k:Nat),o=some r0/\r0.xs=zs.map (Value.int .i32)/\zs.length=dim/\v=.slice a dim k/\bj h (.slice a dim k) dim 1 r0.xs
theorem zk.keep {h h':T ag}{c:Nat}{v:Value}{dim:Nat}{o:Option Rc} (x:zk h v dim o) (hf:ai h c) (k:∀b,b<c->h'.get b=h.get b):zk h' v dim o:=by
 rcases x with⟨h1,a,k1,h2,h3⟩|⟨r0,zs,a,k1,h1,h2,h3,h4,h5⟩
 ·exact .inl ⟨h1,a,k1,h2,bj.keepF h3 hf (fun b hb=>k b hb)⟩
 ·exact .inr ⟨r0,zs,a,k1,h1,h2,h3,h4,bj.keepF h5 hf (fun b hb=>k b hb)⟩
theorem E8 {id:Int}{x:Rc}{M:List Rc} (h:x∈jI id M):x∈M:=by
 unfold jI at h
 exact(List.mem_filter.1 h).1
structure M8 {σ:Type} (fv:List Value) (r c0 dim:Nat) (mem:σ->List Rc) (put:σ->Int->List Int->Int->σ) (del:σ->Int->σ) (look:σ->List Int->Nat->List Ht) (J:T ag->Nat->(Nat->Prop)->σ->σ->Prop):Prop where
 f:∀ {h c U A B},J h c U A B->ai h c
 bd:∀ {h c U A B},J h c U A B->∀b,U b->c0<=b/\b<c
 keep:∀ {h c U A B h' c'},J h c U A B->ai h' c'->c<=c'->(∀b,U b->h'.get b=h.get b)->J h' c' U A B
 rises:∀ {h c U A B},J h c U A B->cE (mem A)
 looks:∀A zs k,(look A zs k).length<=k
 mput:∀ {A id zs dw x},x∈mem (put A id zs dw)->x.id=id\/x∈mem A
 mdel:∀ {A id x},x∈mem (del A id)->x∈mem A
 putF:∀ {h c U A B}{rl wl:List Nat} (d:J h c U A B) (id:Int) (hid:0<=id/\id<=39) {bv:Nat}{zs:List Int} (hv:ay h bv (.cells (zs.map (Value.int .i32)))) (hz:zs.length=dim) (hb:gc zs) (kd k dw:Int) (hdw:0<=dw/\dw<4294967296) (oa:Option Addr) (on oc:Nat) (hn:(mem A).length<=40),¬U bv->c0<=c ->
  ∃v s',aE (Cs bD) eg 119 [.agg ⟨fv⟩,Qp kd id k oa on oc dw,.slice (some ⟨bv,0,none⟩) dim dim] ⟨h,c,rl,wl⟩ v s'/\J s'.h s'.c (fun b=>U b\/c<=b/\b<s'.c) (put A id zs dw) B/\bA ⟨h,c,rl,wl⟩ s' (fun _=>True) U
 putR:∀ {h c U A B}{rl wl:List Nat} (d:J h c U A B) (id:Int) (hid:0<=id/\id<=39) {bv:Nat}{zs:List Int} (hv:ay h bv (.cells (zs.map (Value.int .i32)))) (hz:zs.length=dim) (hb:gc zs) (dw:Int) (hdw:0<=dw/\dw<4294967296) (hn:(mem B).length<=40),¬U bv->c0<=c ->
  ∃v s',aE (Cs bD) eg 50 [.pointer (some ⟨r,0,none⟩),.int .i64 id,.slice (some ⟨bv,0,none⟩) dim dim,.int .u32 dw] ⟨h,c,rl,wl⟩ v s'/\J s'.h s'.c (fun b=>U b\/c<=b/\b<s'.c) A (put B id zs dw)/\bA ⟨h,c,rl,wl⟩ s' (fun _=>True) U
 delF:∀ {h c U A B}{rl wl:List Nat} (d:J h c U A B) (id:Int) (hn:(mem A).length<=40),c0<=c ->
  ∃v s',aE (Cs bD) eg 120 [.agg ⟨fv⟩,.int .i64 id] ⟨h,c,rl,wl⟩ v s'/\(v=.bool (aK id (mem A)).isSome/\J s'.h s'.c (fun b=>U b\/c<=b/\b<s'.c) (del A id) B)/\bA ⟨h,c,rl,wl⟩ s' (fun _=>True) U
 delR:∀ {h c U A B}{rl wl:List Nat} (d:J h c U A B) (id:Int) (hn:(mem B).length<=40),c0<=c ->
  ∃v s',aE (Cs bD) eg 52 [.pointer (some ⟨r,0,none⟩),.int .i64 id] ⟨h,c,rl,wl⟩ v s'/\(v=.bool (aK id (mem B)).isSome/\J s'.h s'.c (fun b=>U b\/c<=b/\b<s'.c) A (del B id))/\bA ⟨h,c,rl,wl⟩ s' (fun _=>True) U
 searchF:∀ {h c U A B}{rl wl:List Nat} (d:J h c U A B) {bv:Nat}{zs:List Int} (hv:ay h bv (.cells (zs.map (Value.int .i32)))) (hz:zs.length=dim) (hb:gc zs) (k:Int) {kk:Nat} (hk:max k 0=(kk:Int)) (hkk:kk<=30) (hn:(mem A).length<=40),c0<=c ->
  ∃v s',aE (Cs bD) eg 121 [.agg ⟨fv⟩,.slice (some ⟨bv,0,none⟩) dim dim,.int .i64 k] ⟨h,c,rl,wl⟩ v s'/\(eG s'.h v (look A zs kk).length (aF (look A zs kk))/\∀b,au v=some b->c<=b)/\bA ⟨h,c,rl,wl⟩ s' (fun _=>True) (fun _=>False)
 searchR:∀ {h c U A B}{rl wl:List Nat} (d:J h c U A B) {bv:Nat}{zs:List Int} (hv:ay h bv (.cells (zs.map (Value.int .i32)))) (hz:zs.length=dim) (hb:gc zs) (k:Int) {kk:Nat} (hk:max k 0=(kk:Int)) (hkk:kk<=30) (hn:(mem B).length<=40),c0<=c ->
  ∃v s',aE (Cs bD) eg 53 [.pointer (some ⟨r,0,none⟩),.slice (some ⟨bv,0,none⟩) dim dim,.int .i64 k] ⟨h,c,rl,wl⟩ v s'/\(eG s'.h v (look B zs kk).length (aF (look B zs kk))/\∀b,au v=some b->c<=b)/\bA ⟨h,c,rl,wl⟩ s' (fun _=>True) (fun _=>False)
 idsF:∀ {h c U A B}{rl wl:List Nat} (d:J h c U A B) (hn:(mem A).length<=40),
  ∃v s',aE (Cs bD) eg 124 [.agg ⟨fv⟩] ⟨h,c,rl,wl⟩ v s'/\kc s'.h c v (mem A).length (((mem A).map Rc.id).map (Value.int .i64))/\bA ⟨h,c,rl,wl⟩ s' (fun _=>True) (fun _=>False)
 idsR:∀ {h c U A B}{rl wl:List Nat} (d:J h c U A B) (hn:(mem B).length<=40),
  ∃v s',aE (Cs bD) eg 56 [.pointer (some ⟨r,0,none⟩)] ⟨h,c,rl,wl⟩ v s'/\HJ s'.h c v ((mem B).map Rc.id)/\bA ⟨h,c,rl,wl⟩ s' (fun _=>True) (fun _=>False)
 vecF:∀ {h c U A B}{rl wl:List Nat} (d:J h c U A B) (id:Int) (hn:(mem A).length<=40),
  ∃v s',aE (Cs bD) eg 122 [.agg ⟨fv⟩,.int .i64 id] ⟨h,c,rl,wl⟩ v s'/\(∃w,v=.tuple #[w,.bool (aK id (mem A)).isSome]/\zk s'.h w dim (aK id (mem A)))/\bA ⟨h,c,rl,wl⟩ s' (fun _=>True) (fun _=>False)
 vecR:∀ {h c U A B}{rl wl:List Nat} (d:J h c U A B) (id:Int) (hn:(mem B).length<=40),
  ∃v s',aE (Cs bD) eg 123 [.pointer (some ⟨r,0,none⟩),.int .i64 id] ⟨h,c,rl,wl⟩ v s'/\(∃w,v=.tuple #[w,.bool (aK id (mem B)).isSome]/\zk s'.h w dim (aK id (mem B)))/\bA ⟨h,c,rl,wl⟩ s' (fun _=>True) (fun _=>False)
end Go.Ab.Seat
end
section
namespace Go.Ab.Seat
open Go.Extern Go.Proofs
set_option maxRecDepth 4000
section
variable {h:T ag}{c:Nat}{rl wl:List Nat}{p m dim:Nat}{mv:Value}{mt:Int}{mid:List (List Int)}{M:List Rc}{U:Nat->Prop}
end
end Go.Ab.Seat
end
section
namespace Go.Ab.Seat
open Go.Extern Go.Proofs
set_option maxRecDepth 4000
end Go.Ab.Seat
end
section
namespace Go.Ab.Seat
open Go.Extern Go.Proofs
set_option maxRecDepth 4000
def fE (r:Rc):Rc:=⟨r.id,r.xs,.empty,0,false⟩
def AE (dim:Nat) (mid:List (List Int)) (B:List Rc):Prop:=∀r∈B,∃zs:List Int,r=IR r.id zs (jC mid zs)/\zs.length=dim/\gc zs
end Go.Ab.Seat
end
section
namespace Go.Ab.Seat
open Go.Extern Go.Proofs
set_option maxRecDepth 4000
end Go.Ab.Seat
end
section
namespace Go.Ab.Seat
open Go.Extern Go.Proofs
set_option maxRecDepth 4000
end Go.Ab.Seat
end
section
namespace Go.Ab.Seat
open Go.Extern Go.Proofs
set_option maxRecDepth 4000
end Go.Ab.Seat
end
section
namespace Go.Ab.Seat
open Go.Extern Go.Proofs
theorem AE.put {dim:Nat}{mid:List (List Int)}{B:List Rc} (h:AE dim mid B) {id:Int}{zs:List Int} (hz:zs.length=dim) (hb:gc zs):AE dim mid (cJ (IR id zs (jC mid zs)) B):=fun r hr=>by
 rcases dQ hr with rfl|hr
 ·exact⟨zs,rfl,hz,hb⟩
 ·exact h r hr
theorem AE.del {dim:Nat}{mid:List (List Int)}{B:List Rc} (h:AE dim mid B) {id:Int}:AE dim mid (jI id B):=fun r hr=>h r (E8 hr)
structure IF (c0 p m r:Nat) (mv1 mv2:Value) (mt:Int) (dim:Nat) (mid:List (List Int)) (h:T ag) (c:Nat) (U:Nat->Prop) (A B:List Rc):Prop where
 f:ai h c
 bd:∀b,U b->c0<=b/\b<c
 ex:∃U1 U2 U3:Nat->Prop,mq h p m mv1 mt dim mid A U1/\Cv h r ⟨2,mv2,.slice none 0 0,.slice none 0 0⟩ mt dim dim (B.map fE) U2/\fe h mv2 dim mid U3/\AE dim mid B/\(∀b,U1 b->U b/\¬U2 b)/\(∀b,U2 b->U b)/\(∀b,U3 b->U b/\¬U1 b/\b≠r)
section
variable {c0 p m r dim:Nat}{mv1 mv2:Value}{mt:Int}{mid:List (List Int)}
theorem IF.keep {h h':T ag}{c c':Nat}{U:Nat->Prop}{A B:List Rc} (d:IF c0 p m r mv1 mv2 mt dim mid h c U A B) (f':ai h' c') (hc:c<=c') (k:∀b,U b->h'.get b=h.get b):IF c0 p m r mv1 mv2 mt dim mid h' c' U A B:=by
 obtain⟨U1,U2,U3,q1,q2,q3,q4,q5,q6,q7⟩:=d.ex
 exact⟨f',fun b hb=>by have:=d.bd b hb;omega,U1,U2,U3,q1.keep d.f (fun b hb _=>k b (q5 b hb).1),q2.keep d.f (fun b hb _=>k b (q6 b hb)),q3.keep d.f (fun _ q=>q) (fun b hb _ _=>k b (q7 b hb).1),q4,q5,q6,q7⟩
end
end Go.Ab.Seat
end
section
namespace Go.Ab.Seat
open Go.Extern Go.Proofs
set_option maxRecDepth 4000
inductive Ix where
 |flat (M:List Rc)
 |ivf (mid:List (List Int)) (M:List Rc)
 |gra (G:Gr)
 |cod (lo st:List Int) (M:List Rc)
def Ix.mem:Ix->List Rc
 |.flat M=>M
 |.ivf _ M=>M
 |.gra G=>G.M
 |.cod _ _ M=>M
noncomputable def Ix.put (mt:Int) (id:Int) (zs:List Int) (dw:Int):Ix->Ix
 |.flat M=>.flat (cJ (Ga id zs) M)
 |.ivf mid M=>.ivf mid (cJ (IR id zs (jC mid zs)) M)
 |.gra G=>.gra (sx mt G id zs dw)
 |.cod lo st M=>.cod lo st (cJ (Ga id zs) M)
noncomputable def Ix.hits (mt:Int) (qs:List Int) (k:Nat):Ix->List Ht
 |.flat M=>aQ k (bX mt qs M)
 |.ivf mid M=>aQ k (gV mt qs mid M)
 |.gra G=>mF mt G qs k
 |.cod lo st M=>sj mt qs lo st k M
noncomputable def Ix.new (kd:Int) (dim:Nat) (vs:List (List Int)):Ix :=
 if kd=1 then .flat [] else if kd=2 then .ivf (jD 4 vs 3) [] else if kd=3 then .gra ⟨[],fun _ _=>[]⟩ else .cod (CE dim vs) (vp dim vs) []
def Ix.ok:Ix->Prop
 |.flat _=>True
 |.ivf mid _=>mid.length<=12
 |.gra G=>nC G
 |.cod _ _ _=>True
def Ix.kd:Ix->Int
 |.flat _=>1
 |.ivf _ _=>2
 |.gra _=>3
 |.cod _ _ _=>4
def Ix.In (h:T ag) (q:Nat) (mt:Int) (dim:Nat) (U:Nat->Prop):Ix->Prop
 |.flat M=>∃m,fJ h q m mt dim M U
 |.ivf mid M=>∃m mv,mq h q m mv mt dim mid M U
 |.gra G=>∃m,gw h q m mt dim G U
 |.cod lo st M=>∃m vl vs,jM h q m vl vs mt dim lo st M U
def Qk (kd mt:Int) (dim:Nat) (q:Nat):List Value:=[.int .i64 kd,.int .i64 mt,.int .i64 (dim:Int),.pointer (if kd=1 then some ⟨q,0,none⟩ else none),.pointer (if kd=2 then some ⟨q,0,none⟩ else none),.pointer (if kd=3 then some ⟨q,0,none⟩ else none),.pointer (if kd=4 then some ⟨q,0,none⟩ else none)]
structure Hn (h:T ag) (p:Nat) (mt:Int) (dim:Nat) (S:Ix) (U:Nat->Prop):Prop where
 pU:U p
 ok:S.ok
 ex:∃q U1,ay h p (.cells (Qk S.kd mt dim q))/\S.In h q mt dim U1/\∀b,U1 b->U b/\b≠p
section
variable {h h':T ag}{c p q dim:Nat}{mt:Int}{S:Ix}{U U':Nat->Prop}
theorem Ix.In.keep (x:S.In h q mt dim U) (hf:ai h c) (k:∀b,U b->b<c->h'.get b=h.get b):S.In h' q mt dim U:=by
 cases S with
 |flat M=>obtain⟨m,x⟩:=x;exact⟨m,x.keep hf k⟩
 |ivf mid M=>obtain⟨m,mv,x⟩:=x;exact⟨m,mv,x.keep hf k⟩
 |gra G=>obtain⟨m,x⟩:=x;exact⟨m,x.keep hf k⟩
 |cod lo st M=>obtain⟨m,vl,vs,x⟩:=x;exact⟨m,vl,vs,x.keep hf k⟩
theorem Hn.keep (x:Hn h p mt dim S U) (hf:ai h c) (k:∀b,U b->b<c->h'.get b=h.get b):Hn h' p mt dim S U:=by
 obtain⟨q,U1,h1,h2,h3⟩:=x.ex
 exact⟨x.pU,x.ok,q,U1,(k p x.pU (h1.lt hf)).trans h1,h2.keep hf fun b hb hc=>k b (h3 b hb).1 hc,h3⟩
end
def HW:List Nat:=[0,1,2,3,8,9,10,11,13,14,20,23,24,25,26,31,42,43,50,58,65]
section
variable {h:T ag}{c:Nat}{rl wl:List Nat}
set_option maxHeartbeats 16000000 in
theorem DR (hf:ai h c) {kd mt:Int} (hk:1<=kd/\kd<=4) (hmt:mt=1\/mt=2) {v:Value}{dim:Nat}{vs:List (List Int)}{U0:Nat->Prop} (hm0:fe h v dim vs U0) (hn:vs.length<=1000) (hd1:1<=dim) (hd:dim<=8) (R:Nat->Prop) (hUR0:∀b,U0 b->R b) :
  ∃r s',aE (Cs bD) eg 32 [.int .i64 kd,.int .i64 mt,.int .i64 (dim:Int),v] ⟨h,c,rl,wl⟩ r s'/\(∃p,r=.tuple #[.pointer (some ⟨p,0,none⟩),.nilIface]/\c<=p/\p<s'.c/\Hn s'.h p mt dim (Ix.new kd dim vs) (fun b=>c<=b/\b<s'.c))/\bA ⟨h,c,rl,wl⟩ s' R (fun _=>False):=by
 have hm:=hm0.bound hf hd1
 have hvok:=hm0.vok
 generalize hU:(fun b=>U0 b/\b<c)=U at hm
 have hUR:∀b,U b->R b:=fun b hb=>by subst hU;exact hUR0 b hb.1
 have hUc:∀b,U b->b<c:=fun b hb=>by subst hU;exact hb.2
 clear hU hm0 hUR0
 obtain⟨oa,cap,rfl⟩:=hm.val
 have hbg:dv=1048576:=rfl
 refine Fn.go (aU 32 rfl) Mo OX NA rfl rfl ?_
 refine cg ?_
 refine aq ?_
 refine ax.call rfl rfl (DA aO hk hmt hd1 hd) ?_
 rintro v1 h1 c1 r1 w1 ⟨⟨rfl,e1,e2⟩,hext⟩
 simp only at e1 e2
 have lr:=Lg.extR (R:=R) (c:=c) az hext (fun _ _ q=>q.elim)
 have lw:=Lg.extW (W:=fun _=>False) (c:=c) az hext (fun _ _ q=>q)
 subst h1 c1
 refine aq ?_
 refine Wx.cutO (fun e s=>∃(g:Nat->Value) (lv:Value) (h':T ag) (c':Nat) (rl' wl':List Nat),e=fr g [(0,.int .i64 kd),(1,.int .i64 mt),(2,.int .i64 (dim:Int)),(11,lv)] HW/\s=⟨h',c',rl',wl'⟩/\c<=c'/\ai h' c'/\Kp h h' c (fun _=>False)/\pS h' c lv dim vs U/\Lg c R rl'/\Lg c (fun _=>False) wl') iY ?_ ?_
 ·refine Wx.loopF (fun k1 e s=>∃(g:Nat->Value) (lv:Value) (i:Nat) (z:Int) (h':T ag) (c':Nat) (rl' wl':List Nat),e=fr g [(0,.int .i64 kd),(1,.int .i64 mt),(2,.int .i64 (dim:Int)),(11,lv),(23,.slice oa vs.length cap),(24,.int .i64 (vs.length:Int)),(25,.int .i64 z)] HW/\z=i/\s=⟨h',c',rl',wl'⟩/\c<=c'/\ai h' c'/\Kp h h' c (fun _=>False)/\pS h' c lv dim (vs.take i) U/\Lg c R rl'/\Lg c (fun _=>False) wl'/\i<=vs.length/\k1=vs.length - i) vs.length HW [(0,_),(1,_),(2,_),(11,.slice none 0 0),(23,_),(24,_),(25,.int .i64 0)] ⟨_,_,0,0,_,_,_,_,rfl,rfl,rfl,Nat.le_refl _,aO,bW,(by rw[List.take_zero];exact .inl ⟨rfl,rfl⟩),az,az,by omega,rfl⟩ ?_
  rintro k1 e s ⟨g,lv,i,z,h',c',rl',wl',rfl,hz,rfl,hcc,hf',hkp,hO,hlr,hlw,hid,rfl⟩
  (refine Wx.sw (by simp only[HW,i5,i6,dC,dB,Nat.reduceEqDiff,↓reduceIte];rfl) ?_)
  by_cases hi:i<vs.length
  ·have hm':=hm.keep hf (fun _ q=>q) (fun b _ hb _=>hkp b hb (fun q=>q))
   obtain⟨g1,g2,b,sp,vals,a,k,rfl,g4,g5,g6,g7,g8⟩:=hm'.at (List.getElem?_eq_getElem hi)
   have lb:=g5.lt hf'
   have rb:=hUR b g4
   have hts:=List.take_succ_eq_append_getElem hi
   have hlt:(vs.take i).length<=1000:=by rw[List.length_take];omega
   refine aq ?_
   refine Zu (aj (k:=i) lz rfl rfl hz hi) ?_
   refine Zu (aB (dV rfl) rfl g5.cel (by omega) g6) ?_
   refine aq ?_
   refine ax.call rfl rfl (iv aO g1 g7 g2 hd1 hd R (fun x q=>hUR x (g8 x q))) ?_
   rintro v1 hA cA r1 w1 ⟨⟨rfl,e1,e2⟩,hext⟩
   simp only at e1 e2
   have lr:=Lg.extR (R:=R) (c:=c) az hext (fun _ _ q=>q)
   have lw:=Lg.extW (W:=fun _=>False) (c:=c) az hext (fun _ _ q=>q)
   subst e1 e2
   rcases hO with⟨rfl,hnil⟩|⟨bl,vals2,rfl,hne,hbl,hbc,hvl⟩
   ·refine aq ?_
    refine Zu (cy rF sP rfl rfl (k:=0) ay.same.cel (by omega) (aA _ _ rfl) (by omega) aO) ?_
    refine aq ?_
    refine aC.goF (vs.length - (i+1)) HW [(0,_),(1,_),(2,_),(11,_),(23,_),(24,_),(25,.int .i64 (z+1))] (by omega) ⟨_,_,i+1,z+1,_,_,_,_,rfl,by omega,rfl,by omega,aO,bW,?_,az,az,by omega,rfl⟩
    rw[hts,hnil]
    exact .inr ⟨cA+1,[.slice a dim k],rfl,(fun e=>by cases e),by omega,ay.same,dY.push .nil g1 g2 (bj.keepF g7 hf' fun b hb=>by rw[am (by omega),am (by omega)]) g8⟩
   ·have l3:=hbc.lt hf'
    refine aq ?_
    refine Zu (dg rF sP rfl rfl (k:=0) ay.same.cel (by omega) (aA _ _ rfl) (by omega) (by omega) gL (by omega) (aA _ _ (by rw[hvl.1];omega)) (all_cons rfl a7) aO) ?_
    refine aq ?_
    refine aC.goF (vs.length - (i+1)) HW [(0,_),(1,_),(2,_),(11,_),(23,_),(24,_),(25,.int .i64 (z+1))] (by omega) ⟨_,_,i+1,z+1,_,_,_,_,rfl,by omega,rfl,by omega,aO,bW,?_,az,az,by omega,rfl⟩
    have hk9:∀b,U b->b<cA->b≠bl:=fun b hb _ e=>by have:=hUc b hb;omega
    rw[hts]
    refine .inr ⟨cA+1,vals2++[.slice a dim k],by rw[List.length_append];rfl,(fun e=>by have:=congrArg List.length e;rw[List.length_append] at this;cases this),by omega,ay.same,dY.push (hvl.keep hf' (fun _ q=>q) (fun b hb hc _=>?_)) g1 g2 (bj.keepBT g7 fun b hb=>?_) g8⟩
    ·have:=hk9 b hb hc
     rw[am (by omega),am (by omega),am (by omega)]
    ·have:=hUc b (g8 b hb)
     rw[am (by omega),am (by omega),am (by omega)]
  ·refine aq ?_
   have e9:vs.take i=vs:=List.take_of_length_le (by omega)
   rw[e9] at hO
   exact di.goF HW [(0,_),(1,_),(2,_),(11,_)] ⟨_,_,_,_,_,_,rfl,rfl,hcc,hf',hkp,hO,hlr,hlw⟩
 ·rintro e s ⟨g,lv,h1,c1,rl1,wl1,rfl,rfl,hcc1,hf1,hkp1,hO1,hlr1,hlw1⟩
  (refine Wx.sw (by simp only[HW,i5,i6,dC,dB,Nat.reduceEqDiff,↓reduceIte];rfl) ?_)
  obtain⟨ol,rfl⟩:=hO1.val
  have hml:=hO1.mrow
  have hml1:∀kd:Int,fe (h1.set c1 (some (.cells [.int .i64 kd,.int .i64 mt,.int .i64 (dim:Int),.pointer none,.pointer none,.pointer none,.pointer none]))) (.slice ol vs.length vs.length) dim vs (fun b=>c<=b\/U b):=fun kd=>hml.keep hf1 (fun _ q=>q) (fun b _ hb _=>am (by omega))
  have hkd:kd=1\/kd=2\/kd=3\/kd=4:=by omega
  rcases hkd with rfl|rfl|rfl|rfl
  ·refine aq ?_
   refine ax.call rfl rfl (DX aU aO mt hmt) ?_
   rintro v9 hB cB r1 w1 ⟨⟨rfl,ga1,ga2,e4⟩,hext⟩
   simp only at e4
   have frB:=hext.fresh
   have leB:=hext.c
   simp only at frB leB
   have kpB:=Kp.ext (W:=fun _=>False) (h:=h) (c:=c) bW hext (by omega) (fun _ _ q=>q)
   have lrB:=Lg.extR (R:=R) (c:=c) az hext (fun b hb q=>q.elim)
   have lwB:=Lg.extW (W:=fun _=>False) (c:=c) az hext (fun _ _ q=>q)
   have hcc9:c1<cB:=by omega
   have gp:=hext.hs (b:=c1) ay.same (by omega) (fun q=>q)
   refine aq ?_
   refine⟨.inr rfl,aG.two rfl rfl ⟨⟨c1,rfl,hcc1,hcc9,⟨⟨hcc1,hcc9⟩,trivial,_,(fun b=>b=c1+2\/b=c1+1),ay.same,⟨_,fJ.new (ga2.other (by omega)) (ga1.other (by omega)) (by omega)⟩,fun b hb=>⟨⟨by omega,by show b<cB;omega⟩,by omega⟩⟩⟩,?_⟩⟩
   exact bM
  ·refine aq ?_
   refine ax.call rfl rfl (Db aO hmt (hml1 _) hn hd1 (by omega) (fun b=>c<=b\/R b) (fun b q=>q.imp (fun q=>q) (hUR b))) ?_
   rintro v9 hB cB r1 w1 ⟨⟨q,m,mv,rfl,hI⟩,hext⟩
   simp only at hI
   have frB:=hext.fresh
   have leB:=hext.c
   simp only at frB leB
   have kpB:=Kp.ext (W:=fun _=>False) (h:=h) (c:=c) bW hext (by omega) (fun _ _ q=>q)
   have lrB:=Lg.extR (R:=R) (c:=c) az hext (fun b hb q=>q.elim (fun q=>by omega) (fun q=>q))
   have lwB:=Lg.extW (W:=fun _=>False) (c:=c) az hext (fun _ _ q=>q)
   have hcc9:c1<cB:=by omega
   have gp:=hext.hs (b:=c1) ay.same (by omega) (fun q=>q)
   refine aq ?_
   refine⟨.inr rfl,aG.two rfl rfl ⟨⟨c1,rfl,hcc1,hcc9,⟨⟨hcc1,hcc9⟩,Nat.le_trans (oO (n:=4) hvok 3).1 (by decide),_,_,ay.same,⟨_,_,hI.keep frB fun b hb _=>am (by omega)⟩,fun b hb=>⟨⟨by omega,by show b<cB;omega⟩,by omega⟩⟩⟩,?_⟩⟩
   exact bM
  ·refine aq ?_
   refine ax.call rfl rfl (Cl (dim:=dim) aO mt hmt) ?_
   rintro v9 hB cB r1 w1 ⟨⟨rfl,e4,hG⟩,hext⟩
   simp only at e4
   have frB:=hext.fresh
   have leB:=hext.c
   simp only at frB leB
   have kpB:=Kp.ext (W:=fun _=>False) (h:=h) (c:=c) bW hext (by omega) (fun _ _ q=>q)
   have lrB:=Lg.extR (R:=R) (c:=c) az hext (fun b hb q=>q.elim)
   have lwB:=Lg.extW (W:=fun _=>False) (c:=c) az hext (fun _ _ q=>q)
   have hcc9:c1<cB:=by omega
   have gp:=hext.hs (b:=c1) ay.same (by omega) (fun q=>q)
   refine aq ?_
   refine⟨.inr rfl,aG.two rfl rfl ⟨⟨c1,rfl,hcc1,hcc9,⟨⟨hcc1,hcc9⟩,nC.nil,_,_,ay.same,⟨_,hG.keep frB fun b hb _=>am (by omega)⟩,fun b hb=>⟨⟨by omega,by show b<cB;omega⟩,by omega⟩⟩⟩,?_⟩⟩
   exact bM
  ·refine aq ?_
   refine ax.call rfl rfl (Df aO hmt (hml1 _) hn hd1 hd (fun b=>c<=b\/R b) (fun b q=>q.imp (fun q=>q) (hUR b))) ?_
   rintro v9 hB cB r1 w1 ⟨⟨q,m,vl,vs',rfl,hC⟩,hext⟩
   simp only at hC
   have frB:=hext.fresh
   have leB:=hext.c
   simp only at frB leB
   have kpB:=Kp.ext (W:=fun _=>False) (h:=h) (c:=c) bW hext (by omega) (fun _ _ q=>q)
   have lrB:=Lg.extR (R:=R) (c:=c) az hext (fun b hb q=>q.elim (fun q=>by omega) (fun q=>q))
   have lwB:=Lg.extW (W:=fun _=>False) (c:=c) az hext (fun _ _ q=>q)
   have hcc9:c1<cB:=by omega
   have gp:=hext.hs (b:=c1) ay.same (by omega) (fun q=>q)
   refine aq ?_
   refine⟨.inr rfl,aG.two rfl rfl ⟨⟨c1,rfl,hcc1,hcc9,⟨⟨hcc1,hcc9⟩,trivial,_,_,ay.same,⟨_,_,_,hC.keep frB fun b hb _=>am (by omega)⟩,fun b hb=>⟨⟨by omega,by show b<cB;omega⟩,by omega⟩⟩⟩,?_⟩⟩
   exact bM
end
end Go.Ab.Seat
end
