import Derived.Test.YtofikbfljjjgeaaGreatDoorDF7
import Derived.Test.YtofikbfljjjgeaaGreatDoorDF3
set_option linter.unusedVariables false
set_option linter.unusedSimpArgs false
section
namespace Go.Ab.Seat
open Go.Extern Go.Proofs
set_option maxRecDepth 4000
variable {sm:Nat->Option (List Value->M Value)}
theorem QJ (a b:Int):xz (Cs sm) eg 100 52 (jw a b) (jw a b)=some true:=by
 have h:xz (Cs sm) eg 100 52 (jw a b) (jw a b)=(match decide (a=a) with|true=>(match decide (b=b) with|true=>some true|false=>some false)|false=>some false):=by kernel_rfl
 rw[h,decide_eq_true rfl,decide_eq_true rfl]
theorem My:eg 52=false:=by kernel_rfl
theorem It {e:aR}{s:St}{d:Option Nat}{ty t2:TypeId}{ps:String}{af:Array Edge}{g:Option (Nat×Bool)}{x y:Operand}{a b:Int} (hx:ae e x=jw a b) (hy:ae e y=jw a b) :
  aW (Cs sm) eg e ⟨d,.binOp .neq 52 x y t2,ty,ps,af,g⟩ s (.bool false) s :=
 cY hx hy (by
  show (match js eg 52 x y (jw a b) (jw a b) with|true=>(match xz (Cs sm) eg 100 52 (jw a b) (jw a b) with|some r=>some (Value.bool (!r))|none=>none)|false=>none)=_
  rw[QJ,show js eg 52 x y (jw a b) (jw a b)=!eg 52 from rfl,My]
  rfl)
set_option maxHeartbeats 4000000 in
theorem uo (H:pV sm) {h:T ag}{c:Nat}{rl wl:List Nat} (hf:ai h c) {a b:Option Addr}{k k':Nat}{l:List Ht} (hx:bj h (.slice a l.length k) l.length 2 (aF l)) (hy:bj h (.slice b l.length k') l.length 2 (aF l)) (hn:l.length<=1000) :
  ∃r s',aE (Cs sm) eg 22 [.slice a l.length k,.slice b l.length k'] ⟨h,c,rl,wl⟩ r s'/\r=.bool true/\s'.h=h/\s'.c=c/\bA ⟨h,c,rl,wl⟩ s' (fun _=>True) (fun _=>False):=by
 refine Fn.go (H 22 rfl) NF Pg Pl rfl rfl ?_
 refine cg ?_
 have lgR:∀l:List Nat,Lg c (fun _=>True) l:=fun l b hb=>.inr trivial
 refine aq ?_
 refine Wx.loopE (fun k1 e s=>∃(i:Nat) (z:Int) (j5 j14 j24:Value) (rl':List Nat),e=LK a l.length k b k' z j5 j14 j24/\z=i/\s=⟨h,c,rl',[]⟩/\i<=l.length/\k1=l.length - i) l.length (LK a l.length k b k' 0 top top top) iY ?_ ?_ ?_
 ·unfold LK
  exact eI
 ·exact⟨0,0,_,_,_,_,rfl,rfl,rfl,by omega,rfl⟩
 ·rintro k1 e s ⟨i,z,j5,j14,j24,rl',rfl,hz,rfl,hid,rfl⟩
  unfold LK
  by_cases hi:i<l.length
  ·obtain⟨b1,o1,sp1,cs1,rfl,hc1,hs1⟩:=Ac hx (by omega)
   obtain⟨b2,o2,sp2,cs2,rfl,hc2,hs2⟩:=Ac hy (by omega)
   have l1:=hc1.lt hf
   have l2:=hc2.lt hf
   have hg1:=gZ hs1 (List.getElem?_eq_getElem hi)
   have hg2:=gZ hs2 (List.getElem?_eq_getElem hi)
   refine aq ?_
   refine Zq (aj (k:=i) ej rfl rfl hz (by omega)) ?_
   refine Zd (cT Cp rfl hc1 (by omega) hg1) ?_
   refine aq ?_
   refine Zq (aj (k:=i) ej rfl rfl hz (by omega)) ?_
   refine Zd (cT Cp rfl hc2 (by omega) hg2) ?_
   refine Zq (It rfl rfl) ?_
   refine aq ?_
   exact aC.go (l.length - (i+1)) (LK _ l.length k _ k' (z+1) _ _ _) (by omega) eI ⟨i+1,z+1,_,_,_,_,rfl,by omega,rfl,by omega,rfl⟩
  ·refine aq ?_
   refine⟨.inr rfl,aG.one rfl ⟨rfl,rfl,rfl,?_⟩⟩
   exact bA.of (Nat.le_refl _) hf Kp.refl (lgR _) az
end Go.Ab.Seat
end
section
namespace Go.Ab.Seat
open Go.Extern Go.Proofs
set_option maxRecDepth 4000
def wL (z:Int):Int:=(((BitVec.ofInt 64 z).toNat%2:Nat):Int)
theorem vI (z:Int):wL z=0\/wL z=1:=by unfold wL;omega
theorem GQ {C:aS}{e:aR}{s:St}{d:Option Nat}{ty t t2:TypeId}{ps:String}{af:Array Edge}{g:Option (Nat×Bool)}{x y:Operand}{z:Int} (hx:ae e x=.int .i64 z) (hy:ae e y=.int .i64 1) :
  aW C eg e ⟨d,.binOp .and t x y t2,ty,ps,af,g⟩ s (.int .i64 (wL z)) s :=
 cY hx hy (by
  have h:((BitVec.ofInt 64 z &&& BitVec.ofInt 64 1).toNat:Int)=wL z:=by
   unfold wL
   rw[BitVec.toNat_and,show (BitVec.ofInt 64 1).toNat=1 by decide,Nat.and_one_is_mod]
  show some (Value.int .i64 (cf .i64 ((BitVec.ofInt 64 z &&& BitVec.ofInt 64 1).toNat:Int)))=_
  rw[h,cm (by have:=vI z;omega) (by have:=vI z;omega)])
structure JA (h:T ag) (c:Nat) (pa ma pb mb:Nat) (mt:Int) (dim:Nat) (A B:List Rc):Prop where
 ex:∃Ua Ub:Nat->Prop,fJ h pa ma mt dim A Ua/\fJ h pb mb mt dim B Ub/\¬Ua mb/\¬Ub ma/\ma<c/\mb<c
theorem fJ.hm {h:T ag}{p m dim:Nat}{mt:Int}{M:List Rc}{U:Nat->Prop} (q:fJ h p m mt dim M U):∃es n,ay h m (.map es n):=by
 obtain⟨es,n,h1,_⟩:=q.ex
 exact⟨es,n,h1⟩
theorem JA.keep {h h':T ag}{c c':Nat}{pa ma pb mb dim:Nat}{mt:Int}{A B:List Rc} (t:JA h c pa ma pb mb mt dim A B) (hf:ai h c) (hc:c<=c') (k:∀b,b<c->h'.get b=h.get b):JA h' c' pa ma pb mb mt dim A B:=by
 obtain⟨Ua,Ub,qa,qb,u1,u2,l1,l2⟩:=t.ex
 exact⟨Ua,Ub,qa.keep hf fun b _ hb=>k b hb,qb.keep hf fun b _ hb=>k b hb,u1,u2,by omega,by omega⟩
end Go.Ab.Seat
end
section
namespace Go.Ab.Seat
open Go.Extern Go.Proofs
set_option maxRecDepth 4000
theorem bj.keepBT {h h':T ag}{v:Value}{n k:Nat}{xs:List Value} (hr:bj h v n k xs) (hk:∀b,au v=some b->h'.get b=h.get b):bj h' v n k xs:=by
 rcases hr with g|⟨b,o,sp,cap,cs,e,g6,g7⟩
 ·exact .inl g
 ·refine .inr ⟨b,o,sp,cap,cs,e,?_,g7⟩
  have q:=hk b (by rw[e];rfl)
  unfold gX ay at g6 ⊢
  rw[q];exact g6
end Go.Ab.Seat
end
section
namespace Go.Ab.Seat
open Go.Extern Go.Proofs
set_option maxRecDepth 4000
theorem rj {zs:List Int}{j:Nat} (hj:j<zs.length):(zs.map (Value.int .i32))[j*1]?=some (.int .i32 (zs.getD j 0)):=by
 rw[Nat.mul_one,List.getElem?_map,List.getD_eq_getElem?_getD,List.getElem?_eq_getElem hj];rfl
end Go.Ab.Seat
end
section
namespace Go.Ab.Seat
open Go.Extern Go.Proofs
set_option maxRecDepth 4000
theorem pS.val {h:T ag}{c0 dim:Nat}{w:Value}{l:List (List Int)}{Uv:Nat->Prop} (x:pS h c0 w dim l Uv):∃oa,w=.slice oa l.length l.length:=by
 rcases x with⟨rfl,rfl⟩|⟨b,vals,h1,_⟩
 ·exact⟨_,rfl⟩
 ·exact⟨_,h1⟩
end Go.Ab.Seat
end
section
namespace Go.Ab.Seat
open Go.Extern Go.Proofs
set_option maxRecDepth 4000
section
variable {h:T ag}{c:Nat}{rl wl:List Nat}
theorem DM (hf:ai h c) {x:Int} (hx : -1048576<=x/\x<=1048576) :
  ∃r s',aE (Cs bD) eg 160 [.int .i32 x] ⟨h,c,rl,wl⟩ r s'/\(r=.bool false/\s'.h=h/\s'.c=c)/\bA ⟨h,c,rl,wl⟩ s' (fun _=>False) (fun _=>False):=by
 refine Fn.go (aU 160 rfl) H5 H3 HG rfl rfl ?_
 refine cg ?_
 refine aq ?_
 refine⟨.inr rfl,aG.one rfl ⟨⟨rfl,rfl,rfl⟩,?_⟩⟩
 exact bM
def Hc:List Nat:=[0,1,4,5,7,8,9,16]
theorem Dt (hf:ai h c) {a:Option Addr}{dim k:Nat}{zs:List Int} (hn:zs.length=dim) (hx:bj h (.slice a dim k) dim 1 (zs.map (Value.int .i32))) (hb:gc zs) (hd:dim<=8) (R:Nat->Prop) (hR:∀x,au (.slice a dim k)=some x->R x) :
  ∃r s',aE (Cs bD) eg 211 [.slice a dim k,.func (.func 160) #[] ⟨[]⟩] ⟨h,c,rl,wl⟩ r s'/\(r=.int .i64 (-1)/\s'.h=h/\s'.c=c)/\bA ⟨h,c,rl,wl⟩ s' R (fun _=>False):=by
 refine Fn.go (aU 211 rfl) HH H7 H2 rfl rfl ?_
 refine cg ?_
 refine aq ?_
 refine Wx.loopF (fun k1 e s=>∃(g:Nat->Value) (i:Nat) (z:Int) (rl' wl':List Nat),e=fr g [(0,.slice a dim k),(1,.func (.func 160) #[] ⟨[]⟩),(7,.int .i64 (dim:Int)),(8,.int .i64 z)] Hc/\z=i/\s=⟨h,c,rl',wl'⟩/\Lg c R rl'/\Lg c (fun _=>False) wl'/\i<=dim/\k1=dim - i) dim Hc [(0,_),(1,_),(7,_),(8,.int .i64 0)] ⟨_,0,0,_,_,rfl,rfl,rfl,az,az,by omega,rfl⟩ ?_
 rintro k1 e s ⟨g,i,z,rl',wl',rfl,hz,rfl,hlr,hlw,hin,rfl⟩
 (refine Wx.sw (by simp only[Hc,i5,i6,dC,dB,Nat.reduceEqDiff,↓reduceIte];rfl) ?_)
 by_cases hi:i<dim
 ·obtain⟨b1,o1,sp1,cs1,rfl,hc1,hn1⟩:=bp hx (j:=i*1) (by omega) (rj (by omega))
  have l1:=hc1.lt hf
  have r1:=hR b1 rfl
  refine aq ?_
  refine Zu (aj (k:=i) lh rfl rfl hz hi) ?_
  refine Zu (aB (dV rfl) rfl hc1 (by omega) hn1) ?_
  refine ax.callV rfl rfl rfl (DM aO (hb i)) ?_
  rintro v1 hA cA r2 w2 ⟨⟨rfl,e1,e2⟩,hext⟩
  simp only at e1 e2
  have lr:=Lg.extR (R:=R) (c:=c) az hext (fun _ _ q=>q.elim)
  have lw:=Lg.extW (W:=fun _=>False) (c:=c) az hext (fun _ _ q=>q)
  subst e1 e2
  refine aq ?_
  exact aC.goF (dim - (i+1)) Hc [(0,_),(1,_),(7,_),(8,.int .i64 (z+1))] (by omega) ⟨_,i+1,z+1,_,_,rfl,by omega,rfl,az,az,by omega,rfl⟩
 ·refine aq ?_
  refine⟨.inr rfl,aG.one rfl ⟨⟨rfl,rfl,rfl⟩,?_⟩⟩
  exact bM
theorem iv (hf:ai h c) {a:Option Addr}{dim k:Nat}{zs:List Int} (hn:zs.length=dim) (hx:bj h (.slice a dim k) dim 1 (zs.map (Value.int .i32))) (hb:gc zs) (hd1:1<=dim) (hd:dim<=8) (R:Nat->Prop) (hR:∀x,au (.slice a dim k)=some x->R x) :
  ∃r s',aE (Cs bD) eg 91 [.slice a dim k,.int .i64 (dim:Int)] ⟨h,c,rl,wl⟩ r s'/\(r=.bool true/\s'.h=h/\s'.c=c)/\bA ⟨h,c,rl,wl⟩ s' R (fun _=>False):=by
 refine Fn.go (aU 91 rfl) I8 JN K9 rfl rfl ?_
 refine cg ?_
 refine aq ?_
 have h159:∃r s',aE (Cs bD) eg 159 [.slice a dim k,.func (.func 160) #[] ⟨[]⟩] ⟨h,c,[],[]⟩ r s'/\(r=.bool false/\s'.h=h/\s'.c=c)/\bA ⟨h,c,[],[]⟩ s' R (fun _=>False):=by
  refine Fn.go (aU 159 rfl) H8 H1 HV rfl rfl ?_
  refine cg ?_
  refine aq ?_
  refine ax.call rfl rfl (Dt aO hn hx hb hd R hR) ?_
  rintro v1 hA cA r2 w2 ⟨⟨rfl,e1,e2⟩,hext⟩
  simp only at e1 e2
  have lr:=Lg.extR (R:=R) (c:=c) az hext (fun _ _ q=>q)
  have lw:=Lg.extW (W:=fun _=>False) (c:=c) az hext (fun _ _ q=>q)
  subst e1 e2
  refine aq ?_
  refine⟨.inr rfl,aG.one rfl ⟨⟨rfl,rfl,rfl⟩,?_⟩⟩
  exact bM
 refine ax.call rfl rfl h159 ?_
 rintro v1 hA cA r2 w2 ⟨⟨rfl,e1,e2⟩,hext⟩
 simp only at e1 e2
 have lr:=Lg.extR (R:=R) (c:=c) az hext (fun _ _ q=>q)
 have lw:=Lg.extW (W:=fun _=>False) (c:=c) az hext (fun _ _ q=>q)
 subst e1 e2
 refine aq ?_
 refine⟨.inr rfl,aG.one rfl ⟨⟨rfl,rfl,rfl⟩,?_⟩⟩
 exact bM
theorem DA (hf:ai h c) {kd mt:Int}{dim:Nat} (hk:1<=kd/\kd<=4) (hmt:mt=1\/mt=2) (hd1:1<=dim) (hd:dim<=8) :
  ∃r s',aE (Cs bD) eg 89 [.int .i64 kd,.int .i64 mt,.int .i64 (dim:Int)] ⟨h,c,rl,wl⟩ r s'/\(r=.int .i64 0/\s'.h=h/\s'.c=c)/\bA ⟨h,c,rl,wl⟩ s' (fun _=>False) (fun _=>False):=by
 refine Fn.go (aU 89 rfl) NU Mw MJ rfl rfl ?_
 refine cg ?_
 refine aq ?_
 refine ax.call rfl rfl (iU aU aO mt hmt) ?_
 rintro v1 h1 c1 r1 w1 ⟨rfl,e1⟩
 cases e1
 refine aq ?_
 refine⟨.inr rfl,aG.one rfl ⟨⟨rfl,rfl,rfl⟩,?_⟩⟩
 exact bM
end
end Go.Ab.Seat
end
section
namespace Go.Ab.Seat
open Go.Extern Go.Proofs
def dD (v:Int) (l:List Int):Nat:=(l.takeWhile fun y=>decide (y<v)).length
def oJ (v:Int) (l:List Int):List Int:=if v∈l then l else l.take (dD v l)++v::l.drop (dD v l)
def oW (v:Int) (l:List Int):List Int:=l.filter fun y=>decide (y≠v)
abbrev Up (l:List Int):Prop:=l.Pairwise fun a b=>a<b
theorem qY (v:Int) (l:List Int):dD v l<=l.length:=by unfold dD;exact(List.takeWhile_sublist _).length_le
theorem CF (v y:Int) (l:List Int):dD v (y::l)=if y<v then dD v l+1 else 0:=by
 unfold dD
 rw[List.takeWhile_cons]
 by_cases h:y<v
 ·rw[decide_eq_true h,if_pos h];rfl
 ·rw[decide_eq_false h,if_neg h];rfl
theorem mH {v:Int}:∀ {l:List Int},Up l->∀ {i:Nat}{y:Int},l[i]?=some y->(i<dD v l↔y<v)
 | [],_,i,y,h=>by cases h
 |x::l,hu,i,y,h=>by
  obtain⟨h1,h2⟩:=List.pairwise_cons.1 hu
  rw[CF]
  cases i with
  |zero =>
   cases h
   by_cases hv:x<v
   ·rw[if_pos hv];exact⟨fun _=>hv,fun _=>Nat.succ_pos _⟩
   ·rw[if_neg hv];exact⟨fun q=>absurd q (Nat.lt_irrefl 0),fun q=>absurd q hv⟩
  |succ i =>
   have h3:l[i]?=some y:=h
   have h4:=mH (v:=v) h2 h3
   have h5:=h1 y (List.mem_of_getElem? h3)
   by_cases hv:x<v
   ·rw[if_pos hv];omega
   ·rw[if_neg hv];omega
theorem rM {v:Int}{l:List Int} (hu:Up l):v∈l↔l[dD v l]?=some v:=by
 constructor
 ·intro h
  obtain⟨i,hi,e⟩:=List.getElem_of_mem h
  have h1:l[i]?=some v:=by rw[List.getElem?_eq_getElem hi,e]
  have h2:=mH (v:=v) hu h1
  have h3:dD v l<=i:=by omega
  have h4:=qY v l
  have h5:dD v l<l.length:=by omega
  rw[List.getElem?_eq_getElem h5]
  have h6:=mH (v:=v) hu (List.getElem?_eq_getElem h5)
  rcases Nat.lt_or_ge (dD v l) i with h7|h7
  ·have:=List.pairwise_iff_getElem.1 hu (dD v l) i h5 hi h7
   omega
  ·have:dD v l=i:=by omega
   congr 1
   simp only[this]
   exact e
 ·exact fun h=>List.mem_of_getElem? h
theorem yq {v x:Int}{l:List Int}:x∈oJ v l↔x=v\/x∈l:=by
 unfold oJ
 split
 ·rename_i h
  constructor
  ·exact fun q=>.inr q
  ·rintro(rfl|q)
   ·exact h
   ·exact q
 ·rw[List.mem_append,List.mem_cons]
  have:x∈l↔x∈l.take (dD v l)\/x∈l.drop (dD v l):=by rw[<- List.mem_append,List.take_append_drop]
  rw[this]
  constructor
  ·rintro(q|q|q)
   ·exact .inr (.inl q)
   ·exact .inl q
   ·exact .inr (.inr q)
  ·rintro(q|q|q)
   ·exact .inr (.inl q)
   ·exact .inl q
   ·exact .inr (.inr q)
theorem vW {v:Int}{l:List Int} (hu:Up l):Up (oJ v l):=by
 unfold oJ
 split
 ·exact hu
 ·rename_i hv
  have h1:∀x∈l.take (dD v l),x<v:=by
   intro x hx
   obtain⟨i,hi,e⟩:=List.getElem_of_mem hx
   rw[List.length_take] at hi
   rw[List.getElem_take] at e
   exact(mH (v:=v) hu (List.getElem?_eq_getElem (show i<l.length by omega))).1 (by omega) |> fun q=>by rw[<- e];exact q
  have h2:∀x∈l.drop (dD v l),v<x:=by
   intro x hx
   obtain⟨i,hi,e⟩:=List.getElem_of_mem hx
   rw[List.length_drop] at hi
   rw[List.getElem_drop] at e
   have h3:=(mH (v:=v) hu (List.getElem?_eq_getElem (show dD v l+i<l.length by omega)))
   have h4:x≠v:=fun q=>hv (q▸List.mem_of_mem_drop hx)
   rw[e] at h3
   omega
  refine List.pairwise_append.2 ⟨hu.sublist (List.take_sublist _ _),List.pairwise_cons.2 ⟨h2,hu.sublist (List.drop_sublist _ _)⟩,fun a ha b hb=>?_⟩
  rcases List.mem_cons.1 hb with rfl|hb
  ·exact h1 a ha
  ·exact Int.lt_trans (h1 a ha) (h2 b hb)
theorem tv {v x:Int}{l:List Int}:x∈oW v l↔x∈l/\x≠v:=by unfold oW;rw[List.mem_filter,decide_eq_true_eq]
theorem rz {v:Int}{l:List Int} (hu:Up l):Up (oW v l):=hu.sublist (List.filter_sublist)
theorem FX {v:Int}{l:List Int} (h:v∉l):oW v l=l:=by
 unfold oW
 rw[List.filter_eq_self]
 exact fun y hy=>decide_eq_true fun e=>h (e▸hy)
theorem G9 {v:Int}{l:List Int} (hu:Up l) (h:v∈l):oW v l=l.take (dD v l)++l.drop (dD v l+1)/\dD v l<l.length:=by
 have h1:=(rM hu).1 h
 obtain⟨h2,h3⟩:=List.getElem?_eq_some_iff.1 h1
 refine⟨?_,h2⟩
 refine im (rz hu) ?_ fun x=>?_
 ·refine List.pairwise_append.2 ⟨hu.sublist (List.take_sublist _ _),hu.sublist (List.drop_sublist _ _),fun a ha b hb=>?_⟩
  have h4:l=l.take (dD v l)++l.drop (dD v l):=(List.take_append_drop _ _).symm
  have h5:Up (l.take (dD v l)++l.drop (dD v l)):=by rw[<- h4];exact hu
  refine(List.pairwise_append.1 h5).2.2 a ha b ?_
  rw[<- List.drop_drop] at hb
  exact List.mem_of_mem_drop hb
 ·have h6:l=l.take (dD v l)++v::l.drop (dD v l+1):=by
   conv=>lhs;rw[<- List.take_append_drop (dD v l) l,List.drop_eq_getElem_cons h2,h3]
  have h5:Up (l.take (dD v l)++v::l.drop (dD v l+1)):=by rw[<- h6];exact hu
  obtain⟨q1,q2,q3⟩:=List.pairwise_append.1 h5
  rw[tv]
  have h7:x∈l↔x∈l.take (dD v l)\/x=v\/x∈l.drop (dD v l+1):=by
   conv=>lhs;rw[h6]
   rw[List.mem_append,List.mem_cons]
  rw[h7,List.mem_append]
  constructor
  ·rintro⟨r|r|r,h8⟩
   ·exact .inl r
   ·exact absurd r h8
   ·exact .inr r
  ·rintro(r|r)
   ·have:=q3 x r v (List.mem_cons_self ..)
    exact⟨.inl r,by omega⟩
   ·have:=(List.pairwise_cons.1 q2).1 x r
    exact⟨.inr (.inr r),by omega⟩
structure Gr where
 M:List Rc
 L:Int->Nat->List Int
abbrev Lk:=Int->Nat->List Int
def oT (L:Lk) (u:Int) (l:Nat) (xs:List Int):Lk:=fun x k=>if x=u/\k=l then xs else L x k
def qL (l:Nat) (L:Lk) (u v:Int):Lk:=oT L u l (oJ v (L u l))
def qM (l:Nat) (L:Lk) (u v:Int):Lk:=oT L u l (oW v (L u l))
def eJ (l:Nat) (L:Lk) (a b:Int):Lk:=qL l (qL l L a b) b a
def f0 (l:Nat) (L:Lk) (a b:Int):Lk:=qM l (qM l L a b) b a
def dG (l:Nat):Nat:=if l=0 then 8 else 4
noncomputable def sQ (M:List Rc) (id:Int):List Int:=match aK id M with|some r=>jS r.xs|none=>[]
noncomputable def cK (mt:Int) (M:List Rc) (q:List Int) (id:Int):Ht:=⟨id,cX mt q (sQ M id)⟩
noncomputable def fM (mt:Int) (M:List Rc) (id:Int) (l:List Int):List Int:=(aQ l.length (l.map (cK mt M (sQ M id)))).map Ht.id
structure LS where
 f:List Ht
 s:List Int
 d:List Int
noncomputable def i9 (mt:Int) (M:List Rc) (q:List Int) (n:Nat) (st:List Ht×List Int) (y:Int):List Ht×List Int:=if y∈st.2 then st else(eu n st.1 (cK mt M q y),y::st.2)
noncomputable def gT (mt:Int) (M:List Rc) (q:List Int) (n:Nat) (st:List Ht×List Int) (y:Int):List Ht×List Int:=(eu n st.1 (cK mt M q y),y::st.2)
def gW (st:LS):Option Ht:=st.f.find? fun x=>decide (x.id∉st.d)
noncomputable def uP (mt:Int) (G:Gr) (q:List Int) (l n:Nat) (st:LS) (x:Ht):LS:=⟨((G.L x.id l).foldl (i9 mt G.M q n) (st.f,st.s)).1,((G.L x.id l).foldl (i9 mt G.M q n) (st.f,st.s)).2,x.id::st.d⟩
noncomputable def gU (mt:Int) (G:Gr) (q:List Int) (l n:Nat):Nat->LS->List Ht
 |0,st=>st.f
 |k+1,st=>match gW st with|none=>st.f|some x=>gU mt G q l n k (uP mt G q l n st x)
noncomputable def me (mt:Int) (M:List Rc) (q:List Int) (n:Nat) (from_:List Int):LS:=⟨(from_.foldl (gT mt M q n) ([],[])).1,(from_.foldl (gT mt M q n) ([],[])).2,[]⟩
noncomputable def gI (mt:Int) (G:Gr) (q:List Int) (l:Nat) (from_:List Int) (n:Nat):List Ht:=gU mt G q l n (G.M.length+1) (me mt G.M q n from_)
noncomputable def b7 (mt:Int) (G:Gr) (q:List Int) (l:Nat) (from_:List Int) (n:Nat):List Int:=(gI mt G q l from_ n).map Ht.id
noncomputable def eb (mt:Int) (M:List Rc) (l:Nat) (L:Lk) (id:Int):Lk:=((fM mt M id (L id l)).drop (dG l)).foldl (fun L x=>f0 l L id x) L
noncomputable def wW (l:Nat) (L:Lk) (id:Int):Bool:=decide ((L id l).length<dG l)
noncomputable def fw (l:Nat) (L:Lk) (xs:List Int) (id:Int):List Int:=xs.filter fun x=>!(decide (x=id)||!wW l L x||decide (x∈L id l))
noncomputable def mend1 (mt:Int) (M:List Rc) (l:Nat) (xs:List Int) (L:Lk) (id:Int):Lk:=if wW l L id=true then(match fM mt M id (fw l L xs id) with|[]=>L|y::_=>eJ l L id y) else L
noncomputable def Ed (mt:Int) (M:List Rc) (l:Nat) (L:Lk) (xs:List Int):Lk:=xs.foldl (mend1 mt M l xs) L
noncomputable def bg (M:List Rc):Int×Int:=M.foldl (fun s r=>if s.2<r.seq then(r.id,r.seq) else s) (0,-1)
noncomputable def jJ (G:Gr) (id:Int) (k:Nat):Lk:=(List.range k).foldl (fun L l=>(G.L id l).foldl (fun L y=>f0 l L id y) L) G.L
noncomputable def mendAll (mt:Int) (M:List Rc) (had:Nat->List Int) (L:Lk) (k:Nat):Lk:=(List.range k).foldl (fun L l=>Ed mt M l L (had l)) L
noncomputable def ga (mt:Int) (G:Gr) (id:Int):Gr:=match aK id G.M with|none=>G|some _=>⟨jI id G.M,mendAll mt (jI id G.M) (G.L id) (jJ G id 5) 5⟩
noncomputable def fy (mt:Int) (G:Gr) (q:List Int) (l:Nat):Nat->List Int->List Int
 |0,at_=>at_
 |u+1,at_=>if l<u+1 then fy mt G q l u (b7 mt G q (u+1) at_ 1) else at_
noncomputable def fK (mt:Int) (M:List Rc) (l:Nat) (L:Lk) (id:Int) (near:List Int):Lk:=near.foldl (eb mt M l) (near.foldl (fun L y=>eJ l L id y) L)
noncomputable def ng (mt:Int) (id:Int) (q:List Int):Nat->Gr->List Int->Gr
 |0,G,at_=>⟨G.M,fK mt G.M 0 G.L id ((b7 mt G q 0 at_ 8).take 4)⟩
 |l+1,G,at_=>ng mt id q l ⟨G.M,fK mt G.M (l+1) G.L id ((b7 mt G q (l+1) at_ 8).take 4)⟩ (b7 mt G q (l+1) at_ 8)
def IB (dw:Int):Nat:=((List.range 8).takeWhile fun i=>decide (dw%2^(i+1)=0)).length
def bR (dw:Int):Nat:=IB dw / 2
noncomputable def sx (mt:Int) (G:Gr) (id:Int) (zs:List Int) (dw:Int):Gr :=
 if(bg (ga mt G id).M).2<0 then⟨cJ ⟨id,zs.map (Value.int .i32),.empty,(bR dw:Int),false⟩ (ga mt G id).M,(ga mt G id).L⟩
 else ng mt id zs (min (bR dw) (bg (ga mt G id).M).2.toNat) ⟨cJ ⟨id,zs.map (Value.int .i32),.empty,(bR dw:Int),false⟩ (ga mt G id).M,(ga mt G id).L⟩
  (fy mt ⟨cJ ⟨id,zs.map (Value.int .i32),.empty,(bR dw:Int),false⟩ (ga mt G id).M,(ga mt G id).L⟩ zs (bR dw) (bg (ga mt G id).M).2.toNat [(bg (ga mt G id).M).1])
noncomputable def mF (mt:Int) (G:Gr) (q:List Int) (k:Nat):List Ht :=
 if(bg G.M).2<0 then[] else(gI mt G q 0 (fy mt G q 0 (bg G.M).2.toNat [(bg G.M).1]) (max 8 k)).take k
end Go.Ab.Seat
end
