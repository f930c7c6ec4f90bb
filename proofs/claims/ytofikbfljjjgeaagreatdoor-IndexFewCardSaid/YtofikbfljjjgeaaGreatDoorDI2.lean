import Derived.Test.YtofikbfljjjgeaaGreatDoorDZ0
import Derived.Test.YtofikbfljjjgeaaGreatDoorE31
import Derived.Test.YtofikbfljjjgeaaGreatDoorDI1
set_option linter.unusedVariables false
set_option linter.unusedSimpArgs false
section
namespace Go.Ab
def ij (n:Nat):Value->Value
 |.bool b=>.bool b
 |.int k x=>.int k x
 |.string s=>.string s
 |.slice none l c=>.slice none l c
 |.slice (some a) l c=>if a.spot=none/\a.block<n then .slice (some a) l c else if l=0/\c=0 then .slice (some ⟨0,0,some 1⟩) 0 0 else .chan none
 |_=>.chan none
def wv:Value->Bool
 |.bool _|.int _ _|.string _|.slice _ _ _=>true
 |_=>false
def ιW (H:Array Obj):aD:=fun b=>if b<H.size then some ⟨b,0,match H[b]? with|some (.cells c _ _)=>c.size|_=>0⟩ else none
theorem q9 (H:Array Obj) (v:Value):VR (ιW H) (ij H.size v) v:=by
 unfold ij
 split
 ·exact .bool _
 ·exact .int _ _
 ·exact .string _
 ·exact .nilSlice _ _
 ·rename_i a l c
  split
  ·rename_i h
   obtain⟨b,o,sp⟩:=a
   obtain⟨h1,h2⟩:=h
   simp only at h1 h2
   subst h1
   have:=VR.sliceX (ι:=ιW H) b o l c _ (if_pos h2)
   simp only[Nat.zero_add] at this
   exact this
  ·split
   ·rename_i h
    obtain⟨rfl,rfl⟩:=h
    exact .sliceZ _ _ _ _
   ·exact .top _
 ·exact .top _
noncomputable def dE (g:Nat->Option ag):Nat->T ag
 |0=>.leaf
 |n+1=>(dE g n).set n (g n)
theorem bF (g:Nat->Option ag) (b:Nat):∀n,(dE g n).get b=if b<n then g b else none
 |0=>by rw[if_neg (by omega)];exact T.get_leaf b
 |n+1=>by
  unfold dE
  rw[T.get_set,bF g b n]
  by_cases h:b=n
  ·subst h;rw[if_pos rfl,if_pos (by omega)]
  ·rw[if_neg h]
   by_cases h2:b<n
   ·rw[if_pos h2,if_pos (by omega)]
   ·rw[if_neg h2,if_neg (by omega)]
noncomputable def C6 (H:Array Obj) (low:T ag) (b:Nat):Option ag :=
 match low.get b with
 |some o=>some o
 |none=>match H[b]? with
  |some (.cells c _ _)=>some (.ro (c.toList.map (ij H.size)))
  |_=>none
noncomputable def hW (H:Array Obj) (low:T ag):T ag:=dE (C6 H low) H.size
theorem rI (H:Array Obj) (low:T ag) (b:Nat):(hW H low).get b=if b<H.size then C6 H low b else none:=bF _ _ _
theorem xW (H:Array Obj) (low:T ag):ai (hW H low) H.size:=fun b hb=>by rw[rI,if_neg (by omega)]
structure pd (low:T ag) (H:Array Obj):Prop where
 wr:∀b o,low.get b=some o->o.wr=false
 rel:∀b o,low.get b=some o->∃L,ιW H b=some L/\OR (ιW H) L H o
 cell:∀b o,low.get b=some o->∀c t fr,H[b]?=some (.cells c t fr)->∀(i:Nat) v,c[i]?=some v->wv v=true->∃l,o=.ro l/\l[i]?=some (ij H.size v)
theorem pd.has {low:T ag}{H:Array Obj} (h:pd low H) {b:Nat}{o:ag} (hb:low.get b=some o):ay (hW H low) b o:=by
 obtain⟨L,hL,_⟩:=h.rel b o hb
 have hlt:b<H.size:=by
  unfold ιW at hL
  split at hL
  ·assumption
  ·cases hL
 unfold ay
 rw[rI,if_pos hlt]
 unfold C6
 rw[hb]
theorem pd.hr {low:T ag}{H:Array Obj} (h:pd low H) {G:Nat} (hG:G<=H.size):HR G (ιW H) (hW H low) H:=by
 have lt:∀ {b L},ιW H b=some L->b<H.size/\L.blk=b:=by
  intro b L hL
  unfold ιW at hL
  split at hL
  ·cases hL;exact⟨by assumption,rfl⟩
  ·cases hL
 refine⟨?_,?_,?_,fun g hg=>⟨_,if_pos (by omega),rfl,rfl⟩⟩
 ·intro b o hb
  rw[rI] at hb
  split at hb
  ·rename_i hlt
   unfold C6 at hb
   split at hb
   ·rename_i o' ho
    cases hb
    exact h.rel b _ ho
   ·split at hb
    ·rename_i c t fr hH
     cases hb
     refine⟨_,if_pos hlt,c,t,fr,hH,?_,?_,?_⟩
     ·simp only[hH]
     ·simp
     ·intro i x hx
      rw[List.getElem?_map,Option.map_eq_some_iff] at hx
      obtain⟨y,hy,rfl⟩:=hx
      refine⟨y,?_,q9 H y⟩
      rw[Array.getElem?_toList] at hy
      simpa using hy
    ·cases hb
  ·cases hb
 ·intro b1 b2 o1 o2 L1 L2 _ _ i1 i2 he
  rw[<- (lt i1).2,<- (lt i2).2,he]
 ·intro b L hL
  rw[(lt hL).2];exact(lt hL).1
theorem pd.owned {low:T ag}{H:Array Obj} (h:pd low H) {ι:aD}{k:Nat}:¬k9 ι (hW H low) k:=by
 rintro⟨b,o,L,h1,h2,_⟩
 rw[rI] at h1
 split at h1
 ·unfold C6 at h1
  split at h1
  ·rename_i o' ho
   cases h1
   rw[h.wr b _ ho] at h2;cases h2
  ·split at h1
   ·cases h1;cases h2
   ·cases h1
 ·cases h1
theorem Lw {low:T ag}{w:World} (h:pd low w.heap) {b o:Nat}{v:Value} (hc:w.cell? ⟨b,o,none⟩=some v) (hv:wv v=true) :
  ∃l,ay (hW w.heap low) b (.ro l)/\l[o]?=some (ij w.heap.size v):=by
 have hlt:=(sJ hc).2
 simp only at hlt
 unfold World.cell? at hc
 split at hc
 ·rename_i c t fr hH
  have hc':c[o]?=some v:=by simpa using hc
  cases hl:low.get b with
  |some ob =>
   obtain⟨l,rfl,h2⟩:=h.cell b ob hl c t fr hH o v hc' hv
   exact⟨l,h.has hl,h2⟩
  |none =>
   refine⟨c.toList.map (ij w.heap.size),?_,?_⟩
   ·unfold ay
    rw[rI,if_pos hlt]
    unfold C6
    rw[hl]
    simp only at hH
    rw[hH]
   ·rw[List.getElem?_map,Array.getElem?_toList,hc'];rfl
 ·cases hc
def HP (g:Nat->List Value) (n:Nat):List Value:=(List.range n).flatMap g
theorem sR (g:Nat->List Value) (n:Nat):HP g (n+1)=HP g n++g n:=by unfold HP;rw[List.range_succ,List.flatMap_append];simp
theorem vY {g:Nat->List Value}{k:Nat}:∀ {n:Nat},(∀i,i<n->(g i).length=k)->(HP g n).length=n*k
 |0,_=>by simp [HP]
 |n+1,h=>by rw[sR,List.length_append,vY fun i hi=>h i (by omega),h n (by omega),Nat.succ_mul]
theorem xc {g:Nat->List Value}{k i r:Nat} (hr:r<k):∀ {n:Nat},(∀i,i<n->(g i).length=k)->i<n->(HP g n)[i*k+r]?=(g i)[r]?
 |0,_,h=>by omega
 |n+1,h,hi=>by
  have hl:=vY (n:=n) fun i hi=>h i (by omega)
  rw[sR]
  by_cases he:i=n
  ·subst he
   rw[List.getElem?_append_right (by omega),hl,Nat.add_sub_cancel_left]
  ·have:(i+1)*k<=n*k:=Nat.mul_le_mul_right k (by omega)
   rw[Nat.succ_mul] at this
   rw[List.getElem?_append_left (by omega)]
   exact xc hr (fun i hi=>h i (by omega)) (by omega)
theorem F5 {o m:Nat}{l xs:List Value} (hx:xs.length=m) (hm:0<m) (h:∀j,j<m->l[o+j]?=xs[j]?):aP o m l=some xs:=by
 have hl:o+m<=l.length:=by
  have:=h (m - 1) (by omega)
  rw[List.getElem?_eq_getElem (by omega:m - 1<xs.length)] at this
  have:=(List.getElem?_eq_some_iff.1 this).1
  omega
 rw[fj o m l hl]
 congr 1
 refine List.ext_getElem? fun j=>?_
 by_cases hj:j<m
 ·rw[List.getElem?_take_of_lt hj,List.getElem?_drop,h j hj]
 ·rw[List.getElem?_take_eq_none (by omega),List.getElem?_eq_none (by omega)]
section
variable {H:Type}{enc:TypeId×Value->H}{P:Program}{w:World}{base:Nat}{held:Bool}{fuel:Nat}{low:T ag}
set_option linter.unusedVariables false in
theorem uS (hlow:pd low w.heap) {t e k:Nat} (ht:P.underlying t=some (.slice e)) (hk:P.cellsOf e=k) (hk0:0<k)
  (hpl:∀m cs y,DataW.trod enc P w base (fun _=>true) held m e cs=some y->∀x∈cs,wv x=true)
  {v:Value}{x:DataW H×List MemPlace} (h:DataW.trod enc P w base (fun _=>true) held fuel t [v]=some x) :
  ∃(oa oa':Option Addr) (n cap:Nat) (f:Nat->List Value),v=.slice oa n cap/\ij w.heap.size v=.slice oa' n cap/\n<=cap/\cap<=maxLen/\(∀i,i<n->(f i).length=k/\∃m y,DataW.trod enc P w base (fun _=>true) held m e (f i)=some y) /\
   bj (hW w.heap low) (ij w.heap.size v) n k (HP (fun i=>(f i).map (ij w.heap.size)) n):=by
 rcases DataW.trod_slice ht h with⟨h1,_⟩|⟨a,len,cap,elems,rest,m,_,hcs,_,_,hl,hm,hlen,hel,hrest,_⟩
 ·have:v=.slice none 0 0:=by simpa using h1
  subst this
  exact⟨none,none,0,0,fun _=>[],rfl,rfl,Nat.le_refl _,Nat.zero_le _,fun i hi=>absurd hi (Nat.not_lt_zero _),.inl ⟨rfl,rfl,none,0,rfl⟩⟩
 ·have hv:v=.slice (some a) len cap:=by simpa using hcs
  subst hv
  rw[hk] at hel hrest
  -- the cells
  have each:∀i,i<cap->∃cs,w.cells? base (a.add (i*k)) k=some cs/\∃y,DataW.trod enc P w base (fun _=>true) held m e cs=some y:=by
   intro i hi
   have hE:∃y,(w.cells? base (a.add (i*k)) k).bind (DataW.trod enc P w base (fun _=>true) held m e)=some y:=by
    rcases Nat.lt_or_ge i len with h1|h1
    ·exact⟨_,(hel i h1).trans (List.getElem?_eq_getElem (by omega))⟩
    ·obtain⟨q1,q2⟩:=hrest rfl
     have:=q2 (i - len) (by omega)
     rw[show len+(i - len)=i by omega] at this
     exact⟨_,this.trans (List.getElem?_eq_getElem (by omega))⟩
   obtain⟨y,hy⟩:=hE
   rw[Option.bind_eq_some_iff] at hy
   obtain⟨cs,h1,h2⟩:=hy
   exact⟨cs,h1,y,h2⟩
  have good:0<cap->a.spot=none/\a.block<w.heap.size:=by
   intro hc
   obtain⟨cs,h1,_⟩:=each 0 hc
   obtain⟨_,h2⟩:=pJ h1
   obtain⟨y,_,h3⟩:=h2 0 hk0
   have e0:(a.add (0*k)).add 0=a:=by simp [Addr.add]
   rw[e0] at h3
   exact sJ h3
  have hf:∀i,i<len->((w.cells? base (a.add (i*k)) k).getD []).length=k/\∃m y,DataW.trod enc P w base (fun _=>true) held m e ((w.cells? base (a.add (i*k)) k).getD [])=some y:=by
   intro i hi
   obtain⟨cs,h1,y,h2⟩:=each i (by omega)
   rw[h1]
   exact⟨(pJ h1).1,m,y,h2⟩
  by_cases hc:a.spot=none/\a.block<w.heap.size
  ·obtain⟨b,o,sp⟩:=a
   obtain⟨h1,h2⟩:=hc
   simp only at h1 h2
   subst h1
   have ha:ij w.heap.size (.slice (some ⟨b,o,none⟩) len cap)=.slice (some ⟨b,o,none⟩) len cap:=by unfold ij;exact if_pos ⟨rfl,h2⟩
   refine⟨_,_,len,cap,fun i=>(w.cells? base (Addr.add ⟨b,o,none⟩ (i*k)) k).getD [],rfl,ha,hl,hm,hf,?_⟩
   rw[ha]
   cases len with
   |zero=>exact .inl ⟨rfl,rfl,_,_,rfl⟩
   |succ len =>
    have cell:∀i r,i<len+1->r<k->∃l v,ay (hW w.heap low) b (.ro l)/\l[o+(i*k+r)]?=some (ij w.heap.size v)/\((w.cells? base (Addr.add ⟨b,o,none⟩ (i*k)) k).getD [])[r]?=some v:=by
     intro i r hi hr
     obtain⟨cs,h3,y,h4⟩:=each i (by omega)
     obtain⟨q1,q2⟩:=pJ h3
     obtain⟨v,hv,hw⟩:=q2 r hr
     have e1:(Addr.add ⟨b,o,none⟩ (i*k)).add r=⟨b,o+(i*k+r),none⟩:=by
      unfold Addr.add
      by_cases hz:i*k=0
      ·rw[if_pos hz]
       by_cases hr0:r=0
       ·rw[if_pos hr0,hz,hr0];rfl
       ·rw[if_neg hr0,hz,Nat.zero_add]
      ·rw[if_neg hz]
       by_cases hr0:r=0
       ·rw[if_pos hr0,hr0];rfl
       ·rw[if_neg hr0];simp [Nat.add_assoc]
     rw[e1] at hw
     obtain⟨l,g1,g2⟩:=Lw hlow hw (hpl _ _ _ h4 v (List.mem_of_getElem? hv))
     rw[h3]
     exact⟨l,v,g1,g2,hv⟩
    obtain⟨l,_,hb,_,_⟩:=cell 0 0 (by omega) hk0
    refine .inr ⟨b,o,none,cap,l,rfl,hb.celR,?_⟩
    have hlen:∀i,i<len+1->(((w.cells? base (Addr.add ⟨b,o,none⟩ (i*k)) k).getD []).map (ij w.heap.size)).length=k:=fun i hi=>by rw[List.length_map];exact(hf i hi).1
    have hpos:0<(len+1)*k:=Nat.mul_pos (by omega) hk0
    refine F5 (vY hlen) hpos fun j hj=>?_
    have hd:j / k<len+1:=(Nat.div_lt_iff_lt_mul hk0).2 hj
    have hr:j%k<k:=Nat.mod_lt _ hk0
    have he:j / k*k+j%k=j:=by rw[Nat.mul_comm];exact Nat.div_add_mod j k
    obtain⟨l',v,g1,g2,g3⟩:=cell (j / k) (j%k) hd hr
    have hll:l'=l:=by
     unfold ay at hb g1
     rw[hb] at g1
     cases g1;rfl
    subst hll
    have:=xc (g:=fun i=>(((w.cells? base (Addr.add ⟨b,o,none⟩ (i*k)) k).getD []).map (ij w.heap.size))) hr hlen hd
    rw[he] at this g2
    rw[this,g2,List.getElem?_map,g3]
    rfl
  ·have h0:cap=0:=by
    rcases Nat.eq_zero_or_pos cap with h|h
    ·exact h
    ·exact absurd (good h) hc
   subst h0
   have h0:len=0:=by omega
   subst h0
   have ha:ij w.heap.size (.slice (some a) 0 0)=.slice (some ⟨0,0,some 1⟩) 0 0:=by unfold ij;exact(if_neg hc).trans (if_pos ⟨rfl,rfl⟩)
   exact⟨_,_,0,0,fun _=>[],rfl,ha,Nat.le_refl _,Nat.zero_le _,fun i hi=>absurd hi (Nat.not_lt_zero _),.inl ⟨rfl,rfl,_,_,ha⟩⟩
end
end Go.Ab
end
section
namespace Go.Ab.Seat
open Go.Extern Go.Proofs
theorem aE.callB {C:aS}{f:Nat}{args:List Value}{s s':St}{v:Value} (hsm:C.sm f=none) (hex:C.ex f=none) (h:aE C eg f args s v s'):∃n,callB C (a6 C eg n) f args s=some (v,s'):=by
 obtain⟨n,h⟩:=h
 refine⟨n,?_⟩
 unfold cr at h
 rw[hsm] at h
 simp only at h
 rw[hex] at h
 exact h
theorem jX {f n:Nat}{args:List Value}{v:Value}{s s0:St} (h:callB C0 (a6 C0 eg n) f args ⟨dE s.h.get s.c,s.c,[],[]⟩=some (v,s0)) (fr:∀x,s.c<=x->x<s0.c->s.h.get x=none) :
  s.c<=s0.c/\∃h',callB C0 (a6 C0 eg n) f args ⟨s.h,s.c,[],[]⟩=some (v,⟨h',s0.c,s0.rl,s0.wl⟩)/\(∀x,x<s0.c->h'.get x=s0.h.get x)/\∀x,s0.c<=x->h'.get x=s.h.get x:=by
 obtain⟨r,w,L⟩:=d9 (gq (eg:=eg) jv.sm.loc n) f args _ _ _ h
 have same:∀x,x<s0.c->s.h.get x=(dE s.h.get s.c).get x:=by
  intro x hx
  rw[bF]
  by_cases hc:x<s.c
  ·rw[if_pos hc]
  ·rw[if_neg hc];exact fr x (by omega) hx
 have tl:∀b,fP r w s.c s0.c b->b<s0.c:=by
  rintro b (hb|hb|hb)
  ·exact L.rlt b hb
  ·exact L.wlt b hb
  ·exact hb.2
 obtain⟨h',e1,e2,e3⟩:=L.move ⟨s.h,s.c,[],[]⟩ rfl fun b hb=>same b (tl b hb)
 refine⟨L.cle,h',?_,?_,fun x hx=>e3 x (fun q=>absurd (L.wlt x q) (by omega)) (by omega)⟩
 ·rw[e1,L.rl,L.wl]
 ·intro x hx
  by_cases ht:fP r w s.c s0.c x
  ·exact e2 x ht
  ·have n1:x∉w:=fun q=>ht (.inr (.inl q))
   have n2:¬(s.c<=x/\x<s0.c):=fun q=>ht (.inr (.inr q))
   rw[e3 x n1 n2,L.keep x n1 n2]
   exact same x hx
noncomputable def zI:M Unit:=fun s=>some ((),⟨s.h,s.c+1,s.rl,s.wl⟩)
theorem p6:ah zI:=by
 intro s a s' h
 cases h
 exact⟨[],[],rfl,rfl,Nat.le_succ _,(fun b hb=>by cases hb),(fun b hb=>by cases hb),fun _ _ _=>rfl,fun t ht hh=>⟨t.h,by rw[<- ht];rfl,hh,fun _ _ _=>rfl⟩⟩
noncomputable def oo (b o n i vb vo:Nat):M Value :=
 (bu b).bind fun cs=>(bu vb).bind fun ws=>(M.lift (aP o (n*2) cs)).bind fun xs=>(M.lift (aP vo 2 ws)).bind fun vv =>
  match ee atom xs&&ee atom vv with
  |true=>zI.bind fun _=>(putO b none).bind fun _=>(bq (xs.take (i*2)++vv++xs.drop (i*2))).bind fun k=>M.ret (.slice (some ⟨k,0,some 2⟩) (n+1) (n+1))
  |false=>M.fail
noncomputable def oy (vb vo:Nat):M Value :=
 (bu vb).bind fun ws=>(M.lift (aP vo 2 ws)).bind fun vv=>(bq vv).bind fun k=>M.ret (.slice (some ⟨k,0,some 2⟩) 1 1)
noncomputable def CV (e n cap vb b:Nat) (z:Int):Bool:=Nat.beq e 2&&Nat.ble 1 n&&Nat.ble n cap&&Nat.ble n 1000&&decide (0<=z)&&decide (z<=(n:Int))&&!(Nat.beq vb b)
noncomputable def gIns (args:List Value):M Value :=
 match args with
 | [.slice (some ⟨b,o,some e⟩) n cap,.int .i64 z,.slice (some ⟨vb,vo,sp⟩) 1 vc] =>
  match CV e n cap vb b z with
  |true=>oo b o n z.toNat vb vo
  |false=>M.fail
 | [.slice none 0 0,.int .i64 z,.slice (some ⟨vb,vo,sp⟩) 1 vc] =>
  match decide (z=0) with
  |true=>oy vb vo
  |false=>M.fail
 |_=>M.fail
theorem nD (args:List Value):ah (gIns args):=by
 unfold gIns
 split
 ·split
  ·refine ah.bind (bB _) fun cs=>ah.bind (bB _) fun ws=>ah.bind (ah.lift _) fun xs=>ah.bind (ah.lift _) fun vv=>?_
   split
   ·exact ah.bind p6 fun _=>ah.bind (ah.putO _ _) fun _=>ah.bind (cH _) fun _=>ah.ret _
   ·exact ah.fail
  ·exact ah.fail
 ·split
  ·exact ah.bind (bB _) fun ws=>ah.bind (ah.lift _) fun vv=>ah.bind (cH _) fun _=>ah.ret _
  ·exact ah.fail
 ·exact ah.fail
theorem B5 {o k m:Nat}{cs xs:List Value} (h:aP o k cs=some xs):∃t,t.length=m/\aP o (k+m) (qF cs (o+(k+m)))=some (xs++t):=by
 obtain⟨h1,h2,_⟩:=aN _ _ _ _ h
 have hl:o+(k+m)<=(qF cs (o+(k+m))).length:=by
  unfold qF
  rw[cP,List.length_append,rH,eD]
  show _<=cs.length+(o+(k+m) - cs.length)
  omega
 refine⟨((qF cs (o+(k+m))).drop (o+k)).take m,?_,?_⟩
 ·rw[List.length_take,List.length_drop];omega
 ·rw[fj _ _ _ hl]
  congr 1
  rw[List.take_add,List.drop_drop]
  congr 1
  rw[fj _ _ _ h2] at h
  rw[<- Option.some.inj h]
  unfold qF
  rw[cP,List.drop_append,List.take_append,List.length_drop]
  rw[show k - (cs.length - o)=0 by omega,List.take_zero,List.append_nil]
theorem jG {k o n c:Nat}{s:St}{ck l:List Value} (h:s.h.get k=some (.cells ck)) (hk:k<s.c) (hs:aP o (n*2) ck=some l) (hn:n<=c):lC 2 n (.slice (some ⟨k,o,some 2⟩) n c) s=some ((k,l),⟨s.h,s.c,k::s.rl,s.wl⟩):=by
 unfold lC
 simp only[Nat.beq_refl,aH.2 hn,Bool.and_self]
 obtain⟨h0,c0,rl,wl⟩:=s
 rw[ac (bz h hk),ac (aw hs)]
 rfl
theorem sh {s:St}{b o n i vb vo vc:Nat}{sp:Option Nat}{cs ws vv xs t2:List Value} (hb:s.h.get b=some (.cells cs)) (hbc:b<s.c) (hs:aP o ((n+1)*2) cs=some (xs++t2)) (hx:xs.length=n*2) (hv:s.h.get vb=some (.cells ws)) (hvc:vb<s.c) (hvs:aP vo 2 ws=some vv) (hne:vb≠b)
  (ha:∀x∈xs,atom x=true) (ha':∀x∈vv,atom x=true) (hn:n<=1000) (hi:i<=n) :
  ∃k s1 cs',callB C0 (a6 C0 eg k) 200 [.slice (some ⟨b,o,some 2⟩) n (n+1),.int .i64 (i:Int),.slice (some ⟨vb,vo,sp⟩) 1 vc] ⟨s.h,s.c,[],[]⟩=some (.slice (some ⟨b,o,some 2⟩) (n+1) (n+1),s1)/\s1.c=s.c/\s1.h.get b=some (.cells cs')/\aP o ((n+1)*2) cs'=some (xs.take (i*2)++vv++xs.drop (i*2))/\∀x∈s1.wl,x=b\/s.c<=x:=by
 have hf:ai (dE s.h.get s.c) s.c:=fun x hx=>by rw[bF,if_neg (by omega)]
 have hb':ay (dE s.h.get s.c) b (.cells cs):=by unfold ay;rw[bF,if_pos hbc];exact hb
 have hv':ay (dE s.h.get s.c) vb (.cells ws):=by unfold ay;rw[bF,if_pos hvc];exact hv
 have hbg:dv=1048576:=rfl
 have key:∃r s0,aE C0 eg 200 [.slice (some ⟨b,o,some 2⟩) n (n+1),.int .i64 (i:Int),.slice (some ⟨vb,vo,sp⟩) 1 vc] ⟨dE s.h.get s.c,s.c,[],[]⟩ r s0/\(r=.slice (some ⟨b,o,some 2⟩) (n+1) (n+1)/\s0.c=s.c/\∃cs',ay s0.h b (.cells cs')/\aP o ((n+1)*2) cs'=some (xs.take (i*2)++vv++xs.drop (i*2)))/\bA ⟨dE s.h.get s.c,s.c,[],[]⟩ s0 (fun x=>x=b\/x=vb) (fun x=>x=b):=by
  rcases Nat.lt_or_ge i n with h|h
  ·obtain⟨m,rfl⟩:∃m,n=i+1+m:=⟨n - i - 1,by omega⟩
   exact sg (sm:=fun _=>none) rfl rfl hf hb' (A:=xs.take (i*2)) (B:=xs.drop (i*2)) (t2:=t2) (by rw[List.take_append_drop];exact hs) (by rw[List.length_take];omega) (by rw[List.length_drop];omega) hv' hvs hne (fun x hx=>ha x (List.mem_of_mem_drop hx)) ha' (by omega)
  ·obtain rfl:i=n:=by omega
   rw[List.take_of_length_le (by omega),List.drop_of_length_le (by omega),List.append_nil]
   exact pE (sm:=fun _=>none) rfl hf hb' hs hx hv' hvs ha' (by omega)
 obtain⟨r,s0,h1,⟨rfl,h2,cs',h3,h4⟩,h5⟩:=key
 obtain⟨k,h6⟩:=aE.callB rfl oS h1
 obtain⟨_,h',h7,h8,h9⟩:=jX h6 fun x h1 h2=>by omega
 exact⟨k,_,cs',h7,h2,(h8 b (by omega)).trans h3,h4,fun x hx=>by
  rcases h5.wl x hx with q|q
  ·cases q
  ·exact .inl q.2⟩
theorem sC {s:St}{b o n i vb vo vc:Nat}{sp:Option Nat}{cs ws vv xs:List Value} (hb:s.h.get b=some (.cells cs)) (hbc:b<s.c) (hs:aP o (n*2) cs=some xs) (hv:s.h.get vb=some (.cells ws)) (hvc:vb<s.c) (hvs:aP vo 2 ws=some vv)
  (ha:∀x∈xs,atom x=true) (ha':∀x∈vv,atom x=true) (hn:n<=1000) (h0:1<=n) (hi:i<=n) (fr:s.h.get s.c=none) :
  ∃k s1 cs',callB C0 (a6 C0 eg k) 200 [.slice (some ⟨b,o,none⟩) n n,.int .i64 (i:Int),.slice (some ⟨vb,vo,sp⟩) 1 vc] ⟨s.h,s.c,[],[]⟩=some (.slice (some ⟨s.c,0,some 2⟩) (n+1) (n+1),s1)/\s1.c=s.c+1/\s1.h.get s.c=some (.cells cs')/\aP 0 ((n+1)*2) cs'=some (xs.take (i*2)++vv++xs.drop (i*2))/\∀x∈s1.wl,x=b\/s.c<=x:=by
 have hf:ai (dE s.h.get s.c) s.c:=fun x hx=>by rw[bF,if_neg (by omega)]
 have hb':ay (dE s.h.get s.c) b (.cells cs):=by unfold ay;rw[bF,if_pos hbc];exact hb
 have hv':ay (dE s.h.get s.c) vb (.cells ws):=by unfold ay;rw[bF,if_pos hvc];exact hv
 have hbg:dv=1048576:=rfl
 have hx:xs.length=n*2:=(aN _ _ _ _ hs).1
 have key:∃r s0,aE C0 eg 200 [.slice (some ⟨b,o,none⟩) n n,.int .i64 (i:Int),.slice (some ⟨vb,vo,sp⟩) 1 vc] ⟨dE s.h.get s.c,s.c,[],[]⟩ r s0/\(r=.slice (some ⟨s.c,0,some 2⟩) (n+1) (n+1)/\s0.c=s.c+1/\∃cs',ay s0.h s.c (.cells cs')/\aP 0 ((n+1)*2) cs'=some (xs.take (i*2)++vv++xs.drop (i*2)))/\bA ⟨dE s.h.get s.c,s.c,[],[]⟩ s0 (fun x=>x=b\/x=vb) (fun _=>False):=by
  rcases Nat.lt_or_ge i n with h|h
  ·cases i with
   |zero =>
    obtain⟨m,rfl⟩:∃m,n=m+1:=⟨n - 1,by omega⟩
    rw[Nat.zero_mul,List.take_zero,List.drop_zero,List.nil_append]
    exact pp (sm:=fun _=>none) rfl hf hb' hs hv' hvs ha ha' (by omega)
   |succ i =>
    obtain⟨m,rfl⟩:∃m,n=i+1+m+1:=⟨n - i - 2,by omega⟩
    have:=sW (sm:=fun _=>none) (c:=s.c) (rl:=[]) (wl:=[]) (sp:=sp) (vc:=vc) rfl hf hb' (A:=xs.take ((i+1)*2)) (B:=xs.drop ((i+1)*2)) (by rw[List.take_append_drop];exact hs) (by rw[List.length_take];omega) hv' hvs (fun x hx=>ha x (List.mem_of_mem_drop hx)) ha' (by omega)
    rw[show i+1+(m+2)=i+1+m+1+1 by omega] at this
    exact this
  ·obtain rfl:i=n:=by omega
   obtain⟨m,rfl⟩:∃m,i=m+1:=⟨i - 1,by omega⟩
   rw[List.take_of_length_le (by omega),List.drop_of_length_le (by omega),List.append_nil]
   obtain⟨r,s0,h1,⟨h2,h3,h4⟩,h5⟩:=pQ (sm:=fun _=>none) (c:=s.c) (rl:=[]) (wl:=[]) (sp:=sp) (vc:=vc) rfl hf hb' hs hv' hvs (by omega)
   have lv:vv.length=2:=(aN _ _ _ _ hvs).1
   exact⟨r,s0,h1,⟨h2,h3,_,h4,aA _ _ (by rw[List.length_append];omega)⟩,h5⟩
 obtain⟨r,s0,h1,⟨rfl,h2,cs',h3,h4⟩,h5⟩:=key
 obtain⟨k,h6⟩:=aE.callB rfl oS h1
 obtain⟨_,h',h7,h8,h9⟩:=jX h6 fun x h1 h2=>by
  obtain rfl:x=s.c:=by omega
  exact fr
 exact⟨k,_,cs',h7,h2,(h8 s.c (by omega)).trans h3,h4,fun x hx=>by
  rcases h5.wl x hx with q|q
  ·cases q
  ·exact q.2.elim⟩
theorem xn {s:St}{vb vo vc:Nat}{sp:Option Nat}{ws vv:List Value} (hv:s.h.get vb=some (.cells ws)) (hvc:vb<s.c) (hvs:aP vo 2 ws=some vv) (fr:s.h.get s.c=none) :
  ∃k s1,callB C0 (a6 C0 eg k) 200 [.slice none 0 0,.int .i64 0,.slice (some ⟨vb,vo,sp⟩) 1 vc] ⟨s.h,s.c,[],[]⟩=some (.slice (some ⟨s.c,0,some 2⟩) 1 1,s1)/\s1.c=s.c+1/\∀x,s1.h.get x=(s.h.set s.c (some (.cells vv))).get x:=by
 have hf:ai (dE s.h.get s.c) s.c:=fun x hx=>by rw[bF,if_neg (by omega)]
 have hv':ay (dE s.h.get s.c) vb (.cells ws):=by unfold ay;rw[bF,if_pos hvc];exact hv
 obtain⟨r,s0,h1,⟨rfl,h2,h3,_⟩,h5⟩:=wM (sm:=fun _=>none) (c:=s.c) (rl:=[]) (wl:=[]) (sp:=sp) (vc:=vc) rfl hf hv' hvs
 obtain⟨k,h6⟩:=aE.callB rfl oS h1
 obtain⟨_,h',h7,h8,h9⟩:=jX h6 fun x h1 h2=>by
  obtain rfl:x=s.c:=by omega
  exact fr
 refine⟨k,_,h7,h3,fun x=>?_⟩
 rcases Nat.lt_or_ge x s0.c with hx|hx
 ·show h'.get x=_
  rw[h8 x hx,h2,T.get_set,T.get_set]
  by_cases hc:x=s.c
  ·rw[if_pos hc,if_pos hc]
  ·rw[if_neg hc,if_neg hc,bF,if_pos (by omega)]
 ·show h'.get x=_
  rw[h9 x hx,T.get_set,if_neg (by omega)]
theorem zM {G:Nat}{ι:aD}{h h':T ag}{H:Array Obj} (hr:HR G ι h H) (e:∀x,h'.get x=h.get x):HR G ι h' H :=
 ⟨fun b o hb=>hr.obj b o (by rw[<- e];exact hb),fun b1 b2 o1 o2 L1 L2 g1 g2=>hr.inj b1 b2 o1 o2 L1 L2 (by rw[<- e];exact g1) (by rw[<- e];exact g2),hr.lt,hr.glob⟩
theorem qt {ι:aD}{h h':T ag}{k:Nat} (ho:k9 ι h k) (e:∀x,h'.get x=h.get x):k9 ι h' k:=by
 obtain⟨x,o,L,h1,h2,h3,h4⟩:=ho
 exact⟨x,o,L,by rw[e];exact h1,h2,h3,h4⟩
theorem smInsG:iM jf gIns:=by
 refine⟨nD,?_⟩
 intro args s s' v ι w args' R hg ha hr fr hR
 unfold gIns at hg
 split at hg
 ·rename_i b o e n cap z vb vo sp vc
  cases hcond:CV e n cap vb b z with
  |false=>rw[hcond] at hg;exact(aa hg).elim
  |true =>
   rw[hcond] at hg
   unfold CV at hcond
   simp only at hg
   simp only[Bool.and_eq_true,decide_eq_true_eq,Bool.not_eq_true'] at hcond
   obtain⟨⟨⟨⟨⟨⟨c1,c2⟩,c3⟩,c4⟩,c5⟩,c6⟩,c7⟩:=hcond
   obtain rfl:=aL.1 c1
   have c2:=aH.1 c2
   have c3:=aH.1 c3
   have c4:=aH.1 c4
   have c7:=bh.1 c7
   obtain⟨i,rfl⟩:∃i:Nat,z=(i:Int):=⟨z.toNat,by omega⟩
   have hi:i<=n:=by omega
   unfold oo at hg
   obtain⟨cs,s1,g1,hg⟩:=bind_some hg
   obtain⟨hb,hbc,rfl⟩:=bC g1
   obtain⟨ws,s2,g2,hg⟩:=bind_some hg
   obtain⟨hv,hvc,rfl⟩:=bC g2
   obtain⟨xs,s3,g3,hg⟩:=bind_some hg
   obtain⟨hs,rfl⟩:=aI g3
   obtain⟨vv,s4,g4,hg⟩:=bind_some hg
   obtain⟨hvs,rfl⟩:=aI g4
   cases hat:(ee atom xs&&ee atom vv) with
   |false=>rw[hat] at hg;exact(aa hg).elim
   |true =>
    rw[hat] at hg
    simp only at hg
    rw[Bool.and_eq_true,bT,bT,List.all_eq_true,List.all_eq_true] at hat
    obtain⟨u,s5,g5,hg⟩:=bind_some hg
    cases g5
    obtain⟨⟨⟩,s6,g6,hg⟩:=bind_some hg
    obtain⟨_,_,rfl⟩:=dI g6
    obtain⟨kk,s7,g7,hg⟩:=bind_some hg
    obtain⟨rfl,rfl⟩:=ak hg
    unfold bq at g7
    rw[b4] at g7
    obtain⟨_,rfl,rfl⟩:=dZ g7
    simp only at hb hbc hv hvc fr hR
    have hx:xs.length=n*2:=(aN _ _ _ _ hs).1
    obtain⟨x',rest',rfl,hx1,hrest⟩:=ha.cons_inv
    cases hx1 with
    |sliceZ=>omega
    |sliceI _ _ _ _ _ c' L hL hc hbd =>
     by_cases hroom:n+1<=c'
     ·have hmul:(n+1)*2<=c'*2:=Nat.mul_le_mul_right _ hroom
      obtain⟨t2,ht2,hsub⟩:=B5 (m:=2) hs
      rw[show n*2+2=(n+1)*2 by omega] at hsub
      have gb:(s.h.set b (some (.cells (qF cs (o+(n+1)*2))))).get b=some (.cells (qF cs (o+(n+1)*2))):=by rw[T.get_set,if_pos rfl]
      have gv:(s.h.set b (some (.cells (qF cs (o+(n+1)*2))))).get vb=some (.cells ws):=by rw[T.get_set,if_neg c7];exact hv
      obtain⟨k,s1,cs',r1,r2,r3,r4,r5⟩:=sh (s:=⟨s.h.set b (some (.cells (qF cs (o+(n+1)*2)))),s.c,[],[]⟩) (sp:=sp) (vc:=vc) gb hbc hsub hx gv hvc hvs c7 hat.1 hat.2 c4 hi
      simp only at r1 r2 r5
      refine ip jv k 200 2 n b (s.c+1) (csX:=qF cs (o+(n+1)*2)) (sX:=⟨s.h.set b (some (.cells (qF cs (o+(n+1)*2)))),s.c,[],[]⟩) (lm:=xs.take (i*2)++vv++xs.drop (i*2)) hr hb hbc (HR.padded hr hb hL (by omega)) gb ?_ (Nat.le_refl _) (fun x hx=>by cases hx) r1 (jG r3 (by rw[r2];exact hbc) r4 (Nat.le_refl _))
       (bS.cons (.sliceI b o 2 n (n+1) c' L hL hroom hbd) hrest) (by omega) (.inl rfl) r5 (fun x h1 h2=>fr x h1 (by omega)) (fun _ _ h=>h) rfl rfl hR
      intro x hx
      show (s.h.set b _).get x=_
      rw[T.get_set,if_neg hx]
     ·obtain rfl:c'=n:=by omega
      have fc:s.h.get s.c=none:=by
       cases hq:s.h.get s.c with
       |none=>rfl
       |some q =>
        obtain⟨L',hL',_⟩:=hr.obj _ _ hq
        rw[fr s.c (Nat.le_refl _) (by omega)] at hL'
        cases hL'
      obtain⟨k,s1,cs',r1,r2,r3,r4,r5⟩:=sC (s:=s) (sp:=sp) (vc:=vc) hb hbc hs hv hvc hvs hat.1 hat.2 c4 c2 hi fc
      refine ip jv k 200 2 c' b (s.c+1) (csX:=cs) (sX:=⟨s.h,s.c,[],[]⟩) (lm:=xs.take (i*2)++vv++xs.drop (i*2)) hr hb hbc hr hb (fun _ _=>rfl) (Nat.le_refl _) (fun x hx=>by cases hx) r1 (jG r3 (by omega) r4 (Nat.le_refl _))
       (bS.cons (.sliceX b o c' c' L hL) hrest) (by omega) (.inr (Nat.le_refl _)) r5 (fun x h1 h2=>fr x h1 (by omega)) (fun _ _ h=>h) rfl rfl hR
 ·rename_i z vb vo sp vc
  cases hz:decide (z=0) with
  |false=>rw[hz] at hg;exact(aa hg).elim
  |true =>
   rw[hz] at hg
   simp only at hg
   obtain rfl:=of_decide_eq_true hz
   unfold oy at hg
   obtain⟨ws,s2,g2,hg⟩:=bind_some hg
   obtain⟨hv,hvc,rfl⟩:=bC g2
   obtain⟨vv,s4,g4,hg⟩:=bind_some hg
   obtain⟨hvs,rfl⟩:=aI g4
   obtain⟨kk,s7,g7,hg⟩:=bind_some hg
   obtain⟨rfl,rfl⟩:=ak hg
   unfold bq at g7
   rw[b4] at g7
   obtain⟨fc,rfl,rfl⟩:=dZ g7
   simp only at fc fr hR
   obtain⟨k,s1,r1,r2,r3⟩:=xn (s:=s) (sp:=sp) (vc:=vc) hv hvc hvs fc
   refine fq jv k 200 r1 ha hr (fun x h1 h2=>fr x h1 (by omega)) fun v' w' ι' hv' hp=>hR v' w' ι' hv' ?_
   exact⟨hp.ext,fun b hb h=>hp.new b hb (by simp only at h ⊢;omega),zM hp.hr fun x=>(r3 x).symm,hp.os,hp.tape,hp.output,hp.size,hp.frame,fun k hk ho=>hp.own k hk (qt ho r3),by simp only;omega⟩
 ·exact(aa hg).elim
#print axioms smInsG
end Go.Ab.Seat
end
