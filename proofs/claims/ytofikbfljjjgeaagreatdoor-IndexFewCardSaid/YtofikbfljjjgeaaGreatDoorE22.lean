import Derived.Test.YtofikbfljjjgeaaGreatDoorE40
import Derived.Shelf.SlIterI.Nil
import Derived.Shelf.SortM.Plain
import Derived.Shelf.SortM.SortNone
import Derived.RangeFuncBox
set_option linter.unusedVariables false
set_option linter.unusedSimpArgs false
section
namespace Go.Ab
section
variable {C:aS}{eg:TypeId->Bool}{P:Program}{G:Nat}
theorem nI {size n:Nat}{v:Value}{s s1:St}{p:Nat×List Value} (h:lC size n v s=some (p,s1)) :
  ∃o c ck,v=.slice (some ⟨p.1,o,some size⟩) n c/\n<=c/\s.h.get p.1=some (.cells ck)/\p.1<s.c/\aP o (n*size) ck=some p.2/\s1.h=s.h/\s1.c=s.c/\s1.wl=s.wl:=by
 unfold lC at h
 cases v with
 |slice a m c =>
  cases a with
  |none=>exact(aa h).elim
  |some a =>
   obtain⟨k,o,sp⟩:=a
   cases sp with
   |none=>exact(aa h).elim
   |some e =>
    simp only at h
    cases hb:(Nat.beq e size&&Nat.beq m n&&Nat.ble n c) with
    |false=>rw[hb] at h;exact(aa h).elim
    |true =>
     rw[hb] at h
     rw[Bool.and_eq_true,Bool.and_eq_true] at hb
     obtain⟨⟨b1,b2⟩,b3⟩:=hb
     have b1:=aL.1 b1
     have b2:=aL.1 b2
     have b3:=aH.1 b3
     subst b1;subst b2
     obtain⟨ck,s2,h1,h2⟩:=bind_some h
     obtain⟨g1,g2,rfl⟩:=bC h1
     obtain⟨l,s3,h3,h4⟩:=bind_some h2
     obtain⟨h5,rfl⟩:=aI h3
     obtain⟨rfl,rfl⟩:=ak h4
     exact⟨o,c,ck,rfl,b3,g1,g2,h5,rfl,rfl,rfl⟩
 |_=>exact(aa h).elim
theorem ip (W:C.Whole eg P G) (fuel f size n b cn:Nat) {cs csX:List Value}{s sX sm s1 s':St}{ι:aD}{w:World}{args0 args':List Value}{v1:Value}{p:Nat×List Value}{lm:List Value}{R:Ending->World->Prop}
  (hr:HR G ι s.h w.heap) (hb:s.h.get b=some (.cells cs)) (hbc:b<s.c) (hX:HR G ι sX.h w.heap) (hXb:sX.h.get b=some (.cells csX)) (hXo:∀x,x≠b->sX.h.get x=s.h.get x) (hXc:s.c<=sX.c) (hXw:∀x∈sX.wl,x=b)
  (hrun:callB C (a6 C eg fuel) f args0 sX=some (v1,sm)) (hend:lC size (n+1) v1 sm=some (p,s1)) (ha:bS ι args0 args') (hsm:sm.c<=cn)
  (hk:p.1=b\/sX.c<=p.1) (hw:∀x∈s1.wl,x=b\/sX.c<=x) (fr:∀x,s.c<=x->x<cn+1->ι x=none) (hlm:∀(ι':aD) m,bS ι' p.2 m->bS ι' lm m)
  (hs'h:s'.h=(s.h.set b none).set cn (some (.cells lm))) (hs'c:s'.c=cn+1)
  (hR:∀v' w' ι',VR ι' (.slice (some ⟨cn,0,some size⟩) (n+1) (n+1)) v'->aM G ι ι' s s' w w'->R (.returned v') w'):dO P f/\Calls P f args'.toArray w R:=by
 obtain⟨r,wl,L0⟩:=d9 (gq (eg:=eg) W.sm.loc fuel) f args0 _ _ _ hrun
 have hcle:=L0.cle
 refine fq W fuel f hrun ha hX (fun x h1 h2=>fr x (by omega) (by omega)) fun v' w1 ι1 hv hp=>?_
 obtain⟨o1,c1,ck,rfl,hc1,hgk,hkc,hsub,e1,e2,e3⟩:=nI hend
 obtain⟨k,l⟩:=p
 simp only at hgk hkc hsub hk hlm hv
 -- the blocks that it leaves alone
 have hwl:∀x∈wl,x=b\/sX.c<=x:=by
  intro x hx
  exact hw x (by rw[e3,L0.wl];exact List.mem_append_left _ hx)
 have old:∀x o,x≠b->s.h.get x=some o->x<s.c\/cn+1<=x:=by
  intro x o _ hx
  obtain⟨L,hL,_⟩:=hr.obj x o hx
  rcases Nat.lt_or_ge x s.c with h|h
  ·exact .inl h
  ·rcases Nat.lt_or_ge x (cn+1) with h2|h2
   ·rw[fr x h h2] at hL;cases hL
   ·exact .inr h2
 have keep:∀x o,x≠b->s.h.get x=some o->sm.h.get x=some o:=by
  intro x o hxb hx
  have hrange:=old x o hxb hx
  rw[L0.keep x ?_ (by omega),hXo x hxb];exact hx
  intro hxw
  have h1:=L0.wlt x hxw
  rcases hwl x hxw with h|h
  ·exact hxb h
  ·omega
 cases hv with
 |sliceI _ _ _ _ _ c'' Lk hLk hcc hbd =>
  obtain⟨Lk',hLk',c,t,fr',hH,hcr,hfr⟩:=hp.hr.obj k _ hgk
  rw[hLk] at hLk';cases hLk'
  have hcn:ι1 cn=none:=hp.new cn (fr cn (by omega) (by omega)) (.inr hsm)
  obtain⟨q1,q2,q3⟩:=aN _ _ _ _ hsub
  have hle:ι1.le (ι1.upd cn ⟨Lk.blk,Lk.off+o1,Lk.size⟩):=aD.le_upd ι1 _ hcn
  -- the cells
  have hml:bS ι1 l ((List.range ((n+1)*size)).map fun j=>c.getD (Lk.off+o1+j) undef):=by
   refine⟨by simp [q1],fun i x y hx hy=>?_⟩
   have hi:i<(n+1)*size:=by
    rcases Nat.lt_or_ge i ((n+1)*size) with hh|hh
    ·exact hh
    ·rw[List.getElem?_eq_none (by omega)] at hx;cases hx
   rw[q3 i hi] at hx
   obtain⟨z,hz,hvz⟩:=hcr.2.2 _ _ hx
   have:y=z:=by
    simp only[List.getElem?_map,List.getElem?_range hi,Option.map_some,Option.some.injEq] at hy
    rw[<- hy,Array.getD_eq_getD_getElem?,show Lk.off+o1+i=Lk.off+(o1+i) by omega,hz];rfl
   rw[this];exact hvz
  have hml':=hlm ι1 _ hml
  have hget:∀x,s'.h.get x=if x=cn then some (.cells lm) else if x=b then none else s.h.get x:=by
   intro x
   rw[hs'h,T.get_set,T.get_set]
  have hbn:b≠cn:=by omega
  have live:∀x o,s'.h.get x=some o->(x=cn/\o=.cells lm)\/(x≠cn/\x≠b/\s.h.get x=some o):=by
   intro x o hx
   rw[hget x] at hx
   by_cases h1:x=cn
   ·rw[if_pos h1] at hx;cases hx;exact .inl ⟨h1,rfl⟩
   ·rw[if_neg h1] at hx
    by_cases h2:x=b
    ·rw[if_pos h2] at hx;cases hx
    ·rw[if_neg h2] at hx;exact .inr ⟨h1,h2,hx⟩
  have owned:∀k0,k9 ι sX.h k0->k9 ι s.h k0:=by
   rintro k0 ⟨x,o,L,h1,h2,h3,h4⟩
   by_cases hxb:x=b
   ·subst hxb;exact⟨x,_,L,hb,rfl,h3,h4⟩
   ·exact⟨x,o,L,by rw[<- hXo x hxb];exact h1,h2,h3,h4⟩
  refine hR _ w1 (ι1.upd cn ⟨Lk.blk,Lk.off+o1,Lk.size⟩) (.sliceI cn 0 size (n+1) (n+1) c'' ⟨Lk.blk,Lk.off+o1,Lk.size⟩ (aD.upd_same ..) (by omega) (by show Lk.off+o1+0+_<=Lk.size;omega)) ?_
  refine⟨aD.le_trans hp.ext hle,?_,?_,hp.os,hp.tape,hp.output,hp.size,?_,?_,by rw[hs'c];omega⟩
  ·intro x hx hxc
   rw[hs'c] at hxc
   rw[aD.upd_ne ι1 _ (by omega)]
   exact hp.new x hx (by omega)
  ·refine⟨?_,?_,?_,?_⟩
   ·intro x o hx
    rcases live x o hx with⟨rfl,rfl⟩|⟨h1,h2,h3⟩
    ·refine⟨_,aD.upd_same ..,c,t,fr',hH,⟨hcr.1,?_,?_⟩,hfr⟩
     ·have h5:=hml'.1
      simp only[List.length_map,List.length_range] at h5
      have:=hcr.2.1
      show Lk.off+o1+lm.length<=c.size
      omega
     ·intro i x hx
      obtain⟨y,hy,hxy⟩:=hml'.get hx
      have hi:i<(n+1)*size:=by
       rcases Nat.lt_or_ge i ((n+1)*size) with hh|hh
       ·exact hh
       ·rw[List.getElem?_eq_none (by simpa using hh)] at hy;cases hy
      simp only[List.getElem?_map,List.getElem?_range hi,Option.map_some,Option.some.injEq] at hy
      refine⟨y,?_,hxy.mono hle⟩
      show c[Lk.off+o1+i]?=some y
      have hlt:Lk.off+o1+i<c.size:=by have:=hcr.2.1;omega
      rw[<- hy,Array.getD_eq_getD_getElem?,Array.getElem?_eq_getElem hlt];rfl
    ·obtain⟨L,hL,hO⟩:=hp.hr.obj x o (keep x o h2 h3)
     exact⟨L,hle _ _ hL,hO.mono hle⟩
   ·have mix:∀x o L,x≠cn->x≠b->s.h.get x=some o->ι1 x=some L->L.blk=Lk.blk->False:=by
     intro x o L h1 h2 h3 h4 h5
     have:=hp.hr.inj x k _ _ L Lk (keep x o h2 h3) hgk h4 hLk h5
     subst this
     have:=old x o h2 h3
     rcases hk with hk|hk
     ·exact h2 hk
     ·omega
    intro x1 x2 o1' o2' L1 L2 g1 g2 i1 i2 he
    rcases live x1 o1' g1 with⟨rfl,rfl⟩|⟨h1,h2,h3⟩
    ·rcases live x2 o2' g2 with⟨rfl,rfl⟩|⟨h4,h5,h6⟩
     ·rfl
     ·rw[aD.upd_same] at i1
      cases i1
      rw[aD.upd_ne ι1 _ h4] at i2
      exact(mix x2 o2' L2 h4 h5 h6 i2 he.symm).elim
    ·rw[aD.upd_ne ι1 _ h1] at i1
     rcases live x2 o2' g2 with⟨rfl,rfl⟩|⟨h4,h5,h6⟩
     ·rw[aD.upd_same] at i2
      cases i2
      exact(mix x1 o1' L1 h1 h2 h3 i1 he).elim
     ·rw[aD.upd_ne ι1 _ h4] at i2
      exact hp.hr.inj x1 x2 _ _ L1 L2 (keep x1 _ h2 h3) (keep x2 _ h5 h6) i1 i2 he
   ·intro x L hx
    by_cases h1:x=cn
    ·subst h1
     rw[aD.upd_same] at hx
     cases hx
     exact hp.hr.lt k Lk hLk
    ·rw[aD.upd_ne ι1 _ h1] at hx
     exact hp.hr.lt x L hx
   ·intro g hg
    obtain⟨L,h1,h2⟩:=hp.hr.glob g hg
    exact⟨L,hle _ _ h1,h2⟩
  ·intro k0 hk0 ho
   exact hp.frame k0 hk0 fun q=>ho (owned k0 q)
  ·rintro k0 hk0 ⟨x,o,L,h1,h2,h3,h4⟩
   rcases live x o h1 with⟨rfl,rfl⟩|⟨h5,h6,h7⟩
   ·rw[aD.upd_same] at h3
    cases h3
    exact owned k0 (hp.own k0 hk0 ⟨k,_,Lk,hgk,rfl,hLk,h4⟩)
   ·rw[aD.upd_ne ι1 _ h5] at h3
    obtain⟨L2,g1,_⟩:=hr.obj x o h7
    have:=hp.ext x L2 g1
    rw[h3] at this
    cases this
    exact⟨x,o,_,h7,h2,g1,h4⟩
theorem sa {b:Nat}{p:Nat×List Value}{c:Nat}{wl:List Nat} (h:uC b (p,c,wl)=true):(p.1=b\/c<=p.1)/\∀x∈wl,x=b\/c<=x:=by
 unfold uC at h
 rw[Bool.and_eq_true,Bool.or_eq_true,bT,List.all_eq_true] at h
 refine⟨h.1.imp (fun q=>aL.1 q) (fun q=>aH.1 q),fun x hx=>?_⟩
 have:=h.2 x hx
 rw[Bool.or_eq_true] at this
 exact this.imp (fun q=>aL.1 q) (fun q=>aH.1 q)
theorem HR.padded {ι:aD}{h:T ag}{H:Array Obj} (hr:HR G ι h H) {b:Nat}{cs:List Value}{L:Loc}{n:Nat} (hb:h.get b=some (.cells cs)) (hL:ι b=some L) (hn:L.off+n<=L.size) :
  HR G ι (h.set b (some (.cells (qF cs n)))) H:=by
 have hget:∀x,(h.set b (some (.cells (qF cs n)))).get x=if x=b then some (.cells (qF cs n)) else h.get x:=fun x=>T.get_set _ _ _ _
 refine⟨?_,?_,hr.lt,hr.glob⟩
 ·intro x o hx
  rw[hget x] at hx
  by_cases hxb:x=b
  ·subst hxb
   rw[if_pos rfl] at hx
   cases hx
   obtain⟨L',hL',c,t,fr,hH,hcr,hfr⟩:=hr.obj x _ hb
   rw[hL] at hL';cases hL'
   refine⟨L,hL,c,t,fr,hH,⟨hcr.1,?_,?_⟩,hfr⟩
   ·unfold qF
    rw[cP,List.length_append,rH,eD]
    have h1:=hcr.1
    have h2:=hcr.2.1
    show L.off+(cs.length+(n - cs.length))<=c.size
    omega
   ·intro i y hy
    unfold qF at hy
    rw[cP] at hy
    by_cases hi:i<cs.length
    ·rw[List.getElem?_append_left hi] at hy
     exact hcr.2.2 i y hy
    ·rw[List.getElem?_append_right (by omega)] at hy
     have hm:=Fl (List.mem_of_getElem? hy)
     subst hm
     have hlt:i - cs.length<n - cs.length:=by
      rcases Nat.lt_or_ge (i - cs.length) (n - cs.length) with hh|hh
      ·exact hh
      ·rw[List.getElem?_eq_none (by rw[rH,eD];exact hh)] at hy;cases hy
     have h1:=hcr.1
     exact⟨_,Array.getElem?_eq_getElem (show L.off+i<c.size by omega),.top _⟩
  ·rw[if_neg hxb] at hx
   exact hr.obj x o hx
 ·intro x1 x2 o1 o2 L1 L2 g1 g2 i1 i2 he
  have low:∀x o,(h.set b (some (.cells (qF cs n)))).get x=some o->∃o',h.get x=some o':=by
   intro x o hx
   rw[hget x] at hx
   by_cases hxb:x=b
   ·subst hxb;exact⟨_,hb⟩
   ·rw[if_neg hxb] at hx;exact⟨o,hx⟩
  obtain⟨_,k1⟩:=low x1 o1 g1
  obtain⟨_,k2⟩:=low x2 o2 g2
  exact hr.inj x1 x2 _ _ L1 L2 k1 k2 i1 i2 he
theorem Bo (W:C.Whole eg P G) (fuel f size:Nat) (args:List Value) (s s':St) (v:Value) (ι:aD) (w:World) (args':List Value) (R:Ending->World->Prop)
  (h:Bj C eg fuel f size args s=some (v,s')) (ha:bS ι args args') (hr:HR G ι s.h w.heap) (fr:∀b,s.c<=b->b<s'.c->ι b=none)
  (hR:∀v' w' ι',VR ι' v v'->aM G ι ι' s s' w w'->R (.returned v') w'):dO P f/\Calls P f args'.toArray w R:=by
 unfold Bj at h
 split at h
 ·rename_i b o e n cap rest
  cases hcond:(Nat.beq e size&&Nat.ble n cap&&Nat.blt 0 cap) with
  |false=>rw[hcond] at h;exact(aa h).elim
  |true =>
   rw[hcond] at h
   rw[Bool.and_eq_true,Bool.and_eq_true] at hcond
   obtain⟨⟨b1,b2⟩,b3⟩:=hcond
   have b1:=aL.1 b1
   have b2:=aH.1 b2
   have b3:=eh.1 b3
   subst b1
   obtain⟨cs,s1,h1,h2⟩:=bind_some h
   obtain⟨hb,hbc,rfl⟩:=bC h1
   obtain⟨⟨pA,cA,wA⟩,s2,h3,h4⟩:=bind_some h2
   obtain⟨sA,hA,a1,a2,rfl⟩:=nG h3
   obtain⟨⟨pB,cB,wB⟩,s3,h5,h6⟩:=bind_some h4
   obtain⟨sB,hB,a3,a4,rfl⟩:=nG h5
   simp only at a1 a2 a3 a4 hA hB h6
   subst a1;subst a2;subst a3;subst a4
   unfold wd at h6
   cases ho:(uC b (pA,s.c,sA.wl)&&uC b (pB,sA.c,sB.wl)) with
   |false=>rw[ho] at h6;exact(aa h6).elim
   |true =>
    rw[ho] at h6
    rw[Bool.and_eq_true] at ho
    obtain⟨oA1,oA2⟩:=sa ho.1
    obtain⟨oB1,oB2⟩:=sa ho.2
    obtain⟨⟨⟩,s4,h7,h8⟩:=bind_some h6
    obtain⟨_,_,rfl⟩:=dI h7
    obtain⟨kk,s5,h9,h10⟩:=bind_some h8
    obtain⟨rfl,rfl⟩:=ak h10
    unfold bq at h9
    rw[b4] at h9
    obtain⟨_,rfl,rfl⟩:=dZ h9
    -- the two runs
    obtain⟨vA,mA,rA,eA⟩:=bind_some hA
    obtain⟨⟨⟩,mB0,pB0,hB'⟩:=bind_some hB
    obtain⟨_,_,rfl⟩:=dI pB0
    obtain⟨vB,mB,rB,eB⟩:=bind_some hB'
    obtain⟨_,_,LA⟩:=d9 (gq (eg:=eg) W.sm.loc fuel) f _ _ _ _ rA
    obtain⟨_,_,LB⟩:=d9 (gq (eg:=eg) W.sm.loc fuel) f _ _ _ _ rB
    have cA:=LA.cle
    have cB:=LB.cle
    obtain⟨_,_,_,_,_,_,_,Nr,_,sAc,_⟩:=nI eA
    obtain⟨_,_,_,_,_,_,_,slB,_,sBc,_⟩:=nI eB
    simp only at cA cB
    have lenAB:pA.2.length=pB.2.length:=by
     rw[(aN _ _ _ _ Nr).1,(aN _ _ _ _ slB).1]
    obtain⟨x',rest',rfl,hx,hrest⟩:=ha.cons_inv
    cases hx with
    |sliceZ=>omega
    |sliceI _ _ _ _ _ c' L hL hc hbd =>
     by_cases hroom:n+1<=c'
     ·-- room
      have hmul:(n+1)*e<=c'*e:=Nat.mul_le_mul_right _ hroom
      refine ip W fuel f e n b sB.c (csX:=qF cs (o+(n+1)*e)) (sX:=⟨s.h.set b (some (.cells (qF cs (o+(n+1)*e)))),sA.c,[],[b]⟩) (lm:=tC pA.2 pB.2) hr hb hbc (HR.padded hr hb hL (by omega)) ?_ ?_ (by show s.c<=sA.c;omega) (by simp) rB eB
       (bS.cons (.sliceI b o e n (n+1) c' L hL hroom hbd) hrest) (by omega) oB1 oB2 fr (fun ι' m hm=>wi _ _ _ hm lenAB) rfl rfl hR
      ·show (s.h.set b _).get b=_
       rw[T.get_set,if_pos rfl]
      ·intro x hx
       show (s.h.set b _).get x=_
       rw[T.get_set,if_neg hx]
     ·have hcn:c'=n:=by omega
      subst hcn
      exact ip W fuel f e c' b sB.c (sX:=⟨s.h,s.c,[],[]⟩) (lm:=tC pA.2 pB.2) hr hb hbc hr hb (fun _ _=>rfl) (Nat.le_refl _) (by simp) rA eA
       (bS.cons (.sliceX b o c' c' L hL) hrest) (by omega) oA1 oA2 fr (fun ι' m hm=>y3 _ _ _ hm lenAB) rfl rfl hR
 ·exact fq W fuel f h ha hr fr hR
end
end Go.Ab
end
section
namespace Go.Ab
open Go.RowKit Go.Maps Go.Sort Go.Shelf Go.Proofs
def CN (P:Program) (F:Fence) (n:Nat) (g:Nat) (lb:Array Value) (S:List Int->Prop) (N:Nat) (w:World):Prop :=
 ∀(l:Nat) (J:List Int->World->Prop) (W:World),Below w.heap.size w W->AbidesFrom W.heap.size J->(∀pre W1,J pre W1->Below w.heap.size w W1) ->
  (∀pre x W1,J pre W1->pre.length<N->YieldAt F (n - 1) P l #[encZ x] W1 fun e W'=>e=.returned (.bool true)/\J (pre++[x]) W'/\KeepsWalks W1 W')->J [] W ->
  CallsIn F n P g (#[.func (.yield l) #[] #[]]++lb) W fun e W'=>(∃v,e=.returned v)/\∃xs,S xs/\J xs W'
variable {P:Program}{ρ:Ren}
set_option maxRecDepth 100000 in
set_option maxHeartbeats 1000000 in
theorem IH (L:SlLaysZI.n10 P ρ) {H:Type} (F:Fence) (n:Nat) (h10:F.fn (ρ.f 10)) (hro:F.round=none) (hn:1<=n) (l Bm om b nn:Nat) (D0:DataW H) {R:Value->Option (DataW H×List MemPlace)} (J:List Int->World->Prop)
  (hY:∀pre x W,J pre W->pre.length<Maps.size D0->YieldAt F (n - 1) P l #[encZ x] W fun e W'=>e=.returned (.bool true)/\J (pre++[x]) W'/\KeepsWalks W W')
  (W:World) (hJ:AbidesFrom W.heap.size J) (hm:W.cell? ⟨Bm,om,none⟩=some (.map (some b))) (hown:W.ownsMap P (ρ.t 26) R b nn D0) (h0:J [] W) :
  CallsIn F n P (ρ.f 10) #[.func (.yield l) #[] #[],.pointer (some ⟨Bm,om,none⟩)] W fun e W'=>(∃v,e=.returned v)/\∃ss:List Int,ss.Perm (intKeys D0)/\J ss W':=by
 have mixed:=L.mixed;have t0:=L.t0;have a0:=L.a0;have z0:=L.z0;have v0:=L.v0;have t4:=L.t4;have a4:=L.a4;have z4:=L.z4;have v4:=L.v4;have t23:=L.t23;have a23:=L.a23;have z23:=L.z23;have v23:=L.v23;have t26:=L.t26;have a26:=L.a26;have z26:=L.z26;have v26:=L.v26;have t33:=L.t33;have a33:=L.a33;have z33:=L.z33;have v33:=L.v33
 have u0:=run_underlying L.t0;have u4:=run_underlying L.t4;have u23:=run_underlying L.t23;have u26:=run_underlying L.t26;have u33:=run_underlying L.t33
 obtain⟨_,_,FG⟩:=L.f10
 refine callsIn_of_wp FG rfl h10 ?_ hro
 simp only[SlBodyZ.n10_ntmps ρ,List.size_toArray,List.length_cons,List.length_nil,Nat.reduceAdd,Nat.reduceSub,Array.replicate_succ,Array.replicate_zero,List.push_toArray,List.append_toArray,List.nil_append,List.cons_append]
 gi_wp2_with (first
  |(gi_at_range;refine wpListIn_range_own _ rfl _ (ρ.t 23) rfl (ρ.t 26) (ρ.t 3) (int_keyed L.t26) L.t23 _ b nn _ rfl hown ?_;intro w0 hrg0 hg0 hs0)
  |gi_in)
 go_frame
 gi_loopw [3] (fun _ wr=>∃(left:Lit->Bool) (cnt:Nat) (ss:List Int),wr.ranges P (ρ.t 26) R b W.heap.size nn D0 left cnt/\ss.length+cnt<=Maps.size D0/\CollectedI D0 left ss/\J ss wr)
  (fun _ wr=>wr.rangeLeft b W.heap.size)
 case atStart =>
  exact⟨_,_,[],hrg0,by simp,CollectedI.start D0,hJ [] W w0 none h0 hg0 (fun r e=>by cases e)⟩
 case round =>
  obtain⟨left,cnt,ss,hrg,hcs,hC,hJs⟩:=hrel
  gi_wp2_with (first
   |(gi_at_next;refine wpListIn_next_ranges _ rfl _ rfl (ρ.t 26) (int_keyed L.t26) R encZ id (fun key kl hk=>by obtain⟨x,hx,_⟩:=Maps.keyOf_i64 L.t26 hk;exact⟨x,hx⟩) (fun v _ _=>⟨v,rfl⟩) b W.heap.size nn _ _ _ rfl hrg ?_ ?_)
   |gi_in)
  ·-- NOTHING IS LEFT
   intro hc0 hl0
   gi_wp2
   go_end0
   exact⟨⟨_,rfl⟩,ss,hC.perm hown (int_keyed L.t26) L.t26 hl0,hJs⟩
  ·-- AN ENTRY HAS COME: yield(k)
   intro x c kl yd yp w2 cnt2 hkey hlk hv hat hrg2 hlt hg2 hs2 hen
   obtain⟨x',ex,rfl,_⟩:=Maps.keyOf_i64 L.t26 hkey
   obtain rfl:x=x':=encZ_inj ex
   have hJ2:J ss w2:=hJ ss wr w2 (some W.heap.size) hJs hg2 (fun r e=>by cases e;exact⟨Nat.le_refl _,hrg.iter_walk⟩)
   obtain⟨fn,tmps,assign,body,hy,hR⟩:=hY ss x w2 hJ2 (by omega)
   clear hs2
   gi_wp2
   refine hR.mono ?_
   rintro e W3 ⟨rfl,hJ3,hk3⟩
   gi_wp2
   have hrg3:=hrg2.of_walks hk3
   go_roundw
   case rel=>exact⟨_,cnt2,ss++[x],hrg3,by simp;omega,hC.step hlk hat,hJ3⟩
   case measure=>rw[hrg3.left_eq,hrg.left_eq];exact hlt
set_option maxRecDepth 100000 in
set_option maxHeartbeats 1000000 in
theorem GM (L:SlLaysZI.n10 P ρ) (F:Fence) (n:Nat) (h10:F.fn (ρ.f 10)) (hro:F.round=none) (l Bm om:Nat) (J:List Int->World->Prop) (W:World) (hJ:AbidesFrom W.heap.size J)
  (hm:W.cell? ⟨Bm,om,none⟩=some (.map none)) (h0:J [] W) :
  CallsIn F n P (ρ.f 10) #[.func (.yield l) #[] #[],.pointer (some ⟨Bm,om,none⟩)] W fun e W'=>(∃v,e=.returned v)/\∃ss:List Int,ss=[]/\J ss W':=by
 have mixed:=L.mixed;have t0:=L.t0;have a0:=L.a0;have z0:=L.z0;have v0:=L.v0;have t4:=L.t4;have a4:=L.a4;have z4:=L.z4;have v4:=L.v4;have t23:=L.t23;have a23:=L.a23;have z23:=L.z23;have v23:=L.v23;have t26:=L.t26;have a26:=L.a26;have z26:=L.z26;have v26:=L.v26;have t33:=L.t33;have a33:=L.a33;have z33:=L.z33;have v33:=L.v33
 have u0:=run_underlying L.t0;have u4:=run_underlying L.t4;have u23:=run_underlying L.t23;have u26:=run_underlying L.t26;have u33:=run_underlying L.t33
 obtain⟨_,_,FG⟩:=L.f10
 refine callsIn_of_wp FG rfl h10 ?_ hro
 simp only[SlBodyZ.n10_ntmps ρ,List.size_toArray,List.length_cons,List.length_nil,Nat.reduceAdd,Nat.reduceSub,Array.replicate_succ,Array.replicate_zero,List.push_toArray,List.append_toArray,List.nil_append,List.cons_append]
 have hrg:=run_range_nilMap (P:=P) W (ρ.t 23) (ρ.t 26) (ρ.t 3) L.t23
 have hnx:∀ty,(Instr.next (.pointer (some ⟨W.heap.size,0,none⟩)) false ty).run P (W.alloc (.mapIter none 0 #[] 0))=_:=fun ty=>run_next_nilMap _ ty 0 0 #[]
 gi_wp2
 refine wpIn_loop_rounds 1 ?_
 rw[roundsIn_succ]
 gi_wp2
 go_end0
 exact⟨⟨_,rfl⟩,[],rfl,hJ [] W _ none h0 (World.grownBy_alloc W _ none) (fun r e=>by cases e)⟩
set_option maxRecDepth 100000 in
set_option maxHeartbeats 2000000 in
theorem Ah (L:SlLaysZI.n11 P ρ) (F:Fence) (n:Nat) (h11:F.fn (ρ.f 11)) (hro:F.round=none) (hn:2<=n) (g:Nat) (lb:Array Value) (hFg:F.fn g) (eg:∀args w,(callFunc g args).run P w=.ok (.enter g args) w)
  (S:List Int->Prop) (N:Nat) (hN:N<=maxLen) (hNb:N*8<=140737488355328) (w:World) (hseq:CN P F (n - 1) g lb S N w) :
  CallsIn F n P (ρ.f 11) #[.slice none 0 0,.func (.func g) #[] lb] w fun e w'=>∃(v:Value) (ss:List Int),e=.returned v/\S ss/\w'.ownsRow w.heap.size (ρ.t 26) 1 v ss.length (ss.map encZ)/\(v=.slice none 0 0↔ss=[])/\Below w.heap.size w w':=by
 have h1:1<=n:=by omega
 have mixed:=L.mixed;have t0:=L.t0;have a0:=L.a0;have z0:=L.z0;have v0:=L.v0;have t24:=L.t24;have a24:=L.a24;have z24:=L.z24;have v24:=L.v24;have t26:=L.t26;have a26:=L.a26;have z26:=L.z26;have v26:=L.v26;have t28:=L.t28;have a28:=L.a28;have z28:=L.z28;have v28:=L.v28
 have hne:ρ.t 24≠ρ.t 26:=fun e=>by have h:=L.t24;rw[e,L.t26] at h;cases h
 have u0:=run_underlying L.t0;have u24:=run_underlying L.t24;have u26:=run_underlying L.t26;have u28:=run_underlying L.t28
 obtain⟨_,_,FG⟩:=L.f11
 refine callsIn_of_wp_marks FG rfl h11 ?_ hro
 simp only[SlBodyZ.n11_ntmps ρ,List.size_toArray,List.length_cons,List.length_nil,Nat.reduceAdd,Nat.reduceSub,Array.replicate_succ,Array.replicate_zero,List.push_toArray,List.append_toArray,List.nil_append,List.cons_append]
 gi_wp2
 refine wpIn_rangeFunc ?_
 intro fn hfn
 rw[hro]
 obtain⟨W0,hW0⟩:∃W0,w.alloc (.cells #[.slice none 0 0] (ρ.t 24))=W0:=⟨_,rfl⟩
 have hs0:W0.heap.size=w.heap.size+1:=by rw[<- hW0];simp
 have hv0:W0.heap[w.heap.size]?=some (.cells #[.slice none 0 0] (ρ.t 24) (0,0)):=by rw[<- hW0];exact World.alloc_heap_new w _
 have hb0:Below w.heap.size w W0:=by rw[<- hW0];exact(Below.refl _ w).alloc (Nat.le_refl _) _
 rw[hW0]
 obtain⟨W1,hW1⟩:∃W1,(W0.alloc (.deferred (some []))).alloc (.loop (AnyZI.apRec ρ fn (.func (.func g) #[] lb) w.heap.size W0.heap.size .ready none))=W1:=⟨_,rfl⟩
 have hold:∀k,k<W0.heap.size->W1.heap[k]?=W0.heap[k]?:=fun k hk=>by
  rw[<- hW1];exact(Below.heap_alloc _ _ k (by simp;omega)).trans (Below.heap_alloc _ _ k hk)
 have hb1:Below w.heap.size w W1:=by rw[<- hW1];exact(hb0.alloc hb0.size _).alloc (by have:=hb0.size;simp;omega) _
 have hs1:W1.heap.size=W0.heap.size+2:=by rw[<- hW1];simp
 have hM:AnyZI.ApAt ρ w fn (.func (.func g) #[] lb) w.heap.size (W0.heap.size+1) W0.heap.size [] W1 :=
  ⟨⟨_,(hold w.heap.size (by omega)).trans hv0,⟨rfl,.inl ⟨rfl,rfl⟩⟩,by simp⟩,
   by rw[<- hW1];have:=World.alloc_heap_new (W0.alloc (.deferred (some []))) (.loop (AnyZI.apRec ρ fn (.func (.func g) #[] lb) w.heap.size W0.heap.size .ready none));rwa [World.size_alloc] at this,
   by rw[<- hW1];exact(Below.heap_alloc _ _ _ (by simp)).trans (World.alloc_heap_new W0 _),hb1⟩
 refine⟨W0.heap.size+1,[{target:=.collected W0.heap.size,args:=#[]}],W1,{target:=.fn (.func g) lb,args:=#[.func (.yield (W0.heap.size+1)) #[] #[]]},W1,g,
  #[.func (.yield (W0.heap.size+1)) #[] #[]]++lb,W1,?_,?_,?_,?_,fun _=>h1,?_⟩
 ·rw[<- hW1];exact run_enterLoop_outer _ _ _ _ _
 ·simp [resolve,go_sem]
 ·intro f' hf';simp [Target.leads] at hf';subst hf';exact hFg
 ·simp [invoke,go_sem,eg]
 ·refine(hseq (W0.heap.size+1) (AnyZI.ApAt ρ w fn (.func (.func g) #[] lb) w.heap.size (W0.heap.size+1) W0.heap.size) W1 hb1 (AnyZI.ap_abides ρ _ _ _ _ _ _ _ hb1.size) (fun _ _ hJ=>hJ.below)
   (fun pre x W hJ hl=>AnyZI.apYield {L with} F (n - 1 - 1) w fn hfn _ w.heap.size (W0.heap.size+1) W0.heap.size (by omega) (by omega) (by omega) (Nat.le_refl _) (by omega) N hN hNb pre x W hJ hl) hM).mono ?_
  rintro e W2 ⟨⟨v0,rfl⟩,ss,hS,h2⟩
  obtain⟨v,hv,hrow,hnil⟩:=h2.box
  have hend:=run_endLoop (P:=P) h2.L (by simp [AnyZI.apRec])
  obtain⟨W3,hW3⟩:∃W3,W2.putObj (W0.heap.size+1) (.loop {AnyZI.apRec ρ fn (.func (.func g) #[] lb) w.heap.size W0.heap.size .ready none with state:=.exhausted})=W3:=⟨_,rfl⟩
  rw[hW3] at hend
  have hg3:W2.grownBy W3 (some (W0.heap.size+1)):=by rw[<- hW3];exact grownBy_putObj_a _ _ _
  have hv3:W3.heap[w.heap.size]?=some (.cells #[v] (ρ.t 24) (0,0)):=by rw[<- hW3];exact(World.putObj_heap_other (by omega)).trans hv
  have hK3:W3.heap[W0.heap.size]?=some (.deferred (some [])):=by rw[<- hW3];exact(World.putObj_heap_other (by omega)).trans h2.K
  have hrow3:=hrow.kept hg3 (ownsRow_ne_a hrow h2.L (fun cur e=>by first|cases e|exact hne (Obj.cells.inj e).2.1))
  have hb3:Below w.heap.size w W3:=h2.below.grown hg3 h2.below.size (fun k e=>by cases e;omega)
  obtain⟨hc3,hf3⟩:=cell_of_box_a hv3
  clear hW3
  refine⟨none,W3,hend,?_⟩
  gi_wp2
  rw[<- hs0]
  refine⟨by simp,.inl ⟨_,_,rfl,run_takeDeferred hK3,?_⟩⟩
  exact⟨_,results_tmp rfl _ _ _,v,ss,rfl,hS,hrow3.kept (grownBy_putObj_a _ _ _) (ownsRow_ne_a hrow3 hK3 (fun cur e=>by first|cases e|exact hne (Obj.cells.inj e).2.1)),hnil,hb3.grown (grownBy_putObj_a _ _ _) hb3.size (fun k e=>by cases e;omega)⟩
set_option maxHeartbeats 1000000 in
theorem Fs (L:SlLaysZI.n8 P ρ) (F:Fence) (n:Nat) (h8:F.fn (ρ.f 8)) (h11:F.fn (ρ.f 11)) (hro:F.round=none) (hn:3<=n) (g:Nat) (lb:Array Value) (hFg:F.fn g) (eg:∀args w,(callFunc g args).run P w=.ok (.enter g args) w)
  (S:List Int->Prop) (N:Nat) (hN:N<=maxLen) (hNb:N*8<=140737488355328) (w:World) (hseq:CN P F (n - 1 - 1) g lb S N w) :
  CallsIn F n P (ρ.f 8) #[.func (.func g) #[] lb] w fun e w'=>∃(v:Value) (ss:List Int),e=.returned v/\S ss/\w'.ownsRow w.heap.size (ρ.t 26) 1 v ss.length (ss.map encZ)/\(v=.slice none 0 0↔ss=[])/\Below w.heap.size w w':=by
 have h1:1<=n:=by omega
 have e11:∀args w,(callFunc (ρ.f 11) args).run P w=.ok (.enter (ρ.f 11) args) w:=L.f11.enters rfl
 have mixed:=L.mixed;have t0:=L.t0;have a0:=L.a0;have z0:=L.z0;have v0:=L.v0;have t24:=L.t24;have a24:=L.a24;have z24:=L.z24;have v24:=L.v24;have t26:=L.t26;have a26:=L.a26;have z26:=L.z26;have v26:=L.v26;have t28:=L.t28;have a28:=L.a28;have z28:=L.z28;have v28:=L.v28
 have u0:=run_underlying L.t0;have u24:=run_underlying L.t24;have u26:=run_underlying L.t26;have u28:=run_underlying L.t28
 obtain⟨_,_,FG⟩:=L.f8
 refine callsIn_of_wp FG rfl h8 ?_ hro
 simp only[SlBodyZ.n8_ntmps ρ,List.size_toArray,List.length_cons,List.length_nil,Nat.reduceAdd,Nat.reduceSub,Array.replicate_succ,Array.replicate_zero,List.push_toArray,List.append_toArray,List.nil_append,List.cons_append]
 gi_wp2_with (gi_at_fn (ρ.f 11);refine(Ah {L with} F (n - 1) h11 hro (by omega) g lb hFg eg S N hN hNb _ hseq).mono ?_;rintro e w' ⟨v,ss,rfl,hS,hrow,hnil,hb⟩)
 go_ret
 exact⟨v,ss,rfl,hS,hrow,hnil,hb⟩
set_option maxRecDepth 100000 in
set_option maxHeartbeats 2000000 in
theorem GK (L:SlLaysZI.n6 P ρ) (F:Fence) (n:Nat) (h6:F.fn (ρ.f 6)) (h8:F.fn (ρ.f 8)) (h9:F.fn (ρ.f 9)) (h11:F.fn (ρ.f 11)) (hro:F.round=none) (hn:4<=n) (hsort:AnyZI.SortsIn P ρ F (n - 1)) (e9:∀args w,(callFunc (ρ.f 9) args).run P w=.ok (.enter (ρ.f 9) args) w) (g:Nat) (lb:Array Value) (hFg:F.fn g) (eg:∀args w,(callFunc g args).run P w=.ok (.enter g args) w)
  (S:List Int->Prop) (N:Nat) (hN:N<=maxLen) (hNb:N*8<=140737488355328) (w:World) (hSl:∀ss,S ss->ss.length<=N) (hseq:CN P F (n - 1 - 1 - 1) g lb S N w) :
  CallsIn F n P (ρ.f 6) #[.func (.func g) #[] lb] w fun e w'=>∃(v:Value) (ss:List Int),e=.returned v/\S ss /\
   w'.ownsRow w.heap.size (ρ.t 26) 1 v ss.length ((ss.mergeSort (fun x y=>decide (x<=y))).map encZ)/\(v=.slice none 0 0↔ss=[])/\Below w.heap.size w w':=by
 have h1:1<=n:=by omega
 have e8:∀args w,(callFunc (ρ.f 8) args).run P w=.ok (.enter (ρ.f 8) args) w:=L.f8.enters rfl
 have mixed:=L.mixed;have t0:=L.t0;have a0:=L.a0;have z0:=L.z0;have v0:=L.v0;have t24:=L.t24;have a24:=L.a24;have z24:=L.z24;have v24:=L.v24;have t26:=L.t26;have a26:=L.a26;have z26:=L.z26;have v26:=L.v26;have t28:=L.t28;have a28:=L.a28;have z28:=L.z28;have v28:=L.v28
 have u0:=run_underlying L.t0;have u24:=run_underlying L.t24;have u26:=run_underlying L.t26;have u28:=run_underlying L.t28
 obtain⟨_,_,FG⟩:=L.f6
 refine callsIn_of_wp FG rfl h6 ?_ hro
 simp only[SlBodyZ.n6_ntmps ρ,List.size_toArray,List.length_cons,List.length_nil,Nat.reduceAdd,Nat.reduceSub,Array.replicate_succ,Array.replicate_zero,List.push_toArray,List.append_toArray,List.nil_append,List.cons_append]
 gi_wp2_with (gi_at_fn (ρ.f 8);refine(Fs {L with} F (n - 1) h8 h11 hro (by omega) g lb hFg eg S N hN hNb _ hseq).mono ?_;rintro e W ⟨v,ss,rfl,hS,hrow,hnil,hb⟩)
 have hlen:=hSl ss hS
 rcases hrow.2 with⟨rfl,hz⟩|⟨gb,cap,cur,rfl,hbase,hgb,r1,r2,r3,r4⟩
 ·-- nothing came: the nil slice is sorted and handed back
  have hss:ss=[]:=List.eq_nil_of_length_eq_zero hz
  subst hss
  gi_wp2_with (gi_at_fn (ρ.f 9);refine(hsort.2 none 0 W).mono ?_;rintro e w' ⟨rfl,rfl⟩)
  go_ret
  exact⟨.slice none 0 0,[],rfl,hS,by simpa using hrow,by simp,hb⟩
 ·have hH:Holds encZ W gb 0 ss.toArray:=holds_of_block_i hgb (by simpa using r4)
  have hgl:gb<W.heap.size:=(Array.getElem?_eq_some_iff.1 hgb).1
  have hsz:ss.length<4611686018427387904:=by omega
  have cS:=hsort.1 gb 0 cap ss W hH hgl hsz
  gi_wp2_with (gi_at_fn (ρ.f 9);refine cS.mono ?_;rintro e w' ⟨rfl,nn,os,rfl⟩)
  go_ret
  exact⟨_,ss,rfl,hS,ownsRow_sorted_i (by simp) hbase hgb r1 r2 r3,hnil,hb.grown (grownBy_sorted_i _) hb.size (fun j hj=>by cases hj;exact hbase)⟩
end Go.Ab
end
