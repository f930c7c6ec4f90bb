import Derived.Test.YtofikbfljjjgeaaGreatDoorE3
set_option linter.unusedVariables false
set_option linter.unusedSimpArgs false
namespace Go.Ab
structure aS.Ok (C:aS) (eg:TypeId->Bool) (P:Program):Prop where
 ty:∀t i,C.ty.get t=some i->P.info? t=some i
 fn:∀f g,C.fn.get f=some g->P.funcs[f]?=some g
 flat:∀t i z,C.ty.get t=some i->i.zero=some z->flat 30 z=true
 eg:∀t,eg t=false->P.eqGuardType P.depth t=false/\P.stoodInHeld t=false
 named : ∀ f g b, C.fn.get f = some g -> g.body = some b -> (g.name == "runtime.NumGoroutine") = false
section tables
variable {C:aS}{eg:TypeId->Bool}{P:Program} (ok:C.Ok eg P)
theorem aS.Ok.und (ok:C.Ok eg P) {t:TypeId}{d:TypeDesc} (h:C.und t=some d):P.underlying t=some d:=by
 unfold aS.und at h
 cases hi:C.ty.get t with
 |none=>simp [hi] at h
 |some i =>
  have hp:=ok.ty _ _ hi
  simp only[hi] at h
  unfold Program.underlying
  rw[hp]
  cases hd:i.desc with
  |named nm u =>
   rw[hd] at h
   simp only at h
   cases hu:C.ty.get u with
   |none=>simp [hu] at h
   |some j =>
    simp only[hu] at h
    cases i
    simp only at hd
    subst hd
    simp only[ok.ty _ _ hu]
    exact h
  |_ =>
   cases i
   simp only at hd
   subst hd
   simpa using h
theorem aS.Ok.info {C:aS}{eg:TypeId->Bool}{P:Program} (ok:C.Ok eg P) {t:TypeId}{i:TypeInfo} (h:C.ty.get t=some i) (w:World):(typeInfo t).run P w=.ok i w:=by
 simp [typeInfo,ok.ty _ _ h]
theorem aS.Ok.size {C:aS}{eg:TypeId->Bool}{P:Program} (ok:C.Ok eg P) {t:TypeId}{n:Nat} (h:C.size t=some n) (w:World):(sizeOf t).run P w=.ok n w:=by
 unfold aS.size at h
 cases hi:C.ty.get t with
 |none=>simp [hi] at h
 |some i=>simp only[hi] at h;cases h;simp [sizeOf,ok.info hi]
theorem aS.Ok.zero {C:aS}{eg:TypeId->Bool}{P:Program} (ok:C.Ok eg P) {t:TypeId}{z:Value} (h:C.zero t=some z) (w:World):(zeroValue t).run P w=.ok z w:=by
 unfold aS.zero at h
 cases hi:C.ty.get t with
 |none=>simp [hi] at h
 |some i=>simp only[hi] at h;simp [zeroValue,ok.info hi,h]
theorem aS.Ok.zeroFlat {C:aS}{eg:TypeId->Bool}{P:Program} (ok:C.Ok eg P) {t:TypeId}{z:Value} (h:C.zero t=some z) (ι:aD):VR ι z z:=by
 unfold aS.zero at h
 cases hi:C.ty.get t with
 |none=>simp [hi] at h
 |some i=>simp only[hi] at h;exact dK ι 30 z (ok.flat _ _ _ hi h)
theorem runUnd {P:Program}{t:TypeId}{d:TypeDesc} (h:P.underlying t=some d) (w:World):(underlying t).run P w=.ok d w:=by
 simp [underlying,h]
theorem aS.Ok.runUnd {C:aS}{eg:TypeId->Bool}{P:Program} (ok:C.Ok eg P) {t:TypeId}{d:TypeDesc} (h:C.und t=some d) (w:World):(underlying t).run P w=.ok d w :=
 Go.Ab.runUnd (ok.und h) w
def Ev:TypeDesc->Bool
 |.struct _|.array _ _=>true
 |_=>false
theorem aS.Ok.isAgg {C:aS}{eg:TypeId->Bool}{P:Program} (ok:C.Ok eg P) {t:TypeId}{d:TypeDesc} (h:C.und t=some d) (w:World):(isAgg t).run P w=.ok (Ev d) w:=by
 unfold Go.isAgg
 rw[Sem.run_bind,ok.runUnd h,Result.andThen_ok]
 cases d<;>rfl
end tables
theorem DQ {v:Value}{cs:List Value} (h:ba v=some cs):v.cells.toList=cs:=by
 cases v<;>simp_all [ba,Value.cells]
theorem gt {ι:aD}{v v':Value}{cs:List Value} (h:VR ι v v') (hc:ba v=some cs):bS ι cs v'.cells.toList:=by
 have one:∀ {x y:Value},VR ι x y->bS ι [x] [y]:=fun h=>bS.cons h (bS.nil ι)
 cases h with
 |top v=>simp [ba] at hc
 |least k c h=>simp [ba] at hc
 |agg a a' ha ra=>simp only[ba,Option.some.injEq] at hc;subst hc;exact⟨ha,ra⟩
 |bool b=>simp only[ba,Option.some.injEq] at hc;subst hc;exact one (.bool b)
 |int k n=>simp only[ba,Option.some.injEq] at hc;subst hc;exact one (.int k n)
 |float k n=>simp only[ba,Option.some.injEq] at hc;subst hc;exact one (.float k n)
 |complex k n m=>simp only[ba,Option.some.injEq] at hc;subst hc;exact one (.complex k n m)
 |string s=>simp only[ba,Option.some.injEq] at hc;subst hc;exact one (.string s)
 |nilPtr=>simp only[ba,Option.some.injEq] at hc;subst hc;exact one .nilPtr
 |nilSlice n c=>simp only[ba,Option.some.injEq] at hc;subst hc;exact one (.nilSlice n c)
 |nilMap=>simp only[ba,Option.some.injEq] at hc;subst hc;exact one .nilMap
 |nilFunc=>simp only[ba,Option.some.injEq] at hc;subst hc;exact one .nilFunc
 |nilIface=>simp only[ba,Option.some.injEq] at hc;subst hc;exact one .nilIface
 |ptr b o L h=>simp only[ba,Option.some.injEq] at hc;subst hc;exact one (.ptr b o L h)
 |sliceX b o n c L h=>simp only[ba,Option.some.injEq] at hc;subst hc;exact one (.sliceX b o n c L h)
 |sliceI b o e n c c' L h h1 h2=>simp only[ba,Option.some.injEq] at hc;subst hc;exact one (.sliceI b o e n c c' L h h1 h2)
 |sliceZ b o e a=>simp only[ba,Option.some.injEq] at hc;subst hc;exact one (.sliceZ b o e a)
 |map b L h=>simp only[ba,Option.some.injEq] at hc;subst hc;exact one (.map b L h)
 |func f a c a' c' h1 h2 h3 h4=>simp only[ba,Option.some.injEq] at hc;subst hc;exact one (.func f a c a' c' h1 h2 h3 h4)
 |iface t v v' h=>simp only[ba,Option.some.injEq] at hc;subst hc;exact one (.iface t v v' h)
 |tuple a a' ha ra=>simp only[ba,Option.some.injEq] at hc;subst hc;exact one (.tuple a a' ha ra)
theorem gJ {v:Value}{p:Nat×Nat} (h:eM v=some p):v=.pointer (some ⟨p.1,p.2,none⟩):=by
 unfold eM at h
 split at h
 ·cases h;rfl
 ·cases h
theorem VR.ptr_inv {ι:aD}{b o:Nat}{v:Value} (h:VR ι (.pointer (some ⟨b,o,none⟩)) v):∃L,ι b=some L/\v=.pointer (some ⟨L.blk,L.off+o,none⟩):=by
 cases h with
 |ptr _ _ L h=>exact⟨L,h,rfl⟩
def d8 (G:Nat) (P:Program) (ι:aD) (s:St) (w:World) (m:M Value) (x:Sem Value):Prop :=
 ∀v s',m s=some (v,s')->(∀b,s.c<=b->b<s'.c->ι b=none)->∃v' w' ι',x.run P w=.ok v' w'/\VR ι' v v'/\aM G ι ι' s s' w w'
section ops
variable {G:Nat}{C:aS}{eg:TypeId->Bool}{P:Program}{ι:aD}{s:St}{w:World}
theorem d8.pure (hr:HR G ι s.h w.heap) {v v':Value}{x:Sem Value} (hx:x.run P w=.ok v' w) (hv:VR ι v v'):d8 G P ι s w (M.ret v) x:=by
 intro u s' h _
 obtain⟨rfl,rfl⟩:=ak h
 exact⟨v',w,ι,hx,hv,aM.refl hr rfl rfl⟩
theorem d8.lift (hr:HR G ι s.h w.heap) {y:Option Value}{x:Sem Value} (h:∀v,y=some v->∃v',x.run P w=.ok v' w/\VR ι v v'):d8 G P ι s w (M.lift y) x:=by
 intro u s' hh _
 obtain⟨e,rfl⟩:=aI hh
 obtain⟨v',a,b⟩:=h u e
 exact⟨v',w,ι,a,b,aM.refl hr rfl rfl⟩
theorem eY (b o n:Nat):(Addr.mk b o none).add n=⟨b,o+n,none⟩:=by
 unfold Addr.add
 by_cases h:n=0
 ·rw[if_pos h,h,Nat.add_zero]
 ·rw[if_neg h]
theorem wu {L:Loc}{cs:List Value}{c:Array Value}{t:TypeId}{fr:Nat×Nat} (hb:w.heap[L.blk]?=some (.cells c t fr)) (hc:kU ι L cs c) {o n:Nat}{r:List Value} (h:aP o n cs=some r) :
  ∃r',bS ι r r'/\r'.length=n/\(loadCells ⟨L.blk,L.off+o,none⟩ n).run P w=.ok r'.toArray w:=by
 obtain⟨h1,h2,h3⟩:=aN o n cs r h
 refine⟨(List.range n).map fun j=>c.getD (L.off+o+j) undef,⟨by simp [h1],?_⟩,by simp,?_⟩
 ·intro i x y hx hy
  have hi:i<n:=by
   rcases Nat.lt_or_ge i n with hh|hh
   ·exact hh
   ·rw[List.getElem?_eq_none (by omega)] at hx;cases hx
  rw[h3 i hi] at hx
  obtain⟨z,hz,hv⟩:=hc.2.2 _ _ hx
  have:y=z:=by
   simp only[List.getElem?_map,List.getElem?_range hi,Option.map_some,Option.some.injEq] at hy
   rw[<- hy,Array.getD_eq_getD_getElem?,show L.off+o+i=L.off+(o+i) by omega,hz];rfl
  rw[this];exact hv
 ·rw[run_loadCells w _ n (fun j=>c.getD (L.off+o+j) undef)]
  intro j hj
  rw[eY,kV hb]
  have hlt:L.off+o+j<c.size:=by have:=hc.2.1;omega
  rw[Array.getElem?_eq_getElem hlt,Array.getD_eq_getD_getElem?,Array.getElem?_eq_getElem hlt];rfl
theorem vw (ok:C.Ok eg P) (hr:HR G ι s.h w.heap) (t:TypeId) {a a' v:Value}{s':St} (ha:VR ι a a') (h:fG C t a s=some (v,s')) :
  s'.h=s.h/\s'.c=s.c/\∃ad v',a'=.pointer (some ad)/\ad.spot=none/\(loadVar t ad).run P w=.ok v' w/\VR ι v v':=by
 unfold fG at h
 cases hp:eM a with
 |none=>rw[hp] at h;exact(aa h).elim
 |some p =>
  obtain⟨b,o⟩:=p
  rw[hp] at h
  have e:=gJ hp
  simp only at e
  subst e
  obtain⟨L,hL,rfl⟩:=ha.ptr_inv
  simp only at h
  cases hd:C.und t with
  |none=>rw[hd] at h;exact(aa h).elim
  |some d =>
   rw[hd] at h
   simp only at h
   have hag:=ok.isAgg hd w
   have one:Ev d=false->∀(hh:((cj b).bind fun cs=>match cu cs o with|none=>M.fail|some v=>M.ret v) s=some (v,s')),
     s'.h=s.h/\s'.c=s.c/\∃ad v',Value.pointer (some ⟨L.blk,L.off+o,none⟩)=.pointer (some ad)/\ad.spot=none/\(loadVar t ad).run P w=.ok v' w/\VR ι v v':=by
    intro hagg hh
    obtain⟨cs,s1,h1,h2⟩:=bind_some hh
    obtain⟨hc,_,rfl⟩:=ci h1
    obtain⟨L',c,tt,fr,hL',hb,hcr⟩:=hr.cells hc
    rw[hL] at hL';cases hL'
    cases hn:cu cs o with
    |none=>rw[hn] at h2;exact(aa h2).elim
    |some x =>
     rw[hn] at h2
     obtain⟨rfl,rfl⟩:=ak h2
     rw[b8] at hn
     obtain⟨y,hy,hv⟩:=hcr.2.2 _ _ hn
     refine⟨rfl,rfl,_,y,rfl,rfl,?_,hv⟩
     unfold loadVar
     rw[Sem.run_bind,hag,Result.andThen_ok,hagg]
     simp only[Bool.false_eq_true,if_false,run_load,kV hb,hy]
   have many:Ev d=true->∀(hh:(match C.size t with|none=>M.fail|some n=>(gi b o n).bind fun cs=>M.ret (Value.agg ⟨cs⟩)) s=some (v,s')),
     s'.h=s.h/\s'.c=s.c/\∃ad v',Value.pointer (some ⟨L.blk,L.off+o,none⟩)=.pointer (some ad)/\ad.spot=none/\(loadVar t ad).run P w=.ok v' w/\VR ι v v':=by
    intro hagg hh
    cases hs:C.size t with
    |none=>rw[hs] at hh;exact(aa hh).elim
    |some n =>
     rw[hs] at hh
     simp only at hh
     obtain⟨r,s1,h1,h2⟩:=bind_some hh
     obtain⟨rfl,rfl⟩:=ak h2
     obtain⟨cs,s2,h3,h4⟩:=bind_some h1
     obtain⟨hc,_,rfl⟩:=ci h3
     obtain⟨hsub,rfl⟩:=aI h4
     obtain⟨L',c,tt,fr,hL',hb,hcr⟩:=hr.cells hc
     rw[hL] at hL';cases hL'
     obtain⟨r',hv,_,hrun⟩:=wu (P:=P) hb hcr hsub
     refine⟨rfl,rfl,_,.agg r'.toArray,rfl,rfl,?_,.agg _ _ hv.1 hv.2⟩
     unfold loadVar
     rw[Sem.run_bind,hag,Result.andThen_ok,hagg]
     simp only[if_true,Sem.run_bind,ok.size hs,Result.andThen_ok,hrun,Sem.run_pure]
   cases d with
   |struct fs=>exact many rfl h
   |array n e=>exact many rfl h
   |_=>exact one rfl h
theorem Eb (ok:C.Ok eg P) (hr:HR G ι s.h w.heap) (t:TypeId) {a a':Value} (ha:VR ι a a'):d8 G P ι s w (fG C t a) (Instr.loadAt t a'):=by
 intro v s' h _
 obtain⟨h1,h2,ad,v',rfl,hsp,hrun,hv⟩:=vw (P:=P) ok hr t ha h
 obtain⟨b,o,sp⟩:=ad
 simp only at hsp
 subst hsp
 refine⟨v',w,ι,?_,hv,aM.refl hr h1 h2⟩
 rw[<- hrun]
 simp [Instr.loadAt,Instr.sureAddr]
theorem wJ {x y:Value} (h:VR ι x y) (ha:atom x=true):y.oneCell'=true:=by
 cases h<;>first|rfl|(simp [atom] at ha)
theorem tU {B k:Nat}{c:Array Value}{t:TypeId}{fr:Nat×Nat} (hb:w.heap[B]?=some (.cells c t fr)) (v:Value) :
  (w.setCell ⟨B,k,none⟩ v).heap[B]?=some (.cells (c.setIfInBounds k v) t fr):=by
 simp [World.setCell,Array.getElem?_modify,hb]
theorem tZ {B k j:Nat} (v:Value) (h:j≠B):(w.setCell ⟨B,k,none⟩ v).heap[j]?=w.heap[j]?:=by
 simp only[World.setCell,Array.getElem?_modify]
 rw[if_neg (by omega)]
theorem DO {B k:Nat}{c:Array Value}{t:TypeId}{fr:Nat×Nat} (hb:w.heap[B]?=some (.cells c t fr)) (hf:fr=(0,0)\/fr=(c.size,c.size+1)) (hk:k<c.size) :
  w.frozen? ⟨B,k,none⟩=false:=by
 rcases hf with rfl|rfl<;>simp [World.frozen?,hb]<;>omega
theorem nB {B:Nat}{t:TypeId}{fr:Nat×Nat} (k:Nat):∀(vs:List Value) (i:Nat) (w:World) (c:Array Value),(∀v∈vs,v.oneCell'=true) ->
  w.heap[B]?=some (.cells c t fr)->(fr=(0,0)\/fr=(c.size,c.size+1))->k+i+vs.length<=c.size ->
  ∃w' c',(storeCells ⟨B,k,none⟩ vs i).run P w=.ok () w'/\w'.heap[B]?=some (.cells c' t fr)/\c'.size=c.size /\
   (∀j,c'[j]?=if k+i<=j/\j<k+i+vs.length then vs[j - (k+i)]? else c[j]?)/\(∀j,j≠B->w'.heap[j]?=w.heap[j]?)/\w'.heap.size=w.heap.size /\
   w'.os=w.os/\w'.tape=w.tape/\w'.output=w.output:=by
 intro vs
 induction vs with
 |nil =>
  intro i w c _ hb _ _
  exact⟨w,c,rfl,hb,rfl,fun j=>by rw[if_neg (by simp only[List.length_nil];omega)],fun _ _=>rfl,rfl,rfl,rfl,rfl⟩
 |cons v vs ih =>
  intro i w c hv hb hf hk
  simp only[List.length_cons] at hk
  have hlt:k+i<c.size:=by omega
  obtain⟨w',c',h1,h2,h3,h4,h5,h6,h7,h8,h9⟩:=ih (i+1) (w.setCell ⟨B,k+i,none⟩ v) (c.setIfInBounds (k+i) v) (fun x hx=>hv x (List.mem_cons_of_mem _ hx))
   (tU hb v) (by simpa using hf) (by simp;omega)
  refine⟨w',c',?_,h2,by simpa using h3,?_,fun j hj=>by rw[h5 j hj,tZ v hj],by simpa [World.setCell] using h6,h7,h8,h9⟩
  ·have hcell:w.cell? ⟨B,k+i,none⟩=some c[k+i]:=by
    simp [World.cell?,hb,Array.getElem?_eq_getElem hlt]
   simp only[storeCells,Sem.run_bind,eY,run_store P w _ v .plain (hv v (List.mem_cons_self ..)),hcell,DO hb hf hlt,Bool.false_eq_true,if_false,Result.andThen_ok]
   exact h1
  ·intro j
   rw[h4 j]
   by_cases a:k+(i+1)<=j/\j<k+(i+1)+vs.length
   ·rw[if_pos a,if_pos (by simp only[List.length_cons];omega)]
    rw[show j - (k+i)=(j - (k+(i+1)))+1 by omega,List.getElem?_cons_succ]
   ·rw[if_neg a]
    by_cases e:j=k+i
    ·subst e
     rw[if_pos (by simp only[List.length_cons];omega),Nat.sub_self]
     simp [hlt]
    ·rw[if_neg (by simp only[List.length_cons];omega),Array.getElem?_setIfInBounds_ne (by omega)]
theorem qU {b o:Nat}{xs:List Value}{s':St} (h:cx b o xs s=some ((),s')) :
  ∃cs r,s.h.get b=some (.cells cs)/\bw xs cs o=some r/\s'.h=s.h.set b (some (.cells r))/\s'.c=s.c:=by
 obtain⟨cs,s1,h1,h2⟩:=bind_some h
 obtain⟨a,_,rfl⟩:=bC h1
 obtain⟨r,s2,h3,h4⟩:=bind_some h2
 obtain⟨hr,rfl⟩:=aI h3
 obtain⟨_,_,rfl⟩:=dI h4
 exact⟨cs,r,a,hr,rfl,rfl⟩
theorem jZ (hr:HR G ι s.h w.heap) {b o:Nat}{xs ys:List Value}{s':St}{L:Loc} (hL:ι b=some L) (hv:bS ι xs ys) (h:cx b o xs s=some ((),s')) :
  ∃w',(storeCells ⟨L.blk,L.off+o,none⟩ ys).run P w=.ok () w'/\aM G ι ι s s' w w':=by
 obtain⟨cs,r,hb,hm,e1,e2⟩:=qU h
 obtain⟨L',hL',c,t,fr,hH,hcr,hfr⟩:=hr.obj _ _ hb
 rw[hL] at hL';cases hL'
 obtain⟨r1,r2,r3,r4⟩:=oC xs cs o r hm
 have hatom:∀v∈ys,v.oneCell'=true:=by
  intro v hvm
  obtain⟨i,hi⟩:=List.mem_iff_getElem?.1 hvm
  have hlt:i<ys.length:=by
   rcases Nat.lt_or_ge i ys.length with hh|hh
   ·exact hh
   ·rw[List.getElem?_eq_none hh] at hi;cases hi
  have hlt':i<xs.length:=by rw[hv.1];exact hlt
  have hx:xs[i]?=some xs[i]:=List.getElem?_eq_getElem hlt'
  exact wJ (hv.2 i _ _ hx hi) (r3 _ (List.mem_of_getElem? hx))
 obtain⟨w',c',h1,h2,h3,h4,h5,h6,h7,h8,h9⟩:=nB (P:=P) (B:=L.blk) (L.off+o) ys 0 w c hatom hH (.inl hfr) (by have:=hcr.2.1;have:=hv.1;omega)
 refine⟨w',h1,aM.put hr hb rfl hL e1 e2 ⟨c',t,fr,h2,⟨by rw[h3];exact hcr.1,by rw[h3,r1];exact hcr.2.1,?_⟩,hfr⟩ h5 h6 h7 h8 h9⟩
 intro i x hx
 rw[r4 i] at hx
 rw[h4]
 by_cases a:o<=i/\i<o+xs.length
 ·rw[if_pos a] at hx
  obtain⟨y,hy,hxy⟩:=hv.get hx
  have:=hv.1
  refine⟨y,?_,hxy⟩
  rw[if_pos (by omega),show L.off+i - (L.off+o+0)=i - o by omega];exact hy
 ·rw[if_neg a] at hx
  obtain⟨y,hy,hxy⟩:=hcr.2.2 i x hx
  have:=hv.1
  exact⟨y,by rw[if_neg (by omega)];exact hy,hxy⟩
theorem CH (ok:C.Ok eg P) (hr:HR G ι s.h w.heap) (t:TypeId) {a a' x x':Value} (ha:VR ι a a') (hx:VR ι x x') :
  d8 G P ι s w (kM C t a x) (do Instr.storeAt t a' x';pure undef):=by
 intro v s' h _
 unfold kM at h
 cases hp:eM a with
 |none=>rw[hp] at h;exact(aa h).elim
 |some p =>
  obtain⟨b,o⟩:=p
  rw[hp] at h
  have e:=gJ hp
  simp only at e
  subst e
  obtain⟨L,hL,rfl⟩:=ha.ptr_inv
  cases hs:C.size t with
  |none=>rw[hs] at h;exact(aa h).elim
  |some n =>
   rw[hs] at h
   simp only at h
   obtain⟨cs,s1,h1,h2⟩:=bind_some h
   obtain⟨hc,rfl⟩:=aI h1
   have hcv:=gt hx hc
   cases hn:Nat.beq (len cs) n with
   |false=>rw[hn] at h2;exact(aa h2).elim
   |true =>
    rw[hn] at h2
    have hn':cs.length=n:=by have:=aL.1 hn;rwa [eD] at this
    simp only at h2
    obtain⟨⟨⟩,s2,h3,h4⟩:=bind_some h2
    obtain⟨rfl,rfl⟩:=ak h4
    obtain⟨w',hrun,hpost⟩:=jZ (P:=P) hr hL hcv h3
    refine⟨undef,w',ι,?_,dK ι 1 _ rfl,hpost⟩
    have hsz:x'.cells.size=n:=by rw[<- Array.length_toList,<- hcv.1];exact hn'
    simp only[Instr.storeAt,Instr.sureAddr,storeVar,Sem.run_bind,ok.size hs,Result.andThen_ok,Sem.run_pure,hsz]
    rw[if_neg (by simp)]
    rw[hrun];rfl
theorem mL (hr:HR G ι s.h w.heap) {cs:List Value}{c:Array Value}{b:Nat}{s':St} (t:TypeId) (h:bq cs s=some (b,s')) (hf:∀x,s.c<=x->x<s'.c->ι x=none)
  (hv:∀(i:Nat) (x:Value),cs[i]?=some x->∃y,c[i]?=some y/\VR ι x y) (hl:cs.length<=c.size) :
  b=s.c/\s'.c=s.c+1/\aM G ι (ι.upd s.c ⟨w.heap.size,0,c.size⟩) s s' w (w.alloc (.cells c t)):=by
 unfold bq at h
 rw[b4] at h
 obtain⟨h1,rfl,rfl⟩:=dZ h
 refine⟨rfl,rfl,aM.alloc hr (hf _ (Nat.le_refl _) (Nat.lt_succ_self _)) rfl rfl ?_⟩
 intro ι' hle
 refine⟨c,t,(0,0),?_,⟨rfl,by show 0+_<=_;omega,?_⟩,rfl⟩
 ·show (w.heap.push _)[w.heap.size]?=_
  simp
 ·intro i x hx
  obtain⟨y,a,d⟩:=hv i x hx
  exact⟨y,by show c[0+i]?=_;rw[Nat.zero_add];exact a,d.mono hle⟩
theorem BK (hr:HR G ι s.h w.heap) (t:TypeId) {x x':Value} (hx:VR ι x x'):d8 G P ι s w (oF x) (Instr.box t x'):=by
 intro v s' h hf
 unfold oF at h
 obtain⟨cs,s1,h1,h2⟩:=bind_some h
 obtain⟨hc,rfl⟩:=aI h1
 obtain⟨b,s2,h3,h4⟩:=bind_some h2
 obtain⟨rfl,rfl⟩:=ak h4
 have hcv:=gt hx hc
 obtain⟨rfl,_,hp⟩:=mL hr (c:=x'.cells) t h3 hf (fun i y hy=>by obtain⟨z,a,b⟩:=hcv.get hy;exact⟨z,by simpa using a,b⟩) (by have:=hcv.1;simp at this;omega)
 refine⟨.pointer (some ⟨w.heap.size,0,none⟩),_,_,?_,?_,hp⟩
 ·simp only[Instr.box,newVar,newRow,Sem.run_bind,run_newObj,Result.andThen_ok,Sem.run_pure];rfl
 ·exact .ptr s1.c 0 ⟨w.heap.size,0,x'.cells.size⟩ (aD.upd_same ..)
theorem Dj (ok:C.Ok eg P) (hr:HR G ι s.h w.heap) (t:TypeId):d8 G P ι s w (ko C t) (Instr.alloc t true (.tuple #[])):=by
 intro v s' h hf
 unfold ko at h
 obtain⟨z,s1,h1,h2⟩:=bind_some h
 obtain⟨hz,rfl⟩:=aI h1
 obtain⟨v',w',ι',hrun,hv,hp⟩:=BK (P:=P) hr t (ok.zeroFlat hz ι) v s' h2 hf
 refine⟨v',w',ι',?_,hv,hp⟩
 rw[<- hrun]
 simp only[Instr.alloc,Instr.box,Sem.run_bind,ok.zero hz,Result.andThen_ok]
end ops
end Go.Ab
