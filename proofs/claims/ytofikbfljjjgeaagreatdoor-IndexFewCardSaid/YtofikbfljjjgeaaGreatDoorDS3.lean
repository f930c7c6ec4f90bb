import Derived.Test.YtofikbfljjjgeaaGreatDoorE40
import Derived.Test.YtofikbfljjjgeaaGreatDoorE22
import Derived.Laws.Externs
import Derived.Lib.Overlaps
set_option linter.unusedVariables false
set_option linter.unusedSimpArgs false
namespace Go.Ab.Seat
open Go.Extern Go.Proofs
set_option maxRecDepth 1000000
section
variable {ι:aD}{h:T ag}{H:Array Obj}
theorem EJ (hr:HR 3 ι h H) (t:Nat):VR ι (hd t) (hd t):=by
 obtain⟨L,hL,h1,h2⟩:=hr.glob 2 (by decide)
 have:=VR.ptr (ι:=ι) 2 t L hL
 rw[h1,h2,Nat.zero_add] at this
 exact this
theorem Bw (hr:HR 3 ι h H) {v v':Value}{t:Nat} (hu:Ee v=some t) (hv:VR ι v v'):v'=hd t:=by
 unfold Ee at hu
 split at hu
 ·rename_i b o
  cases hb:Nat.beq b G0 with
  |false=>rw[hb] at hu;cases hu
  |true =>
   rw[hb] at hu
   have:=aL.1 hb
   subst this
   simp only[cond_true,Option.some.injEq] at hu
   subst hu
   obtain⟨L,hL,h1,h2⟩:=hr.glob 2 (by decide)
   cases hv with
   |ptr _ _ L' hL' =>
    have:L'=L:=by have h3:ι 2=some L':=hL';rw[hL] at h3;cases h3;rfl
    subst this
    rw[h1,h2,Nat.zero_add];rfl
 ·cases hu
theorem FR (hr:HR 3 ι h H) (t:Nat):VR ι (rt t) (rt t) :=
 .iface _ _ _ (.agg _ _ rfl (bS.cons (EJ hr t) (bS.nil ι)).2)
theorem mO (hr:HR 3 ι h H) {v v':Value}{t:Nat} (hu:gR v=some t) (hv:VR ι v v'):v'=.agg #[hd t]:=by
 cases v with
 |agg cs =>
  cases hv with
  |agg _ cs' h1 h2 =>
   have hl:bS ι cs.toList cs'.toList:=⟨h1,h2⟩
   simp only[gR] at hu
   generalize cs.toList=l at hu hl
   cases l with
   |nil=>cases hu
   |cons x l =>
    cases l with
    |cons y l=>cases hu
    |nil =>
     obtain⟨x',l',e1,e2,e3⟩:=hl.cons_inv
     have:=e3.nil_inv
     subst this
     have:=Bw hr hu e2
     subst this
     congr 1
     exact Array.ext' e1
 |_=>cases hu
theorem oM (hr:HR 3 ι h H) {v v':Value}{t b o f:Nat} (hu:qW v=some (t,b,o,f)) (hv:VR ι v v') :
  ∃L,ι b=some L/\v'=rv t (.pointer (some ⟨L.blk,L.off+o,none⟩)) f/\0<f:=by
 cases v with
 |agg cs =>
  cases hv with
  |agg _ cs' h1 h2 =>
   have hl:bS ι cs.toList cs'.toList:=⟨h1,h2⟩
   simp only[qW] at hu
   generalize cs.toList=l at hu hl
   split at hu
   ·rename_i x b' o' f'
    cases hx:Ee x with
    |none=>rw[hx] at hu;cases hu
    |some t' =>
     rw[hx] at hu
     simp only[Option.some.injEq,Prod.mk.injEq] at hu
     obtain⟨rfl,rfl,rfl,rfl⟩:=hu
     obtain⟨x',l',e1,e2,e3⟩:=hl.cons_inv
     obtain⟨y',l'',e4,e5,e6⟩:=e3.cons_inv
     obtain⟨z',l3,e7,e8,e9⟩:=e6.cons_inv
     have:=e9.nil_inv
     subst this
     have:=Bw hr hx e2
     subst this
     cases e5 with
     |ptr _ _ L hL =>
      cases e8
      refine⟨L,hL,?_,Nat.succ_pos _⟩
      unfold rv
      congr 1
      apply Array.ext'
      rw[e1,e4,e7];rfl
   ·cases hu
 |_=>cases hu
end
theorem tj (t:Nat) (w:World):(ReflectliteType.toType t).run Tryz.prog w=.ok (rt t) w:=by kernel_rfl
def gx (f:Nat) (g:List Value->M Value):Prop :=
 ∀(args:List Value) (s s':St) (v:Value) (ι:aD) (w:World) (args':List Value),
  g args s=some (v,s')->bS ι args args'->HR 3 ι s.h w.heap->(∀b,s.c<=b->b<s'.c->ι b=none) ->
  ∃v' w' ι',(callFunc f args'.toArray).run Tryz.prog w=.ok (.value v') w'/\VR ι' v v'/\aM 3 ι ι' s s' w w'
theorem C8:gx oR oe:=by
 intro args s s' v ι w args' hg ha hr _
 unfold oe at hg
 split at hg
 ·rename_i t x
  obtain⟨rfl,rfl⟩:=ak hg
  obtain⟨y,l,rfl,h1,h2⟩:=ha.cons_inv
  have:=h2.nil_inv
  subst this
  cases h1 with
  |iface _ _ x' hx =>
   refine⟨rt t,w,ι,?_,FR hr t,aM.refl hr rfl rfl⟩
   rw[@run_callFunc_extern Tryz.prog oR _ ReflectliteType.typeOf Tryz.func213 (by kernel_rfl) (by kernel_rfl) (by kernel_rfl) (by kernel_rfl)]
   show ((ReflectliteType.toType t).run Tryz.prog w).andThen _=_
   rw[tj];rfl
 ·exact(aa hg).elim
theorem vJ (t:Nat) (a:Addr) (f:Nat) (hf:0<f) (w:World):(ReflectliteValue.partsAny (rv t (.pointer (some a)) f)).run Tryz.prog w=.ok (some (t,a,f)) w:=by
 obtain⟨f,rfl⟩:∃k,f=k+1:=⟨f - 1,by omega⟩
 kernel_rfl
theorem Ql (z:Sem Value) (f:TypeId->Addr->Nat->Nat->Sem Value) (v:Value) :
  ReflectliteValue.methodAny z f #[v]=(do match<-ReflectliteValue.partsAny v with|none=>z|some (t,a,fl)=>f t a fl (fl%32)):=rfl
theorem P0 (z:Sem Value) (f:TypeId->Addr->Nat->Nat->Sem Value) (v:Value) :
  ReflectliteValue.method z f #[v]=(do match<-ReflectliteValue.parts v with|none=>z|some (t,a,fl)=>f t a fl (fl%32)):=rfl
theorem Gu:gx yS yN:=by
 intro args s s' v ι w args' hg ha hr _
 unfold yN at hg
 split at hg
 ·rename_i x
  cases hu:qW x with
  |none=>rw[hu] at hg;exact(aa hg).elim
  |some p =>
   obtain⟨t,b,o,f⟩:=p
   rw[hu] at hg
   obtain⟨rfl,rfl⟩:=ak hg
   obtain⟨y,l,rfl,h1,h2⟩:=ha.cons_inv
   have:=h2.nil_inv
   subst this
   obtain⟨L,hL,rfl,hf⟩:=oM hr hu h1
   refine⟨rt t,w,ι,?_,FR hr t,aM.refl hr rfl rfl⟩
   rw [@run_callFunc_extern Tryz.prog yS _ (ReflectliteValue.methodAny (ReflectliteValue.valueError "reflectlite.Value.Type" 0) fun t _ _ _ => ReflectliteType.toType t) Tryz.func167 (by kernel_rfl) (by kernel_rfl) (by kernel_rfl) (by kernel_rfl)]
   have : (ReflectliteValue.methodAny (ReflectliteValue.valueError "reflectlite.Value.Type" 0) (fun t _ _ _ => ReflectliteType.toType t) #[rv t (.pointer (some ⟨L.blk, L.off + o, none⟩)) f]).run Tryz.prog w = .ok (rt t) w := by
    rw[Ql]
    simp only[Sem.run_bind,vJ t _ f hf,Result.andThen_ok,tj]
   show ((ReflectliteValue.methodAny _ _ #[rv t (.pointer (some ⟨L.blk,L.off+o,none⟩)) f]).run Tryz.prog w).andThen _=_
   rw[this];rfl
 ·exact(aa hg).elim
theorem E5 (x:Value) (w:World):(ReflectliteValue.unpack (.iface qf x)).run Tryz.prog w=.ok (rv qf (.pointer (some ⟨w.heap.size,0,none⟩)) 150) (w.alloc (.cells x.cells qf)):=by kernel_rfl
theorem yD (x:Value) (w:World):(ReflectliteValue.unpack (.iface aV x)).run Tryz.prog w=.ok (rv aV (.pointer (some ⟨w.heap.size,0,none⟩)) 130) (w.alloc (.cells x.cells aV)):=by kernel_rfl
theorem AR {t f:Nat} (hf:xr t=some f) (x:Value) (w:World):(ReflectliteValue.unpack (.iface t x)).run Tryz.prog w=.ok (rv t (.pointer (some ⟨w.heap.size,0,none⟩)) f) (w.alloc (.cells x.cells t)):=by
 unfold xr at hf
 cases h1:Nat.beq t qf with
 |true =>
  rw[h1] at hf
  have:=aL.1 h1
  subst this
  cases hf
  exact E5 x w
 |false =>
  rw[h1] at hf
  cases h2:Nat.beq t aV with
  |true =>
   rw[h2] at hf
   have:=aL.1 h2
   subst this
   cases hf
   exact yD x w
  |false=>rw[h2] at hf;cases hf
theorem Az {v:Value} (h:atom v=true):ba v=some [v]:=by
 cases v<;>first|rfl|cases h
theorem Ad:gx lZ lO:=by
 intro args s s' v ι w args' hg ha hr fr
 unfold lO at hg
 split at hg
 ·rename_i t x
  cases hat:atom x with
  |false=>rw[hat] at hg;exact(aa hg).elim
  |true =>
   cases hfl:xr t with
   |none=>rw[hat,hfl] at hg;exact(aa hg).elim
   |some f =>
    rw[hat,hfl] at hg
    obtain⟨b,s1,h1,h2⟩:=bind_some hg
    obtain⟨rfl,rfl⟩:=ak h2
    obtain⟨y,l,rfl,h3,h4⟩:=ha.cons_inv
    have:=h4.nil_inv
    subst this
    cases h3 with
    |iface _ _ x' hx =>
     have hcv:=gt hx (Az hat)
     obtain⟨rfl,hc1,hp⟩:=mL hr (c:=x'.cells) t h1 fr (fun i y hy=>by obtain⟨z,a,b⟩:=hcv.get hy;exact⟨z,by simpa using a,b⟩) (by have:=hcv.1;simp at this;simp;omega)
     refine⟨rv t (.pointer (some ⟨w.heap.size,0,none⟩)) f,_,_,?_,?_,hp⟩
     ·rw[@run_callFunc_extern Tryz.prog lZ _ (fun args=>ReflectliteValue.unpack (args.getD 0 (.tuple #[]))) Tryz.func166 (by kernel_rfl) (by kernel_rfl) (by kernel_rfl) (by kernel_rfl)]
      show ((ReflectliteValue.unpack (.iface t x')).run Tryz.prog w).andThen _=_
      rw[AR hfl];rfl
     ·refine .agg _ _ rfl (bS.cons (EJ hp.hr t) (bS.cons (.ptr s.c 0 ⟨w.heap.size,0,x'.cells.size⟩ (aD.upd_same ..)) (bS.cons (.int _ _) (bS.nil _)))).2
 ·exact(aa hg).elim
theorem Cb (a:Addr) (w:World):(ReflectliteValue.parts (rv qf (.pointer (some a)) 150)).run Tryz.prog w=.ok (some (qf,a,150)) w:=by kernel_rfl
theorem Cq (a:Addr) (w:World):(ReflectliteValue.parts (rv aV (.pointer (some a)) 386)).run Tryz.prog w=.ok (some (aV,a,386)) w:=by kernel_rfl
theorem CW (a:Addr) (w:World):(ReflectliteValue.parts (rv aV (.pointer (some a)) 130)).run Tryz.prog w=.ok (some (aV,a,130)) w:=by kernel_rfl
theorem IM (w:World):(Rtype.elem? qf).run Tryz.prog w=.ok (some aV) w:=by kernel_rfl
theorem QG (p:Addr) (w:World):(ReflectliteValue.mk aV p ReflectliteValue.flagAddr).run Tryz.prog w=.ok (rv aV (.pointer (some p)) 386) w:=by kernel_rfl
theorem HQ (w:World):(isAgg qf).run Tryz.prog w=.ok false w:=by kernel_rfl
theorem Oo (w:World):(isAgg aV).run Tryz.prog w=.ok false w:=by kernel_rfl
theorem kX {t:Nat}{a:Addr}{x:Value}{w:World} (hagg:(isAgg t).run Tryz.prog w=.ok false w) (ha:w.cell? a=some x):(loadVar t a).run Tryz.prog w=.ok x w:=by
 unfold loadVar
 rw[Sem.run_bind,hagg]
 simp only[Result.andThen_ok,Bool.false_eq_true,if_false,run_load,ha]
theorem CD {a:Addr}{x:Value}{w:World} (ha:w.cell? a=some x) (b:Bool) (hx:(x=.pointer none/\b=true)\/(∃p,x=.pointer (some p)/\b=false)) :
  (ReflectliteValue.method (ReflectliteValue.valueError "reflectlite.Value.IsNil" 0) ReflectliteValue.isNil #[rv qf (.pointer (some a)) 150]).run Tryz.prog w = .ok (.bool b) w := by
 rw[P0]
 simp only[Sem.run_bind,Cb,Result.andThen_ok]
 unfold ReflectliteValue.isNil
 rw[if_neg (by decide)]
 simp only[Sem.run_bind,kX (HQ w) ha,Result.andThen_ok]
 rcases hx with⟨rfl,rfl⟩|⟨p,rfl,rfl⟩<;>rfl
theorem FI {a p:Addr}{w:World} (ha:w.cell? a=some (.pointer (some p))) :
  (ReflectliteValue.method (ReflectliteValue.valueError "reflectlite.Value.Elem" 0) ReflectliteValue.elem #[rv qf (.pointer (some a)) 150]).run Tryz.prog w = .ok (rv aV (.pointer (some p)) 386) w := by
 rw[P0]
 simp only[Sem.run_bind,Cb,Result.andThen_ok]
 unfold ReflectliteValue.elem
 rw[if_neg (by decide)]
 simp only[Sem.run_bind,kX (HQ w) ha,IM,Result.andThen_ok]
 exact QG p w
theorem EK:gx pF rN:=by
 intro args s s' v ι w args' hg ha hr fr
 unfold rN at hg
 split at hg
 ·rename_i x
  cases hu:qW x with
  |none=>rw[hu] at hg;exact(aa hg).elim
  |some p =>
   obtain⟨t,b,o,f⟩:=p
   rw[hu] at hg
   simp only at hg
   cases hc:(Nat.beq t qf&&Nat.beq f 150) with
   |false=>rw[hc] at hg;exact(aa (s:=s) hg).elim
   |true =>
    rw[hc] at hg
    rw[Bool.and_eq_true] at hc
    have e1:=aL.1 hc.1
    have e2:=aL.1 hc.2
    subst e1;subst e2
    obtain⟨y,l,rfl,h1,h2⟩:=ha.cons_inv
    have:=h2.nil_inv
    subst this
    obtain⟨L,hL,rfl,_⟩:=oM hr hu h1
    obtain⟨cs,s1,h3,h4⟩:=bind_some (show ((cj b).bind fun cs=>match cu cs o with|some (.pointer none)=>M.ret (.bool true)|some (.pointer (some _))=>M.ret (.bool false)|_=>M.fail) s=some (v,s') from hg)
    obtain⟨hcs,_,rfl⟩:=ci h3
    obtain⟨L',c,tt,fr',hL',hH,hcr⟩:=hr.cells hcs
    rw[hL] at hL';cases hL'
    have hrun:∀(x:Value) (bb:Bool),c[L.off+o]?=some x->((x=.pointer none/\bb=true)\/(∃p,x=.pointer (some p)/\bb=false)) ->
      (callFunc pF #[rv qf (.pointer (some ⟨L.blk,L.off+o,none⟩)) 150]).run Tryz.prog w=.ok (.value (.bool bb)) w:=by
     intro x bb hx hb
     rw [@run_callFunc_extern Tryz.prog pF _ (ReflectliteValue.method (ReflectliteValue.valueError "reflectlite.Value.IsNil" 0) ReflectliteValue.isNil) Tryz.func168 (by kernel_rfl) (by kernel_rfl) (by kernel_rfl) (by kernel_rfl)]
     rw[CD (a:=⟨L.blk,L.off+o,none⟩) (x:=x) (by rw[kV hH];exact hx) bb hb];rfl
    cases hn:cu cs o with
    |none=>rw[hn] at h4;exact(aa h4).elim
    |some q =>
     rw[hn] at h4
     rw[b8] at hn
     obtain⟨y,hy,hv⟩:=hcr.2.2 _ _ hn
     cases q with
     |pointer p =>
      cases p with
      |none =>
       obtain⟨rfl,rfl⟩:=ak h4
       cases hv
       exact⟨_,w,ι,hrun _ true hy (.inl ⟨rfl,rfl⟩),.bool _,aM.refl hr rfl rfl⟩
      |some p =>
       obtain⟨rfl,rfl⟩:=ak h4
       cases hv
       exact⟨_,w,ι,hrun _ false hy (.inr ⟨_,rfl,rfl⟩),.bool _,aM.refl hr rfl rfl⟩
     |_=>exact(aa h4).elim
 ·exact(aa hg).elim
theorem G7:gx zE yi:=by
 intro args s s' v ι w args' hg ha hr fr
 unfold yi at hg
 split at hg
 ·rename_i x
  cases hu:qW x with
  |none=>rw[hu] at hg;exact(aa hg).elim
  |some p =>
   obtain⟨t,b,o,f⟩:=p
   rw[hu] at hg
   simp only at hg
   cases hc:(Nat.beq t qf&&Nat.beq f 150) with
   |false=>rw[hc] at hg;exact(aa (s:=s) hg).elim
   |true =>
    rw[hc] at hg
    rw[Bool.and_eq_true] at hc
    have e1:=aL.1 hc.1
    have e2:=aL.1 hc.2
    subst e1;subst e2
    obtain⟨y,l,rfl,h1,h2⟩:=ha.cons_inv
    have:=h2.nil_inv
    subst this
    obtain⟨L,hL,rfl,_⟩:=oM hr hu h1
    obtain⟨cs,s1,h3,h4⟩:=bind_some (show ((cj b).bind fun cs=>match cu cs o with|some (.pointer (some ⟨c,p,none⟩))=>M.ret (rv aV (.pointer (some ⟨c,p,none⟩)) 386)|_=>M.fail) s=some (v,s') from hg)
    obtain⟨hcs,_,rfl⟩:=ci h3
    obtain⟨L',c,tt,fr',hL',hH,hcr⟩:=hr.cells hcs
    rw[hL] at hL';cases hL'
    cases hn:cu cs o with
    |none=>rw[hn] at h4;exact(aa h4).elim
    |some q =>
     rw[hn] at h4
     rw[b8] at hn
     obtain⟨y,hy,hv⟩:=hcr.2.2 _ _ hn
     cases q with
     |pointer p =>
      cases p with
      |none=>exact(aa h4).elim
      |some p =>
       obtain⟨pb,po,sp⟩:=p
       cases sp with
       |some _=>exact(aa h4).elim
       |none =>
        obtain⟨rfl,rfl⟩:=ak h4
        cases hv with
        |ptr _ _ L2 hL2 =>
         refine⟨rv aV (.pointer (some ⟨L2.blk,L2.off+po,none⟩)) 386,w,ι,?_,.agg _ _ rfl (bS.cons (EJ hr aV) (bS.cons (.ptr pb po L2 hL2) (bS.cons (.int _ _) (bS.nil _)))).2,aM.refl hr rfl rfl⟩
         rw [@run_callFunc_extern Tryz.prog zE _ (ReflectliteValue.method (ReflectliteValue.valueError "reflectlite.Value.Elem" 0) ReflectliteValue.elem) Tryz.func214 (by kernel_rfl) (by kernel_rfl) (by kernel_rfl) (by kernel_rfl)]
         have:=FI (a:=⟨L.blk,L.off+o,none⟩) (p:=⟨L2.blk,L2.off+po,none⟩) (w:=w) (by rw[kV hH];exact hy)
         rw[this];rfl
     |_=>exact(aa h4).elim
 ·exact(aa hg).elim
theorem Qe (v x:Value):ReflectliteValue.set #[v,x]=(do
  let (some (dst,a,fl),some (src,b,_)):=(<- ReflectliteValue.parts v,<- ReflectliteValue.parts x)
   | unsupported (.noEntry "extern/(internal/reflectlite.Value).Set.zeroValue")
  if fl / ReflectliteValue.flagAddr % 2 == 0 then unsupported (.noEntry "extern/(internal/reflectlite.Value).Set.unaddressable")
  let val<-loadVar src b
  if<-Rtype.directlyAssignable dst src then storeVar dst a val
  else if<-Rtype.implements dst src then
   if(<- Rtype.kind src)==20 then
    match val with
    | .nilIface => unsupported (.noEntry "extern/reflectlite: a nil value of one interface type handed on as a value of another")
    |_=>storeVar dst a val
   else storeVar dst a (.iface src val)
  else panicString ("reflectlite.Set: value of type " ++ (<- Rtype.spelt src) ++ " is not assignable to type " ++ (<- Rtype.spelt dst))
  pure (.tuple #[])):=rfl
theorem Hs (w:World):(Rtype.directlyAssignable aV aV).run Tryz.prog w=.ok true w:=by kernel_rfl
theorem Kj (w:World):(sizeOf aV).run Tryz.prog w=.ok 1 w:=by kernel_rfl
theorem GV {a b:Addr}{n:Int}{w w':World} (hb:w.cell? b=some (.int .i64 n)) (hst:(storeCells a [.int .i64 n]).run Tryz.prog w=.ok () w') :
  (ReflectliteValue.set #[rv aV (.pointer (some a)) 386,rv aV (.pointer (some b)) 130]).run Tryz.prog w=.ok (.tuple #[]) w':=by
 rw[Qe]
 simp only[Sem.run_bind,Cq,CW,Result.andThen_ok]
 rw[if_neg (by decide)]
 simp only[Sem.run_bind,kX (Oo w) hb,Hs,Result.andThen_ok,if_true]
 have:(storeVar aV a (.int .i64 n)).run Tryz.prog w=.ok () w':=by
  unfold storeVar
  simp only[Sem.run_bind,Kj,Result.andThen_ok]
  rw[if_neg (by simp [Value.cells])]
  exact hst
 simp only[this,Result.andThen_ok,Sem.run_pure]
theorem IO:gx Fd Fk:=by
 intro args s s' v ι w args' hg ha hr fr
 unfold Fk at hg
 split at hg
 ·rename_i x1 x2
  cases hu:qW x1 with
  |none=>rw[hu] at hg;exact(aa hg).elim
  |some p =>
   cases hu2:qW x2 with
   |none=>rw[hu,hu2] at hg;exact(aa hg).elim
   |some p2 =>
    obtain⟨t,b,o,f⟩:=p
    obtain⟨u,c,q,g⟩:=p2
    rw[hu,hu2] at hg
    simp only at hg
    cases hc:(Nat.beq t aV&&Nat.beq u aV&&Nat.beq f 386&&Nat.beq g 130) with
    |false=>rw[hc] at hg;exact(aa (s:=s) hg).elim
    |true =>
     rw[hc] at hg
     simp only[Bool.and_eq_true] at hc
     obtain⟨⟨⟨e1,e2⟩,e3⟩,e4⟩:=hc
     have e1:=aL.1 e1
     have e2:=aL.1 e2
     have e3:=aL.1 e3
     have e4:=aL.1 e4
     subst e1;subst e2;subst e3;subst e4
     obtain⟨y,l,rfl,h1,h2⟩:=ha.cons_inv
     obtain⟨y2,l2,rfl,h3,h4⟩:=h2.cons_inv
     have:=h4.nil_inv
     subst this
     obtain⟨L,hL,rfl,_⟩:=oM hr hu h1
     obtain⟨L2,hL2,rfl,_⟩:=oM hr hu2 h3
     obtain⟨cs,s1,h5,h6⟩:=bind_some (show ((cj c).bind fun cs=>match cu cs q with|some (.int .i64 n)=>(cx b o [.int .i64 n]).bind fun _=>M.ret br|_=>M.fail) s=some (v,s') from hg)
     obtain⟨hcs,_,rfl⟩:=ci h5
     obtain⟨L',cc,tt,fr',hL',hH,hcr⟩:=hr.cells hcs
     rw[hL2] at hL';cases hL'
     cases hn:cu cs q with
     |none=>rw[hn] at h6;exact(aa h6).elim
     |some z =>
      rw[hn] at h6
      rw[b8] at hn
      obtain⟨y,hy,hv⟩:=hcr.2.2 _ _ hn
      cases z with
      |int kk n =>
       by_cases hk:kk=.i64
       ·subst hk
        obtain⟨⟨⟩,s2,h7,h8⟩:=bind_some h6
        obtain⟨rfl,rfl⟩:=ak h8
        cases hv
        obtain⟨w',hst,hp⟩:=jZ (P:=Tryz.prog) (ι:=ι) (w:=w) (s:=⟨s.h,s.c,c::s.rl,s.wl⟩) (ys:=[.int .i64 n]) hr hL (bS.cons (.int _ _) (bS.nil _)) h7
        refine⟨.tuple #[],w',ι,?_,dK ι 1 _ rfl,hp.log rfl rfl rfl rfl⟩
        rw[@run_callFunc_extern Tryz.prog Fd _ ReflectliteValue.set Tryz.func215 (by kernel_rfl) (by kernel_rfl) (by kernel_rfl) (by kernel_rfl)]
        have:=GV (a:=⟨L.blk,L.off+o,none⟩) (b:=⟨L2.blk,L2.off+q,none⟩) (n:=n) (w:=w) (by rw[kV hH];exact hy) hst
        rw[this];rfl
       ·exfalso
        cases kk<;>first|exact hk rfl|exact aa h6
      |_=>exact(aa h6).elim
 ·exact(aa hg).elim
theorem vF {ι:aD}{a:Addr}{n c:Nat}{x':Value}{L:Ab.Loc} (hL:ι a.block=some L) (h:VR ι (.slice (some a) n c) x'):(∃o c',x'=.slice (some ⟨L.blk,o,none⟩) n c')\/(n=0/\∃a',x'=.slice (some a') 0 0):=by
 cases h with
 |sliceX b o _ _ L' h'=>have h2:ι b=some L:=hL;rw[h'] at h2;cases h2;exact .inl ⟨_,_,rfl⟩
 |sliceI b o e _ _ c' L' h' _ _=>have h2:ι b=some L:=hL;rw[h'] at h2;cases h2;exact .inl ⟨_,_,rfl⟩
 |sliceZ b o e a'=>exact .inr ⟨rfl,a',rfl⟩
theorem p7 {f tS tR e size:Nat} (ht:Tryz.prog.underlying tS=some (.slice e)) (hz:∀w,(Go.sizeOf e).run Tryz.prog w=.ok size w)
  (hf:∀args w,(callFunc f args).run Tryz.prog w=((SlicesOverlaps.overlaps #[tS,tS] #[tR] args).run Tryz.prog w).andThen fun v w'=>.ok (.value v) w'):gx f ez:=by
 intro args s s' v ι w args' hg ha hr fr
 unfold ez at hg
 split at hg
 ·rename_i a la ca b lb cb
  cases hab:Nat.beq a.block b.block with
  |true=>rw[hab] at hg;exact(aa (s:=s) hg).elim
  |false =>
   rw[hab] at hg
   have hne:=bh.1 hab
   obtain⟨cs,s1,h1,h2⟩:=bind_some (show ((bu a.block).bind fun _=>(bu b.block).bind fun cs=>match cu cs 0 with|some _=>M.ret (.bool false)|none=>M.fail) s=some (v,s') from hg)
   obtain⟨hca,_,rfl⟩:=bC h1
   obtain⟨cs2,s2,h3,h4⟩:=bind_some h2
   obtain⟨hcb,_,rfl⟩:=bC h3
   cases hn:cu cs2 0 with
   |none=>rw[hn] at h4;exact(aa h4).elim
   |some z =>
    rw[hn] at h4
    obtain⟨rfl,rfl⟩:=ak h4
    obtain⟨y,l,rfl,h5,h6⟩:=ha.cons_inv
    obtain⟨y2,l2,rfl,h7,h8⟩:=h6.cons_inv
    have:=h8.nil_inv
    subst this
    obtain⟨La,hLa,ca',ta,fra,hHa,hcra,hfa⟩:=hr.obj _ _ hca
    obtain⟨Lb,hLb,cb',tb,frb,hHb,hcrb,hfb⟩:=hr.obj _ _ hcb
    subst hfa;subst hfb
    have hblk:La.blk≠Lb.blk:=fun e=>hne (hr.inj _ _ _ _ La Lb hca hcb hLa hLb e)
    rw[b8] at hn
    have hkB:cb'.size≠0:=by
     obtain⟨y,hy,_⟩:=hcrb.2.2 _ _ hn
     have:=(Array.getElem?_eq_some_iff.1 hy).1
     omega
    rcases vF hLa h5 with⟨oa,c1,rfl⟩|⟨h0,_⟩
    ·rcases vF hLb h7 with⟨ob,c2,rfl⟩|⟨h0,_⟩
     ·refine⟨.bool false,w,ι,?_,.bool _,aM.refl hr rfl rfl⟩
      rw[hf]
      have:=Lib.run_overlaps_apart w tS tR e ht size hz ⟨La.blk,oa,none⟩ ⟨Lb.blk,ob,none⟩ (la+1) c1 (lb+1) c2 hblk ta tb ca'.size cb'.size
       (by simp [World.shape?,hHa]) (by simp [World.shape?,hHb]) hkB (by simp [World.frozen?,hHa]) (by simp [World.frozen?,hHa])
      rw[this];rfl
     ·omega
    ·omega
 ·exact(aa hg).elim
theorem AL:gx lW ez :=
 p7 (tS:=45) (tR:=4) (e:=3) (size:=1) (by kernel_rfl) (fun _=>by kernel_rfl) fun args w =>
  @run_callFunc_extern Tryz.prog lW _ (SlicesOverlaps.overlaps #[45,45] #[4]) Tryz.func204 (by kernel_rfl) (by kernel_rfl) (by kernel_rfl) (by kernel_rfl) args w
theorem A4:gx mp ez :=
 p7 (tS:=37) (tR:=4) (e:=52) (size:=2) (by kernel_rfl) (fun _=>by kernel_rfl) fun args w =>
  @run_callFunc_extern Tryz.prog mp _ (SlicesOverlaps.overlaps #[37,37] #[4]) Tryz.func227 (by kernel_rfl) (by kernel_rfl) (by kernel_rfl) (by kernel_rfl) args w
end Go.Ab.Seat
