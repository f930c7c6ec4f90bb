import Derived.Test.YtofikbfljjjgeaaGreatDoorDS3
import Derived.Test.YtofikbfljjjgeaaGreatDoorE40
import Derived.Test.YtofikbfljjjgeaaGreatDoorE22
import Derived.Below
import Derived.Carry
import Derived.Handed
import Derived.ChangeSame
import Derived.ChangeVars
import Derived.JoinedOf
import Derived.RowKit
import Derived.RowKitTokens
import Derived.LaidLaws
import Derived.LaidHandle
import Derived.Stop.Joined
import Derived.ChangeReads
import Derived.ChangeArms
import Derived.ChangeSlices
set_option linter.unusedVariables false
set_option linter.unusedSimpArgs false
section
namespace Go.Ab.Seat
open Go.Extern Go.Proofs
set_option maxRecDepth 1000000
theorem Hj (w : World) : (callMethod (.iface nO (.agg #[hd qf])) "Kind" #[]).run Tryz.prog w = .ok (.value (.int .u8 22)) w := by kernel_rfl
theorem Il (w : World) : (callMethod (.iface nO (.agg #[hd aV])) "Kind" #[]).run Tryz.prog w = .ok (.value (.int .u8 2)) w := by kernel_rfl
theorem GT (w : World) : (callMethod (.iface nO (.agg #[hd qf])) "Elem" #[]).run Tryz.prog w = .ok (.value (rt aV)) w := by kernel_rfl
theorem Jj (w : World) : (callMethod (.iface nO (.agg #[hd aV])) "Implements" #[.iface nO (.agg #[hd iZ])]).run Tryz.prog w = .ok (.value (.bool true)) w := by kernel_rfl
theorem KT (w : World) : (callMethod (.iface nO (.agg #[hd aV])) "AssignableTo" #[.iface nO (.agg #[hd aV])]).run Tryz.prog w = .ok (.value (.bool true)) w := by kernel_rfl
theorem IN (w : World) : (callMethod (.iface nO (.agg #[hd Jg])) "AssignableTo" #[.iface nO (.agg #[hd aV])]).run Tryz.prog w = .ok (.value (.bool false)) w := by kernel_rfl
theorem IZ (w : World) : (callMethod (.iface nO (.agg #[hd aV])) "Comparable" #[]).run Tryz.prog w = .ok (.value (.bool true)) w := by kernel_rfl
end Go.Ab.Seat
end
section
namespace Go.Ab.Seat
open Go.Extern Go.Proofs
def oV (name:String) (g:List Value->M Value):Prop :=
 ∀(x x':Value) (args args':List Value) (s s':St) (v:Value) (ι:aD) (w:World),
  g (x::args) s=some (v,s')->VR ι x x'->bS ι args args'->HR 3 ι s.h w.heap ->
  ∃v' w' ι',(callMethod (.iface nO x') name args'.toArray).run Tryz.prog w=.ok (.value v') w'/\VR ι' v v'/\aM 3 ι ι' s s' w w'
theorem GF : oV "Kind" xV := by
 intro x x' args args' s s' v ι w hg hx ha hr
 cases args with
 |cons y l=>exact(aa (s:=s) hg).elim
 |nil =>
  have:=ha.nil_inv
  subst this
  simp only[xV] at hg
  cases hu:gR x with
  |none=>rw[hu] at hg;exact(aa hg).elim
  |some t =>
   rw[hu] at hg
   have:=mO hr hu hx
   subst this
   simp only at hg
   cases h1:Nat.beq t qf with
   |true =>
    rw[h1] at hg
    have:=aL.1 h1
    subst this
    obtain⟨rfl,rfl⟩:=ak hg
    exact⟨_,w,ι,Hj w,.int _ _,aM.refl hr rfl rfl⟩
   |false =>
    rw[h1] at hg
    cases h2:Nat.beq t aV with
    |true =>
     rw[h2] at hg
     have:=aL.1 h2
     subst this
     obtain⟨rfl,rfl⟩:=ak hg
     exact⟨_,w,ι,Il w,.int _ _,aM.refl hr rfl rfl⟩
    |false=>rw[h2] at hg;exact(aa (s:=s) hg).elim
theorem GA : oV "Elem" yZ := by
 intro x x' args args' s s' v ι w hg hx ha hr
 cases args with
 |cons y l=>exact(aa (s:=s) hg).elim
 |nil =>
  have:=ha.nil_inv
  subst this
  simp only[yZ] at hg
  cases hu:gR x with
  |none=>rw[hu] at hg;exact(aa hg).elim
  |some t =>
   rw[hu] at hg
   have:=mO hr hu hx
   subst this
   simp only at hg
   cases h1:Nat.beq t qf with
   |true =>
    rw[h1] at hg
    have:=aL.1 h1
    subst this
    obtain⟨rfl,rfl⟩:=ak hg
    exact⟨_,w,ι,GT w,FR hr _,aM.refl hr rfl rfl⟩
   |false=>rw[h1] at hg;exact(aa (s:=s) hg).elim
theorem tJ : oV "Comparable" gB := by
 intro x x' args args' s s' v ι w hg hx ha hr
 cases args with
 |cons y l=>exact(aa (s:=s) hg).elim
 |nil =>
  have:=ha.nil_inv
  subst this
  simp only[gB] at hg
  cases hu:gR x with
  |none=>rw[hu] at hg;exact(aa hg).elim
  |some t =>
   rw[hu] at hg
   have:=mO hr hu hx
   subst this
   simp only at hg
   cases h1:Nat.beq t aV with
   |true =>
    rw[h1] at hg
    have:=aL.1 h1
    subst this
    obtain⟨rfl,rfl⟩:=ak hg
    exact⟨_,w,ι,IZ w,.bool _,aM.refl hr rfl rfl⟩
   |false=>rw[h1] at hg;exact(aa (s:=s) hg).elim
theorem Eq {g:Nat->Nat->Nat->M Value}{x x':Value}{args args':List Value}{s s':St}{v:Value}{ι:aD}{w:World}{k:List Value->M Value}
  (hk:∀r u t e,gR x=some t->gR u=some e->k [x,.iface r u]=g t r e)
  (h0:∀l,(∀r u t e,l=[.iface r u]->gR x=some t->gR u=some e->False)->k (x::l)=M.fail)
  (hg:k (x::args) s=some (v,s')) (hx:VR ι x x') (ha:bS ι args args') (hr:HR 3 ι s.h w.heap) :
  ∃t r e,x'=.agg #[hd t]/\args'=[.iface r (.agg #[hd e])]/\g t r e s=some (v,s'):=by
 by_cases hh:∃r u t e,args=[.iface r u]/\gR x=some t/\gR u=some e
 ·obtain⟨r,u,t,e,rfl,h1,h2⟩:=hh
  rw[hk r u t e h1 h2] at hg
  obtain⟨y,l,rfl,h3,h4⟩:=ha.cons_inv
  have:=h4.nil_inv
  subst this
  cases h3 with
  |iface _ _ u' hu' =>
   have:=mO hr h2 hu'
   subst this
   exact⟨t,r,e,mO hr h1 hx,rfl,hg⟩
 ·rw[h0 args fun r u t e h1 h2 h3=>hh ⟨r,u,t,e,h1,h2,h3⟩] at hg
  exact(aa hg).elim
theorem tN : oV "Implements" eR := by
 intro x x' args args' s s' v ι w hg hx ha hr
 obtain⟨t,r,e,rfl,rfl,hg⟩:=Eq (k:=eR) (g:=fun t r e=>bif Nat.beq t aV&&Nat.beq e iZ&&Nat.beq r nO then M.ret (.bool true) else M.fail)
  (fun r u t e h1 h2=>by simp only[eR,h1,h2]) (fun l h=>by
   unfold eR
   cases l with
   |nil=>rfl
   |cons y l =>
    cases l with
    |cons z l=>cases y<;>rfl
    |nil =>
     cases y with
     |iface r u =>
      simp only
      cases h1:gR x with
      |none=>rfl
      |some t =>
       cases h2:gR u with
       |none=>rfl
       |some e=>exact(h r u t e rfl h1 h2).elim
     |_=>rfl) hg hx ha hr
 cases hc:(Nat.beq t aV&&Nat.beq e iZ&&Nat.beq r nO) with
 |false=>simp only[hc] at hg;exact(aa (s:=s) hg).elim
 |true =>
  simp only[hc] at hg
  rw[Bool.and_eq_true,Bool.and_eq_true] at hc
  have e1:=aL.1 hc.1.1
  have e2:=aL.1 hc.1.2
  have e3:=aL.1 hc.2
  subst e1;subst e2;subst e3
  obtain⟨rfl,rfl⟩:=ak hg
  exact⟨_,w,ι,Jj w,.bool _,aM.refl hr rfl rfl⟩
theorem qX : oV "AssignableTo" dS := by
 intro x x' args args' s s' v ι w hg hx ha hr
 obtain⟨t,r,e,rfl,rfl,hg⟩:=Eq (k:=dS) (g:=fun t r e=>bif Nat.beq e aV&&Nat.beq r nO then(bif Nat.beq t aV then M.ret (.bool true) else bif Nat.beq t Jg then M.ret (.bool false) else M.fail) else M.fail)
  (fun r u t e h1 h2=>by simp only[dS,h1,h2]) (fun l h=>by
   unfold dS
   cases l with
   |nil=>rfl
   |cons y l =>
    cases l with
    |cons z l=>cases y<;>rfl
    |nil =>
     cases y with
     |iface r u =>
      simp only
      cases h1:gR x with
      |none=>rfl
      |some t =>
       cases h2:gR u with
       |none=>rfl
       |some e=>exact(h r u t e rfl h1 h2).elim
     |_=>rfl) hg hx ha hr
 cases hc:(Nat.beq e aV&&Nat.beq r nO) with
 |false=>simp only[hc] at hg;exact(aa (s:=s) hg).elim
 |true =>
  simp only[hc] at hg
  rw[Bool.and_eq_true] at hc
  have e1:=aL.1 hc.1
  have e3:=aL.1 hc.2
  subst e1;subst e3
  cases h1:Nat.beq t aV with
  |true =>
   simp only[h1] at hg
   have:=aL.1 h1
   subst this
   obtain⟨rfl,rfl⟩:=ak hg
   exact⟨_,w,ι,KT w,.bool _,aM.refl hr rfl rfl⟩
  |false =>
   cases h2:Nat.beq t Jg with
   |true =>
    simp only[h1,h2] at hg
    have:=aL.1 h2
    subst this
    obtain⟨rfl,rfl⟩:=ak hg
    exact⟨_,w,ι,IN w,.bool _,aM.refl hr rfl rfl⟩
   |false=>simp only[h1,h2] at hg;exact(aa (s:=s) hg).elim
end Go.Ab.Seat
end
section
namespace Go.Ab.Seat
set_option maxRecDepth 1000000
theorem JF:ee (fun i:TypeInfo=>match i.zero with|some z=>flat 30 z|none=>true) Proofs.Tryz.prog.types.toList=true:=by kernel_rfl
theorem KN : ee (fun g : Func => match g.body with | none => true | some _ => !(g.name == "runtime.NumGoroutine")) Proofs.Tryz.prog.funcs.toList = true := by kernel_rfl
theorem xH (sm:Nat->Option (List Value->M Value)):ee (fun g:Func=>match g.body with|none=>true|some b=>fz (Cs sm) 3 g.ntmps b) Proofs.Tryz.prog.funcs.toList=true:=by kernel_rfl
theorem mixed:Proofs.Tryz.prog.follows .mixedOrders=true:=by kernel_rfl
theorem ok (sm:Nat->Option (List Value->M Value)):(Cs sm).Ok eg Proofs.Tryz.prog:=by
 have hty:∀t,(Cs sm).ty.get t=Proofs.Tryz.prog.types[t]?:=fun t=>by
  show (T.ofList Proofs.Tryz.prog.types.toList).get t=_
  rw[T.get_ofList,Array.getElem?_toList]
 have hfn:∀t,(Cs sm).fn.get t=Proofs.Tryz.prog.funcs[t]?:=fun t=>by
  show (T.ofList Proofs.Tryz.prog.funcs.toList).get t=_
  rw[T.get_ofList,Array.getElem?_toList]
 refine⟨fun t i h=>by rw[hty] at h;have hlt:=(Array.getElem?_eq_some_iff.1 h).1;unfold Tables.info?;rw[if_pos hlt];exact h,fun f g h=>by rw[hfn] at h;exact h,fun t i z h hz=>?_,fun t h=>?_,fun f g b h hb=>?_⟩
 ·rw[hty] at h
  have:=JF
  rw[bT,List.all_eq_true] at this
  have:=this i (List.mem_of_getElem? (by rw[Array.getElem?_toList];exact h))
  rw[hz] at this
  exact this
 ·unfold eg at h
  rw[Bool.or_eq_false_iff] at h
  exact h
 ·rw[hfn] at h
  have:=KN
  rw[bT,List.all_eq_true] at this
  have:=this g (List.mem_of_getElem? (by rw[Array.getElem?_toList];exact h))
  rw[hb] at this
  simpa using this
theorem qd (sm:Nat->Option (List Value->M Value)) (h:IL (Cs sm) Proofs.Tryz.prog 3):(Cs sm).Whole eg Proofs.Tryz.prog 3:=by
 refine⟨ok sm,fun f fn b hf hb=>?_,mixed,h⟩
 have hfn:(Cs sm).fn.get f=Proofs.Tryz.prog.funcs[f]?:=by
  show (T.ofList Proofs.Tryz.prog.funcs.toList).get f=_
  rw[T.get_ofList,Array.getElem?_toList]
 rw[hfn] at hf
 have:=xH sm
 rw[bT,List.all_eq_true] at this
 have:=this fn (List.mem_of_getElem? (by rw[Array.getElem?_toList];exact hf))
 rw[hb] at this
 exact this
end Go.Ab.Seat
end
section
namespace Go.Ab.Seat
open Go.Extern Go.Proofs
theorem E6 (f:Nat) (g:List Value->M Value) (args:List Value) (h:ex f=some g):ah (g args):=by
 unfold ex at h
 have l1:∀args,ah (oe args):=fun args=>by unfold oe;split<;>first|exact ah.ret _|exact ah.fail
 have l2:∀args,ah (lO args):=fun args=>by
  unfold lO
  split
  ·split
   ·exact ah.bind (cH _) fun _=>ah.ret _
   ·exact ah.fail
  ·exact ah.fail
 have l3:∀args,ah (yN args):=fun args=>by
  unfold yN
  split
  ·split<;>first|exact ah.ret _|exact ah.fail
  ·exact ah.fail
 have l4:∀args,ah (rN args):=fun args=>by
  unfold rN
  split
  ·split
   ·rename_i t b o f _
    cases (Nat.beq t qf&&Nat.beq f 150)
    ·exact ah.fail
    ·rw[cond_true]
     refine ah.bind (cG _) fun cs=>?_
     split<;>first|exact ah.ret _|exact ah.fail
   ·exact ah.fail
  ·exact ah.fail
 have l5:∀args,ah (yi args):=fun args=>by
  unfold yi
  split
  ·split
   ·rename_i t b o f _
    cases (Nat.beq t qf&&Nat.beq f 150)
    ·exact ah.fail
    ·rw[cond_true]
     refine ah.bind (cG _) fun cs=>?_
     split<;>first|exact ah.ret _|exact ah.fail
   ·exact ah.fail
  ·exact ah.fail
 have l6:∀args,ah (Fk args):=fun args=>by
  unfold Fk
  split
  ·split
   ·rename_i t b o f u c p g _ _
    cases (Nat.beq t aV&&Nat.beq u aV&&Nat.beq f 386&&Nat.beq g 130)
    ·exact ah.fail
    ·rw[cond_true]
     refine ah.bind (cG _) fun cs=>?_
     split
     ·exact ah.bind (jB _ _ _) fun _=>ah.ret _
     ·exact ah.fail
   ·exact ah.fail
  ·exact ah.fail
 have l7:∀args,ah (ez args):=fun args=>by
  unfold ez
  split
  ·rename_i a _ _ b _ _
   cases (Nat.beq a.block b.block)
   ·refine ah.bind (bB _) fun _=>ah.bind (bB _) fun cs=>?_
    split<;>first|exact ah.ret _|exact ah.fail
   ·exact ah.fail
  ·exact ah.fail
 cases h1:Nat.beq f oR<;>rw[h1] at h
 ·cases h2:Nat.beq f lZ<;>rw[h2] at h
  ·cases h3:Nat.beq f yS<;>rw[h3] at h
   ·cases h4:Nat.beq f pF<;>rw[h4] at h
    ·cases h5:Nat.beq f zE<;>rw[h5] at h
     ·cases h6:Nat.beq f Fd<;>rw[h6] at h
      ·cases h7:Nat.beq f lW<;>rw[h7] at h
       ·cases h8:Nat.beq f mp<;>rw[h8] at h
        ·cases h
        ·cases h;exact l7 _
       ·cases h;exact l7 _
      ·cases h;exact l6 _
     ·cases h;exact l5 _
    ·cases h;exact l4 _
   ·cases h;exact l3 _
  ·cases h;exact l2 _
 ·cases h;exact l1 _
theorem F3 (t:Nat) (n:String) (g:List Value->M Value) (args:List Value) (h:vi t n=some g):ah (g args):=by
 have l1:∀args,ah (xV args):=fun args=>by
  unfold xV
  split
  ·split
   ·rename_i t _
    cases (Nat.beq t qf)
    ·cases (Nat.beq t aV)
     ·exact ah.fail
     ·exact ah.ret _
    ·exact ah.ret _
   ·exact ah.fail
  ·exact ah.fail
 have l2:∀args,ah (yZ args):=fun args=>by
  unfold yZ
  split
  ·split
   ·rename_i t _
    cases (Nat.beq t qf)
    ·exact ah.fail
    ·exact ah.ret _
   ·exact ah.fail
  ·exact ah.fail
 have l3:∀args,ah (eR args):=fun args=>by
  unfold eR
  split
  ·rename_i r u
   split
   ·rename_i t e _ _
    cases (Nat.beq t aV&&Nat.beq e iZ&&Nat.beq r nO)
    ·exact ah.fail
    ·exact ah.ret _
   ·exact ah.fail
  ·exact ah.fail
 have l4:∀args,ah (dS args):=fun args=>by
  unfold dS
  split
  ·rename_i r u
   split
   ·rename_i t e _ _
    cases (Nat.beq e aV&&Nat.beq r nO)
    ·exact ah.fail
    ·cases (Nat.beq t aV)
     ·cases (Nat.beq t Jg)
      ·exact ah.fail
      ·exact ah.ret _
     ·exact ah.ret _
   ·exact ah.fail
  ·exact ah.fail
 have l5:∀args,ah (gB args):=fun args=>by
  unfold gB
  split
  ·split
   ·rename_i t _
    cases (Nat.beq t aV)
    ·exact ah.fail
    ·exact ah.ret _
   ·exact ah.fail
  ·exact ah.fail
 unfold vi at h
 cases h1:Nat.beq t nO<;>rw[h1] at h
 ·cases h
 ·rw[cond_true] at h
  split at h<;>first|(cases h;first|exact l1 _|exact l2 _|exact l3 _|exact l4 _|exact l5 _)|cases h
theorem Gn (sm:Nat->Option (List Value->M Value)):ri (Cs sm) Tryz.prog 3:=by
 intro t name g h0 x x' args args' s s' v ι w hg hx ha hr _
 have h:vi t name=some g:=h0
 clear h0
 unfold vi at h
 cases h1:Nat.beq t nO<;>rw[h1] at h
 ·cases h
 ·rw[cond_true] at h
  have:=aL.1 h1
  subst this
  split at h
  ·cases h;exact GF x x' args args' s s' v ι w hg hx ha hr
  ·cases h;exact GA x x' args args' s s' v ι w hg hx ha hr
  ·cases h;exact tN x x' args args' s s' v ι w hg hx ha hr
  ·cases h;exact qX x x' args args' s s' v ι w hg hx ha hr
  ·cases h;exact tJ x x' args args' s s' v ι w hg hx ha hr
  ·cases h
theorem Gt (f:Nat) (g:List Value->M Value) (h:ex f=some g):gx f g:=by
 unfold ex at h
 cases h1:Nat.beq f oR<;>rw[h1] at h
 ·cases h2:Nat.beq f lZ<;>rw[h2] at h
  ·cases h3:Nat.beq f yS<;>rw[h3] at h
   ·cases h4:Nat.beq f pF<;>rw[h4] at h
    ·cases h5:Nat.beq f zE<;>rw[h5] at h
     ·cases h6:Nat.beq f Fd<;>rw[h6] at h
      ·cases h7:Nat.beq f lW<;>rw[h7] at h
       ·cases h8:Nat.beq f mp<;>rw[h8] at h
        ·cases h
        ·cases h;rw[aL.1 h8];exact A4
       ·cases h;rw[aL.1 h7];exact AL
      ·cases h;rw[aL.1 h6];exact IO
     ·cases h;rw[aL.1 h5];exact G7
    ·cases h;rw[aL.1 h4];exact EK
   ·cases h;rw[aL.1 h3];exact Gu
  ·cases h;rw[aL.1 h2];exact Ad
 ·cases h;rw[aL.1 h1];exact C8
structure iM (f:Nat) (g:List Value->M Value):Prop where
 loc:∀args,ah (g args)
 sound:∀(args:List Value) (s s':St) (v:Value) (ι:aD) (w:World) (args':List Value) (R:Ending->World->Prop),
  g args s=some (v,s')->bS ι args args'->HR 3 ι s.h w.heap->(∀b,s.c<=b->b<s'.c->ι b=none) ->
  (∀v' w' ι',VR ι' v v'->aM 3 ι ι' s s' w w'->R (.returned v') w')->dO Tryz.prog f/\Calls Tryz.prog f args'.toArray w R
theorem FE (sm:Nat->Option (List Value->M Value)) (h:∀f g,sm f=some g->iM f g):IL (Cs sm) Tryz.prog 3 where
 loc:=⟨fun f g args hg=>(h f g hg).loc args,fun f g args hg=>E6 f g args hg,fun t n g args hg=>F3 t n g args hg⟩
 sound:=fun f g hg=>(h f g hg).sound
 ex:=fun f g hg args s s' v ι w args' h1 h2 h3 h4=>Gt f g hg args s s' v ι w args' h1 h2 h3 h4
 vi:=Gn sm
theorem jv:C0.Whole eg Tryz.prog 3:=qd _ (FE _ fun f g hg=>by cases hg)
theorem zH (size f:Nat):iM f (Bj C0 eg 100 f size) :=
 ⟨AO jv.sm.loc 100 f size,fun args s s' v ι w args' R h1 h2 h3 h4 h5=>Bo jv 100 f size args s s' v ι w args' R h1 h2 h3 h4 h5⟩
end Go.Ab.Seat
end
section
namespace Go.Ab.Seat
open Go.Extern Go.Proofs
noncomputable def xT (l:List Value):List Value->Bool :=
 List.rec (motive:=fun _=>List Value->Bool) (fun r=>List.rec (motive:=fun _=>Bool) true (fun _ _ _=>false) r)
  (fun x _ ih r=>List.rec (motive:=fun _=>Bool) false (fun y r _=>Bool.rec (motive:=fun _=>Bool) false (ih r) (p5 x y)) r) l
theorem EH:∀(l r:List Value),xT l r=true->l=r:=by
 intro l
 induction l with
 |nil=>intro r h;cases r with
  |nil=>rfl
  |cons y r=>cases h
 |cons x l ih =>
  intro r h
  cases r with
  |nil=>cases h
  |cons y r =>
   have h':Bool.rec (motive:=fun _=>Bool) false (xT l r) (p5 x y)=true:=h
   cases hs:p5 x y with
   |false=>rw[hs] at h';cases h'
   |true=>rw[hs] at h';rw[xR hs,ih r h']
noncomputable def px:M Unit :=
 (cj 0).bind fun c0=>(cj 1).bind fun c1 =>
  match xT c0 pP,c1 with
  |true,[.iface r u] =>
   match gR u with
   |some e=>bif Nat.beq r nO&&Nat.beq e iZ then M.ret () else M.fail
   |none=>M.fail
  |_,_=>M.fail
noncomputable def fQ (args:List Value):M Value :=
 match args with
 | []=>px.bind fun _=>M.ret (.bool true)
 |_=>M.fail
theorem zN (args:List Value):ah (fQ args):=by
 unfold fQ
 split
 ·refine ah.bind ?_ fun _=>ah.ret _
  unfold px
  refine ah.bind (cG _) fun c0=>ah.bind (cG _) fun c1=>?_
  split
  ·split
   ·rename_i r u _ _ e _
    cases (Nat.beq r nO&&Nat.beq e iZ)
    ·exact ah.fail
    ·exact ah.ret _
   ·exact ah.fail
  ·exact ah.fail
 ·exact ah.fail
theorem yT {s s':St}{u:Unit} (h:px s=some (u,s')) :
  s'.h=s.h/\s'.c=s.c/\(s.h.get 0=some (.cells pP)\/s.h.get 0=some (.ro pP)\/s.h.get 0=some (.bytes pP)) /\
   ∃v,(s.h.get 1=some (.cells [.iface nO v])\/s.h.get 1=some (.ro [.iface nO v])\/s.h.get 1=some (.bytes [.iface nO v]))/\gR v=some iZ:=by
 obtain⟨c0,s1,h1,h2⟩:=bind_some h
 obtain⟨g0,_,rfl⟩:=ci h1
 obtain⟨c1,s2,h3,h4⟩:=bind_some h2
 obtain⟨g1,_,rfl⟩:=ci h3
 cases he:xT c0 pP with
 |false=>rw[he] at h4;exact(aa h4).elim
 |true =>
  rw[he] at h4
  have:=EH _ _ he
  subst this
  cases c1 with
  |nil=>exact(aa h4).elim
  |cons x l =>
   cases l with
   |cons y l=>cases x<;>exact(aa h4).elim
   |nil =>
    cases x with
    |iface r u =>
     simp only at h4
     cases hu:gR u with
     |none=>rw[hu] at h4;exact(aa h4).elim
     |some e =>
      rw[hu] at h4
      simp only at h4
      cases hc:(Nat.beq r nO&&Nat.beq e iZ) with
      |false=>simp only[hc] at h4;exact(aa (s:=⟨s.h,s.c,1::0::s.rl,s.wl⟩) h4).elim
      |true =>
       simp only[hc] at h4
       obtain⟨_,rfl⟩:=ak h4
       rw[Bool.and_eq_true] at hc
       have e1:=aL.1 hc.1
       have e2:=aL.1 hc.2
       subst e1;subst e2
       exact⟨rfl,rfl,g0,u,g1,hu⟩
    |_=>exact(aa h4).elim
theorem pR (b:Nat):s0.h.get b=if b=1 then some (.ro [rt iZ]) else if b=0 then some (.ro pP) else none:=by
 show ((((T.leaf:T ag).set 0 (some (.ro pP))).set 1 (some (.ro [rt iZ]))).get b)=_
 rw[T.get_set,T.get_set,T.get_leaf]
theorem FB:∀x∈pP,flat 1 x=true:=by
 intro x hx
 unfold pP at hx
 obtain⟨n,_,rfl⟩:=List.mem_map.1 hx
 rfl
structure Laid (w:World):Prop where
 var0:∃c t fr,w.heap[0]?=some (.cells c t fr)/\pP.length<=c.size/\∀(i:Nat) (x:Value),pP[i]?=some x->c[i]?=some x
 var1:∃c t fr,w.heap[1]?=some (.cells c t fr)/\c[0]?=some (rt iZ)
 size:2<w.heap.size
def ι0 (w:World):aD:=fun b=>if b<3 then some ⟨b,0,match w.heap[b]? with|some (.cells c _ _)=>c.size|_=>0⟩ else none
theorem Laid.hr {w:World} (h:Laid w):HR 3 (ι0 w) s0.h w.heap:=by
 have glob:∀g,g<3->∃L,ι0 w g=some L/\L.blk=g/\L.off=0:=fun g hg=>⟨_,if_pos hg,rfl,rfl⟩
 have hdv:∀t,VR (ι0 w) (hd t) (hd t):=by
  intro t
  obtain⟨L,hL,h1,h2⟩:=glob 2 (by decide)
  have:=VR.ptr (ι:=ι0 w) 2 t L hL
  rw[h1,h2,Nat.zero_add] at this
  exact this
 refine⟨?_,?_,?_,glob⟩
 ·intro b o hb
  rw[pR] at hb
  by_cases h1:b=1
  ·subst h1
   rw[if_pos rfl] at hb
   cases hb
   obtain⟨c,t,fr,hH,hc⟩:=h.var1
   refine⟨_,if_pos (by decide),c,t,fr,hH,?_,?_,?_⟩
   ·simp only[hH]
   ·have:=(Array.getElem?_eq_some_iff.1 hc).1
    show 0+1<=c.size
    omega
   ·intro i x hx
    cases i with
    |zero =>
     simp at hx
     subst hx
     exact⟨rt iZ,hc,.iface _ _ _ (.agg _ _ rfl (bS.cons (hdv iZ) (bS.nil _)).2)⟩
    |succ i=>simp at hx
  ·rw[if_neg h1] at hb
   by_cases h0:b=0
   ·subst h0
    rw[if_pos rfl] at hb
    cases hb
    obtain⟨c,t,fr,hH,hl,hc⟩:=h.var0
    refine⟨_,if_pos (by decide),c,t,fr,hH,?_,?_,?_⟩
    ·simp only[hH]
    ·show 0+pP.length<=c.size
     omega
    ·intro i x hx
     exact⟨x,by show c[0+i]?=_;rw[Nat.zero_add];exact hc i x hx,dK _ 1 x (FB x (List.mem_of_getElem? hx))⟩
   ·rw[if_neg h0] at hb;cases hb
 ·intro b1 b2 o1 o2 L1 L2 g1 g2 i1 i2 he
  unfold ι0 at i1 i2
  split at i1
  ·split at i2
   ·cases i1;cases i2;exact he
   ·cases i2
  ·cases i1
 ·intro b L hb
  unfold ι0 at hb
  split at hb
  ·cases hb
   have:=h.size
   show b<_
   omega
  ·cases hb
theorem F1 {ι:aD}{k:Nat}:¬k9 ι s0.h k:=by
 rintro⟨b,o,L,h1,h2,_⟩
 rw[pR] at h1
 by_cases e1:b=1
 ·rw[if_pos e1] at h1;cases h1;cases h2
 ·rw[if_neg e1] at h1
  by_cases e0:b=0
  ·rw[if_pos e0] at h1;cases h1;cases h2
  ·rw[if_neg e0] at h1;cases h1
structure Left (w w':World):Prop where
 os:w'.os=w.os
 tape:w'.tape=w.tape
 output:w'.output=w.output
 size:w.heap.size<=w'.heap.size
 heap:∀k,k<w.heap.size->w'.heap[k]?=w.heap[k]?
theorem ji {C:aS} (W:C.Whole eg Tryz.prog 3) {fuel f:Nat} (h:pu (callB C (a6 C eg fuel) f [] s0)=true) {w:World} (hl:Laid w) :
  dO Tryz.prog f/\Calls Tryz.prog f #[] w fun e w'=>e=.returned (.bool true)/\Left w w':=by
 cases hc:callB C (a6 C eg fuel) f [] s0 with
 |none=>rw[hc] at h;cases h
 |some p =>
  obtain⟨v,s'⟩:=p
  rw[hc] at h
  have hv:v=.bool true:=by
   unfold pu at h
   split at h
   ·rename_i he;cases he;rfl
   ·cases h
  subst hv
  refine fq W fuel f (args':=[]) hc (bS.nil _) hl.hr (fun b h1 _=>?_) fun v' w' ι' hv hp=>?_
  ·show ι0 w b=none
   have:3<=b:=h1
   exact if_neg (by omega)
  ·cases hv
   exact⟨rfl,hp.os,hp.tape,hp.output,hp.size,fun k hk=>hp.frame k hk F1⟩
theorem kO {f:Nat} (h:∀w,Laid w->dO Tryz.prog f/\Calls Tryz.prog f #[] w fun e w'=>e=.returned (.bool true)/\Left w w'):iM f fQ:=by
 refine⟨zN,?_⟩
 intro args s s' v ι w args' R hg ha hr _ hR
 unfold fQ at hg
 split at hg
 ·have:=ha.nil_inv
  subst this
  obtain⟨u,s1,h1,h2⟩:=bind_some hg
  obtain⟨e1,e2,g0,y,g1,hy⟩:=yT h1
  obtain⟨rfl,rfl⟩:=ak h2
  obtain⟨L0,c0,t0,fr0,hL0,hH0,hc0⟩:=hr.cells g0
  obtain⟨L1,c1,t1,fr1,hL1,hH1,hc1⟩:=hr.cells g1
  obtain⟨M0,hM0,b0,o0⟩:=hr.glob 0 (by decide)
  obtain⟨M1,hM1,b1,o1⟩:=hr.glob 1 (by decide)
  obtain⟨M2,hM2,b2,_⟩:=hr.glob 2 (by decide)
  rw[hL0] at hM0;cases hM0
  rw[hL1] at hM1;cases hM1
  have hl:Laid w:=by
   refine⟨⟨c0,t0,fr0,by rw[<- b0];exact hH0,by have:=hc0.2.1;omega,fun i x hx=>?_⟩,⟨c1,t1,fr1,by rw[<- b1];exact hH1,?_⟩,by have:=hr.lt _ _ hM2;omega⟩
   ·obtain⟨z,hz,hv⟩:=hc0.2.2 i x hx
    rw[o0,Nat.zero_add] at hz
    have hxm:=List.mem_of_getElem? hx
    unfold pP at hxm
    obtain⟨n,_,rfl⟩:=List.mem_map.1 hxm
    cases hv
    exact hz
   ·obtain⟨z,hz,hv⟩:=hc1.2.2 0 _ rfl
    rw[o1] at hz
    cases hv with
    |iface _ _ z' hv =>
     rw[mO hr hy hv] at hz
     exact hz
  obtain⟨hcall,hcalls⟩:=h w hl
  refine⟨hcall,Calls.mono hcalls ?_⟩
  rintro e w' ⟨rfl,hleft⟩
  refine hR _ w' ι (.bool true) ⟨aD.le_refl _,fun _ q _=>q,?_,hleft.os,hleft.tape,hleft.output,hleft.size,fun k hk _=>hleft.heap k hk,fun k hk q=>by rw[e1] at q;exact q,by omega⟩
  refine⟨fun b o hb=>?_,fun b1 b2 o1 o2 L1 L2 q1 q2=>hr.inj b1 b2 o1 o2 L1 L2 (by rw[<- e1];exact q1) (by rw[<- e1];exact q2),fun b L hL=>Nat.lt_of_lt_of_le (hr.lt b L hL) hleft.size,hr.glob⟩
  rw[e1] at hb
  obtain⟨L,hL,hO⟩:=hr.obj b o hb
  exact⟨L,hL,hO.of_block (hleft.heap _ (hr.lt b L hL))⟩
 ·exact(aa hg).elim
end Go.Ab.Seat
end
section
namespace Go.Ab.Seat
open Go.Extern Go.Proofs
set_option maxRecDepth 1000000
def kL:Nat:=262
def mJ:Nat:=195
theorem NJ:pu (callB C0 (a6 C0 eg 10000) kL [] s0)=true:=by kernel_rfl
theorem we:iM kL fQ:=kO fun _ hw=>ji jv NJ hw
noncomputable def Qb:Nat->Option (List Value->M Value):=qi fun f=>bif Nat.beq f kL then some fQ else none
noncomputable def C4:aS:=Cs Qb
theorem mE {rest:Nat->Option (List Value->M Value)} (h:∀f g,rest f=some g->iM f g):∀f g,qi rest f=some g->iM f g:=by
 intro f g hg
 unfold qi at hg
 cases h1:Nat.beq f jf<;>rw[h1] at hg
 ·cases h2:Nat.beq f jo<;>rw[h2] at hg
  ·exact h f g hg
  ·cases hg;rw[aL.1 h2];exact zH 1 jo
 ·cases hg;rw[aL.1 h1];exact zH 2 jf
theorem dj {k:Nat}{gk:List Value->M Value}{rest:Nat->Option (List Value->M Value)} (hk:iM k gk) (h:∀f g,rest f=some g->iM f g) :
  ∀f g,(bif Nat.beq f k then some gk else rest f)=some g->iM f g:=by
 intro f g hg
 cases h1:Nat.beq f k<;>rw[h1] at hg
 ·exact h f g hg
 ·cases hg;rw[aL.1 h1];exact hk
theorem IK:C4.Whole eg Tryz.prog 3:=qd _ (FE _ (mE (dj we fun f g hg=>by cases hg)))
theorem O9:pu (callB C4 (a6 C4 eg 10000) mJ [] s0)=true:=by kernel_rfl
theorem vN:iM mJ fQ:=kO fun _ hw=>ji IK O9 hw
#print axioms vN
end Go.Ab.Seat
end
section
namespace Go.Ab
open Go.ChangeShapes Go.WideShapes Go.RowKit
theorem pn {α β:Type}{f:α->Option β}:∀ {l:List α}{r:List β},l.mapM f=some r->l.length=r.length/\∀(i:Nat) (x:α),l[i]?=some x->∃y,r[i]?=some y/\f x=some y
 | [],r,h=>by
  simp at h
  subst h
  exact⟨rfl,fun i x hx=>by simp at hx⟩
 |a::l,r,h=>by
  rw[List.mapM_cons] at h
  simp only[bind,Option.bind_eq_some_iff,pure,Option.some.injEq] at h
  obtain⟨y,hy,ys,hys,rfl⟩:=h
  obtain⟨h1,h2⟩:=pn hys
  refine⟨by simp [h1],fun i x hx=>?_⟩
  cases i with
  |zero=>simp at hx;subst hx;exact⟨y,by simp,hy⟩
  |succ i=>simpa using h2 i x (by simpa using hx)
theorem yj {H:Type}{enc:TypeId×Value->H}{P:Program}{w:World}{base:Nat}{sp:Nat->Bool}{held:Bool}{fuel:Nat}{t e n:Nat}{q:IntKind} (hu:P.underlying t=some (.array n e)) (he:P.underlying e=some (.int q)) (hc:P.cellsOf e=1)
  {cs:List Value}{ds:List (DataW H)}{p:List MemPlace} (h:DataW.trod enc P w base sp held fuel t cs=some (.agg ds,p)) :
  ds.length=n/\∀(i:Nat) (m:Int),ds[i]?=some (.lit (.int q m))->cs[i]?=some (.int q m):=by
 cases fuel with
 |zero=>simp [DataW.trod] at h
 |succ k =>
  rw[DataW.trod_step] at h
  unfold DataW.trodStep at h
  simp only[hu,hc] at h
  split at h
  ·simp only[Option.map_eq_some_iff,Prod.mk.injEq,DataW.agg.injEq] at h
   obtain⟨xs,hx,rfl,_⟩:=h
   obtain⟨h1,h2⟩:=pn hx
   simp only[List.length_range] at h1
   refine⟨by simp [h1],fun i m hm=>?_⟩
   have hi:i<n:=by
    rcases Nat.lt_or_ge i n with hh|hh
    ·exact hh
    ·rw[List.getElem?_eq_none (by simp;omega)] at hm;cases hm
   obtain⟨y,hy,hty⟩:=h2 i i (by rw[List.getElem?_range hi])
   obtain⟨a,ha,rfl,_⟩:=DataW.trod_int he hty
   rw[List.getElem?_map,hy] at hm
   simp only[Option.map_some,Option.some.injEq,DataW.lit.injEq,Lit.int.injEq,true_and] at hm
   subst hm
   have h3:(cs.drop i).take 1=[.int q a]:=by rw[Nat.mul_one] at ha;exact ha
   have h4:((cs.drop i).take 1)[0]?=some (.int q a):=by rw[h3];rfl
   rw[List.getElem?_take_of_lt (by omega),List.getElem?_drop,Nat.add_zero] at h4
   exact h4
  ·cases h
section
variable {H:Type}{enc:TypeId×Value->H}{P:Program}
theorem qB:∀ {ts:List TypeId}{vs:List Value}{ds:List (DataW H)}{ps:List MemPlace}{w:World}{base:Nat}{sp:Nat->Bool}{held:Bool},DataW.TrodAll enc P w base sp held ts vs ds ps->ds.length=ts.length/\vs.length=ts.length
 | [],[],[],_,_,_,_,_,_=>⟨rfl,rfl⟩
 | [],[],_::_,_,_,_,_,_,h=>h.elim
 | [],_::_,_,_,_,_,_,_,h=>h.elim
 |_::_,[],_,_,_,_,_,_,h=>h.elim
 |_::_,_::_,[],_,_,_,_,_,h=>h.elim
 |_::ts,_::vs,_::ds,_,_,_,_,_,h=>by
  obtain⟨p,q,_,h2,_⟩:=h
  obtain⟨a,b⟩:=qB h2
  exact⟨by simp [a],by simp [b]⟩
theorem nt (hl:laidOutB P=true) {W W':World} (hb:Below W.heap.size W W'):∀ {ts:List TypeId}{vs:List Value}{ds:List (DataW H)}{ps:List MemPlace},(∀t∈ts,P.readableRec t=true/\t<P.types.size) ->
  DataW.TrodAll enc P W 0 (fun _=>true) true ts vs ds ps->DataW.TrodAll enc P W' 0 (fun b=>decide (b<W.heap.size)) true ts vs ds ps
 | [],[],[],_,_,h=>h
 | [],[],_::_,_,_,h=>h.elim
 | [],_::_,_,_,_,h=>h.elim
 |_::_,[],_,_,_,h=>h.elim
 |_::_,_::_,[],_,_,h=>h.elim
 |t::ts,_::vs,_::ds,_,hr,h=>by
  have hlt:=h.lt
  obtain⟨p,q,h1,h2,rfl⟩:=h
  obtain⟨r1,r2⟩:=hr t (List.mem_cons_self ..)
  exact⟨p,q,Below.trod hl r1 r2 h1 hb (fun x hx=>hlt x (List.mem_append_left _ hx)),nt hl hb (fun t' ht'=>hr t' (List.mem_cons_of_mem _ ht')) h2,rfl⟩
theorem law_lifts {a:Assume}{C:Checked}{os:Os}{f:FuncId}{fn:Func}{s:ChangeSpec}{conds:List PathCond}{X:World->Array Value->Prop}{tb:TypeId}
  (hX:∀(w w':World) (args:Array Value),w.heap=w'.heap->X w args->X w' args)
  (own:ownKnob C.prog.godebug=none) (started:os.Started) (noInit:C.prog.inits.idxOf? f=none) (hfn:C.prog.funcs[f]?=some fn)
  (witness:∃(w:World) (tape:Tape) (i:Input),w.os=os/\(w.forCall tape i).Shaped C.prog/\i.vars=[]/\Input.okWide C.prog (w.forCall tape i) .any w.heap.size f i /\
   ((s.pre enc C.prog fn conds false (w.forCall tape i).memory i.args/\X (w.forCall tape i).memory i.args)/\sizedMet enc C.prog fn (OpenSpec.ofChange s) false (w.forCall tape i).memory i.args)/\a.holds C.prog (lone (Frame.enter C.prog f i.args .normal) [] (w.forCall tape i)))
  (hl:laidOutB C.prog=true) (hread:∀t∈fn.params.toList,C.prog.readableRec t=true/\t<C.prog.types.size) (hres:fn.resultTypes=#[tb]) (htb:C.prog.underlying tb=some .bool)
  (hs:∀ds:List (DataW H),ds.length=fn.params.toList.length->s.fn H (ds++[])={results:=[.lit (.bool true)],args:=ds}) (hv:s.vars=[])
  (contract:∀(W:World) (base:Nat) (args:Array Value) (ds:List (DataW H)) (ps:List MemPlace),W.ShapedOpen C.prog ->
   (∀(j:Nat) t v,fn.params[j]?=some t->args[j]?=some v->Value.okWide C.prog W .any base t v) ->
   DataW.TrodAll enc C.prog W 0 (fun _=>true) true fn.params.toList args.toList ds ps ->
   (DataW.weightsEach C.prog (fn.params.toList++s.plain.varTypes C.prog) (ds++[])).all (· <= reachBytes)=true->X W args ->
   Calls C.prog f args W fun e W'=>e=.returned (.bool true)/\Below W.heap.size W W') :
  ReturnsInHanded a C os f .any (fun w args=>(s.pre enc C.prog fn conds false w args/\X w args)/\sizedMet enc C.prog fn (OpenSpec.ofChange s) false w args) (s.post enc C.prog fn false true false false):=by
 refine returnsInHanded_of_calls own started noInit witness ?_
 intro w tape i _ hshape _ hok hpre hholds
 obtain⟨_,_,_,fn',hfn',_,_,_,_,hval⟩:=hok
 have e:fn'=fn:=Option.some.inj (hfn'.symm.trans hfn)
 subst e
 obtain⟨⟨⟨ds,gs,before,hw,hc⟩,hx⟩,hz⟩:=hpre
 have hw':=DataW.Whole.of_heap (w':=w.forCall tape i) (by rfl) hw
 have hwt:=hz.weights hw
 have hw0:=hw'
 obtain⟨p,q,hA,hV,_,_,_⟩:=hw0
 rw[hv] at hV
 have hgs:gs=[]/\q=[]:=by
  cases gs with
  |nil=>exact⟨rfl,hV⟩
  |cons g r=>exact absurd hV (by intro h;cases h)
 obtain⟨rfl,rfl⟩:=hgs
 refine(contract (w.forCall tape i) w.heap.size i.args ds p hshape hval hA hwt (hX _ _ _ (by rfl) hx)).mono fun e W' ⟨he,hb⟩=>?_
 subst he
 have hlen:=(qB hA).1
 refine ChangeSpec.post_blind ⟨ds,[],before,[],p,[],hw',?_,?_,?_,Below.frame hb _,fun h=>by cases h⟩
 ·rw[hs ds hlen,hres]
  exact trodAll_mk1 (shut_bool htb true)
 ·rw[hs ds hlen]
  exact nt hl hb hread hA
 ·rw[hs ds hlen,hv]
  rfl
end
end Go.Ab
end
section
namespace Go.Ab
theorem pJ {w:World}{base:Nat}{a:Addr}{n:Nat}{cs:List Value} (h:w.cells? base a n=some cs):cs.length=n/\∀i,i<n->∃y,cs[i]?=some y/\w.cell? (a.add i)=some y:=by
 unfold World.cells? at h
 split at h
 ·obtain⟨h1,h2⟩:=pn h
  simp only[List.length_range] at h1
  refine⟨h1.symm,fun i hi=>?_⟩
  obtain⟨y,hy,hc⟩:=h2 i i (by rw[List.getElem?_range hi])
  exact⟨y,hy,hc⟩
 ·cases h
theorem sJ {w:World}{a:Addr}{v:Value} (h:w.cell? a=some v):a.spot=none/\a.block<w.heap.size:=by
 unfold World.cell? at h
 split at h
 ·rename_i hH
  have hb:=(Array.getElem?_eq_some_iff.1 hH).1
  cases hs:a.spot with
  |none=>exact⟨rfl,hb⟩
  |some k=>simp [hs] at h
 ·cases h
section
variable {H:Type}{enc:TypeId×Value->H}{P:Program}{w:World}{base:Nat}{sp:Nat->Bool}{held:Bool}{fuel:Nat}
end
end Go.Ab
end
