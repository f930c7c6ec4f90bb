import Derived.Test.YtofikbfljjjgeaaGreatDoorE18
set_option linter.unusedVariables false
set_option linter.unusedSimpArgs false
namespace Go.Ab
noncomputable def fz (C:aS) (G n:Nat):Code->Bool
 |.region _ ops draw=>ee (ed C G n) ops.toList&&(match draw with|true=>pN ops|false=>true)
 |.seq a b=>fz C G n a&&fz C G n b
 |.cond c a b=>jE G c&&fz C G n a&&fz C G n b
 |.block _ a=>fz C G n a
 |.loop a=>fz C G n a
 |_=>true
noncomputable def L.keys (l:L):List Nat:=L.rec (motive:=fun _=>List Nat) [] (fun k _ _ ih=>k::ih) l
def eE (km:Nat) (e:aR):Prop:=match e with|.mk _ kept=>∀k∈kept.keys,Nat.testBit km k=true
theorem fL (k:Nat) (v:Value) (l:L) (d:Nat->Value) (t:Nat):L.look (.cons k v l) d t=if k=t then v else l.look d t:=by
 show Bool.rec (motive:=fun _=>Value) (l.look d t) v (Nat.beq k t)=_
 cases h:Nat.beq k t with
 |true=>rw[if_pos (aL.1 h)]
 |false=>rw[if_neg (bh.1 h)]
theorem iq (k:Nat) (v:Value) (l:L):(L.cons k v l).keys=k::l.keys:=rfl
theorem y9 (d:Nat) (v:Value) (k:Nat) (u:Value) (t:L):L.set d v (.cons k u t)=if k=d then .cons d v t else .cons k u (L.set d v t):=by
 show Bool.rec (motive:=fun _=>L) (.cons k u (L.set d v t)) (.cons d v t) (Nat.beq k d)=_
 cases h:Nat.beq k d with
 |true=>rw[if_pos (aL.1 h)]
 |false=>rw[if_neg (bh.1 h)]
theorem xF (d:Nat) (v:Value) (f:Nat->Value) (t:Nat):∀l:L,(L.set d v l).look f t=if d=t then v else l.look f t:=by
 intro l
 induction l with
 |nil=>rw[show L.set d v .nil=.cons d v .nil from rfl,fL]
 |cons k u l ih =>
  rw[y9]
  by_cases h:k=d
  ·subst h
   rw[if_pos rfl,fL,fL]
   by_cases h:k=t
   ·rw[if_pos h,if_pos h]
   ·rw[if_neg h,if_neg h,if_neg h]
  ·rw[if_neg h,fL,fL,ih]
   by_cases h1:k=t
   ·rw[if_pos h1,if_pos h1,if_neg (by omega)]
   ·rw[if_neg h1,if_neg h1]
theorem EL (d:Nat) (v:Value) (x:Nat):∀l:L,x∈(L.set d v l).keys->x=d\/x∈l.keys:=by
 intro l
 induction l with
 |nil=>intro h;simp [show L.set d v .nil=.cons d v .nil from rfl,iq] at h;rcases h with h|h;exact .inl h;cases h
 |cons k u l ih =>
  rw[y9]
  by_cases h:k=d
  ·rw[if_pos h]
   intro hx
   rw[iq] at hx ⊢
   rcases List.mem_cons.1 hx with hx|hx
   ·exact .inl hx
   ·exact .inr (List.mem_cons_of_mem _ hx)
  ·rw[if_neg h]
   intro hx
   rw[iq] at hx ⊢
   rcases List.mem_cons.1 hx with hx|hx
   ·exact .inr (by rw[hx];exact List.mem_cons_self ..)
   ·exact(ih hx).imp id (List.mem_cons_of_mem _)
theorem qy (km k:Nat) (v:Value) (l kept:L):d6 km (.cons k v l) kept=if Nat.testBit km k=true then L.set k v (d6 km l kept) else d6 km l kept:=by
 show Bool.rec (motive:=fun _=>L) (d6 km l kept) (L.set k v (d6 km l kept)) (Nat.testBit km k)=_
 cases h:Nat.testBit km k with
 |true=>rw[if_pos rfl]
 |false=>rw[if_neg (by simp)]
theorem CL (f:Nat->Value) (t:Nat):∀l:L,t∉l.keys->l.look f t=f t:=by
 intro l
 induction l with
 |nil=>intro _;rfl
 |cons k v l ih =>
  intro h
  rw[iq,List.mem_cons,not_or] at h
  rw[fL,if_neg (fun e=>h.1 e.symm),ih h.2]
theorem Aj (km:Nat) (kept:L) (f:Nat->Value) (t:Nat) (ht:Nat.testBit km t=true):∀loc:L,(d6 km loc kept).look f t=loc.look (kept.look f) t:=by
 intro loc
 induction loc with
 |nil=>rfl
 |cons k v l ih =>
  rw[qy,fL]
  by_cases h:k=t
  ·subst h
   rw[if_pos ht,if_pos rfl,xF,if_pos rfl]
  ·rw[if_neg h]
   split
   ·rw[xF,if_neg h,ih]
   ·exact ih
theorem rR (km:Nat) (kept:L) (h:∀k∈kept.keys,Nat.testBit km k=true):∀loc:L,∀k∈(d6 km loc kept).keys,Nat.testBit km k=true:=by
 intro loc
 induction loc with
 |nil=>exact h
 |cons k v l ih =>
  rw[qy]
  split
  ·rename_i hk
   intro x hx
   rcases EL _ _ _ _ hx with rfl|hx
   ·exact hk
   ·exact ih x hx
  ·exact ih
theorem eE.flush {km:Nat}{e:aR} (h:eE km e):eE km (ju km e):=by
 obtain⟨loc,kept⟩:=e
 exact rR km kept h loc
theorem gN.flush {ι:aD}{e:aR}{a:Act}{km:Nat} (hk:eE km e) (h:gN ι e a):gN ι (ju km e) a:=by
 obtain⟨loc,kept⟩:=e
 intro t
 show VR ι ((d6 km loc kept).look (fun _=>Ab.top) t) _
 cases hb:Nat.testBit km t with
 |true=>rw[Aj km kept _ t hb];exact h t
 |false =>
  rw[CL _ t _ (fun q=>by rw[rR km kept hk loc t q] at hb;cases hb)]
  exact .top _
theorem eE.put {km:Nat}{e:aR} (h:eE km e) (dst:Option Nat) (v:Value):eE km (put e dst v):=by
 obtain⟨loc,kept⟩:=e
 cases dst<;>exact h
def xb:Ex->Exit
 |.normal=>.normal
 |.exit id=>.exit id
 |.ret=>.ret
structure IL (C:aS) (P:Program) (G:Nat):Prop where
 loc:cM C
 sound:∀(f:Nat) g,C.sm f=some g->∀(args:List Value) (s s':St) (v:Value) (ι:aD) (w:World) (args':List Value) (R:Ending->World->Prop),
  g args s=some (v,s')->bS ι args args'->HR G ι s.h w.heap->(∀b,s.c<=b->b<s'.c->ι b=none) ->
  (∀v' w' ι',VR ι' v v'->aM G ι ι' s s' w w'->R (.returned v') w')->dO P f/\Calls P f args'.toArray w R
 ex:∀(f:Nat) g,C.ex f=some g->∀(args:List Value) (s s':St) (v:Value) (ι:aD) (w:World) (args':List Value),
  g args s=some (v,s')->bS ι args args'->HR G ι s.h w.heap->(∀b,s.c<=b->b<s'.c->ι b=none) ->
  ∃v' w' ι',(callFunc f args'.toArray).run P w=.ok (.value v') w'/\VR ι' v v'/\aM G ι ι' s s' w w'
 vi:ri C P G
section
variable {C:aS}{eg:TypeId->Bool}{P:Program}{G:Nat}
theorem Dx {n:Nat}{rec:kf}{ops:Array Oper} (hs:cM C) (hrl:bZ rec) (sound:kR C eg P G n rec):∀(os:List Oper) (e e':aR) (s s':St) (ι:aD) (w:World) (a:Act) (Q:Exit->Act->World->Prop),
  bP C eg rec ops.toList os e s=some (e',s')->(∀o∈os,ed C G n o=true)->HR G ι s.h w.heap->gN ι e a->a.tmps.size=n->(∀b,s.c<=b->b<s'.c->ι b=none) ->
  (∀ι' a' w',gN ι' e' a'->aM G ι ι' s s' w w'->a'.tmps.size=n->a'.defers=a.defers->Q .normal a' w')->wpList P ops Q os a w:=by
 intro os
 induction os with
 |nil =>
  intro e e' s s' ι w a Q h _ hr he hn _ hQ
  obtain⟨rfl,rfl⟩:=ak h
  exact hQ ι a w he (aM.refl hr rfl rfl) hn rfl
 |cons o os ih =>
  intro e e' s s' ι w a Q h hok hr he hn fr hQ
  have h':gA C eg rec e o (bP C eg rec ops.toList os) (aJ ops.toList e o) s=some (e',s'):=h
  have hoo:=hok o (List.mem_cons_self ..)
  have hdst:∀d,o.dst=some d->d<a.tmps.size:=fun d hd=>by rw[hn];exact ed.dst hoo hd
  unfold wpList
  cases hw:aJ ops.toList e o with
  |none=>rw[hw] at h';exact(aa (s:=s) h').elim
  |some b =>
   rw[hw] at h'
   rw[pq hw fun t _=>he t]
   cases b with
   |false =>
    rw[if_neg (by simp)]
    have h2:eF e o.dst br (bP C eg rec ops.toList os) s=some (e',s'):=h'
    rw[bE] at h2
    refine ih _ _ _ _ ι w _ Q h2 (fun p hp=>hok p (List.mem_cons_of_mem _ hp)) hr (he.put hdst (dK ι 1 _ rfl)) (by rw[td];exact hn) fr ?_
    intro ι' a' w' h3 h4 h5 h6
    exact hQ ι' a' w' h3 h4 h5 (by rw[h6,lH])
   |true =>
    rw[if_pos rfl]
    obtain⟨v,s1,h1,h2⟩:=bind_some (show ((dp C eg rec e o).bind fun v=>eF e o.dst v (bP C eg rec ops.toList os)) s=some (e',s') from h')
    rw[bE] at h2
    obtain⟨_,_,L1⟩:=gE hs hrl e o _ _ _ h1
    obtain⟨_,_,L2⟩:=oz (eg:=eg) hs hrl ops.toList os _ _ _ _ h2
    have c1:=L1.cle
    have c2:=L2.cle
    refine .inl (sound e o s s1 v ι w a _ Q hoo h1 (fun x hx=>s9 hr (ed.operand hoo hx) fun t _=>he t) hr (fun b hb hb'=>fr b hb (by omega)) ?_)
    intro v' w' ι' hv hp
    refine ih _ _ _ _ ι' w' _ Q h2 (fun p hp=>hok p (List.mem_cons_of_mem _ hp)) hp.hr ((he.mono hp.ext).put hdst hv) (by rw[td];exact hn)
     (fun b hb hb'=>hp.new b (fr b (by omega) hb') (.inr hb)) ?_
    intro ι2 a2 w2 h3 h4 h5 h6
    exact hQ ι2 a2 w2 h3 (hp.trans h4) h5 (by rw[h6,lH])
theorem yr {km:Nat}{rec:kf}{all:List Oper}:∀(os:List Oper) (e e':aR) (s s':St),bP C eg rec all os e s=some (e',s')->eE km e->eE km e':=by
 intro os
 induction os with
 |nil=>intro e e' s s' h hk;obtain⟨rfl,rfl⟩:=ak h;exact hk
 |cons o os ih =>
  intro e e' s s' h hk
  have h':gA C eg rec e o (bP C eg rec all os) (aJ all e o) s=some (e',s'):=h
  cases hw:aJ all e o with
  |none=>rw[hw] at h';exact(aa (s:=s) h').elim
  |some b =>
   rw[hw] at h'
   cases b with
   |false =>
    have h2:eF e o.dst br (bP C eg rec all os) s=some (e',s'):=h'
    rw[bE] at h2
    exact ih _ _ _ _ h2 (hk.put _ _)
   |true =>
    obtain⟨v,s1,h1,h2⟩:=bind_some (show ((dp C eg rec e o).bind fun v=>eF e o.dst v (bP C eg rec all os)) s=some (e',s') from h')
    rw[bE] at h2
    exact ih _ _ _ _ h2 (hk.put _ _)
theorem wD {km:Nat}{rec:kf}{ops:Array Oper}{e e':aR}{s s':St} (h:kZ C eg rec ops e s=some (e',s')) (hk:eE km e):eE km e':=by
 unfold kZ at h
 obtain⟨⟨e1,fps⟩,s1,h1,h2⟩:=bind_some h
 obtain⟨E,S,V,F,r1,r2,r3,r4,r5,_,r6⟩:=m8 _ _ _ _ _ h1
 have:∀k,k<=ops.toList.length->eE km (E k):=by
  intro k
  induction k with
  |zero=>intro _;rw[r1];exact hk
  |succ k ih =>
   intro hkk
   rw[(r6 k _ (List.getElem?_eq_getElem (by omega))).env]
   exact(ih (by omega)).put _ _
 have hlast:=this _ (Nat.le_refl _)
 rw[r3] at hlast
 unfold ii at h2
 cases hc:bJ (Region.before ops).toList [] 0 fps with
 |false=>rw[hc] at h2;exact(aa (s:=s1) h2).elim
 |true =>
  rw[hc] at h2
  obtain⟨rfl,rfl⟩:=ak h2
  exact hlast
theorem AY {n km:Nat}{rec:kf}{ops:Array Oper}{draw:Bool}{id:Nat}{e e':aR}{s s':St}{x:Ex} (hm:P.follows .mixedOrders=true) (hs:cM C) (hrl:bZ rec) (sound:kR C eg P G n rec)
  (hok:fz C G n (.region id ops draw)=true) (h:oB C eg rec km e ops draw s=some ((x,e'),s')) (hk:eE km e) :
  eE km e'/\x=.normal/\∀(ι:aD) (w:World) (a:Act) (Q:Exit->Act->World->Prop),HR G ι s.h w.heap->gN ι e a->a.tmps.size=n->(∀b,s.c<=b->b<s'.c->ι b=none) ->
   (∀ι' a' w',gN ι' e' a'->aM G ι ι' s s' w w'->a'.tmps.size=n->a'.defers=a.defers->Q .normal a' w')->(Code.region id ops draw).wp P Q a w:=by
 cases draw with
 |false =>
  have hok':(ee (ed C G n) ops.toList&&true)=true:=hok
  rw[Bool.and_eq_true,bT,List.all_eq_true] at hok'
  obtain⟨e1,s1,h1,h2⟩:=bind_some (show ((bP C eg rec ops.toList ops.toList e).bind (d7 km)) s=some ((x,e'),s') from h)
  unfold d7 at h2
  rw[fO] at h2
  obtain⟨h3,rfl⟩:=ak h2
  cases h3
  have hk1:=yr _ _ _ _ _ h1 hk
  refine⟨hk1.flush,rfl,fun ι w a Q hr he hn fr hQ=>wp_region_list (Dx hs hrl sound _ _ _ _ _ ι w a Q h1 hok'.1 hr he hn fr fun ι' a' w' q1 q2 q3 q4=>hQ ι' a' w' (q1.flush hk1) q2 q3 q4)⟩
 |true =>
  have hok':(ee (ed C G n) ops.toList&&pN ops)=true:=hok
  rw[Bool.and_eq_true,bT,List.all_eq_true] at hok'
  obtain⟨e1,s1,h1,h2⟩:=bind_some (show ((kZ C eg rec ops e).bind (d7 km)) s=some ((x,e'),s') from h)
  unfold d7 at h2
  rw[fO] at h2
  obtain⟨h3,rfl⟩:=ak h2
  cases h3
  have hk1:=wD h1 hk
  refine⟨hk1.flush,rfl,fun ι w a Q hr he hn fr hQ=>GS hm hs hrl sound (fun i o ho=>hok'.1 o (List.mem_of_getElem? (by rw[Array.getElem?_toList];exact ho))) hok'.2 h1 hr he hn fr fun ι' a' w' q1 q2 q3 q4=>hQ ι' a' w' (q1.flush hk1) q2 q3 q4⟩
def ti (C:aS) (eg:TypeId->Bool) (P:Program) (G fuel:Nat):Prop :=
 ∀(n km:Nat) (c:Code) (e e':aR) (s s':St) (x:Ex),a6 C eg fuel km c e s=some ((x,e'),s')->fz C G n c=true->eE km e ->
  eE km e'/\∀(ι:aD) (w:World) (a:Act) (Q:Exit->Act->World->Prop),HR G ι s.h w.heap->gN ι e a->a.tmps.size=n->(∀b,s.c<=b->b<s'.c->ι b=none) ->
   (∀ι' a' w',gN ι' e' a'->aM G ι ι' s s' w w'->a'.tmps.size=n->a'.defers=a.defers->Q (xb x) a' w') ->
   c.wp P Q a w/\∀b,c=.loop b->Code.rounds P b Q fuel a w
structure aS.Whole (C:aS) (eg:TypeId->Bool) (P:Program) (G:Nat):Prop where
 ok:C.Ok eg P
 code:∀f fn b,C.fn.get f=some fn->fn.body=some b->fz C G fn.ntmps b=true
 mixed:P.follows .mixedOrders=true
 sm:IL C P G
theorem Hf (km:Nat):∀(vs:List Value) (i:Nat) (l:L) (t:Nat),(bO km vs i l).look (fun _=>top) t=top\/(i<=t/\vs[t - i]?=some ((bO km vs i l).look (fun _=>top) t))\/(bO km vs i l).look (fun _=>top) t=l.look (fun _=>top) t:=by
 intro vs
 induction vs with
 |nil=>intro i l t;exact .inr (.inr rfl)
 |cons v vs ih =>
  intro i l t
  have e:bO km (v::vs) i l=if Nat.testBit km i=true then bO km vs (i+1) (.cons i v l) else bO km vs (i+1) l:=by
   show Bool.rec (motive:=fun _=>L) (bO km vs (i+1) l) (bO km vs (i+1) (.cons i v l)) (Nat.testBit km i)=_
   cases h:Nat.testBit km i with
   |true=>rw[if_pos rfl]
   |false=>rw[if_neg (by simp)]
  rw[e]
  have up:∀u:Value,i+1<=t/\vs[t - (i+1)]?=some u->i<=t/\(v::vs)[t - i]?=some u:=by
   rintro u ⟨h1,h2⟩
   refine⟨by omega,?_⟩
   rw[show t - i=(t - (i+1))+1 by omega,List.getElem?_cons_succ];exact h2
  split
  ·rcases ih (i+1) (.cons i v l) t with h|h|h
   ·exact .inl h
   ·exact .inr (.inl (up _ h))
   ·rw[h,fL]
    by_cases hi:i=t
    ·subst hi
     rw[if_pos rfl]
     exact .inr (.inl ⟨Nat.le_refl _,by simp⟩)
    ·rw[if_neg hi];exact .inr (.inr rfl)
  ·rcases ih (i+1) l t with h|h|h
   ·exact .inl h
   ·exact .inr (.inl (up _ h))
   ·exact .inr (.inr h)
theorem CU (km:Nat):∀(vs:List Value) (i:Nat) (l:L),(∀k∈l.keys,Nat.testBit km k=true)->∀k∈(bO km vs i l).keys,Nat.testBit km k=true:=by
 intro vs
 induction vs with
 |nil=>intro i l h;exact h
 |cons v vs ih =>
  intro i l h
  have e:bO km (v::vs) i l=if Nat.testBit km i=true then bO km vs (i+1) (.cons i v l) else bO km vs (i+1) l:=by
   show Bool.rec (motive:=fun _=>L) (bO km vs (i+1) l) (bO km vs (i+1) (.cons i v l)) (Nat.testBit km i)=_
   cases h:Nat.testBit km i with
   |true=>rw[if_pos rfl]
   |false=>rw[if_neg (by simp)]
  rw[e]
  split
  ·rename_i hb
   refine ih _ _ fun k hk=>?_
   rw[iq] at hk
   rcases List.mem_cons.1 hk with rfl|hk
   ·exact hb
   ·exact h k hk
  ·exact ih _ _ h
theorem Gq {ι:aD} (km n:Nat) {args args':List Value} (h:bS ι args args'):gN ι (uv km args) {tmps:=args'.toArray++Array.replicate (n - args'.toArray.size) undef,defers:=[]}:=by
 intro t
 show VR ι ((bO km args 0 .nil).look (fun _=>top) t) _
 rcases Hf km args 0 .nil t with e|⟨_,e⟩|e
 ·rw[e];exact .top _
 ·obtain⟨y,hy,hv⟩:=h.get e
  have hlt:t<args'.length:=by
   rcases Nat.lt_or_ge t args'.length with hh|hh
   ·exact hh
   ·rw[List.getElem?_eq_none (by omega)] at hy;cases hy
  have:(args'.toArray++Array.replicate (n - args'.toArray.size) undef).getD t undef=y:=by
   rw[Array.getD_eq_getD_getElem?,Array.getElem?_append_left (by simpa using hlt)]
   simp only[Nat.sub_zero] at hy
   simp [hy]
  simp only[this]
  exact hv
 ·rw[e];exact .top _
theorem AP (km:Nat) (args:List Value):eE km (uv km args):=CU km args 0 .nil (by intro k hk;cases hk)
theorem xg (ok:C.Ok eg P) {ι:aD}{e:aR}{a:Act} (he:gN ι e a) (w:World):∀(rs:List ResultVar) (vs:List Value) (s s':St),cU C e rs s=some (vs,s')->HR G ι s.h w.heap ->
  s'.h=s.h/\s'.c=s.c/\∃vs',bS ι vs vs'/\(rs.mapM (m:=Sem) fun(r:ResultVar)=>match r with|.tmp t=>pure (a.tmps.getD t undef)|.cell b t=>do loadVar t (<- asAddr (a.tmps.getD b undef))).run P w=.ok vs' w:=by
 intro rs
 induction rs with
 |nil =>
  intro vs s s' h _
  obtain⟨rfl,rfl⟩:=ak (show M.ret [] s=some (vs,s') from h)
  exact⟨rfl,rfl,[],bS.nil ι,rfl⟩
 |cons r rs ih =>
  intro vs s s' h hr
  obtain⟨v,s1,h1,h2⟩:=bind_some (show ((mI C e r).bind fun v=>(cU C e rs).bind fun vs=>M.ret (v::vs)) s=some (vs,s') from h)
  obtain⟨us,s2,h3,h4⟩:=bind_some h2
  obtain⟨rfl,rfl⟩:=ak h4
  have one:s1.h=s.h/\s1.c=s.c/\∃v',VR ι v v'/\(match r with|.tmp t=>(pure (a.tmps.getD t undef):Sem Value)|.cell b t=>do loadVar t (<- asAddr (a.tmps.getD b undef))).run P w=.ok v' w:=by
   cases r with
   |tmp t =>
    obtain⟨rfl,rfl⟩:=ak (show M.ret (rd e t) s=some (v,s1) from h1)
    exact⟨rfl,rfl,_,he t,rfl⟩
   |cell b t =>
    obtain⟨q1,q2,ad,v',q3,q4,q5,q6⟩:=vw (P:=P) ok hr t (he b) (show fG C t (rd e b) s=some (v,s1) from h1)
    refine⟨q1,q2,v',q6,?_⟩
    simp only[q3,asAddr,Sem.run_bind,Sem.run_pure,Result.andThen_ok,q5]
  obtain⟨q1,q2,v',q3,q4⟩:=one
  obtain⟨p1,p2,vs',p3,p4⟩:=ih us s1 s' h3 (by rw[q1];exact hr)
  refine⟨p1.trans q1,p2.trans q2,v'::vs',bS.cons q3 p3,?_⟩
  simp only[List.mapM_cons,Sem.run_bind,Sem.run_pure]
  erw [q4]
  simp only[Result.andThen_ok]
  erw [p4]
  rfl
theorem zR (ok:C.Ok eg P) {ι:aD}{e:aR}{a:Act}{fn:Func}{vs:List Value}{s s':St} (he:gN ι e a) (w:World) (h:cU C e fn.results.toList s=some (vs,s')) (hr:HR G ι s.h w.heap) :
  s'.h=s.h/\s'.c=s.c/\∃v',VR ι (tf vs) v'/\(results fn a.tmps).run P w=.ok v' w:=by
 obtain⟨z1,z2,vs',q1,q2⟩:=xg ok he w _ _ _ _ h hr
 refine⟨z1,z2,if h:vs'.toArray.size=1 then vs'.toArray[0] else .tuple vs'.toArray,?_,?_⟩
 ·cases vs with
  |nil =>
   have:=q1.nil_inv
   subst this
   exact .tuple _ _ rfl (bS.nil ι).2
  |cons x l =>
   obtain⟨y,l',rfl,h1,h2⟩:=q1.cons_inv
   cases l with
   |nil =>
    have:=h2.nil_inv
    subst this
    exact h1
   |cons x2 l2 =>
    obtain⟨y2,l2',rfl,h3,h4⟩:=h2.cons_inv
    rw[dif_neg (by simp)]
    exact .tuple _ _ q1.1 q1.2
 ·unfold results
  rw[Array.mapM_eq_mapM_toList]
  rw[Sem.run_bind,Sem.run_map]
  erw [q2]
  rfl
theorem uj (W:C.Whole eg P G) {fuel:Nat} (h:ti C eg P G fuel) (f:Nat) (args:List Value) (s s':St) (v:Value) (ι:aD) (w:World) (args':List Value) (R:Ending->World->Prop)
  (hc:callB C (a6 C eg fuel) f args s=some (v,s')) (ha:bS ι args args') (hr:HR G ι s.h w.heap) (fr:∀b,s.c<=b->b<s'.c->ι b=none)
  (hR:∀v' w' ι',VR ι' v v'->aM G ι ι' s s' w w'->R (.returned v') w'):dO P f/\Calls P f args'.toArray w R:=by
  unfold callB at hc
  cases hf:C.fn.get f with
  |none=>rw[hf] at hc;exact(aa hc).elim
  |some fn =>
   rw[hf] at hc
   simp only at hc
   cases hb:fn.body with
   |none=>rw[hb] at hc;exact(aa hc).elim
   |some body =>
    rw[hb] at hc
    cases hl:Nat.ble (len args) fn.ntmps with
    |false=>rw[hl] at hc;exact(aa hc).elim
    |true =>
     rw[hl] at hc
     simp only at hc
     have hP:=W.ok.fn f fn hf
     refine⟨⟨fn,body,hP,hb,W.ok.named f fn body hf hb⟩,?_⟩
     have hlen:args.length<=fn.ntmps:=by have:=aH.1 hl;rwa [eD] at this
     obtain⟨s1,h1,rfl⟩:=lQ hc
     obtain⟨⟨x,e'⟩,s2,h2,h3⟩:=bind_some h1
     obtain⟨_,hwp⟩:=h fn.ntmps _ body _ e' _ s2 x h2 (W.code f fn body hf hb) (AP _ args)
     have hx:∃vs,cU C e' fn.results.toList s2=some (vs,s1)/\v=tf vs/\(xb x=.normal\/xb x=.ret):=by
      cases x with
      |exit j=>exact(aa (s:=s2) h3).elim
      |normal =>
       obtain⟨vs,s3,q1,q2⟩:=bind_some (show iR C e' fn.results.toList s2=some (v,s1) from h3)
       obtain⟨q4,rfl⟩:=ak q2
       exact⟨vs,q1,q4,.inl rfl⟩
      |ret =>
       obtain⟨vs,s3,q1,q2⟩:=bind_some (show iR C e' fn.results.toList s2=some (v,s1) from h3)
       obtain⟨q4,rfl⟩:=ak q2
       exact⟨vs,q1,q4,.inr rfl⟩
     obtain⟨vs,hvs,rfl,hex⟩:=hx
     obtain⟨_,_,LR⟩:=lD C e' _ _ _ _ hvs
     have hcle:=LR.cle
     refine calls_of_wp hP hb (hwp ι w _ _ hr (Gq _ fn.ntmps ha) ?_ (fun b hb1 hb2=>fr b hb1 (Nat.lt_of_lt_of_le hb2 hcle)) ?_).1
     ·have:=ha.1
      simp;omega
     ·intro ι' a' w' he hp hn hd
      obtain⟨z1,z2,v',hv',hrun⟩:=zR (P:=P) (fn:=fn) W.ok he w' hvs hp.hr
      have hpost:=hR v' w' ι' hv' (hp.log rfl rfl z1 z2)
      rcases hex with hex|hex<;>(rw[hex];exact⟨hd,v',hrun,hpost⟩)
theorem wx (W:C.Whole eg P G) {fuel:Nat} (h:ti C eg P G fuel):mP C P G (a6 C eg fuel):=by
 intro f args s s' v ι w args' R hc ha hr fr hR
 unfold cr at hc
 cases hsm:C.sm f with
 |some g =>
  rw[hsm] at hc
  exact .inr (W.sm.sound f g hsm args s s' v ι w args' R hc ha hr fr hR)
 |none =>
  rw[hsm] at hc
  simp only at hc
  cases hex:C.ex f with
  |some g =>
   rw[hex] at hc
   obtain⟨v',w',ι',h1,h2,h3⟩:=W.sm.ex f g hex args s s' v ι w args' hc ha hr fr
   exact .inl ⟨v',w',h1,hR v' w' ι' h2 h3⟩
  |none =>
   rw[hex] at hc
   exact .inr (uj W h f args s s' v ι w args' R hc ha hr fr hR)
theorem Ej (W:C.Whole eg P G):∀fuel,ti C eg P G fuel:=by
 intro fuel
 induction fuel with
 |zero=>intro n km c e e' s s' x h;exact(aa (s:=s) h).elim
 |succ fuel ih =>
  intro n km c e e' s s' x h hok hk
  have hs:=W.sm.loc
  have hrl:=gq (eg:=eg) hs fuel
  have sound:kR C eg P G n (a6 C eg fuel):=Hg W.ok (wx W ih) W.sm.vi
  have h':yV C eg (a6 C eg fuel) km c e s=some ((x,e'),s'):=h
  -- one code behind another
  have both:∀(c1 c2:Code),fz C G n c1=true->fz C G n c2=true->((a6 C eg fuel km c1 e).bind (jb (a6 C eg fuel km c2))) s=some ((x,e'),s') ->
    eE km e'/\∀(ι:aD) (w:World) (a:Act) (Q:Exit->Act->World->Prop),HR G ι s.h w.heap->gN ι e a->a.tmps.size=n->(∀b,s.c<=b->b<s'.c->ι b=none) ->
     (∀ι' a' w',gN ι' e' a'->aM G ι ι' s s' w w'->a'.tmps.size=n->a'.defers=a.defers->Q (xb x) a' w') ->
     c1.wp P (Exit.then (c2.wp P Q) Q) a w/\∀b,c2=.loop b->c1.wp P (Exit.then (Code.rounds P b Q fuel) Q) a w:=by
   intro c1 c2 ok1 ok2 hh
   obtain⟨⟨x1,e1⟩,s1,h1,h2⟩:=bind_some hh
   obtain⟨k1,w1⟩:=ih n km c1 e e1 s s1 x1 h1 ok1 hk
   obtain⟨_,_,L1⟩:=hrl km c1 e _ _ _ h1
   cases x1 with
   |normal =>
    have h3:a6 C eg fuel km c2 e1 s1=some ((x,e'),s'):=h2
    obtain⟨k2,w2⟩:=ih n km c2 e1 e' s1 s' x h3 ok2 k1
    obtain⟨_,_,L2⟩:=hrl km c2 e1 _ _ _ h3
    have c1':=L1.cle
    have c2':=L2.cle
    refine⟨k2,fun ι w a Q hr he hn fr hQ=>?_⟩
    have go:∀ι' a' w',gN ι' e1 a'->aM G ι ι' s s1 w w'->a'.tmps.size=n->a'.defers=a.defers->c2.wp P Q a' w'/\∀b,c2=.loop b->Code.rounds P b Q fuel a' w':=by
     intro ι' a' w' q1 q2 q3 q4
     exact w2 ι' w' a' Q q2.hr q1 q3 (fun b hb hb'=>q2.new b (fr b (by omega) hb') (.inr hb)) fun ι2 a2 w2 p1 p2 p3 p4=>hQ ι2 a2 w2 p1 (q2.trans p2) p3 (by rw[p4,q4])
    exact⟨(w1 ι w a _ hr he hn (fun b hb hb'=>fr b hb (by omega)) fun ι' a' w' q1 q2 q3 q4=>(go ι' a' w' q1 q2 q3 q4).1).1,
     fun b hb=>(w1 ι w a _ hr he hn (fun b hb hb'=>fr b hb (by omega)) fun ι' a' w' q1 q2 q3 q4=>(go ι' a' w' q1 q2 q3 q4).2 b hb).1⟩
   |exit j =>
    obtain⟨h3,rfl⟩:=ak h2
    cases h3
    refine⟨k1,fun ι w a Q hr he hn fr hQ=>⟨(w1 ι w a (Exit.then (c2.wp P Q) Q) hr he hn fr hQ).1,fun b hb=>(w1 ι w a (Exit.then (Code.rounds P b Q fuel) Q) hr he hn fr hQ).1⟩⟩
   |ret =>
    obtain⟨h3,rfl⟩:=ak h2
    cases h3
    refine⟨k1,fun ι w a Q hr he hn fr hQ=>⟨(w1 ι w a (Exit.then (c2.wp P Q) Q) hr he hn fr hQ).1,fun b hb=>(w1 ι w a (Exit.then (Code.rounds P b Q fuel) Q) hr he hn fr hQ).1⟩⟩
  cases c
  case skip =>
   obtain⟨h1,rfl⟩:=ak (show M.ret (Ex.normal,e) s=_ from h')
   cases h1
   exact⟨hk,fun ι w a Q hr he hn fr hQ=>⟨wp_skip (hQ ι a w he (aM.refl hr rfl rfl) hn rfl),by intro b hb;cases hb⟩⟩
  case region id ops draw =>
   obtain⟨k1,rfl,w1⟩:=AY W.mixed hs hrl sound hok h' hk
   exact⟨k1,fun ι w a Q hr he hn fr hQ=>⟨w1 ι w a Q hr he hn fr hQ,by intro b hb;cases hb⟩⟩
  case seq c1 c2 =>
   have hok':(fz C G n c1&&fz C G n c2)=true:=hok
   rw[Bool.and_eq_true] at hok'
   obtain⟨k1,w1⟩:=both c1 c2 hok'.1 hok'.2 h'
   exact⟨k1,fun ι w a Q hr he hn fr hQ=>⟨wp_seq (w1 ι w a Q hr he hn fr hQ).1,by intro b hb;cases hb⟩⟩
  case cond c c1 c2 =>
   have hok':(jE G c&&fz C G n c1&&fz C G n c2)=true:=hok
   rw[Bool.and_eq_true,Bool.and_eq_true] at hok'
   have h2:iV (a6 C eg fuel) km e c c1 c2 s=some ((x,e'),s'):=h'
   unfold iV at h2
   have hev:∀(ι:aD) (w:World) (a:Act),HR G ι s.h w.heap->gN ι e a->VR ι (ae e c) (a.eval c):=fun ι w a hr he=>s9 hr hok'.1.1 fun t _=>he t
   generalize ae e c=q at h2 hev
   cases q with
   |bool b =>
    cases b with
    |true =>
     obtain⟨k1,w1⟩:=ih n km c1 e e' s s' x h2 hok'.1.2 hk
     refine⟨k1,fun ι w a Q hr he hn fr hQ=>⟨wp_cond_true ?_ (w1 ι w a Q hr he hn fr hQ).1,by intro b hb;cases hb⟩⟩
     have:=hev ι w a hr he
     generalize a.eval c=q' at this
     cases this;rfl
    |false =>
     obtain⟨k1,w1⟩:=ih n km c2 e e' s s' x h2 hok'.2 hk
     refine⟨k1,fun ι w a Q hr he hn fr hQ=>⟨wp_cond_false ?_ (w1 ι w a Q hr he hn fr hQ).1,by intro b hb;cases hb⟩⟩
     have:=hev ι w a hr he
     generalize a.eval c=q' at this
     cases this;rfl
   |_=>exact(aa (s:=s) h2).elim
  case block id c1 =>
   obtain⟨⟨x1,e1⟩,s1,h1,h2⟩:=bind_some (show ((a6 C eg fuel km c1 e).bind (kJ id)) s=_ from h')
   obtain⟨k1,w1⟩:=ih n km c1 e e1 s s1 x1 h1 hok hk
   cases x1 with
   |normal =>
    obtain⟨h3,rfl⟩:=ak h2
    cases h3
    exact⟨k1,fun ι w a Q hr he hn fr hQ=>⟨wp_block (w1 ι w a (Exit.inBlock id Q) hr he hn fr hQ).1,by intro b hb;cases hb⟩⟩
   |ret =>
    obtain⟨h3,rfl⟩:=ak h2
    cases h3
    exact⟨k1,fun ι w a Q hr he hn fr hQ=>⟨wp_block (w1 ι w a (Exit.inBlock id Q) hr he hn fr hQ).1,by intro b hb;cases hb⟩⟩
   |exit j =>
    have h2':(bif Nat.beq j id then M.ret (Ex.normal,e1) else M.ret (Ex.exit j,e1)) s1=some ((x,e'),s'):=h2
    cases hj:Nat.beq j id with
    |true =>
     rw[hj] at h2'
     obtain⟨h3,rfl⟩:=ak h2'
     cases h3
     refine⟨k1,fun ι w a Q hr he hn fr hQ=>⟨wp_block (w1 ι w a (Exit.inBlock id Q) hr he hn fr fun ι' a' w' q1 q2 q3 q4=>?_).1,by intro b hb;cases hb⟩⟩
     show (if j=id then Q .normal a' w' else Q (.exit j) a' w')
     rw[if_pos (aL.1 hj)]
     exact hQ ι' a' w' q1 q2 q3 q4
    |false =>
     rw[hj] at h2'
     obtain⟨h3,rfl⟩:=ak h2'
     cases h3
     refine⟨k1,fun ι w a Q hr he hn fr hQ=>⟨wp_block (w1 ι w a (Exit.inBlock id Q) hr he hn fr fun ι' a' w' q1 q2 q3 q4=>?_).1,by intro b hb;cases hb⟩⟩
     show (if j=id then Q .normal a' w' else Q (.exit j) a' w')
     rw[if_neg (bh.1 hj)]
     exact hQ ι' a' w' q1 q2 q3 q4
  case loop c1 =>
   obtain⟨k1,w1⟩:=both c1 (.loop c1) hok hok h'
   refine⟨k1,fun ι w a Q hr he hn fr hQ=>?_⟩
   have hround:Code.rounds P c1 Q (fuel+1) a w:=(w1 ι w a Q hr he hn fr hQ).2 c1 rfl
   exact⟨wp_loop_rounds _ hround,by intro b hb;cases hb;exact hround⟩
  case exit id =>
   obtain⟨h1,rfl⟩:=ak (show M.ret (Ex.exit id,e) s=_ from h')
   cases h1
   exact⟨hk,fun ι w a Q hr he hn fr hQ=>⟨wp_exit (hQ ι a w he (aM.refl hr rfl rfl) hn rfl),by intro b hb;cases hb⟩⟩
  case ret =>
   obtain⟨h1,rfl⟩:=ak (show M.ret (Ex.ret,e) s=_ from h')
   cases h1
   exact⟨hk,fun ι w a Q hr he hn fr hQ=>⟨wp_ret (hQ ι a w he (aM.refl hr rfl rfl) hn rfl),by intro b hb;cases hb⟩⟩
  all_goals exact(aa (s:=s) h').elim
theorem fq (W:C.Whole eg P G) (fuel f:Nat) {args args':List Value}{s s':St}{v:Value}{ι:aD}{w:World}{R:Ending->World->Prop} (h:callB C (a6 C eg fuel) f args s=some (v,s'))
  (ha:bS ι args args') (hr:HR G ι s.h w.heap) (fr:∀b,s.c<=b->b<s'.c->ι b=none) (hR:∀v' w' ι',VR ι' v v'->aM G ι ι' s s' w w'->R (.returned v') w'):dO P f/\Calls P f args'.toArray w R :=
 uj W (Ej W fuel) f args s s' v ι w args' R h ha hr fr hR
end
end Go.Ab
