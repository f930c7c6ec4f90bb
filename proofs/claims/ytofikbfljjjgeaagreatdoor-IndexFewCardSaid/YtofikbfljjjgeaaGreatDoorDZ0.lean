import Derived.Test.YtofikbfljjjgeaaGreatDoorE43
import Derived.Test.YtofikbfljjjgeaaGreatDoorDH0
set_option linter.unusedVariables false
set_option linter.unusedSimpArgs false
section
namespace Go.Ab
def lP (k k':L):Prop:=∀t,k.look (fun _=>top) t=k'.look (fun _=>top) t
theorem lP.refl (k:L):lP k k:=fun _=>rfl
theorem lP.trans {a b c:L} (h:lP a b) (k:lP b c):lP a c:=fun t=>(h t).trans (k t)
theorem su:∀(l:L) (t:Nat),t∉l.keys->l.look (fun _=>top) t=top:=by
 intro l
 induction l with
 |nil=>intro t _;rfl
 |cons k v l ih =>
  intro t h
  rw[iq] at h
  rw[bH,if_neg (fun e=>h (by rw[e];exact List.mem_cons_self ..))]
  exact ih t fun q=>h (List.mem_cons_of_mem _ q)
theorem lP.of {a b:L} (h:∀t∈a.keys,a.look (fun _=>top) t=b.look (fun _=>top) t) (k:∀t∈b.keys,a.look (fun _=>top) t=b.look (fun _=>top) t):lP a b:=fun t=>by
 by_cases h1:t∈a.keys
 ·exact h t h1
 ·by_cases h2:t∈b.keys
  ·exact k t h2
  ·rw[su a t h1,su b t h2]
theorem yQ (l:L) (d:Nat->Value) (t:Nat):l.look d t=l.look (fun _=>d t) t:=by
 induction l with
 |nil=>rfl
 |cons k v l ih=>rw[bH,bH];split;(· rfl);exact ih
theorem Ch (l:L) (k k':L) (h:lP k k') (t:Nat):l.look (k.look fun _=>top) t=l.look (k'.look fun _=>top) t:=by
 rw[yQ l _ t,yQ l (k'.look fun _=>top) t,h t]
theorem Fv {loc k k':L} (h:lP k k'):rd (.mk loc k)=rd (.mk loc k'):=funext fun t=>Ch loc k k' h t
theorem zc {loc k k':L} (h:lP k k'):ae (.mk loc k)=ae (.mk loc k'):=by
 funext x
 cases x with
 |tmp t=>exact congrFun (Fv h) t
 |const v=>rfl
 |global g=>rfl
 |func f=>rfl
theorem uW (d:Nat) (v:Value):∀(l:L) (t:Nat),(L.set d v l).look (fun _=>top) t=if d=t then v else l.look (fun _=>top) t:=by
 intro l
 induction l with
 |nil=>intro t;rw[pM,bH]
 |cons k u l ih =>
  intro t
  rw[mT]
  by_cases hk:k=d
  ·subst hk
   rw[if_pos rfl,bH,bH]
   by_cases ht:k=t
   ·rw[if_pos ht,if_pos ht]
   ·rw[if_neg ht,if_neg ht,if_neg ht]
  ·rw[if_neg hk,bH,bH,ih]
   by_cases ht:k=t
   ·subst ht;rw[if_pos rfl,if_pos rfl,if_neg (fun e=>hk e.symm)]
   ·rw[if_neg ht,if_neg ht]
theorem uk (km:Nat) {k k':L} (h:lP k k'):∀loc:L,lP (d6 km loc k) (d6 km loc k'):=by
 intro loc
 induction loc with
 |nil=>exact h
 |cons d v loc ih =>
  intro t
  rw[iK,iK]
  split
  ·rw[uW,uW,ih t]
  ·exact ih t
def PL (m m':M (Ex×aR)):Prop:=∀s x loc k s',m s=some ((x,.mk loc k),s')->∃k',m' s=some ((x,.mk loc k'),s')/\lP k k'
def OI (m m':M aR):Prop:=∀s loc k s',m s=some (.mk loc k,s')->∃k',m' s=some (.mk loc k',s')/\lP k k'
def MA (m m':M (aR×List Fp)):Prop:=∀s loc k f s',m s=some ((.mk loc k,f),s')->∃k',m' s=some ((.mk loc k',f),s')/\lP k k'
section sim
variable {C:aS}{eg:TypeId->Bool}{rec:kf}
theorem zu {loc k k':L} (h:lP k k') (o:Oper):dp C eg rec (.mk loc k) o=dp C eg rec (.mk loc k') o:=by
 obtain⟨dst,op,ty,pos,after,guard⟩:=o
 have he:=zc (loc:=loc) h
 unfold dp
 cases op
 case move=>simp only[BM,he]
 case assign=>simp only[BM,he]
 case pick=>simp only[oI,he]
 case box=>simp only[Ju,he]
 case build=>simp only[Gh,dA,he]
 case buildSlice=>simp only[ql,dA,he]
 case insert=>simp only[kG,he]
 case load=>simp only[HM,he]
 case store=>simp only[Ep,he]
 case nilCheck=>simp only[vz,he]
 case binOp=>simp only[GE,he]
 case unOp=>simp only[Ml,he]
 case convert=>simp only[zz,he]
 case makeInterface=>simp only[lL,he]
 case makeFunc=>simp only[mQ,he]
 case makeSlice=>simp only[sk,he]
 case slice=>simp only[FK,he]
 case fieldAddr=>simp only[s8,he]
 case field=>simp only[Fm,he]
 case indexAddr=>simp only[tg,he]
 case index=>simp only[Fh,he]
 case lookup=>simp only[BG,he]
 case mapUpdate=>simp only[kG,he]
 case typeAssert=>simp only[qr,he]
 case extract=>simp only[zG,he]
 case call=>simp only[nM,he]
 all_goals rfl
theorem sf {loc k k':L} (h:lP k k') (all:List Oper) (o:Oper):aJ all (.mk loc k) o=aJ all (.mk loc k') o:=by
 have hr:=Fv (loc:=loc) h
 unfold aJ
 cases o.guard with
 |none=>rfl
 |some p =>
  show FM all (.mk loc k) p.1 p.2=FM all (.mk loc k') p.1 p.2
  unfold FM
  rw[hr]
theorem lN (loc k:L) (d:Option Nat) (v:Value):put (.mk loc k) d v=.mk (match d with|none=>loc|some d=>.cons d v loc) k:=by cases d<;>rfl
theorem Bu (all:List Oper):∀(os:List Oper) (loc k k':L),lP k k'->OI (bP C eg rec all os (.mk loc k)) (bP C eg rec all os (.mk loc k')):=by
 intro os
 induction os with
 |nil =>
  intro loc k k' h s loc1 k1 s' hr
  obtain⟨h1,rfl⟩:=ak (show M.ret (aR.mk loc k) s=_ from hr)
  cases h1
  exact⟨k',rfl,h⟩
 |cons o os ih =>
  intro loc k k' h s loc1 k1 s' hr
  have hr':gA C eg rec (.mk loc k) o (bP C eg rec all os) (aJ all (.mk loc k) o) s=_:=hr
  show ∃k2,gA C eg rec (.mk loc k') o (bP C eg rec all os) (aJ all (.mk loc k') o) s=_/\_
  rw[<- sf h]
  cases hw:aJ all (.mk loc k) o with
  |none=>rw[hw] at hr';exact(aa (s:=s) hr').elim
  |some b =>
   rw[hw] at hr'
   cases b with
   |false =>
    have h2:eF (.mk loc k) o.dst br (bP C eg rec all os) s=_:=hr'
    rw[bE,lN] at h2
    obtain⟨k2,h3,h4⟩:=ih _ _ k' h _ _ _ _ h2
    refine⟨k2,?_,h4⟩
    show eF (.mk loc k') o.dst br (bP C eg rec all os) s=_
    rw[bE,lN];exact h3
   |true =>
    obtain⟨v,s1,h1,h2⟩:=bind_some (show ((dp C eg rec (.mk loc k) o).bind fun v=>eF (.mk loc k) o.dst v (bP C eg rec all os)) s=_ from hr')
    rw[bE,lN] at h2
    obtain⟨k2,h3,h4⟩:=ih _ _ k' h _ _ _ _ h2
    refine⟨k2,?_,h4⟩
    show ((dp C eg rec (.mk loc k') o).bind fun v=>eF (.mk loc k') o.dst v (bP C eg rec all os)) s=_
    rw[<- zu h,ac h1,bE,lN];exact h3
theorem xw (all:List Oper):∀(os:List Oper) (loc k k':L),lP k k'->MA (aT C eg rec all os (.mk loc k)) (aT C eg rec all os (.mk loc k')):=by
 intro os
 induction os with
 |nil =>
  intro loc k k' h s loc1 k1 f s' hr
  obtain⟨h1,rfl⟩:=ak (show M.ret (aR.mk loc k,([]:List Fp)) s=_ from hr)
  cases h1
  exact⟨k',rfl,h⟩
 |cons o os ih =>
  intro loc k k' h s loc1 k1 f s' hr
  have hr':ev C eg rec (.mk loc k) o (aT C eg rec all os) (aJ all (.mk loc k) o) s=_:=hr
  show ∃k2,ev C eg rec (.mk loc k') o (aT C eg rec all os) (aJ all (.mk loc k') o) s=_/\_
  rw[<- sf h]
  cases hw:aJ all (.mk loc k) o with
  |none=>rw[hw] at hr';exact(aa (s:=s) hr').elim
  |some b =>
   rw[hw] at hr'
   cases b with
   |false =>
    obtain⟨p,s1,h1,h2⟩:=bind_some (show ((told (M.ret ())).bind fun p=>eF (.mk loc k) o.dst br fun e=>(aT C eg rec all os e).bind (b6 p.2)) s=_ from hr')
    rw[bE,lN] at h2
    obtain⟨⟨e1,f1⟩,s2,h3,h4⟩:=bind_some h2
    obtain⟨h5,rfl⟩:=ak h4
    cases h5
    obtain⟨k2,h6,h7⟩:=ih _ _ k' h _ _ _ _ _ h3
    refine⟨k2,?_,h7⟩
    show ((told (M.ret ())).bind fun p=>eF (.mk loc k') o.dst br fun e=>(aT C eg rec all os e).bind (b6 p.2)) s=_
    rw[ac h1,bE,lN,ac h6];rfl
   |true =>
    obtain⟨p,s1,h1,h2⟩:=bind_some (show ((told (dp C eg rec (.mk loc k) o)).bind fun p=>eF (.mk loc k) o.dst p.1 fun e=>(aT C eg rec all os e).bind (b6 p.2)) s=_ from hr')
    rw[bE,lN] at h2
    obtain⟨⟨e1,f1⟩,s2,h3,h4⟩:=bind_some h2
    obtain⟨h5,rfl⟩:=ak h4
    cases h5
    obtain⟨k2,h6,h7⟩:=ih _ _ k' h _ _ _ _ _ h3
    refine⟨k2,?_,h7⟩
    show ((told (dp C eg rec (.mk loc k') o)).bind fun p=>eF (.mk loc k') o.dst p.1 fun e=>(aT C eg rec all os e).bind (b6 p.2)) s=_
    rw[<- zu h,ac h1,bE,lN,ac h6];rfl
theorem yf {km:Nat}{ops:Array Oper}{draw:Bool}{loc k k':L} (h:lP k k'):PL (oB C eg rec km (.mk loc k) ops draw) (oB C eg rec km (.mk loc k') ops draw):=by
 intro s x loc1 k1 s' hr
 cases draw with
 |false =>
  obtain⟨⟨l2,k2⟩,s1,h1,h2⟩:=bind_some (show ((bP C eg rec ops.toList ops.toList (.mk loc k)).bind (d7 km)) s=_ from hr)
  unfold d7 at h2
  rw[fO] at h2
  obtain⟨h3,rfl⟩:=ak h2
  cases h3
  obtain⟨k3,h4,h5⟩:=Bu _ _ _ _ k' h _ _ _ _ h1
  refine⟨_,?_,uk km h5 l2⟩
  show ((bP C eg rec ops.toList ops.toList (.mk loc k')).bind (d7 km)) s=_
  rw[ac h4]
  unfold d7
  rw[fO];rfl
 |true =>
  obtain⟨⟨l2,k2⟩,s1,h1,h2⟩:=bind_some (show ((kZ C eg rec ops (.mk loc k)).bind (d7 km)) s=_ from hr)
  unfold d7 at h2
  rw[fO] at h2
  obtain⟨h3,rfl⟩:=ak h2
  cases h3
  obtain⟨⟨⟨l3,k3⟩,f⟩,s2,h4,h5⟩:=bind_some (show ((aT C eg rec ops.toList ops.toList (.mk loc k)).bind (ii ops)) s=_ from h1)
  obtain⟨k4,h6,h7⟩:=xw _ _ _ _ k' h _ _ _ _ _ h4
  have h5':(Bool.rec (motive:=fun _=>M aR) M.fail (M.ret (.mk l3 k3)) (bJ (Region.before ops).toList [] 0 f)) s2=_:=h5
  cases hc:bJ (Region.before ops).toList [] 0 f with
  |false=>rw[hc] at h5';exact(aa (s:=s2) h5').elim
  |true =>
   rw[hc] at h5'
   obtain⟨h8,rfl⟩:=ak h5'
   cases h8
   refine⟨_,?_,uk km h7 l2⟩
   show (((aT C eg rec ops.toList ops.toList (.mk loc k')).bind (ii ops)).bind (d7 km)) s=_
   have:((aT C eg rec ops.toList ops.toList (.mk loc k')).bind (ii ops)) s=some (.mk l2 k4,s'):=by
    rw[ac h6]
    show (Bool.rec (motive:=fun _=>M aR) M.fail (M.ret (.mk l2 k4)) (bJ (Region.before ops).toList [] 0 f)) s'=_
    rw[hc];rfl
   rw[ac this]
   unfold d7
   rw[fO];rfl
theorem EE:∀(n km:Nat) (c:Code) (loc k k':L),lP k k'->PL (a6 C eg n km c (.mk loc k)) (a6 C eg n km c (.mk loc k')):=by
 intro n
 induction n with
 |zero=>intro km c loc k k' h s x loc1 k1 s' hr;exact(aa (s:=s) (show M.fail s=_ from hr)).elim
 |succ n ih =>
  intro km c loc k k' h s x loc1 k1 s' hr
  have two:∀a b:Code,((a6 C eg n km a (.mk loc k)).bind (jb (a6 C eg n km b))) s=some ((x,.mk loc1 k1),s')->∃k2,((a6 C eg n km a (.mk loc k')).bind (jb (a6 C eg n km b))) s=some ((x,.mk loc1 k2),s')/\lP k1 k2:=by
   intro a b hab
   obtain⟨⟨x1,⟨l2,k2⟩⟩,s1,h1,h2⟩:=bind_some hab
   obtain⟨k3,h3,h4⟩:=ih km a loc k k' h _ _ _ _ _ h1
   rw[ac h3]
   cases x1 with
   |normal=>exact ih km b l2 k2 k3 h4 _ _ _ _ _ h2
   |exit j =>
    obtain⟨h5,rfl⟩:=ak (show M.ret (Ex.exit j,aR.mk l2 k2) s1=_ from h2)
    cases h5
    exact⟨k3,rfl,h4⟩
   |ret =>
    obtain⟨h5,rfl⟩:=ak (show M.ret (Ex.ret,aR.mk l2 k2) s1=_ from h2)
    cases h5
    exact⟨k3,rfl,h4⟩
  cases c
  case skip =>
   obtain⟨h1,rfl⟩:=ak (show M.ret (Ex.normal,aR.mk loc k) s=_ from hr)
   cases h1
   exact⟨k',rfl,h⟩
  case region id ops draw=>exact yf h _ _ _ _ _ hr
  case seq a b=>exact two a b hr
  case cond c a b =>
   have hr':iV (a6 C eg n) km (.mk loc k) c a b s=_:=hr
   show ∃k2,iV (a6 C eg n) km (.mk loc k') c a b s=_/\_
   unfold iV at hr' ⊢
   rw[<- congrFun (zc (loc:=loc) h) c]
   generalize ae (aR.mk loc k) c=q at hr' ⊢
   cases q with
   |bool p =>
    cases p with
    |true=>exact ih km a loc k k' h _ _ _ _ _ hr'
    |false=>exact ih km b loc k k' h _ _ _ _ _ hr'
   |_=>exact(aa (s:=s) hr').elim
  case block id b =>
   obtain⟨⟨x1,⟨l2,k2⟩⟩,s1,h1,h2⟩:=bind_some (show ((a6 C eg n km b (.mk loc k)).bind (kJ id)) s=_ from hr)
   obtain⟨k3,h3,h4⟩:=ih km b loc k k' h _ _ _ _ _ h1
   show ∃k5,((a6 C eg n km b (.mk loc k')).bind (kJ id)) s=_/\_
   rw[ac h3]
   cases x1 with
   |normal =>
    obtain⟨h5,rfl⟩:=ak (show M.ret (Ex.normal,aR.mk l2 k2) s1=_ from h2)
    cases h5
    exact⟨k3,rfl,h4⟩
   |ret =>
    obtain⟨h5,rfl⟩:=ak (show M.ret (Ex.ret,aR.mk l2 k2) s1=_ from h2)
    cases h5
    exact⟨k3,rfl,h4⟩
   |exit j =>
    have h2':(bif Nat.beq j id then M.ret (Ex.normal,aR.mk l2 k2) else M.ret (Ex.exit j,aR.mk l2 k2)) s1=_:=h2
    show ∃k5,(bif Nat.beq j id then M.ret (Ex.normal,aR.mk l2 k3) else M.ret (Ex.exit j,aR.mk l2 k3)) s1=_/\_
    cases hj:Nat.beq j id with
    |true =>
     rw[hj] at h2'
     obtain⟨h5,rfl⟩:=ak h2'
     cases h5
     exact⟨k3,rfl,h4⟩
    |false =>
     rw[hj] at h2'
     obtain⟨h5,rfl⟩:=ak h2'
     cases h5
     exact⟨k3,rfl,h4⟩
  case loop b=>exact two b (.loop b) hr
  case exit id =>
   obtain⟨h1,rfl⟩:=ak (show M.ret (Ex.exit id,aR.mk loc k) s=_ from hr)
   cases h1
   exact⟨k',rfl,h⟩
  case ret =>
   obtain⟨h1,rfl⟩:=ak (show M.ret (Ex.ret,aR.mk loc k) s=_ from hr)
   cases h1
   exact⟨k',rfl,h⟩
  all_goals exact(aa (s:=s) (show M.fail s=_ from hr)).elim
end sim
def gQ (Q:Ex->aR->St->Prop):Prop:=∀x loc k k' s,lP k k'->Q x (.mk loc k) s->Q x (.mk loc k') s
section swap
variable {C:aS}{eg:TypeId->Bool}{km:Nat}{c b:Code}{loc k k':L}{s:St}{Q:Ex->aR->St->Prop}
theorem Wx.swap (hQ:gQ Q) (hk:lP k k') (h:Wx C eg km c (.mk loc k) s Q):Wx C eg km c (.mk loc k') s Q:=by
 obtain⟨n,x,⟨l1,k1⟩,s',h1,h2⟩:=h
 obtain⟨k2,h3,h4⟩:=EE n km c loc k k' hk _ _ _ _ _ h1
 exact⟨n,x,_,s',h3,hQ _ _ _ _ _ h4 h2⟩
theorem gQ.then (hQ:gQ Q):gQ (kh C eg km b Q):=by
 intro x loc k k' s hk h
 cases x with
 |normal=>exact Wx.swap hQ hk h
 |exit j=>exact hQ _ _ _ _ _ hk h
 |ret=>exact hQ _ _ _ _ _ hk h
theorem gQ.out {id:Nat} (hQ:gQ Q):gQ (ug id Q):=by
 intro x loc k k' s hk h
 cases x with
 |normal=>exact hQ _ _ _ _ _ hk h
 |ret=>exact hQ _ _ _ _ _ hk h
 |exit j =>
  unfold ug at h ⊢
  simp only at h ⊢
  split
  ·rw[if_pos ‹_›] at h;exact hQ _ _ _ _ _ hk h
  ·rw[if_neg ‹_›] at h;exact hQ _ _ _ _ _ hk h
theorem zJ (hk:lP k k') (rs:List ResultVar):cU C (.mk loc k) rs=cU C (.mk loc k') rs:=by
 have hr:=Fv (loc:=loc) hk
 induction rs with
 |nil=>rfl
 |cons r rs ih =>
  show ((mI C (.mk loc k) r).bind fun v=>(cU C (.mk loc k) rs).bind fun vs=>M.ret (v::vs))=((mI C (.mk loc k') r).bind fun v=>(cU C (.mk loc k') rs).bind fun vs=>M.ret (v::vs))
  rw[ih]
  cases r<;>(unfold mI;simp only[hr])
theorem gQ.fn {rs:List ResultVar}{P:Value->St->Prop}:gQ fun x e s=>(x=.normal\/x=.ret)/\aG C e rs s P:=by
 intro x loc k k' s hk h
 obtain⟨h1,v,s',h2,h3⟩:=h
 refine⟨h1,v,s',?_,h3⟩
 unfold iR at h2 ⊢
 rw[<- zJ hk];exact h2
def aC (J:Nat->L->St->Prop) (m:Nat) (Q:Ex->aR->St->Prop) (x:Ex) (e:aR) (s:St):Prop :=
 match x with|.normal=>∃m' k k1,m'<m/\e=.mk .nil k/\lP k1 k/\J m' k1 s|x=>Q x e s
theorem gQ.round {J:Nat->L->St->Prop}{m:Nat} (hQ:gQ Q):gQ (aC J m Q):=by
 intro x loc k k' s hk h
 cases x with
 |normal =>
  obtain⟨m',k2,k1,h1,h2,h3,h4⟩:=h
  cases h2
  exact⟨m',k',k1,h1,rfl,h3.trans hk,h4⟩
 |exit j=>exact hQ _ _ _ _ _ hk h
 |ret=>exact hQ _ _ _ _ _ hk h
theorem Wx.loopE (J:Nat->L->St->Prop) (m:Nat) (k0:L) (hQ:gQ Q) (hk:lP k0 k) (h0:J m k0 s) (hr:∀m k s,J m k s->Wx C eg km b (.mk .nil k) s (aC J m Q)):Wx C eg km (.loop b) (.mk .nil k) s Q:=by
 induction m using Nat.strongRecOn generalizing k0 k s with
 |ind m ih =>
  refine Wx.swap hQ hk (Wx.loop1 ((hr m k0 s h0).mono fun x e' s' h=>?_))
  cases x with
  |normal =>
   obtain⟨m',k2,k1,h1,rfl,h3,h4⟩:=h
   exact ih m' h1 k1 h3 h4
  |exit j=>exact h
  |ret=>exact h
theorem aC.go {J:Nat->L->St->Prop}{m:Nat} (m':Nat) (k1:L) (h1:m'<m) (h2:lP k1 k) (h3:J m' k1 s):aC J m Q .normal (.mk .nil k) s:=⟨m',k,k1,h1,rfl,h2,h3⟩
theorem aC.ex {J:Nat->L->St->Prop}{m j:Nat}{e:aR} (h:Q (.exit j) e s):aC J m Q (.exit j) e s:=h
theorem aC.rt {J:Nat->L->St->Prop}{m:Nat}{e:aR} (h:Q .ret e s):aC J m Q .ret e s:=h
end swap
end Go.Ab
end
section
namespace Go.Ab
section cut
variable {C:aS}{eg:TypeId->Bool}{km:Nat}{Q:Ex->aR->St->Prop}
def J2 (J:L->St->Prop) (x:Ex) (e:aR) (s:St):Prop:=x=.normal/\∃k k1,e=.mk .nil k/\lP k1 k/\J k1 s
theorem J2.go {J:L->St->Prop}{k:L}{s:St} (k1:L) (h2:lP k1 k) (h3:J k1 s):J2 J .normal (.mk .nil k) s:=⟨rfl,k,k1,rfl,h2,h3⟩
def di (J:L->St->Prop) (Q:Ex->aR->St->Prop) (x:Ex) (e:aR) (s:St):Prop :=
 match x with|.normal=>∃k k1,e=.mk .nil k/\lP k1 k/\J k1 s|x=>Q x e s
theorem di.go {J:L->St->Prop}{k:L}{s:St} (k1:L) (h2:lP k1 k) (h3:J k1 s):di J Q .normal (.mk .nil k) s:=⟨k,k1,rfl,h2,h3⟩
theorem di.ex {J:L->St->Prop}{j:Nat}{e:aR}{s:St} (h:Q (.exit j) e s):di J Q (.exit j) e s:=h
theorem di.rt {J:L->St->Prop}{e:aR}{s:St} (h:Q .ret e s):di J Q .ret e s:=h
theorem gQ.cut {J:L->St->Prop} (hQ:gQ Q):gQ (di J Q):=by
 intro x loc k k' s hk h
 cases x with
 |normal =>
  obtain⟨k2,k1,h2,h3,h4⟩:=h
  cases h2
  exact⟨k',k1,rfl,h3.trans hk,h4⟩
 |exit j=>exact hQ _ _ _ _ _ hk h
 |ret=>exact hQ _ _ _ _ _ hk h
theorem di.then {b:Code}{J:L->St->Prop} (hQ:gQ Q) (h2:∀k s,J k s->Wx C eg km b (.mk .nil k) s Q) {x:Ex}{e:aR}{s:St} (h:di J Q x e s):kh C eg km b Q x e s:=by
 cases x with
 |normal =>
  obtain⟨k,k1,rfl,hk,hJ⟩:=h
  exact Wx.swap hQ hk (h2 k1 s hJ)
 |exit j=>exact h
 |ret=>exact h
theorem Wx.cut {a b:Code}{e:aR}{s:St} (J:L->St->Prop) (hQ:gQ Q) (h1:Wx C eg km a e s (di J Q)) (h2:∀k s,J k s->Wx C eg km b (.mk .nil k) s Q):Wx C eg km a e s (kh C eg km b Q) :=
 h1.mono fun _ _ _ h=>di.then hQ h2 h
theorem Wx.cutO {a b:Code}{id:Nat}{e:aR}{s:St} (J:L->St->Prop) (hQ:gQ Q) (h1:Wx C eg km a e s (ug id (di J Q))) (h2:∀k s,J k s->Wx C eg km b (.mk .nil k) s Q):Wx C eg km a e s (ug id (kh C eg km b Q)) :=
 h1.mono fun x e' s' h=>by
  cases x with
  |normal=>exact(show kh C eg km b Q .normal e' s' from di.then (x:=.normal) (e:=e') (s:=s') hQ h2 h)
  |ret=>exact(show kh C eg km b Q .ret e' s' from di.then (x:=.ret) (e:=e') (s:=s') hQ h2 h)
  |exit j =>
   unfold ug at h ⊢
   by_cases hj:j=id
   ·simp only[hj,if_true] at h ⊢
    exact di.then (x:=.normal) hQ h2 h
   ·simp only[hj,if_false] at h ⊢
    exact di.then (x:=.exit j) hQ h2 h
end cut
theorem bt.wr {r w:List Nat}{x a a' b b':Nat} (h:∀y∈w,y≠x) (hx:x<a):bt ⟨r,w,a,a'⟩ ⟨[x],[],b,b'⟩ :=
 ⟨fun y hy hm=>h y hy (List.mem_singleton.1 hm),fun _ _ hm=>List.not_mem_nil hm,fun _ hm _=>List.not_mem_nil hm,fun y hy=>by
  obtain rfl:=List.mem_singleton.1 hy
  show ¬(a<=y/\y<a')
  omega,fun _ hm=>absurd hm List.not_mem_nil⟩
def Em (w:List Nat) (m:Nat):Prop:=∀y∈w,y=m
theorem Em.of {s:St}{h':T ag}{c' m:Nat}{rl wl:List Nat}{R:Nat->Prop} (x:bA s ⟨h',c',rl,wl⟩ R (fun b=>b=m)) (h0:s.wl=[]):Em wl m:=fun y hy=>by
 rcases x.wl y hy with q|q
 ·rw[h0] at q
  exact absurd q List.not_mem_nil
 ·exact q.2
theorem bt.ow {r w:List Nat}{m x a a' b b':Nat} (h:Em w m) (hm:m≠x) (hx:x<a):bt ⟨r,w,a,a'⟩ ⟨[x],[],b,b'⟩:=bt.wr (fun y hy=>by rw[h y hy];exact hm) hx
theorem bj.keepF {h h':T ag}{c:Nat}{v:Value}{n k:Nat}{xs:List Value} (x:bj h v n k xs) (hf:ai h c) (hk:∀b,b<c->h'.get b=h.get b):bj h' v n k xs:=by
 rcases x with x|⟨b,o,sp,cap,cs,rfl,hc,hs⟩
 ·exact .inl x
 ·refine .inr ⟨b,o,sp,cap,cs,rfl,?_,hs⟩
  have:=hk b (hc.lt hf)
  unfold gX ay at hc ⊢
  rw[this];exact hc
theorem bj.cut {h:T ag}{oa:Option Addr}{n cap:Nat}{xs:List Value} (x:bj h (.slice oa n cap) n 1 xs) {m:Nat} (hm:m<=n):bj h (.slice oa m cap) m 1 (xs.take m):=by
 rcases x with⟨rfl,rfl,a,c',e⟩|⟨b,o,sp,cap',cs,e,hc,hs⟩
 ·obtain rfl:m=0:=by omega
  exact .inl ⟨rfl,rfl,_,_,rfl⟩
 ·cases e
  refine .inr ⟨b,o,sp,cap,cs,rfl,hc,?_⟩
  obtain⟨h1,h2,_⟩:=aN _ _ _ _ hs
  have e2:xs=xs.take m++xs.drop m:=(List.take_append_drop m xs).symm
  rw[e2,show n*1=m*1+(n - m)*1 by omega] at hs
  exact(dP hs (by rw[List.length_take];omega)).1
end Go.Ab
end
section
namespace Go.Ab
section ops
variable {C:aS}{eg:TypeId->Bool}{e:aR}{s:St}{d:Option Nat}{ty:TypeId}{ps:String}{af:Array Edge}{g:Option (Nat×Bool)}
theorem cD {t:TypeId}{x hi:Operand}{oa:Option Addr}{len cap n k:Nat}{j:IntKind}{z:Int} (ht:cQ C t=some n) (hx:ae e x=.slice oa len cap) (hl:ae e hi=.int j z) (hz:z=(k:Int)) (hk:k<=cap) (hsp:∀a,oa=some a->a.spot=none\/a.spot=some n) :
  aW C eg e ⟨d,.slice t x none (some hi) none,ty,ps,af,g⟩ s (.slice oa k cap) s:=⟨0,by
 show cV C t (ae e x) ((none:Option Operand).map (ae e)) ((some hi).map (ae e)) ((none:Option Operand).map (ae e)) s=_
 subst hz
 simp only[Option.map_some,Option.map_none]
 rw[hx,hl]
 unfold cQ at ht
 unfold cV
 cases hu:C.und t with
 |none=>rw[hu] at ht;cases ht
 |some u =>
  rw[hu] at ht
  cases u<;>first|(cases ht;done)|skip
  simp only at ht ⊢
  rw[ac (aw ht)]
  have hb:dL len cap none (some (.int j (k:Int))) none=some (0,k,cap):=by
   unfold dL
   simp only
   show (match dr none cap cap with|none=>none|some m=>_)=_
   simp only[dr]
   rw[show cZ (.int j (k:Int))=some k from rfl]
   simp only[aH.2 hk]
  rw[ac (aw hb)]
  cases oa with
  |none=>rfl
  |some a =>
   obtain⟨b,o,sp⟩:=a
   have e0:o+0*n=o:=by omega
   rcases hsp _ rfl with h|h
   ·simp only at h
    subst h
    cases hb2:Nat.beq cap 0<;>simp only[hb2,e0]<;>rfl
   ·simp only at h
    subst h
    simp only[show (Nat.beq n n&&Nat.ble k cap)=true by rw[aH.2 hk,Nat.beq_refl];rfl,e0]
    rfl⟩
theorem jr {t:TypeId}{x lo:Operand}{n:Nat}{j:IntKind}{z:Int} (ht:cQ C t=some n) (hx:ae e x=.slice none 0 0) (hl:ae e lo=.int j z) (hz:z=0) :
  aW C eg e ⟨d,.slice t x (some lo) none none,ty,ps,af,g⟩ s (.slice none 0 0) s:=⟨0,by
 show cV C t (ae e x) ((some lo).map (ae e)) ((none:Option Operand).map (ae e)) ((none:Option Operand).map (ae e)) s=_
 subst hz
 simp only[Option.map_some,Option.map_none]
 rw[hx,hl]
 unfold cQ at ht
 unfold cV
 cases hu:C.und t with
 |none=>rw[hu] at ht;cases ht
 |some u =>
  rw[hu] at ht
  cases u<;>first|(cases ht;done)|skip
  simp only at ht ⊢
  rw[ac (aw ht)]
  rfl⟩
end ops
end Go.Ab
end
section
namespace Go.Ab.Seat
open Go.Extern Go.Proofs
theorem PM {α:Type} (a b:α):(if True then a else b)=a:=rfl
theorem PQ {α:Type} (a b:α):(if False then a else b)=b:=rfl
theorem kz:type_of% (And.intro @ke (And.intro @PM @PQ)):=And.intro @ke (And.intro @PM @PQ)
structure Kk (Q:Prop):Prop where
 out:Q
section
variable {C:aS}{eg:TypeId->Bool}{all os:List Oper}{e:aR}{s:St}{Q:aR->St->Prop}{km:Nat}{c b:Code}{K:Ex->aR->St->Prop}{x:Ex}{bef:List Nat}{done:List (Nat×Fp)}{j:Nat}
theorem PN (h:ax C eg all os e s Q):ax C eg all os e s Q:=h
theorem PS (h:bN C eg all bef done j os e s Q):bN C eg all bef done j os e s Q:=h
theorem Qg (h:Wx C eg km c e s K):Wx C eg km c e s K:=h
theorem Qm (h:kh C eg km b K x e s):kh C eg km b K x e s:=h
theorem Qz {i:Nat} (h:ug i K x e s):ug i K x e s:=h
theorem Qy {J:Nat->L->St->Prop}{m:Nat} (h:aC J m K x e s):aC J m K x e s:=h
theorem Qi {J:L->St->Prop} (h:di J K x e s):di J K x e s:=h
variable {d:Nat}{t:TypeId}{y z:Operand}{o:BinOp}{u:TypeId}{ty:TypeId}{ps:String}{af:Array Edge}{g:Option (Nat×Bool)}{E:aR}
theorem Pq (h:ax C eg all (⟨some d,.binOp o t y z u,ty,ps,af,g⟩::os) E s Q):ax C eg all (⟨some d,.binOp o t y z u,ty,ps,af,g⟩::os) E s Q:=h
theorem Nw (h:bN C eg all bef done j (⟨some d,.binOp o t y z u,ty,ps,af,g⟩::os) E s Q):bN C eg all bef done j (⟨some d,.binOp o t y z u,ty,ps,af,g⟩::os) E s Q:=h
end
theorem aO {P:Prop} (h:P:=by((repeat ((with_reducible apply ai.put);(focus omega)));(first|(with_reducible assumption)|(exact ai.up (by with_reducible assumption) (by omega))))):P:=h
theorem gL {P:Prop} (h:P:=by(repeat (first|(with_reducible exact ay.same)|(with_reducible assumption)|((with_reducible apply ay.other);(focus omega))))):P:=h
theorem KF {P:Prop} (h:P:=by(repeat (first|(with_reducible exact ay.same.cel)|(with_reducible assumption)|((with_reducible apply ay.cel);(focus (with_reducible assumption)))|((with_reducible apply gX.other);(focus omega))))):P:=h
theorem i7 {P:Prop} (h:P:=by(repeat (first|(with_reducible exact a7)|((with_reducible apply all_cons);(focus (first|(right;with_reducible exact bt.rr)|(right;with_reducible exact bt.rn)|(left;dsimp only;decide +kernel)|(right;with_reducible exact bt.rc (by assumption))|(right;refine bt.ow (by assumption) ?_ ?_<;>omega)|(right;refine bt.rw' (by assumption) ?_;omega)|(right;assumption)|(right;refine⟨?_,?_,?_,?_,?_⟩<;>(first|(with_reducible exact a7)|(intro b hb;exact List.not_mem_nil)|(intro b hb;(try simp only[List.mem_cons,List.not_mem_nil,or_false] at hb ⊢);omega))))))))):P:=h
theorem bW {P:Prop} (h:P:=by(repeat (first|(with_reducible exact Kp.refl)|(with_reducible assumption)|((with_reducible apply Kp.set);(focus (first|(with_reducible assumption)|(left;omega)|(right;first|exact rfl|assumption|(exact Or.inl (by assumption))|(exact Or.inr (by assumption))|(simp;done)|omega))))))):P:=h
theorem az {P:Prop} (h:P:=by(repeat (first|(with_reducible exact Lg.nil)|(with_reducible assumption)|((with_reducible apply Lg.cons);(focus (first|(with_reducible assumption)|(left;omega)|(right;first|exact rfl|assumption|(exact Or.inl (by assumption))|(exact Or.inr (by assumption))|(simp;done)|omega))))|(with_reducible apply Lg.app)))):P:=h
theorem iY {P:Prop} (h:P:=by(repeat (first|(with_reducible exact gQ.fn)|(with_reducible apply gQ.then)|(with_reducible apply gQ.out)|(with_reducible apply gQ.round)|(with_reducible apply gQ.cut)))):P:=h
theorem eI {P:Prop} (h:P:=by(refine lP.of ?_ ?_<;>(repeat (first|(exact a7)|((apply all_cons);(focus rfl)))))):P:=h
theorem bM {s s':St}{R W:Nat->Prop} (h:bA s s' R W:=by(dsimp only;exact bA.of (by omega) aO bW az az)):bA s s' R W:=h
set_option maxRecDepth 100000 in
theorem P5 {P Q:Prop} (k:Q) (h:Kk Q->P:=by(intro k;((with_reducible refine PN ?_);(first|((with_reducible apply ax.mv);(focus rfl);(intro v hv;(simp only[dX,bY,bK,cL,bH,dW,Nat.reduceEqDiff,eq_self,↓reduceIte,reduceCtorEq,bf,List.map_cons,List.map_nil] at hv);subst hv))|((with_reducible apply ax.as);(focus rfl);(intro v hv;(simp only[dX,bY,bK,cL,bH,dW,Nat.reduceEqDiff,eq_self,↓reduceIte,reduceCtorEq,bf,List.map_cons,List.map_nil] at hv);subst hv))|((with_reducible apply ax.stg (op:=Op.fieldAddr _ _ _));(focus rfl);(focus (exact og (Mg rfl) rfl)))|((with_reducible apply ax.stg (op:=Op.load _ _));(focus rfl);(focus (first|exact aB (dV rfl) rfl KF (by omega) (by rfl)|exact cT (FU rfl) rfl KF (by omega) (by rfl))))|((with_reducible apply ax.stg (op:=Op.nilCheck _));(focus rfl);(focus (exact pZ rfl)))|((with_reducible apply ax.stg (op:=Op.field _ _ _));(focus rfl);(focus (exact zP (Mg rfl) (dV rfl) rfl rfl)))|((with_reducible apply ax.stg (op:=Op.alloc _));(focus rfl);(focus (exact zy (tG rfl) (by(first|exact a8 _|rfl)) aO)))|((with_reducible apply ax.stg (op:=Op.call ⟨Callee.builtin Builtin.len,_,_⟩));(focus rfl);(focus (first|exact BI (P4 rfl) rfl|exact to_lenStr (sr_ rfl) rfl|exact to_lenM (mt_ rfl) rfl gL (by omega))))|((with_reducible refine Pq ?_);(first|((with_reducible apply ax.stg (op:=Op.binOp BinOp.lss _ _ _ _));(focus rfl);(focus (first|exact By rfl rfl (by omega)|exact B4 rfl rfl (by omega)|exact xi rfl rfl)))|((with_reducible apply ax.stg (op:=Op.binOp BinOp.leq _ _ _ _));(focus rfl);(focus (first|exact B7 rfl rfl (by omega)|exact Bx rfl rfl (by omega)|exact vS rfl rfl)))|((with_reducible apply ax.stg (op:=Op.binOp BinOp.gtr _ _ _ _));(focus rfl);(focus (first|exact BD rfl rfl (by omega)|exact BJ rfl rfl (by omega)|exact wZ rfl rfl)))|((with_reducible apply ax.stg (op:=Op.binOp BinOp.geq _ _ _ _));(focus rfl);(focus (first|exact BU rfl rfl (by omega)|exact BL rfl rfl (by omega)|exact rY rfl rfl)))|((with_reducible apply ax.stg (op:=Op.binOp BinOp.add _ _ _ _));(focus rfl);(focus (exact Ft rfl rfl (by omega) (by omega))))|((with_reducible apply ax.stg (op:=Op.binOp BinOp.sub _ _ _ _));(focus rfl);(focus (exact Fy rfl rfl (by omega) (by omega))))|((with_reducible apply ax.stg (op:=Op.binOp BinOp.mul _ _ _ _));(focus rfl);(focus (exact FO rfl rfl (by omega) (by omega))))|((with_reducible apply ax.stg (op:=Op.binOp BinOp.rem _ _ _ _));(focus rfl);(focus (exact wT rfl rfl (by decide))))|((with_reducible apply ax.stg (op:=Op.binOp BinOp.eql _ _ _ _));(focus rfl);(focus (first|exact BH rfl rfl (by omega)|exact B9 rfl rfl (by omega)|exact wO rfl rfl|exact EF (qZ rfl) rfl rfl|exact FT (qZ rfl) rfl rfl|exact to_eqII (qZ rfl) (ci_ rfl) rfl rfl|exact to_eqN (qZ rfl) rfl rfl|exact to_eqF (qZ rfl) rfl rfl|exact to_eqBT (qZ rfl) rfl rfl rfl|exact to_eqB (qZ rfl) rfl rfl|exact to_eqStrT rfl rfl rfl|exact to_eqStrF rfl rfl (by assumption))))|((with_reducible apply ax.stg (op:=Op.binOp BinOp.neq _ _ _ _));(focus rfl);(focus (first|exact wq rfl rfl (by omega)|exact vZ rfl rfl (by omega)|exact wI rfl rfl|exact En (qZ rfl) rfl rfl|exact Ew (qZ rfl) rfl rfl|exact to_neF (qZ rfl) rfl rfl|exact to_neBF (qZ rfl) rfl rfl rfl|exact to_neB (qZ rfl) rfl rfl|exact to_neStrF rfl rfl rfl|exact to_neStrT rfl rfl (by assumption))))))|((with_reducible refine ax.nil ?_);intro e he;(simp only[mu,fC,fZ,jy,iK,pg,mT,pM,Nat.testBit,Nat.reduceShiftRight,Nat.reduceAnd,Nat.reduceBNe,Nat.reduceEqDiff,Nat.reduceAdd,↓reduceIte,reduceCtorEq,Bool.false_eq_true] at he;subst he))|((with_reducible apply ax.bx);(focus rfl);(focus (exact aO));(intro v hv;(simp only[dX,bY,bK,cL,bH,dW,Nat.reduceEqDiff,eq_self,↓reduceIte,reduceCtorEq,bf,List.map_cons,List.map_nil] at hv);subst hv);refine⟨_,(by(first|exact a8 _|rfl)),?_⟩)|((with_reducible apply ax.so);(focus rfl);(focus (exact(uc rfl)));(focus rfl);(focus (exact gL));(focus omega);(intro v hv;(simp only[dX,bY,bK,cL,bH,dW,Nat.reduceEqDiff,eq_self,↓reduceIte,reduceCtorEq,bf,List.map_cons,List.map_nil] at hv);subst hv);refine⟨_,_,(by(first|exact a8 _|rfl)),rfl,rfl,?_⟩)|((with_reducible apply ax.bd);(focus rfl);(focus (exact(P3 rfl)));(intro v hv;(simp only[dX,bY,bK,cL,bH,dW,Nat.reduceEqDiff,eq_self,↓reduceIte,reduceCtorEq,bf,List.map_cons,List.map_nil] at hv);subst hv);refine⟨_,rfl,?_⟩)|((with_reducible apply ax.bs);(focus rfl);(focus (exact(P2 rfl)));(focus rfl);(focus (exact aO));(intro v hv;(simp only[dX,bY,bK,cL,bH,dW,Nat.reduceEqDiff,eq_self,↓reduceIte,reduceCtorEq,bf,List.map_cons,List.map_nil] at hv);subst hv);refine⟨_,rfl,?_⟩)|((with_reducible apply ax.mi);(focus rfl);(focus (exact(if_ rfl)));(intro v hv;(simp only[dX,bY,bK,cL,bH,dW,Nat.reduceEqDiff,eq_self,↓reduceIte,reduceCtorEq,bf,List.map_cons,List.map_nil] at hv);subst hv))|((with_reducible apply ax.pkT);(focus rfl);(focus rfl);(intro v hv;(simp only[dX,bY,bK,cL,bH,dW,Nat.reduceEqDiff,eq_self,↓reduceIte,reduceCtorEq,bf,List.map_cons,List.map_nil] at hv);subst hv))|((with_reducible apply ax.pkF);(focus rfl);(focus rfl);(intro v hv;(simp only[dX,bY,bK,cL,bH,dW,Nat.reduceEqDiff,eq_self,↓reduceIte,reduceCtorEq,bf,List.map_cons,List.map_nil] at hv);subst hv))|((with_reducible apply ax.stg (op:=Op.call ⟨Callee.builtin Builtin.min,_,_⟩));(focus rfl);(focus (exact Et rfl rfl)))|((with_reducible apply ax.stg (op:=Op.call ⟨Callee.builtin Builtin.max,_,_⟩));(focus rfl);(focus (exact Fa rfl rfl)))|((with_reducible apply ax.stg (op:=Op.extract _ _));(focus rfl);(focus (exact sM rfl rfl)))|((with_reducible apply ax.stg (op:=Op.unOp UnOp.not _ _));(focus rfl);(focus (first|exact BE rfl|exact BC rfl|exact xB rfl)))|((with_reducible apply ax.stg (op:=Op.makeMap _ _));(focus rfl);(focus (exact rQ aO)))|((with_reducible apply ax.stg (op:=Op.convert _ _ _));(focus rfl);(focus (exact si (PH rfl) rfl)))|((with_reducible apply ax.stg (op:=Op.makeFunc _ _ _));(focus rfl);(focus (exact qE rfl rfl)))|(refine ax.no rfl ?_)));exact k.out)):P:=h ⟨k⟩
set_option maxRecDepth 100000 in
theorem Qq {P Q:Prop} (k:Q) (h:Kk Q->P:=by(intro k;((with_reducible refine PS ?_);(first|((with_reducible apply bN.mv);(focus rfl);(intro v hv;(simp only[dX,bY,bK,cL,bH,dW,Nat.reduceEqDiff,eq_self,↓reduceIte,reduceCtorEq,bf,List.map_cons,List.map_nil] at hv);subst hv))|((with_reducible apply bN.as);(focus rfl);(intro v hv;(simp only[dX,bY,bK,cL,bH,dW,Nat.reduceEqDiff,eq_self,↓reduceIte,reduceCtorEq,bf,List.map_cons,List.map_nil] at hv);subst hv))|((with_reducible apply bN.stq (op:=Op.fieldAddr _ _ _));(focus rfl);(focus (exact og (Mg rfl) rfl)))|((with_reducible apply bN.stx (op:=Op.load _ _));(focus rfl);(focus (first|exact aB (dV rfl) rfl KF (by omega) (by rfl)|exact cT (FU rfl) rfl KF (by omega) (by rfl)));(focus (exact i7)))|((with_reducible apply bN.stq (op:=Op.nilCheck _));(focus rfl);(focus (exact pZ rfl)))|((with_reducible apply bN.stq (op:=Op.field _ _ _));(focus rfl);(focus (exact zP (Mg rfl) (dV rfl) rfl rfl)))|((with_reducible apply bN.stx (op:=Op.alloc _));(focus rfl);(focus (exact zy (tG rfl) (by(first|exact a8 _|rfl)) aO));(focus (exact i7)))|((with_reducible apply bN.stq (op:=Op.call ⟨Callee.builtin Builtin.len,_,_⟩));(focus rfl);(focus (first|exact BI (P4 rfl) rfl|exact to_lenStr (sr_ rfl) rfl)))|((with_reducible apply bN.stx (op:=Op.call ⟨Callee.builtin Builtin.len,_,_⟩));(focus rfl);(focus (exact to_lenM (mt_ rfl) rfl gL (by omega)));(focus (exact i7)))|((with_reducible refine Nw ?_);(first|((with_reducible apply bN.stq (op:=Op.binOp BinOp.lss _ _ _ _));(focus rfl);(focus (first|exact By rfl rfl (by omega)|exact B4 rfl rfl (by omega)|exact xi rfl rfl)))|((with_reducible apply bN.stq (op:=Op.binOp BinOp.leq _ _ _ _));(focus rfl);(focus (first|exact B7 rfl rfl (by omega)|exact Bx rfl rfl (by omega)|exact vS rfl rfl)))|((with_reducible apply bN.stq (op:=Op.binOp BinOp.gtr _ _ _ _));(focus rfl);(focus (first|exact BD rfl rfl (by omega)|exact BJ rfl rfl (by omega)|exact wZ rfl rfl)))|((with_reducible apply bN.stq (op:=Op.binOp BinOp.geq _ _ _ _));(focus rfl);(focus (first|exact BU rfl rfl (by omega)|exact BL rfl rfl (by omega)|exact rY rfl rfl)))|((with_reducible apply bN.stq (op:=Op.binOp BinOp.add _ _ _ _));(focus rfl);(focus (exact Ft rfl rfl (by omega) (by omega))))|((with_reducible apply bN.stq (op:=Op.binOp BinOp.sub _ _ _ _));(focus rfl);(focus (exact Fy rfl rfl (by omega) (by omega))))|((with_reducible apply bN.stq (op:=Op.binOp BinOp.mul _ _ _ _));(focus rfl);(focus (exact FO rfl rfl (by omega) (by omega))))|((with_reducible apply bN.stq (op:=Op.binOp BinOp.rem _ _ _ _));(focus rfl);(focus (exact wT rfl rfl (by decide))))|((with_reducible apply bN.stq (op:=Op.binOp BinOp.eql _ _ _ _));(focus rfl);(focus (first|exact BH rfl rfl (by omega)|exact B9 rfl rfl (by omega)|exact wO rfl rfl|exact EF (qZ rfl) rfl rfl|exact FT (qZ rfl) rfl rfl|exact to_eqII (qZ rfl) (ci_ rfl) rfl rfl|exact to_eqN (qZ rfl) rfl rfl|exact to_eqF (qZ rfl) rfl rfl|exact to_eqBT (qZ rfl) rfl rfl rfl|exact to_eqB (qZ rfl) rfl rfl|exact to_eqStrT rfl rfl rfl|exact to_eqStrF rfl rfl (by assumption))))|((with_reducible apply bN.stq (op:=Op.binOp BinOp.neq _ _ _ _));(focus rfl);(focus (first|exact wq rfl rfl (by omega)|exact vZ rfl rfl (by omega)|exact wI rfl rfl|exact En (qZ rfl) rfl rfl|exact Ew (qZ rfl) rfl rfl|exact to_neF (qZ rfl) rfl rfl|exact to_neBF (qZ rfl) rfl rfl rfl|exact to_neB (qZ rfl) rfl rfl|exact to_neStrF rfl rfl rfl|exact to_neStrT rfl rfl (by assumption))))))|((with_reducible refine bN.nil ?_);intro e he;(simp only[mu,fC,fZ,jy,iK,pg,mT,pM,Nat.testBit,Nat.reduceShiftRight,Nat.reduceAnd,Nat.reduceBNe,Nat.reduceEqDiff,Nat.reduceAdd,↓reduceIte,reduceCtorEq,Bool.false_eq_true] at he;subst he))|((with_reducible apply bN.so);(focus rfl);(focus (exact(uc rfl)));(focus rfl);(focus (exact gL));(focus omega);(focus (exact i7));(intro v hv;(simp only[dX,bY,bK,cL,bH,dW,Nat.reduceEqDiff,eq_self,↓reduceIte,reduceCtorEq,bf,List.map_cons,List.map_nil] at hv);subst hv);refine⟨_,_,(by(first|exact a8 _|rfl)),rfl,rfl,?_⟩)|((with_reducible apply bN.bd);(focus rfl);(focus (exact(P3 rfl)));(intro v hv;(simp only[dX,bY,bK,cL,bH,dW,Nat.reduceEqDiff,eq_self,↓reduceIte,reduceCtorEq,bf,List.map_cons,List.map_nil] at hv);subst hv);refine⟨_,rfl,?_⟩)|((with_reducible apply bN.bs);(focus rfl);(focus (exact(P2 rfl)));(focus rfl);(focus (exact aO));(focus (exact i7));(intro v hv;(simp only[dX,bY,bK,cL,bH,dW,Nat.reduceEqDiff,eq_self,↓reduceIte,reduceCtorEq,bf,List.map_cons,List.map_nil] at hv);subst hv);refine⟨_,rfl,?_⟩)|((with_reducible apply bN.mi);(focus rfl);(focus (exact(if_ rfl)));(intro v hv;(simp only[dX,bY,bK,cL,bH,dW,Nat.reduceEqDiff,eq_self,↓reduceIte,reduceCtorEq,bf,List.map_cons,List.map_nil] at hv);subst hv))|((with_reducible apply bN.pkT);(focus rfl);(focus rfl);(intro v hv;(simp only[dX,bY,bK,cL,bH,dW,Nat.reduceEqDiff,eq_self,↓reduceIte,reduceCtorEq,bf,List.map_cons,List.map_nil] at hv);subst hv))|((with_reducible apply bN.pkF);(focus rfl);(focus rfl);(intro v hv;(simp only[dX,bY,bK,cL,bH,dW,Nat.reduceEqDiff,eq_self,↓reduceIte,reduceCtorEq,bf,List.map_cons,List.map_nil] at hv);subst hv))|((with_reducible apply bN.stq (op:=Op.call ⟨Callee.builtin Builtin.min,_,_⟩));(focus rfl);(focus (exact Et rfl rfl)))|((with_reducible apply bN.stq (op:=Op.call ⟨Callee.builtin Builtin.max,_,_⟩));(focus rfl);(focus (exact Fa rfl rfl)))|((with_reducible apply bN.stq (op:=Op.extract _ _));(focus rfl);(focus (exact sM rfl rfl)))|((with_reducible apply bN.stq (op:=Op.unOp UnOp.not _ _));(focus rfl);(focus (first|exact BE rfl|exact BC rfl|exact xB rfl)))|((with_reducible apply bN.stx (op:=Op.makeMap _ _));(focus rfl);(focus (exact rQ aO));(focus (exact i7)))|((with_reducible apply bN.stq (op:=Op.convert _ _ _));(focus rfl);(focus (exact si (PH rfl) rfl)))|((with_reducible apply bN.stq (op:=Op.makeFunc _ _ _));(focus rfl);(focus (exact qE rfl rfl)))|(refine bN.no rfl ?_)));exact k.out)):P:=h ⟨k⟩
theorem aq {P Q:Prop} (k:Q) (h:Kk Q->P:=by(intro k;(repeat (first|((with_reducible refine PN ?_);refine P5 ?_)|((with_reducible refine PS ?_);refine Qq ?_)|((with_reducible refine Qg ?_);(first|(with_reducible refine Wx.seq ?_)|(with_reducible refine Wx.reg ?_)|(with_reducible refine Wx.block ?_)|(with_reducible refine Wx.skip ?_)|(with_reducible refine Wx.exit ?_)|(with_reducible refine Wx.ret ?_)|(refine Wx.dreg rfl ?_)|(refine Wx.condT rfl (by(first|rfl|(simp only[decide_eq_true_eq,Bool.not_eq_true',decide_eq_false_iff_not,Option.isNone_none,Option.isNone_some,Option.isSome_none,Option.isSome_some,beq_self_eq_true,Bool.not_true,Bool.not_false];first|done|omega)|(simp;omega)|(solve|simp [*])|fail)) ?_)|(refine Wx.condF rfl (by(first|rfl|(simp only[decide_eq_false_iff_not,Bool.not_eq_false',decide_eq_true_eq,Option.isNone_none,Option.isNone_some,Option.isSome_none,Option.isSome_some,beq_self_eq_true,Bool.not_true,Bool.not_false];first|done|omega))) ?_)))|((with_reducible refine Qm ?_);(first|(with_reducible refine kh.go ?_)|(with_reducible refine kh.ex ?_)|(with_reducible refine kh.rt ?_)))|((with_reducible refine Qz ?_);(first|(with_reducible refine ug.go ?_)|(with_reducible refine ug.rt ?_)|(with_reducible refine ug.hit ?_)|(with_reducible refine ug.miss (by decide) ?_)))|((with_reducible refine Qy ?_);(first|(with_reducible refine aC.ex ?_)|(with_reducible refine aC.rt ?_)))|((with_reducible refine Qi ?_);(first|(with_reducible refine di.ex ?_)|(with_reducible refine di.rt ?_)))));exact k.out)):P:=h ⟨k⟩
theorem wC {P Q:Prop} (k:Q) (h:Kk Q->P:=by(intro k;(intro v hv;(simp only[dX,bY,bK,cL,bH,dW,Nat.reduceEqDiff,eq_self,↓reduceIte,reduceCtorEq,bf,List.map_cons,List.map_nil] at hv);subst hv);exact k.out)):P:=h ⟨k⟩
theorem cg {P Q:Prop} (k:Q) (h:Kk Q->P:=by(intro k;intro e he;(simp only[mu,fC,fZ,jy,iK,pg,mT,pM,Nat.testBit,Nat.reduceShiftRight,Nat.reduceAnd,Nat.reduceBNe,Nat.reduceEqDiff,Nat.reduceAdd,↓reduceIte,reduceCtorEq,Bool.false_eq_true] at he;subst he);exact k.out)):P:=h ⟨k⟩
section
variable {C:aS}{eg:TypeId->Bool}{all os:List Oper}{loc kept:L}{s s1:St}{Q:aR->St->Prop}{d:Nat}{op:Op}{ty:TypeId}{ps:String}{af:Array Edge}{g:Option (Nat×Bool)}{h h1:T ag}{c c1:Nat}{rl wl r1 w1 bef:List Nat}{done:List (Nat×Fp)}{j:Nat}{v:Value}
theorem Zu (ho:aW C eg (.mk loc kept) ⟨some d,op,ty,ps,af,g⟩ s v s1) (k:ax C eg all os (.mk (.cons d v loc) kept) s1 Q) (hw:aJ all (.mk loc kept) ⟨some d,op,ty,ps,af,g⟩=some true:=by rfl):ax C eg all (⟨some d,op,ty,ps,af,g⟩::os) (.mk loc kept) s Q:=ax.stg hw ho k
theorem Zq (ho:aW C eg (.mk loc kept) ⟨some d,op,ty,ps,af,g⟩ ⟨h,c,[],[]⟩ v ⟨h,c,[],[]⟩) (k:bN C eg all bef done (j+1) os (.mk (.cons d v loc) kept) ⟨h,c,rl,wl⟩ Q) (hw:aJ all (.mk loc kept) ⟨some d,op,ty,ps,af,g⟩=some true:=by rfl):bN C eg all bef done j (⟨some d,op,ty,ps,af,g⟩::os) (.mk loc kept) ⟨h,c,rl,wl⟩ Q:=bN.stq hw ho k
theorem Zd (ho:aW C eg (.mk loc kept) ⟨some d,op,ty,ps,af,g⟩ ⟨h,c,[],[]⟩ v ⟨h1,c1,r1,w1⟩) (k:bN C eg all bef ((j,⟨r1,w1,c,c1⟩)::done) (j+1) os (.mk (.cons d v loc) kept) ⟨h1,c1,r1++rl,w1++wl⟩ Q) (hw:aJ all (.mk loc kept) ⟨some d,op,ty,ps,af,g⟩=some true:=by rfl) (ha:∀p∈done,Ap bef j p.1=true\/bt p.2 ⟨r1,w1,c,c1⟩:=by exact i7):bN C eg all bef done j (⟨some d,op,ty,ps,af,g⟩::os) (.mk loc kept) ⟨h,c,rl,wl⟩ Q:=bN.stx hw ho ha k
end
end Go.Ab.Seat
end
