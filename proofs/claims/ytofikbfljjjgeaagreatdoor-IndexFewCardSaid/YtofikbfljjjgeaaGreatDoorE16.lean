import Derived.Test.YtofikbfljjjgeaaGreatDoorE12
set_option linter.unusedVariables false
set_option linter.unusedSimpArgs false
section
namespace Go.Ab
theorem eK {P:Prop} (h:P:=by
  repeat' first
   |exact ah.ret _
   |exact ah.fail
   |exact ah.lift _
   |exact ah.getO _
   |exact ah.putO _ _
   |exact ah.newO _
   |assumption
   |exact cG _
   |exact bB _
   |exact qQ _
   |exact ot _
   |exact qO _ _ _
   |exact jB _ _ _
   |exact cH _
   |exact sT _
   |exact kY _ _ _
   |exact nw _ _ _ _
   |exact qC _
   |exact nk _ _
   |exact m9 _ _ _
   |exact iO _ _ _ _
   |exact jp _ _ _ _
   |exact nj _ _ _ _ _ _
   |exact jm _ _ _ _
   |exact je _ _ _ _
   |exact nl _ _ _ _
   |exact nc _ _ _ _
   |exact lA _ _ _ _ _
   |exact fN _ _ _ _ _
   |exact rD _ _ _ _
   |exact yY _ _ _
   |exact yG _ _ _
   |exact xm _ _ _
   |exact sF _ _ _ _ _
   |exact sN _ _ _ _
   |exact wE _ _ _ _
   |exact tK _ _ _
   |exact k8 _ _ _ _
   |exact ge _ _ _
   |exact iG _ _ _ _
   |exact k7 _ _
   |exact jP _
   |(refine ah.bind ?_ fun _=>?_)
   |split
   |(rw[b4])
   |dsimp only
  ):P:=h
theorem QC (b:Nat):ah (cj b):=by
 unfold cj
 exact eK
abbrev cG:=@QC
theorem Mh (b:Nat):ah (bu b):=by
 unfold bu
 exact eK
abbrev bB:=@Mh
theorem Mz (b:Nat):ah (mM b):=by
 unfold mM
 exact eK
abbrev qQ:=@Mz
theorem QB (b:Nat):ah (iL b):=by
 unfold iL
 exact eK
abbrev ot:=@QB
theorem Qo (b o n:Nat):ah (gi b o n):=by
 unfold gi
 exact eK
abbrev qO:=@Qo
theorem P7 (b o:Nat) (xs:List Value):ah (cx b o xs):=by
 unfold cx
 exact eK
abbrev jB:=@P7
theorem P8 (cs:List Value):ah (bq cs):=by
 unfold bq
 exact eK
abbrev cH:=@P8
theorem QK (cs:List Value):ah (ox cs):=by
 unfold ox
 exact eK
abbrev sT:=@QK
theorem Qc (C:aS) (t:TypeId) (a:Value):ah (fG C t a):=by
 unfold fG
 exact eK
abbrev kY:=@Qc
theorem Qu (C:aS) (t:TypeId) (a x:Value):ah (kM C t a x):=by
 unfold kM
 exact eK
abbrev nw:=@Qu
theorem Ph (x:Value):ah (oF x):=by
 unfold oF
 exact eK
abbrev qC:=@Ph
theorem Ob (C:aS) (t:TypeId):ah (ko C t):=by
 unfold ko
 exact eK
abbrev nk:=@Ob
theorem O2 (C:aS) (t:TypeId) (ps:List (Nat×Value)):ah (g9 C t ps):=by
 unfold g9
 exact eK
abbrev m9:=@O2
theorem MF (C:aS) (t:TypeId) (n:Nat) (ps:List (Nat×Value)):ah (ei C t n ps):=by
 unfold ei
 exact eK
abbrev iO:=@MF
theorem N3 (C:aS) (t:TypeId) (l c:Value):ah (eU C t l c):=by
 unfold eU
 exact eK
abbrev jp:=@N3
theorem Ox (C:aS) (t:TypeId) (x:Value) (lo hi mx:Option Value):ah (cV C t x lo hi mx):=by
 unfold cV
 exact eK
abbrev nj:=@Ox
theorem Pr (C:aS) (s:TypeId) (x:Value) (f:Nat):ah (eS C s x f):=by
 unfold eS
 exact eK
abbrev jm:=@Pr
theorem Oq (C:aS) (t:TypeId) (x i:Value):ah (dN C t x i):=by
 unfold dN
 exact eK
abbrev je:=@Oq
theorem O4 (C:aS) (t:TypeId) (x i:Value):ah (kj C t x i):=by
 unfold kj
 exact eK
abbrev nl:=@O4
theorem N4 (C:aS) (t:TypeId) (x:Value) (f:Nat):ah (ki C t x f):=by
 unfold ki
 exact eK
abbrev nc:=@N4
theorem Pa (C:aS) (t:TypeId) (m k:Value) (ok:Bool):ah (iy C t m k ok):=by
 unfold iy
 exact eK
abbrev lA:=@Pa
theorem Nm (C:aS) (t:TypeId) (m k v:Value):ah (eQ C t m k v):=by
 unfold eQ
 exact eK
abbrev fN:=@Nm
theorem Nu (C:aS) (t:TypeId) (m k:Value):ah (iC C t m k):=by
 unfold iC
 exact eK
abbrev rD:=@Nu
theorem OC (C:aS) (t:TypeId) (x:Value):ah (rP C t x):=by
 unfold rP
 exact eK
abbrev yY:=@OC
theorem ML (C:aS) (t:TypeId) (x:Value):ah (nP C t x):=by
 unfold nP
 exact eK
abbrev yG:=@ML
theorem NG (size n:Nat) (x:Value):ah (cR size n x):=by
 unfold cR
 exact eK
abbrev xm:=@NG
theorem Nj (C:aS) (size:Nat) (z:List Value) (xt:Option TypeId) (x:Value):ah (bI C size z xt x):=by
 unfold bI
 exact eK
abbrev sF:=@Nj
theorem NE (C:aS) (ts:Array TypeId) (s x:Value):ah (bQ C ts s x):=by
 unfold bQ
 exact eK
abbrev sN:=@NE
theorem Om (C:aS) (ts:Array TypeId) (d x:Value):ah (nN C ts d x):=by
 unfold nN
 exact eK
abbrev wE:=@Om
theorem M4 (C:aS) (ts:Array TypeId) (x:Value):ah (mW C ts x):=by
 unfold mW
 exact eK
abbrev tK:=@M4
theorem Oj (C:aS) (a b:TypeId) (x:Value):ah (gm C a b x):=by
 unfold gm
 exact eK
abbrev k8:=@Oj
theorem MK (C:aS) (t:TypeId) (x:Value):ah (em C t x):=by
 unfold em
 exact eK
abbrev ge:=@MK
theorem Oz (C:aS) (x:Value) (t:TypeId) (ok:Bool):ah (fV C x t ok):=by
 unfold fV
 exact eK
abbrev iG:=@Oz
theorem MI (x:Value) (i:Nat):ah (io x i):=by
 unfold io
 exact eK
abbrev k7:=@MI
theorem Nh (x:Value):ah (eW x):=by
 unfold eW
 exact eK
abbrev jP:=@Nh
theorem Ny (C:aS) (b:Builtin) (ts:Array TypeId) (args:List Value):ah (gg C b ts args):=by
 unfold gg
 exact eK
abbrev qS:=@Ny
end Go.Ab
end
section
namespace Go.Ab
theorem CY {β:Type} (j:IntKind) (n:Int) (k:Value->β):Fe j n k=k (.int j n):=by
 cases n with
 |ofNat m=>show Bool.rec (motive:=fun _=>β) (k (.int j (.ofNat m))) (k (.int j (.ofNat m))) (Nat.ble m 0)=_;cases Nat.ble m 0<;>rfl
 |negSucc m=>show Bool.rec (motive:=fun _=>β) (k (.int j (.negSucc m))) (k (.int j (.negSucc m))) (Nat.ble m 0)=_;cases Nat.ble m 0<;>rfl
theorem CK {β:Type} (v:Value) (k:Value->β):xd v k=k v:=by
 unfold xd
 split
 ·exact CY _ _ _
 ·rename_i b;cases b<;>rfl
 ·rfl
noncomputable def put (e:aR) (dst:Option Nat) (v:Value):aR :=
 match dst with
 |none=>e
 |some d=>Iz e d v
theorem bE {β:Type} (e:aR) (dst:Option Nat) (v:Value) (k:aR->β):eF e dst v k=k (put e dst v):=by
 cases dst with
 |none=>rfl
 |some d =>
  show xd v (fun v=>k (Iz e d v))=_
  rw[CK];rfl
theorem z8 {β:Type} (l:L) (k:L->β):l.force k=k l:=by cases l<;>rfl
noncomputable def ju (km:Nat) (e:aR):aR:=match e with|.mk loc kept=>.mk .nil (d6 km loc kept)
theorem fO {β:Type} (km:Nat) (e:aR) (k:aR->β):flush km e k=k (ju km e):=by
 obtain⟨loc,kept⟩:=e
 show (d6 km loc kept).force (fun kept=>k (.mk .nil kept))=_
 rw[z8];rfl
def bZ (rec:kf):Prop:=∀km c e,ah (rec km c e)
structure cM (C:aS):Prop where
 sm:∀f g args,C.sm f=some g->ah (g args)
 ex:∀f g args,C.ex f=some g->ah (g args)
 vi:∀t n g args,C.vi t n=some g->ah (g args)
section loc
variable {C:aS}{eg:TypeId->Bool}{rec:kf}
theorem tW (C:aS) (e:aR) (r:ResultVar):ah (mI C e r):=by
 cases r with
 |tmp t=>exact ah.ret _
 |cell a t=>exact kY _ _ _
theorem lD (C:aS) (e:aR):∀rs:List ResultVar,ah (cU C e rs):=by
 intro rs
 induction rs with
 |nil=>exact ah.ret _
 |cons r rs ih=>exact ah.bind (tW C e r) fun _=>ah.bind ih fun _=>ah.ret _
theorem ml (C:aS) (e:aR) (rs:List ResultVar):ah (iR C e rs):=ah.bind (lD _ _ _) fun _=>ah.ret _
theorem Bt (hr:bZ rec) (fn:Func) (b:Code) (km:Nat) (args:List Value):ah (GY C rec fn b km args):=by
 unfold GY
 refine ah.bind (hr _ _ _) fun r=>?_
 unfold yu
 split
 ·exact ml _ _ _
 ·exact ml _ _ _
 ·exact ah.fail
theorem d9 (hr:bZ rec) (f:Nat) (args:List Value):ah (callB C rec f args):=by
 unfold callB
 split
 ·exact ah.fail
 ·split
  ·exact ah.framed (Bt hr _ _ _ _)
  ·exact ah.fail
theorem qw (hs:cM C) (hr:bZ rec) (f:Nat) (args:List Value):ah (cr C rec f args):=by
 unfold cr
 split
 ·rename_i g hg
  exact hs.sm _ _ _ hg
 ·split
  ·rename_i g hg
   exact hs.ex _ _ _ hg
  ·exact d9 hr _ _
theorem zS (hs:cM C) (hr:bZ rec) (f:Value) (args:List Value):ah (callV C rec f args):=by
 unfold callV
 split
 ·exact qw hs hr _ _
 ·exact ah.fail
theorem xJ (hs:cM C) (hr:bZ rec) (r:Value) (name:String) (args:List Value):ah (vE C rec r name args):=by
 unfold vE
 split
 ·split
  ·rename_i g hg
   exact hs.vi _ _ _ _ hg
  ·split
   ·exact ah.fail
   ·exact qw hs hr _ _
 ·exact ah.fail
theorem xp (hs:cM C) (hr:bZ rec) (e:aR) (c:Call):ah (nM C rec e c):=by
 unfold nM
 split
 ·exact qS _ _ _ _
 ·exact zS hs hr _ _
 ·exact xJ hs hr _ _ _
theorem gE (hs:cM C) (hr:bZ rec) (e:aR) (o:Oper):ah (dp C eg rec e o):=by
 obtain⟨dst,op,ty,pos,after,guard⟩:=o
 unfold dp
 cases op
 case move=>exact ah.ret _
 case assign=>exact ah.ret _
 case pick=>simp only[oI];split<;>first|exact ah.ret _|exact ah.fail
 case alloc=>exact nk _ _
 case box=>exact qC _
 case build=>exact m9 _ _ _
 case buildSlice=>exact iO _ _ _ _
 case insert=>exact fN _ _ _ _ _
 case load=>exact kY _ _ _
 case store=>exact nw _ _ _ _
 case nilCheck=>exact jP _
 case binOp=>exact ah.lift _
 case unOp=>exact ah.lift _
 case convert=>exact k8 _ _ _ _
 case makeInterface=>exact ge _ _ _
 case makeFunc=>exact ah.ret _
 case makeMap t r =>
  cases r with
  |none=>show ah ((newO (ag.map [] 0)).bind fun b=>M.ret (Value.map (some b)));exact ah.bind (ah.newO _) fun _=>ah.ret _
  |some x=>exact ah.fail
 case makeSlice=>exact jp _ _ _ _
 case slice=>exact nj _ _ _ _ _ _
 case fieldAddr=>exact jm _ _ _ _
 case field=>exact nc _ _ _ _
 case indexAddr=>exact je _ _ _ _
 case index=>exact nl _ _ _ _
 case lookup=>exact lA _ _ _ _ _
 case mapUpdate=>exact fN _ _ _ _ _
 case typeAssert=>exact iG _ _ _ _
 case extract=>exact k7 _ _
 case call=>exact xp hs hr _ _
 all_goals exact ah.fail
theorem oz (hs:cM C) (hr:bZ rec) (all:List Oper):∀(os:List Oper) (e:aR),ah (bP C eg rec all os e):=by
 intro os
 induction os with
 |nil=>intro e;exact ah.ret _
 |cons o os ih =>
  intro e
  show ah (gA C eg rec e o (bP C eg rec all os) (aJ all e o))
  cases aJ all e o with
  |none=>exact ah.fail
  |some b =>
   cases b with
   |false=>show ah (eF e o.dst br _);rw[bE];exact ih _
   |true =>
    show ah ((dp C eg rec e o).bind fun v=>eF e o.dst v (bP C eg rec all os))
    refine ah.bind (gE hs hr e o) fun v=>?_
    rw[bE];exact ih _
theorem sI (hs:cM C) (hr:bZ rec) (all:List Oper):∀(os:List Oper) (e:aR),ah (aT C eg rec all os e):=by
 intro os
 induction os with
 |nil=>intro e;exact ah.ret _
 |cons o os ih =>
  intro e
  show ah (ev C eg rec e o (aT C eg rec all os) (aJ all e o))
  cases aJ all e o with
  |none=>exact ah.fail
  |some b =>
   cases b with
   |false =>
    show ah ((told (M.ret ())).bind fun p=>eF e o.dst br fun e=>(aT C eg rec all os e).bind (b6 p.2))
    refine ah.bind (ah.told (ah.ret _)) fun p=>?_
    rw[bE]
    exact ah.bind (ih _) fun r=>ah.ret _
   |true =>
    show ah ((told (dp C eg rec e o)).bind fun p=>eF e o.dst p.1 fun e=>(aT C eg rec all os e).bind (b6 p.2))
    refine ah.bind (ah.told (gE hs hr e o)) fun p=>?_
    rw[bE]
    exact ah.bind (ih _) fun r=>ah.ret _
theorem tX (hs:cM C) (hr:bZ rec) (km:Nat) (e:aR) (ops:Array Oper) (draw:Bool):ah (oB C eg rec km e ops draw):=by
 have hf:∀e:aR,ah (d7 km e):=fun e=>by
  unfold d7
  rw[fO]
  exact ah.ret _
 cases draw with
 |false=>exact ah.bind (oz hs hr _ _ _) hf
 |true =>
  refine ah.bind (ah.bind (sI hs hr _ _ _) fun r=>?_) hf
  unfold ii
  cases bJ (Region.before ops).toList [] 0 r.2
  ·exact ah.fail
  ·exact ah.ret _
theorem p8 {k:aR->M (Ex×aR)} (hk:∀e,ah (k e)) (r:Ex×aR):ah (jb k r):=by
 obtain⟨x,e⟩:=r
 cases x with
 |normal=>exact hk e
 |exit j=>exact ah.ret _
 |ret=>exact ah.ret _
theorem yX (hs:cM C) (hr:bZ rec) (km:Nat) (c:Code) (e:aR):ah (yV C eg rec km c e):=by
 cases c
 case skip=>exact ah.ret _
 case region id ops draw=>exact tX hs hr _ _ _ _
 case seq a b=>exact ah.bind (hr _ _ _) (p8 fun e=>hr _ _ _)
 case cond c a b =>
  show ah (iV rec km e c a b)
  unfold iV
  split
  ·exact hr _ _ _
  ·exact hr _ _ _
  ·exact ah.fail
 case block id b =>
  refine ah.bind (hr _ _ _) fun r=>?_
  unfold kJ
  split
  ·rename_i j e
   cases h:Nat.beq j id<;>exact ah.ret _
  ·exact ah.ret _
 case loop b=>exact ah.bind (hr _ _ _) (p8 fun e=>hr _ _ _)
 case exit id=>exact ah.ret _
 case ret=>exact ah.ret _
 all_goals exact ah.fail
theorem gq (hs:cM C):∀fuel,bZ (a6 C eg fuel):=by
 intro fuel
 induction fuel with
 |zero=>intro km c e;exact ah.fail
 |succ n ih=>intro km c e;exact yX hs ih km c e
end loc
structure kQ (C:aS) (eg:TypeId->Bool) (rec:kf) (all:List Oper) (e:aR) (s:St) (v:Value) (f:Fp) (e':aR) (s':St) (o:Oper):Prop where
 env:e'=put e o.dst v
 run:(aJ all e o=some true/\dp C eg rec e o ⟨s.h,s.c,[],[]⟩=some (v,⟨s'.h,s'.c,f.r,f.w⟩)) \/
  (aJ all e o=some false/\v=br/\f.r=[]/\f.w=[]/\s'.h=s.h/\s'.c=s.c)
 c0:f.c0=s.c
 c1:f.c1=s'.c
theorem m8 {C:aS}{eg:TypeId->Bool}{rec:kf}{all:List Oper}:∀(os:List Oper) (e:aR) (s:St) (r:aR×List Fp) (s':St),aT C eg rec all os e s=some (r,s') ->
  ∃(E:Nat->aR) (S:Nat->St) (V:Nat->Value) (F:Nat->Fp),E 0=e/\S 0=s/\E os.length=r.1/\S os.length=s'/\(∀k,k<os.length->r.2[k]?=some (F k))/\r.2.length=os.length /\
   ∀k o,os[k]?=some o->kQ C eg rec all (E k) (S k) (V k) (F k) (E (k+1)) (S (k+1)) o:=by
 intro os
 induction os with
 |nil =>
  intro e s r s' h
  obtain⟨rfl,rfl⟩:=ak h
  exact⟨fun _=>e,fun _=>s',fun _=>br,fun _=>⟨[],[],0,0⟩,rfl,rfl,rfl,rfl,by simp,rfl,by simp⟩
 |cons o os ih =>
  intro e s r s' h
  have h':ev C eg rec e o (aT C eg rec all os) (aJ all e o) s=some (r,s'):=h
  -- the rest
  have rest:∀(v:Value) (f:Fp) (s1:St),eF e o.dst v (fun e=>(aT C eg rec all os e).bind (b6 f)) s1=some (r,s') ->
    kQ C eg rec all e s v f (put e o.dst v) s1 o ->
    ∃(E:Nat->aR) (S:Nat->St) (V:Nat->Value) (F:Nat->Fp),E 0=e/\S 0=s/\E (o::os).length=r.1/\S (o::os).length=s'/\(∀k,k<(o::os).length->r.2[k]?=some (F k))/\r.2.length=(o::os).length /\
     ∀k p,(o::os)[k]?=some p->kQ C eg rec all (E k) (S k) (V k) (F k) (E (k+1)) (S (k+1)) p:=by
   intro v f s1 h1 hst
   rw[bE] at h1
   obtain⟨q,s2,h2,h3⟩:=bind_some h1
   obtain⟨rfl,rfl⟩:=ak h3
   obtain⟨E,S,V,F,e0,e1,e2,e3,e4,e5,e6⟩:=ih _ _ _ _ h2
   refine⟨fun k=>match k with|0=>e|k+1=>E k,fun k=>match k with|0=>s|k+1=>S k,fun k=>match k with|0=>v|k+1=>V k,fun k=>match k with|0=>f|k+1=>F k,
    rfl,rfl,e2,e3,?_,by simp [e5],?_⟩
   ·intro k hk
    cases k with
    |zero=>rfl
    |succ k=>simpa using e4 k (by simpa using hk)
   ·intro k p hp
    cases k with
    |zero =>
     simp only[List.getElem?_cons_zero,Option.some.injEq] at hp
     subst hp
     simp only[e0,e1]
     exact hst
    |succ k=>exact e6 k p (by simpa using hp)
  cases hw:aJ all e o with
  |none=>rw[hw] at h';exact(aa (s:=s) h').elim
  |some b =>
   rw[hw] at h'
   cases b with
   |false =>
    obtain⟨p,s1,h1,h2⟩:=bind_some (show ((told (M.ret ())).bind fun p=>eF e o.dst br fun e=>(aT C eg rec all os e).bind (b6 p.2)) s=some (r,s') from h')
    obtain⟨s2,h3,h4,rfl⟩:=mD h1
    obtain⟨_,rfl⟩:=ak h3
    exact rest _ _ _ h2 ⟨rfl,.inr ⟨hw,rfl,by rw[h4],by rw[h4],rfl,rfl⟩,by rw[h4],by rw[h4]⟩
   |true =>
    obtain⟨p,s1,h1,h2⟩:=bind_some (show ((told (dp C eg rec e o)).bind fun p=>eF e o.dst p.1 fun e=>(aT C eg rec all os e).bind (b6 p.2)) s=some (r,s') from h')
    obtain⟨s2,h3,h4,rfl⟩:=mD h1
    exact rest _ _ _ h2 ⟨rfl,.inl ⟨hw,by rw[h3,h4]⟩,by rw[h4],by rw[h4]⟩
end Go.Ab
end
section
namespace Go.Ab
def D6 (bef:List Nat) (j i:Nat):Prop:=∃m,bef[j]?=some m/\Nat.testBit m i=true
theorem Ei {bef:List Nat}{j i:Nat} (h:(match cu bef j with|some m=>Nat.testBit m i|none=>false)=true):D6 bef j i:=by
 rw[b8] at h
 cases hj:bef[j]? with
 |none=>rw[hj] at h;cases h
 |some m=>rw[hj] at h;exact⟨m,hj,h⟩
theorem AD {bef:List Nat}:∀(fs:List Fp) (done:List (Nat×Fp)) (j:Nat),bJ bef done j fs=true ->
  (∀k f p,fs[k]?=some f->p∈done->f.silent=false->D6 bef (j+k) p.1\/jc p.2 f=true) /\
  (∀k l f g,k<l->fs[k]?=some f->fs[l]?=some g->f.silent=false->g.silent=false->D6 bef (j+l) (j+k)\/jc f g=true):=by
 intro fs
 induction fs with
 |nil=>intro done j _;exact⟨fun k f p h=>by simp at h,fun k l f g _ h=>by simp at h⟩
 |cons f fs ih =>
  intro done j h
  unfold bJ at h
  cases hs:f.silent with
  |true =>
   rw[hs] at h
   obtain⟨h1,h2⟩:=ih done (j+1) h
   refine⟨fun k g p hk hp hg=>?_,fun k l g g' hkl hk hl hg hg'=>?_⟩
   ·cases k with
    |zero=>simp at hk;subst hk;rw[hs] at hg;cases hg
    |succ k=>have:=h1 k g p (by simpa using hk) hp hg;rw[show j+(k+1)=j+1+k by omega];exact this
   ·cases k with
    |zero=>simp at hk;subst hk;rw[hs] at hg;cases hg
    |succ k =>
     cases l with
     |zero=>omega
     |succ l=>have:=h2 k l g g' (by omega) (by simpa using hk) (by simpa using hl) hg hg';rw[show j+(k+1)=j+1+k by omega,show j+(l+1)=j+1+l by omega];exact this
  |false =>
   rw[hs] at h
   simp only at h
   split at h
   case h_2=>cases h
   case h_1 ha =>
    rw[bT,List.all_eq_true] at ha
    obtain⟨h1,h2⟩:=ih ((j,f)::done) (j+1) h
    refine⟨fun k g p hk hp hg=>?_,fun k l g g' hkl hk hl hg hg'=>?_⟩
    ·cases k with
     |zero =>
      simp at hk;subst hk
      have:=ha p hp
      rw[Bool.or_eq_true] at this
      exact this.imp (fun h=>Ei h) id
     |succ k=>have:=h1 k g p (by simpa using hk) (List.mem_cons_of_mem _ hp) hg;rw[show j+(k+1)=j+1+k by omega];exact this
    ·cases l with
     |zero=>omega
     |succ l =>
      cases k with
      |zero =>
       simp at hk;subst hk
       have:=h1 l g' (j,f) (by simpa using hl) (List.mem_cons_self ..) hg'
       rw[show j+(l+1)=j+1+l by omega];exact this
      |succ k=>have:=h2 k l g g' (by omega) (by simpa using hk) (by simpa using hl) hg hg';rw[show j+(k+1)=j+1+k by omega,show j+(l+1)=j+1+l by omega];exact this
theorem ud {ops:Array Oper}{bef:List Nat}:∀(os:List Oper) (done:List (Nat×Oper)) (j:Nat),lu ops bef done j os=true ->
  (∀k o p,os[k]?=some o->p∈done->D6 bef (j+k) p.1\/Oper.apart ops p.2 o=true) /\
  (∀k l o p,k<l->os[k]?=some o->os[l]?=some p->D6 bef (j+l) (j+k)\/Oper.apart ops o p=true) /\
  (∀k o,os[k]?=some o->∀e∈o.after,Region.binds .any e=true->e.on<j+k):=by
 intro os
 induction os with
 |nil=>intro done j _;exact⟨fun k f p h=>by simp at h,fun k l f g _ h=>by simp at h,fun k o h=>by simp at h⟩
 |cons o os ih =>
  intro done j h
  unfold lu at h
  split at h
  case h_2=>cases h
  case h_1 ha =>
   rw[Bool.and_eq_true,List.all_eq_true,List.all_eq_true] at ha
   obtain⟨h1,h2,h3⟩:=ih ((j,o)::done) (j+1) h
   refine⟨fun k g p hk hp=>?_,fun k l g g' hkl hk hl=>?_,fun k g hk e he hb=>?_⟩
   ·cases k with
    |zero =>
     simp at hk;subst hk
     have:=ha.1 p hp
     rw[Bool.or_eq_true] at this
     exact this.imp (fun h=>Ei h) id
    |succ k=>have:=h1 k g p (by simpa using hk) (List.mem_cons_of_mem _ hp);rw[show j+(k+1)=j+1+k by omega];exact this
   ·cases l with
    |zero=>omega
    |succ l =>
     cases k with
     |zero =>
      simp at hk;subst hk
      have:=h1 l g' (j,o) (by simpa using hl) (List.mem_cons_self ..)
      rw[show j+(l+1)=j+1+l by omega];exact this
     |succ k=>have:=h2 k l g g' (by omega) (by simpa using hk) (by simpa using hl);rw[show j+(k+1)=j+1+k by omega,show j+(l+1)=j+1+l by omega];exact this
   ·cases k with
    |zero =>
     simp at hk;subst hk
     have:=ha.2 e (Array.mem_toList_iff.2 he)
     rw[hb] at this
     simp only[Bool.not_true,Bool.false_or] at this
     exact eh.1 this
    |succ k=>have:=h3 k g (by simpa using hk) e he hb;omega
theorem xS:∀(l:List Oper) (acc:Array Nat) (r:Array Nat),
  l.foldl (fun acc o=>acc.push (o.after.foldl (fun s e=>if Region.binds .any e then s ||| 2^e.on ||| acc.getD e.on 0 else s) 0)) acc=r ->
  (∀j,j<acc.size->r[j]?=acc[j]?)/\r.size=acc.size+l.length /\
  ∀k o m i,l[k]?=some o->r[acc.size+k]?=some m->Nat.testBit m i=true->∃e∈o.after,Region.binds .any e=true/\(i=e.on\/∃m',r[e.on]?=some m'/\Nat.testBit m' i=true):=by
 intro l
 induction l with
 |nil=>intro acc r h;simp only[List.foldl_nil] at h;subst h;exact⟨fun _ _=>rfl,rfl,by simp⟩
 |cons o l ih =>
  intro acc r h
  simp only[List.foldl_cons] at h
  obtain⟨h1,h2,h3⟩:=ih _ _ h
  refine⟨fun j hj=>?_,?_,?_⟩
  ·rw[h1 j (by simp;omega),Array.getElem?_push_lt hj,Array.getElem?_eq_getElem hj]
  ·rw[h2];simp;omega
  ·intro k p m i hk hm hb
   cases k with
   |zero =>
    simp at hk;subst hk
    rw[Nat.add_zero,h1 acc.size (by simp)] at hm
    simp only[Array.getElem?_push_size,Option.some.injEq] at hm
    subst hm
    -- the fold over the edges
    have key:∀(es:List Edge) (s:Nat),Nat.testBit (es.foldl (fun s e=>if Region.binds .any e then s ||| 2^e.on ||| acc.getD e.on 0 else s) s) i=true ->
      Nat.testBit s i=true\/∃e∈es,Region.binds .any e=true/\(i=e.on\/∃m',r[e.on]?=some m'/\Nat.testBit m' i=true):=by
     intro es
     induction es with
     |nil=>intro s hs;exact .inl hs
     |cons e es ihe =>
      intro s hs
      rcases ihe _ hs with hs|⟨e',he',hb',hh⟩
      ·simp only at hs
       by_cases hbe:Region.binds .any e=true
       ·rw[if_pos hbe] at hs
        simp only[Nat.testBit_or,Bool.or_eq_true] at hs
        rcases hs with(hs|hs)|hs
        ·exact .inl hs
        ·refine .inr ⟨e,List.mem_cons_self ..,hbe,.inl ?_⟩
         rw[Nat.testBit_two_pow] at hs
         exact(of_decide_eq_true hs).symm
        ·refine .inr ⟨e,List.mem_cons_self ..,hbe,.inr ?_⟩
         by_cases hlt:e.on<acc.size
         ·refine⟨acc[e.on],?_,?_⟩
          ·rw[h1 _ (by simp;omega),Array.getElem?_push_lt hlt]
          ·rw[Array.getD_eq_getD_getElem?,Array.getElem?_eq_getElem hlt] at hs;exact hs
         ·rw[Array.getD_eq_getD_getElem?,Array.getElem?_eq_none (by omega)] at hs
          simp at hs
       ·rw[if_neg hbe] at hs;exact .inl hs
      ·exact .inr ⟨e',List.mem_cons_of_mem _ he',hb',hh⟩
    rw[<- Array.foldl_toList] at hb
    rcases key _ _ hb with hz|⟨e,he,hbe,hh⟩
    ·simp at hz
    ·exact⟨e,Array.mem_toList_iff.1 he,hbe,hh⟩
   |succ k =>
    exact h3 k p m i (by simpa using hk) (by simp only[Array.size_push];rw[<- hm];congr 1;omega) hb
theorem y7 {ops:Array Oper}{j i:Nat} (h:D6 (Region.before ops).toList j i) :
  ∃o,ops[j]?=some o/\∃e∈o.after,Region.binds .any e=true/\(i=e.on\/D6 (Region.before ops).toList e.on i):=by
 obtain⟨m,hm,hb⟩:=h
 obtain⟨_,h2,h3⟩:=xS ops.toList #[] (Region.before ops) (by unfold Region.before;rw[Array.foldl_toList])
 rw[Array.getElem?_toList] at hm
 have hj:j<ops.size:=by
  rcases Nat.lt_or_ge j ops.size with hh|hh
  ·exact hh
  ·rw[Array.getElem?_eq_none (by rw[h2];simpa using hh)] at hm;cases hm
 obtain⟨e,he,hbe,hh⟩:=h3 j ops[j] m i (by simp [hj]) (by simpa using hm) hb
 refine⟨ops[j],Array.getElem?_eq_getElem hj,e,he,hbe,hh.imp id ?_⟩
 rintro⟨m',a,b⟩
 exact⟨m',by rw[Array.getElem?_toList];exact a,b⟩
def vO (ops:Array Oper) (D:Nat->Bool):Prop:=∀j o,ops[j]?=some o->D j=true->∀e∈o.after,Region.binds .any e=true->D e.on=true
theorem sO {ops:Array Oper}{D:Nat->Bool} (hb:∀(k:Nat) o,ops[k]?=some o->∀e∈o.after,Region.binds .any e=true->e.on<k) (hD:vO ops D) :
  ∀(j i:Nat),D6 (Region.before ops).toList j i->(∀o,ops[j]?=some o->∀e∈o.after,Region.binds .any e=true->D e.on=true)->D i=true:=by
 intro j
 induction j using Nat.strongRecOn with
 |_ j ih =>
  intro i h hj
  obtain⟨o,ho,e,he,hbe,hh⟩:=y7 h
  have hD':=hj o ho e he hbe
  rcases hh with rfl|hh
  ·exact hD'
  ·exact ih e.on (hb j o ho e he hbe) i hh fun p hp=>hD e.on p hp hD'
end Go.Ab
end
section
namespace Go.Ab
theorem Af (e : aR) (dst : Option Nat) (v : Value) (t : Nat) : rd (put e dst v) t = if dst = some t then v else rd e t := by
  cases dst with
  | none => simp [put]
  | some d =>
    obtain ⟨loc, kept⟩ := e
    show Bool.rec (motive := fun _ => Value) (rd (.mk loc kept) t) v (Nat.beq d t) = _
    cases h : Nat.beq d t with
    | true => rw [if_pos (by rw [aL.1 h])]
    | false => rw [if_neg (by simpa using bh.1 h)]
def gN (ι : aD) (e : aR) (a : Act) : Prop := ∀ t, VR ι (rd e t) (a.tmps.getD t undef)
theorem gN.mono {ι ι' : aD} (hi : ι.le ι') {e : aR} {a : Act} (h : gN ι e a) : gN ι' e a := fun t => (h t).mono hi
theorem x8 {a : Act} {dst : Option Nat} (h : ∀ d, dst = some d → d < a.tmps.size) (v : Value) (t : Nat) :
    (a.put dst v).tmps.getD t undef = if dst = some t then v else a.tmps.getD t undef := by
  cases dst with
  | none => simp [Act.put]
  | some d =>
    have hd := h d rfl
    show (a.tmps.setIfInBounds d v).getD t undef = _
    by_cases e : d = t
    · subst e
      rw [if_pos rfl, Array.getD_eq_getD_getElem?, Array.getElem?_setIfInBounds_self_of_lt hd]; rfl
    · rw [if_neg (by simpa using e), Array.getD_eq_getD_getElem?, Array.getElem?_setIfInBounds_ne e, Array.getD_eq_getD_getElem?]
theorem td (a : Act) (dst : Option Nat) (v : Value) : (a.put dst v).tmps.size = a.tmps.size := by
  cases dst <;> simp [Act.put]
theorem lH (a : Act) (dst : Option Nat) (v : Value) : (a.put dst v).defers = a.defers := by
  cases dst <;> rfl
theorem gN.put {ι : aD} {e : aR} {a : Act} (h : gN ι e a) {dst : Option Nat} (hd : ∀ d, dst = some d → d < a.tmps.size) {v v' : Value} (hv : VR ι v v') : gN ι (Ab.put e dst v) (a.put dst v') := by
  intro t
  rw [Af, x8 hd]
  split
  · exact hv
  · exact h t
noncomputable def jE (G : Nat) (x : Operand) : Bool :=
  match x with
  | .const v => flat 30 v
  | .global g => Nat.blt g G
  | _ => true
theorem s9 {G : Nat} {ι : aD} {h : T ag} {H : Array Obj} (hr : HR G ι h H) {x : Operand} (hx : jE G x = true) {e : aR} {a : Act} (ht : ∀ t, x = .tmp t → VR ι (rd e t) (a.tmps.getD t undef)) :
    VR ι (ae e x) (a.eval x) := by
  cases x with
  | tmp t => exact ht t rfl
  | const v => exact dK ι 30 v hx
  | global g =>
    obtain ⟨L, hL, h1, h2⟩ := hr.glob g (eh.1 hx)
    have := VR.ptr (ι := ι) g 0 L hL
    rw [h1, h2] at this
    exact this
  | func f => exact .func _ _ _ _ _ rfl rfl (by intro i x y hh; simp at hh) (by intro i x y hh; simp at hh)
noncomputable def re (C : aS) (o : Op) : Bool :=
  match o with
  | .call c =>
    match c.callee with
    | .builtin .clear => (match cu c.argTypes.toList 0 with | some t => (C.und t).isSome | none => true)
    | _ => true
  | _ => true
noncomputable def ed (C : aS) (G n : Nat) (o : Oper) : Bool :=
  ee (jE G) o.op.operands.toList && (match o.dst with | none => true | some d => Nat.blt d n) && re C o.op
theorem ed.operand {C : aS} {G n : Nat} {o : Oper} (h : ed C G n o = true) {x : Operand} (hx : x ∈ o.op.operands) : jE G x = true := by
  unfold ed at h
  rw [Bool.and_eq_true, Bool.and_eq_true, bT, List.all_eq_true] at h
  exact h.1.1 x (Array.mem_toList_iff.2 hx)
theorem ed.dst {C : aS} {G n : Nat} {o : Oper} (h : ed C G n o = true) {d : Nat} (hd : o.dst = some d) : d < n := by
  unfold ed at h
  rw [Bool.and_eq_true, Bool.and_eq_true] at h
  have := h.1.2
  rw [hd] at this
  exact eh.1 this
theorem pq {ι : aD} {ops : Array Oper} {e : aR} {a : Act} {o : Oper} {g : Bool} (h : aJ ops.toList e o = some g)
    (ht : ∀ t, t ∈ o.looksAt ops → VR ι (rd e t) (a.tmps.getD t undef)) : Region.wanted o (yielded ops a.tmps) = g := by
  unfold aJ at h
  unfold Region.wanted
  cases hg : o.guard with
  | none => rw [hg] at h; simp only [Option.some.injEq] at h; exact h
  | some p =>
    obtain ⟨j, want⟩ := p
    rw [hg] at h
    simp only at h ⊢
    unfold FM at h
    rw [b8, Array.getElem?_toList] at h
    unfold yielded
    cases hj : ops[j]? with
    | none => rw [hj] at h; simp only [Option.some.injEq] at h; subst h; rfl
    | some q =>
      rw [hj] at h
      simp only at h
      cases hd : q.dst with
      | none => rw [hd] at h; simp only [Option.some.injEq] at h; subst h; simp [hd]
      | some d =>
        rw [hd] at h
        simp only at h
        have hv := ht d (by unfold Oper.looksAt; rw [hg]; simp [hj, hd])
        simp only [Option.bind_some, hd]
        rw [Array.getD_eq_getD_getElem?] at hv
        split at h
        · rename_i b hb
          rw [hb] at hv
          simp only [Option.some.injEq] at h
          subst h
          cases hq : a.tmps[d]? with
          | none => rw [hq] at hv; cases hv
          | some x => rw [hq] at hv; simp only [Option.getD_some] at hv; cases hv; simp
        · rename_i b hb
          rw [hb] at hv
          simp only [Option.some.injEq] at h
          subst h
          cases hq : a.tmps[d]? with
          | none => rfl
          | some x => rw [hq] at hv; simp only [Option.getD_some] at hv; cases hv; rfl
        · cases h
def Wr (S : Nat → St) (F : Nat → Fp) (k b : Nat) : Prop := b ∈ (F k).w ∨ ((S k).c ≤ b ∧ b < (S (k + 1)).c)
def Tc (S : Nat → St) (F : Nat → Fp) (k b : Nat) : Prop := fP (F k).r (F k).w (S k).c (S (k + 1)).c b
theorem Wr.tc {S : Nat → St} {F : Nat → Fp} {k b : Nat} (h : Wr S F k b) : Tc S F k b := .inr h
structure Ea (C : aS) (eg : TypeId → Bool) (rec : kf) (e : aR) (s : St) (v : Value) (f : Fp) (s' : St) (o : Oper) : Prop where
  cle : s.c ≤ s'.c
  rlt : ∀ b ∈ f.r, b < s'.c
  wlt : ∀ b ∈ f.w, b < s'.c
  keep : ∀ b, b ∉ f.w → ¬(s.c ≤ b ∧ b < s'.c) → s'.h.get b = s.h.get b
theorem kQ.l {C : aS} {eg : TypeId → Bool} {rec : kf} {all : List Oper} {e e' : aR} {s s' : St} {v : Value} {f : Fp} {o : Oper} (hs : cM C) (hr : bZ rec)
    (h : kQ C eg rec all e s v f e' s' o) : Ea C eg rec e s v f s' o := by
  rcases h.run with ⟨_, h2⟩ | ⟨_, _, h3, h4, h5, h6⟩
  · obtain ⟨r, w, L⟩ := gE hs hr e o _ _ _ h2
    have er : f.r = r := by have := L.rl; simpa using this
    have ew : f.w = w := by have := L.wl; simpa using this
    exact ⟨L.cle, by rw [er]; exact L.rlt, by rw [ew]; exact L.wlt, by rw [ew]; exact L.keep⟩
  · exact ⟨by omega, by simp [h3], by simp [h4], fun b _ _ => by rw [h5]⟩
theorem kQ.move {C : aS} {eg : TypeId → Bool} {rec : kf} {all : List Oper} {e e' : aR} {s s' : St} {v : Value} {f : Fp} {o : Oper} (hs : cM C) (hr : bZ rec)
    (h : kQ C eg rec all e s v f e' s' o) (hw : aJ all e o = some true) (g : T ag) (hg : ∀ b, fP f.r f.w s.c s'.c b → g.get b = s.h.get b) :
    ∃ h', dp C eg rec e o ⟨g, s.c, [], []⟩ = some (v, ⟨h', s'.c, f.r, f.w⟩) ∧ (∀ b, fP f.r f.w s.c s'.c b → h'.get b = s'.h.get b) ∧ (∀ b, b ∉ f.w → ¬(s.c ≤ b ∧ b < s'.c) → h'.get b = g.get b) := by
  rcases h.run with ⟨_, h2⟩ | ⟨h1, _⟩
  · obtain ⟨r, w, L⟩ := gE hs hr e o _ _ _ h2
    have er : f.r = r := by have := L.rl; simpa using this
    have ew : f.w = w := by have := L.wl; simpa using this
    rw [er, ew] at hg ⊢
    obtain ⟨h', a, b, c⟩ := L.move ⟨g, s.c, [], []⟩ rfl hg
    exact ⟨h', by simpa using a, b, c⟩
  · rw [h1] at hw; cases hw
structure AF (C : aS) (eg : TypeId → Bool) (rec : kf) (ops : Array Oper) (E : Nat → aR) (S : Nat → St) (V : Nat → Value) (F : Nat → Fp) : Prop where
  tr : ∀ k o, ops[k]? = some o → kQ C eg rec ops.toList (E k) (S k) (V k) (F k) (E (k + 1)) (S (k + 1)) o
  l : ∀ k o, ops[k]? = some o → Ea C eg rec (E k) (S k) (V k) (F k) (S (k + 1)) o
  ni : ∀ i j, i < j → j < ops.size → D6 (Region.before ops).toList j i ∨ ∀ b, (Wr S F i b → ¬Tc S F j b) ∧ (Wr S F j b → ¬Tc S F i b)
  ap : ∀ i j oi oj, i < j → ops[i]? = some oi → ops[j]? = some oj → D6 (Region.before ops).toList j i ∨ Oper.apart ops oi oj = true
  back : ∀ (k : Nat) o, ops[k]? = some o → ∀ e ∈ o.after, Region.binds .any e = true → e.on < k
open Classical in
noncomputable def BX (S : Nat → St) (F : Nat → Fp) (D : Nat → Bool) : Nat → Nat → Option ag
  | 0, b => (S 0).h.get b
  | k + 1, b => if D k = true ∧ Wr S F k b then (S (k + 1)).h.get b else BX S F D k b
open Classical in
noncomputable def B2 (ops : Array Oper) (E : Nat → aR) (V : Nat → Value) (D : Nat → Bool) : Nat → Nat → Value
  | 0, t => rd (E 0) t
  | k + 1, t => if D k = true ∧ (ops[k]?).bind (·.dst) = some t then V k else B2 ops E V D k t
section reg
variable {C : aS} {eg : TypeId → Bool} {rec : kf} {ops : Array Oper} {E : Nat → aR} {S : Nat → St} {V : Nat → Value} {F : Nat → Fp} {D : Nat → Bool} {i : Nat} {oi : Oper}
theorem AF.mono (R : AF C eg rec ops E S V F) : ∀ {j : Nat}, i ≤ j → j ≤ ops.size → (S i).c ≤ (S j).c := by
  intro j hij
  induction j with
  | zero => intro _; have : i = 0 := by omega
            subst this; exact Nat.le_refl _
  | succ j ih =>
    intro hj
    rcases Nat.lt_or_ge i (j + 1) with h | h
    · have := ih (by omega) (by omega)
      have := (R.l j ops[j] (Array.getElem?_eq_getElem (by omega))).cle
      omega
    · have : i = j + 1 := by omega
      subst this; exact Nat.le_refl _
structure kx (ops : Array Oper) (D : Nat → Bool) (i : Nat) (oi : Oper) : Prop where
  closed : vO ops D
  op : ops[i]? = some oi
  no : D i = false
  pre : ∀ e ∈ oi.after, Region.binds .any e = true → D e.on = true
theorem kx.lt (N : kx ops D i oi) : i < ops.size := (Array.getElem?_eq_some_iff.1 N.op).1
theorem kx.before (N : kx ops D i oi) (R : AF C eg rec ops E S V F) {k : Nat} (h : D6 (Region.before ops).toList i k) : D k = true :=
  sO R.back N.closed i k h fun o ho => by rw [N.op] at ho; cases ho; exact N.pre
theorem kx.behind (N : kx ops D i oi) (R : AF C eg rec ops E S V F) {k : Nat} (hk : D k = true) (h : D6 (Region.before ops).toList k i) : False := by
  have := sO R.back N.closed k i h fun o ho => fun e he hb => N.closed k o ho hk e he hb
  rw [N.no] at this; cases this
theorem kx.heap (N : kx ops D i oi) (R : AF C eg rec ops E S V F) {b : Nat} (hb : Tc S F i b) : ∀ k, k ≤ ops.size → BX S F D k b = (S (Nat.min k i)).h.get b := by
  intro k
  induction k with
  | zero => intro _; simp [BX]
  | succ k ih =>
    intro hk
    have ih := ih (by omega)
    have hok : ops[k]? = some ops[k] := Array.getElem?_eq_getElem (by omega)
    unfold BX
    rcases Nat.lt_trichotomy k i with h | h | h
    · have e1 : Nat.min k i = k := Nat.min_eq_left (by omega)
      have e2 : Nat.min (k + 1) i = k + 1 := Nat.min_eq_left (by omega)
      rw [e1] at ih
      rw [e2]
      by_cases hw : Wr S F k b
      · rcases R.ni k i h N.lt with hh | hh
        · rw [if_pos ⟨N.before R hh, hw⟩]
        · exact absurd hb ((hh b).1 hw)
      · rw [if_neg (fun q => hw q.2), ih]
        simp only [Wr, not_or] at hw
        exact ((R.l k _ hok).keep b hw.1 hw.2).symm
    · subst h
      have e1 : Nat.min k k = k := Nat.min_eq_left (by omega)
      have e2 : Nat.min (k + 1) k = k := Nat.min_eq_right (by omega)
      rw [e1] at ih
      rw [e2, if_neg (fun q => by rw [N.no] at q; cases q.1), ih]
    · have e1 : Nat.min k i = i := Nat.min_eq_right (by omega)
      have e2 : Nat.min (k + 1) i = i := Nat.min_eq_right (by omega)
      rw [e1] at ih
      rw [e2]
      by_cases hw : D k = true ∧ Wr S F k b
      · rcases R.ni i k h (by omega) with hh | hh
        · exact (N.behind R hw.1 hh).elim
        · exact absurd hb ((hh b).2 hw.2)
      · rw [if_neg hw, ih]
theorem kx.heap_in (N : kx ops D i oi) (R : AF C eg rec ops E S V F) {b : Nat} (hb : Wr S F i b) : ∀ k, i < k → k ≤ ops.size → BX S F (fun j => D j || j == i) k b = (S (i + 1)).h.get b := by
  intro k
  induction k with
  | zero => intro h; omega
  | succ k ih =>
    intro hi hk
    unfold BX
    by_cases h : k = i
    · subst h
      rw [if_pos ⟨by simp, hb⟩]
    · have ih := ih (by omega) (by omega)
      by_cases hw : (D k || k == i) = true ∧ Wr S F k b
      · have hD : D k = true := by have := hw.1; simpa [h] using this
        rcases R.ni i k (by omega) (by omega) with hh | hh
        · exact (N.behind R hD hh).elim
        · exact absurd hb.tc ((hh b).2 hw.2)
      · rw [if_neg hw, ih]
theorem kx.heap_out (N : kx ops D i oi) {b : Nat} (hb : ¬Wr S F i b) : ∀ k, BX S F (fun j => D j || j == i) k b = BX S F D k b := by
  intro k
  induction k with
  | zero => rfl
  | succ k ih =>
    unfold BX
    by_cases h : k = i
    · subst h
      rw [if_neg (fun q => hb q.2), if_neg (fun q => hb q.2), ih]
    · have : (D k || k == i) = D k := by simp [h]
      rw [this, ih]
theorem AF.heap_all (R : AF C eg rec ops E S V F) (hD : ∀ k, k < ops.size → D k = true) (b : Nat) : ∀ k, k ≤ ops.size → BX S F D k b = (S k).h.get b := by
  intro k
  induction k with
  | zero => intro _; rfl
  | succ k ih =>
    intro hk
    have ih := ih (by omega)
    have hok : ops[k]? = some ops[k] := Array.getElem?_eq_getElem (by omega)
    unfold BX
    by_cases hw : Wr S F k b
    · rw [if_pos ⟨hD k (by omega), hw⟩]
    · rw [if_neg (fun q => hw q.2), ih]
      simp only [Wr, not_or] at hw
      exact ((R.l k _ hok).keep b hw.1 hw.2).symm
theorem kx.env (N : kx ops D i oi) (R : AF C eg rec ops E S V F) {t : Nat} (ht : t ∈ oi.looksAt ops) : ∀ k, k ≤ ops.size → B2 ops E V D k t = rd (E (Nat.min k i)) t := by
  intro k
  induction k with
  | zero => intro _; simp [B2]
  | succ k ih =>
    intro hk
    have ih := ih (by omega)
    have hok : ops[k]? = some ops[k] := Array.getElem?_eq_getElem (by omega)
    unfold B2
    rw [hok, Option.bind_some]
    rcases Nat.lt_trichotomy k i with h | h | h
    · have e1 : Nat.min k i = k := Nat.min_eq_left (by omega)
      have e2 : Nat.min (k + 1) i = k + 1 := Nat.min_eq_left (by omega)
      rw [e1] at ih
      rw [e2, (R.tr k _ hok).env, Af]
      by_cases hw : ops[k].dst = some t
      · rcases R.ap k i _ _ h hok N.op with hh | hh
        · rw [if_pos ⟨N.before R hh, hw⟩, if_pos hw]
        · exact absurd ht ((Oper.apart_spec hh).1 t hw)
      · rw [if_neg (fun q => hw q.2), if_neg hw, ih]
    · subst h
      have e1 : Nat.min k k = k := Nat.min_eq_left (by omega)
      have e2 : Nat.min (k + 1) k = k := Nat.min_eq_right (by omega)
      rw [e1] at ih
      rw [e2, if_neg (fun q => by rw [N.no] at q; cases q.1), ih]
    · have e1 : Nat.min k i = i := Nat.min_eq_right (by omega)
      have e2 : Nat.min (k + 1) i = i := Nat.min_eq_right (by omega)
      rw [e1] at ih
      rw [e2]
      by_cases hw : D k = true ∧ ops[k].dst = some t
      · rcases R.ap i k _ _ h N.op hok with hh | hh
        · exact (N.behind R hw.1 hh).elim
        · exact absurd ht ((Oper.apart_spec hh).2.2 t hw.2)
      · rw [if_neg hw, ih]
theorem kx.env_in (N : kx ops D i oi) (R : AF C eg rec ops E S V F) {t : Nat} (ht : oi.dst = some t) : ∀ k, i < k → k ≤ ops.size → B2 ops E V (fun j => D j || j == i) k t = V i := by
  intro k
  induction k with
  | zero => intro h; omega
  | succ k ih =>
    intro hi hk
    have hok : ops[k]? = some ops[k] := Array.getElem?_eq_getElem (by omega)
    unfold B2
    by_cases h : k = i
    · subst h
      rw [if_pos ⟨by simp, by rw [N.op]; exact ht⟩]
    · have ih := ih (by omega) (by omega)
      rw [hok, Option.bind_some]
      by_cases hw : (D k || k == i) = true ∧ ops[k].dst = some t
      · have hD : D k = true := by have := hw.1; simpa [h] using this
        rcases R.ap i k _ _ (by omega) N.op hok with hh | hh
        · exact (N.behind R hD hh).elim
        · exact absurd hw.2 ((Oper.apart_spec hh).2.1 t ht)
      · rw [if_neg hw, ih]
theorem kx.env_out (N : kx ops D i oi) {t : Nat} (ht : oi.dst ≠ some t) : ∀ k, B2 ops E V (fun j => D j || j == i) k t = B2 ops E V D k t := by
  intro k
  induction k with
  | zero => rfl
  | succ k ih =>
    unfold B2
    by_cases h : k = i
    · subst h
      rw [N.op, Option.bind_some, if_neg (fun q => ht q.2), if_neg (fun q => ht q.2), ih]
    · have : (D k || k == i) = D k := by simp [h]
      rw [this, ih]
theorem AF.env_all (R : AF C eg rec ops E S V F) (hD : ∀ k, k < ops.size → D k = true) (t : Nat) : ∀ k, k ≤ ops.size → B2 ops E V D k t = rd (E k) t := by
  intro k
  induction k with
  | zero => intro _; rfl
  | succ k ih =>
    intro hk
    have ih := ih (by omega)
    have hok : ops[k]? = some ops[k] := Array.getElem?_eq_getElem (by omega)
    unfold B2
    rw [hok, Option.bind_some, (R.tr k _ hok).env, Af]
    by_cases hw : ops[k].dst = some t
    · rw [if_pos ⟨hD k (by omega), hw⟩, if_pos hw]
    · rw [if_neg (fun q => hw q.2), if_neg hw, ih]
end reg
end Go.Ab
end
