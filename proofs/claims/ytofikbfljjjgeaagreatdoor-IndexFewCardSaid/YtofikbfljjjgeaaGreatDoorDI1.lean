import Derived.Test.YtofikbfljjjgeaaGreatDoorDX1
import Derived.Test.YtofikbfljjjgeaaGreatDoorDF2
set_option linter.unusedVariables false
set_option linter.unusedSimpArgs false
section
namespace Go.Ab
section
variable {C:aS}{eg:TypeId->Bool}{all os:List Oper}{loc kept:L}{h:T ag}{c:Nat}{rl wl:List Nat}{Q:aR->St->Prop}{d:Nat}{ty:TypeId}{ps:String}{af:Array Edge}{g:Option (Nat×Bool)}{bef:List Nat}{done:List (Nat×Fp)}{j:Nat}
theorem bN.callV {f:Nat}{fo:Operand}{first cap:Array Value}{ar:Array Operand}{ts:Array TypeId}{args:List Value}{P:Value->St->Prop} (hw:aJ all (.mk loc kept) ⟨some d,.call ⟨.value fo,ar,ts⟩,ty,ps,af,g⟩=some true) (hf:ae (.mk loc kept) fo=.func (.func f) first cap) (ha:gO (ae (.mk loc kept)) ar.toList=args)
  (hc:∃v s',aE C eg f (app first.toList (app args cap.toList)) ⟨h,c,[],[]⟩ v s'/\P v s') (k:∀v h' c' r1 w1,P v ⟨h',c',r1,w1⟩->(∀p∈done,Ap bef j p.1=true\/bt p.2 ⟨r1,w1,c,c'⟩)/\bN C eg all bef ((j,⟨r1,w1,c,c'⟩)::done) (j+1) os (.mk (.cons d v loc) kept) ⟨h',c',r1++rl,w1++wl⟩ Q) :
  bN C eg all bef done j (⟨some d,.call ⟨.value fo,ar,ts⟩,ty,ps,af,g⟩::os) (.mk loc kept) ⟨h,c,rl,wl⟩ Q:=by
 obtain⟨v,⟨h',c',r1,w1⟩,h1,h2⟩:=hc
 obtain⟨k1,k2⟩:=k v h' c' r1 w1 h2
 exact bN.op hw (aW.ofCallV hf ha h1) k1 k2
end
end Go.Ab
namespace Go.Ab.Seat
open Go.Extern Go.Proofs
set_option maxRecDepth 4000
variable {sm:Nat->Option (List Value->M Value)}
theorem zx (H:pV sm) {h:T ag}{c:Nat}{rl wl:List Nat} (hf:ai h c) (a b:Ht) :
  ∃r s',aE (Cs sm) eg 186 [jw a.id a.sc,jw b.id b.sc] ⟨h,c,rl,wl⟩ r s'/\r=.int .i64 (if de a b then -1 else 1)/\bA ⟨h,c,rl,wl⟩ s' (fun _=>False) (fun _=>False):=by
 refine Fn.go (H 186 rfl) KM Jk LO rfl rfl ?_
 refine cg ?_
 refine aq ?_
 refine ax.call rfl rfl (uH H aO a b) ?_
 rintro v h1 c1 r1 w1 ⟨rfl,hext⟩
 have q1:=hext.c
 dsimp only at q1
 have hf1:ai h1 c1:=hext.fresh
 have kp:=Kp.ext (W:=fun _=>False) (h:=h) (c:=c) bW hext (by omega) (fun _ _ q=>q)
 have lr:=Lg.extR (R:=fun _=>False) (c:=c) az hext (fun _ _ q=>q)
 have lw:=Lg.extW (W:=fun _=>False) (c:=c) az hext (fun _ _ q=>q)
 cases hl:de a b
 ·refine aq ?_
  refine⟨.inr rfl,aG.one rfl ⟨rfl,?_⟩⟩
  exact bM
 ·refine aq ?_
  refine⟨.inr rfl,aG.one rfl ⟨rfl,?_⟩⟩
  exact bM
theorem Ie {A B:List Ht}{y x:Ht}:bw [.int .i64 y.id,.int .i64 y.sc] (aF (A++x::B)) (0+A.length*2)=some (aF (A++y::B)):=by
 rw[cz _ _ _ (by rw[cN,List.length_append,List.length_cons];simp;omega) (by intro v hv;simp only[List.mem_cons,List.not_mem_nil,or_false] at hv;rcases hv with rfl|rfl<;>rfl)]
 have e1:0+A.length*2=A.length*2:=by omega
 have e2:0+A.length*2+[Value.int .i64 y.id,.int .i64 y.sc].length=(A.length+1)*2:=by simp;omega
 rw[e2,e1,tn,te,List.take_left]
 have e3:(A++x::B).drop (A.length+1)=B:=by
  rw[show A++x::B=(A++[x])++B by simp,show A.length+1=(A++[x]).length by simp,List.drop_left]
 rw[e3,fg]
 show some (aF A++[Value.int .i64 y.id,.int .i64 y.sc]++aF B)=some (aF A++aF (y::B))
 rw[List.append_assoc];rfl
theorem K3 {A B:List Ht}{x:Ht}:aP (0+A.length*2) 2 (aF (A++x::B))=some [.int .i64 x.id,.int .i64 x.sc] :=
 gZ (aA _ _ (by rw[cN])) (by rw[List.getElem?_append_right (Nat.le_refl _),Nat.sub_self];rfl)
def EI (b n:Nat) (i:Int) (j9 j14 j34:Value):L :=
 .cons 3 (.func (.func 186) #[] #[]) (.cons 2 (.int .i64 (n:Int)) (.cons 1 (.int .i64 0) (.cons 0 (.slice (some ⟨b,0,none⟩) n n) (.cons 8 (.int .i64 i) (.cons 9 j9 (.cons 14 j14 (.cons 34 j34 .nil)))))))
set_option maxHeartbeats 4000000 in
theorem Ba (H:pV sm) {h:T ag}{c:Nat}{rl wl:List Nat} (hf:ai h c) {b n:Nat}{l:List Ht} (hb:ay h b (.cells (aF l))) (hn:l.length=n) (hn':n<=1000) (hd:(l.map Ht.id).Nodup) :
  ∃r s',aE (Cs sm) eg 241 [.slice (some ⟨b,0,none⟩) n n,.int .i64 0,.int .i64 (n:Int),.func (.func 186) #[] #[]] ⟨h,c,rl,wl⟩ r s'/\ay s'.h b (.cells (aF (aQ n l)))/\bA ⟨h,c,rl,wl⟩ s' (fun x=>x=b) (fun x=>x=b):=by
 have lb:=hb.lt hf
 refine Fn.go (H 241 rfl) Ls Ki Ka rfl rfl ?_
 refine cg ?_
 refine aq ?_
 refine Wx.loopE (fun k1 e s=>∃(i:Nat) (z:Int) (j9 j14 j34:Value) (h':T ag) (c':Nat) (rl' wl':List Nat),e=EI b n z j9 j14 j34/\z=i/\s=⟨h',c',rl',wl'⟩/\ai h' c'/\c<=c'/\Kp h h' c (fun x=>x=b)/\ay h' b (.cells (aF (aQ n (l.take i)++l.drop i)))/\Lg c (fun x=>x=b) rl'/\Lg c (fun x=>x=b) wl'/\k1=n - i) (n - 1) (EI b n 1 top top top) iY ?_ ?_ ?_
 ·unfold EI
  exact eI
 ·refine⟨1,1,_,_,_,_,_,_,_,rfl,rfl,rfl,aO,by omega,bW,?_,az,az,rfl⟩
  have:aQ n (l.take 1)++l.drop 1=l:=by
   cases l with
   |nil=>rfl
   |cons x r =>
    have:aQ n ((x::r).take 1)=[x]:=by
     show eu n [] x=[x]
     rw[lU (fun _ h=>absurd h List.not_mem_nil) (by rw[<- hn];simp)];rfl
    rw[this];rfl
  rw[this];exact hb
 ·rintro k1 e s ⟨i,z,j9,j14,j34,h',c',rl',wl',rfl,hz,rfl,hf',hcc,hkp,hB,hlr,hlw,rfl⟩
  unfold EI
  by_cases hi:i<n
  ·have hp2:=cO (k:=n) hd i (by omega) (by omega)
   have hp3:=gz (k:=n) hd (m:=i) (by omega) (by omega)
   have hp4:aQ n (l.take (i+1))=oZ (l[i]'(by omega)) (aQ n (l.take i)):=by
    rw[eL (by omega),lU (fun y hy=>wn hd (by omega) y (hp2.1.mem_iff.1 hy)) (by omega)]
   have hp5:∀y∈aQ n (l.take i),y.id≠(l[i]'(by omega)).id:=fun y hy=>wn hd (by omega) y (hp2.1.mem_iff.1 hy)
   have hp6:l.drop i=l[i]'(by omega)::l.drop (i+1):=List.drop_eq_getElem_cons (by omega)
   rw[hp6] at hB
   clear hp6
   revert hB hp4 hp5
   generalize (l[i]'(by omega))=x
   intro hB hp4 hp5
   have hp2':=hp2.2
   clear hp2
   revert hB hp4 hp5 hp2' hp3
   generalize aQ n (l.take i)=p
   intro hp3 hB hp4 hp5 hp2'
   refine aq ?_
   refine Wx.loopE (fun k1 e s=>∃(A q:List Ht) (z9:Int) (j14 j34:Value) (h2:T ag) (c2:Nat) (rl2 wl2:List Nat),e=EI b n z (.int .i64 z9) j14 j34/\z9=A.length/\s=⟨h2,c2,rl2,wl2⟩/\ai h2 c2/\c<=c2/\Kp h h2 c (fun x=>x=b)/\ay h2 b (.cells (aF (A++x::(q++l.drop (i+1)))))/\p=A++q/\(∀y∈q,de x y=true)/\Lg c (fun x=>x=b) rl2/\Lg c (fun x=>x=b) wl2/\k1=A.length) p.length (EI b n z (.int .i64 z) (.bool true) j34) iY ?_ ?_ ?_
   ·unfold EI
    exact eI
   ·exact⟨p,[],z,_,_,_,_,_,_,rfl,by omega,rfl,hf',hcc,hkp,hB,(List.append_nil p).symm,fun _ h=>absurd h List.not_mem_nil,hlr,hlw,rfl⟩
   ·rintro k1 e s ⟨A,q,z9,j14,j34,h2,c2,rl2,wl2,rfl,hz9,rfl,hf2,hcc2,hkp2,hB2,hpq,hq,hlr2,hlw2,rfl⟩
    unfold EI
    rcases List.eq_nil_or_concat A with rfl|⟨A',y,hAA⟩
    ·simp only[List.length_nil] at hz9
     refine aq ?_
     refine aC.go (n - (i+1)) (EI b n (z+1) _ _ _) (by omega) eI ⟨i+1,z+1,_,_,_,_,_,_,_,rfl,by omega,rfl,hf2,hcc2,hkp2,?_,hlr2,hlw2,rfl⟩
     have e:oZ x p=x::q:=by
      rw[hpq]
      exact BO (A:=[]) (by rw[<- hpq];exact hp2') (by rw[<- hpq];exact hp5) hq (fun y hy=>by cases hy)
     rw[hp4,e]
     exact hB2
    ·obtain rfl:A=A'++[y]:=by rw[hAA];simp
     clear hAA
     have hA1:(A'++[y]).length=A'.length+1:=by simp
     have hB3:ay h2 b (.cells (aF (A'++y::x::(q++l.drop (i+1))))):=by
      have e:A'++[y]++x::(q++l.drop (i+1))=A'++y::x::(q++l.drop (i+1)):=by simp
      rwa [e] at hB2
     have hs1:aP (0+(A'.length+1)*2) 2 (aF (A'++y::x::(q++l.drop (i+1))))=some [.int .i64 x.id,.int .i64 x.sc]:=by
      have:=K3 (A:=A'++[y]) (x:=x) (B:=q++l.drop (i+1))
      rwa [hA1,List.append_assoc] at this
     have hs2:aP (0+A'.length*2) 2 (aF (A'++y::x::(q++l.drop (i+1))))=some [.int .i64 y.id,.int .i64 y.sc]:=K3
     have hlen:A'.length+1+q.length=i:=by rw[<- hp3,hpq];simp;omega
     have lb2:=hB3.lt hf2
     refine aq ?_
     refine Zq (aj (k:=A'.length+1) ej rfl rfl (by omega) (by omega)) ?_
     refine Zd (cT (FU rfl) rfl hB3.cel (by omega) hs1) ?_
     refine aq ?_
     refine Zq (aj (k:=A'.length) ej rfl rfl (by omega) (by omega)) ?_
     refine Zd (cT (FU rfl) rfl hB3.cel (by omega) hs2) ?_
     cases hl:de x y
     ·refine bN.callV rfl rfl rfl (zx H aO x y) ?_
      rintro v h3 c3 r3 w3 ⟨rfl,hext⟩
      have hqt:=hext.quiet (fun _ _ q=>q)
      have kp3:=Kp.ext (W:=fun x=>x=b) (h:=h) (c:=c) bW hext (by omega) (fun _ _ q=>q.elim)
      have lr3:=Lg.extR (R:=fun x=>x=b) (c:=c) az hext (fun _ _ q=>q.elim)
      have lw3:=Lg.extW (W:=fun x=>x=b) (c:=c) az hext (fun _ _ q=>q.elim)
      have fr3:=hext.fresh
      have le3:=hext.c
      simp only at le3 fr3
      have hB4:=hext.hs hB3 lb2 (fun q=>q)
      rw[hl]
      simp only[Bool.false_eq_true,↓reduceIte]
      refine⟨i7,?_⟩
      refine aq ?_
      refine aC.go (n - (i+1)) (EI b n (z+1) _ _ _) (by omega) eI ⟨i+1,z+1,_,_,_,_,_,_,_,rfl,by omega,rfl,fr3,by omega,kp3,?_,az,az,rfl⟩
      have e:oZ x p=A'++y::x::q:=by
       rw[hpq,BO (by rw[<- hpq];exact hp2') (by rw[<- hpq];exact hp5) hq (fun y' hy=>by
        rw[List.getLast?_concat] at hy
        cases hy;exact hl)]
       simp
      rw[hp4,e,List.append_assoc]
      exact hB4
     ·refine bN.callV rfl rfl rfl (zx H aO x y) ?_
      rintro v h3 c3 r3 w3 ⟨rfl,hext⟩
      have hqt:=hext.quiet (fun _ _ q=>q)
      have kp3:=Kp.ext (W:=fun x=>x=b) (h:=h) (c:=c) bW hext (by omega) (fun _ _ q=>q.elim)
      have lr3:=Lg.extR (R:=fun x=>x=b) (c:=c) az hext (fun _ _ q=>q.elim)
      have lw3:=Lg.extW (W:=fun x=>x=b) (c:=c) az hext (fun _ _ q=>q.elim)
      have fr3:=hext.fresh
      have le3:=hext.c
      simp only at le3 fr3
      have hB4:=hext.hs hB3 lb2 (fun q=>q)
      have hset1:bw [.int .i64 y.id,.int .i64 y.sc] (aF (A'++y::x::(q++l.drop (i+1)))) (0+(A'.length+1)*2)=some (aF (A'++y::y::(q++l.drop (i+1)))):=by
       have:=Ie (A:=A'++[y]) (B:=q++l.drop (i+1)) (y:=y) (x:=x)
       rwa [hA1,List.append_assoc,List.append_assoc] at this
      have hset2:bw [.int .i64 x.id,.int .i64 x.sc] (aF (A'++y::y::(q++l.drop (i+1)))) (0+A'.length*2)=some (aF (A'++x::y::(q++l.drop (i+1)))):=Ie
      rw[hl]
      simp only[↓reduceIte]
      refine⟨i7,?_⟩
      refine aq ?_
      refine Zq (aj (k:=A'.length) ej rfl rfl (by omega) (by omega)) ?_
      refine Zd (cT (FU rfl) rfl hB4.cel (by omega) hs2) ?_
      refine aq ?_
      refine Zq (aj (k:=A'.length+1) ej rfl rfl (by omega) (by omega)) ?_
      refine Zd (cT (FU rfl) rfl hB4.cel (by omega) hs1) ?_
      refine aq ?_
      refine Zq (aj (k:=A'.length+1) ej rfl rfl (by omega) (by omega)) ?_
      ((with_reducible apply bN.so);rfl;exact(uc rfl);rfl;exact hB4;omega;exact i7;refine wC ?_;refine⟨_,_,(by(first|exact a8 _|rfl)),rfl,hset1,?_⟩)
      refine aq ?_
      refine Zq (aj (k:=A'.length) ej rfl rfl (by omega) (by omega)) ?_
      ((with_reducible apply bN.so);rfl;exact(uc rfl);rfl;exact ay.same;omega;exact i7;refine wC ?_;refine⟨_,_,(by(first|exact a8 _|rfl)),rfl,hset2,?_⟩)
      refine aq ?_
      refine aC.go A'.length (EI b n z (.int .i64 (z9 - 1)) _ _) (by omega) eI ⟨A',y::q,z9 - 1,_,_,_,_,_,_,rfl,by omega,rfl,aO,by omega,bW,ay.same,by rw[hpq];simp,fun y' hy=>?_,az,az,rfl⟩
      rcases List.mem_cons.1 hy with rfl|hy
      ·exact hl
      ·exact hq y' hy
  ·refine aq ?_
   refine⟨.inl rfl,aG.nil ⟨?_,?_⟩⟩
   ·rw[List.take_of_length_le (by omega),List.drop_of_length_le (by omega),List.append_nil] at hB
    exact hB
   ·exact bM
end Go.Ab.Seat
end
section
namespace Go.Ab.Seat
open Go.Extern Go.Proofs
set_option maxRecDepth 4000
variable {sm:Nat->Option (List Value->M Value)}
theorem Mk:FN (Cs sm) 3=true:=by kernel_rfl
theorem AM:(Cs sm).ex 227=some ez:=by kernel_rfl
theorem pm (H:sm 227=none) {h:T ag}{c:Nat}{rl wl:List Nat}{va vb:Addr}{n m vc cap:Nat}{ws cs:List Value}{y:Value} (hv:ay h va.block (.cells ws)) (hc:va.block<c) (hb:ay h vb.block (.cells cs)) (hcb:vb.block<c) (hne:va.block≠vb.block) (hy:cu cs 0=some y) (hm:m=n+1) :
  ∃r s',aE (Cs sm) eg 227 [.slice (some va) 1 vc,.slice (some vb) m cap] ⟨h,c,rl,wl⟩ r s'/\(r=.bool false/\s'=⟨h,c,vb.block::va.block::rl,wl⟩):=by
 subst hm
 refine⟨_,_,aE.of_ex H AM ?_,rfl,rfl⟩
 show (bif Nat.beq va.block vb.block then M.fail else(bu va.block).bind fun _=>(bu vb.block).bind fun cs=>match cu cs 0 with|some _=>M.ret (Value.bool false)|none=>M.fail) _=_
 rw[bh.2 hne,cond_false,ac (bz hv hc),ac (bz hb hcb),hy]
 rfl
theorem xu {o n:Nat}{cs xs:List Value} (h:aP o (n+1) cs=some xs):∃y,cu cs 0=some y:=by
 cases cs with
 |nil =>
  have:=(aN _ _ _ _ h).2.1
  simp at this
 |cons y cs=>exact⟨y,rfl⟩
set_option maxHeartbeats 4000000 in
theorem sg (H:sm 200=none) (H':sm 227=none) {h:T ag}{c:Nat}{rl wl:List Nat} (hf:ai h c) {b o i m vb vo vc:Nat}{sp:Option Nat}{cs ws vv A B t2:List Value} (hb:ay h b (.cells cs)) (hs:aP o ((i+1+m+1)*2) cs=some (A++B++t2)) (hA:A.length=i*2) (hB:B.length=(m+1)*2)
  (hv:ay h vb (.cells ws)) (hvs:aP vo 2 ws=some vv) (hne:vb≠b) (hat:∀x∈B,atom x=true) (hat':∀x∈vv,atom x=true) (hbig:i+1+m+1<=dv) :
  ∃r s',aE (Cs sm) eg 200 [.slice (some ⟨b,o,some 2⟩) (i+1+m) (i+1+m+1),.int .i64 (i:Int),.slice (some ⟨vb,vo,sp⟩) 1 vc] ⟨h,c,rl,wl⟩ r s'/\(r=.slice (some ⟨b,o,some 2⟩) (i+1+m+1) (i+1+m+1)/\s'.c=c/\∃cs',ay s'.h b (.cells cs')/\aP o ((i+1+m+1)*2) cs'=some (A++vv++B))/\bA ⟨h,c,rl,wl⟩ s' (fun x=>x=b\/x=vb) (fun x=>x=b):=by
 have l1:=hb.lt hf
 have l2:=hv.lt hf
 have hbg:dv=1048576:=rfl
 have lv:vv.length=2:=(aN _ _ _ _ hvs).1
 have lt2:t2.length=2:=by
  have:=(aN _ _ _ _ hs).1
  simp only[List.length_append] at this
  omega
 -- the row, cut elsewhere
 obtain⟨X,Y,hXY,hX,hY⟩:∃X Y:List Value,B++t2=X++Y/\X.length=2/\Y.length=(m+1)*2:=by
  refine⟨(B++t2).take 2,(B++t2).drop 2,(List.take_append_drop 2 _).symm,?_,?_⟩
  ·rw[List.length_take,List.length_append];omega
  ·rw[List.length_drop,List.length_append];omega
 obtain⟨c1,s1,s2⟩:=bG (o:=o) (k:=(i+1)*2) (A:=A++X) (B:=Y) (B':=B) (D:=[]) (cs:=cs) (n:=(i+1+m+1)*2) (by rw[hs,List.append_assoc,hXY];simp) (by rw[List.length_append];omega) (by omega) hat
 obtain⟨c2,s3,s4⟩:=bG (o:=o) (k:=i*2) (A:=A) (B:=X) (B':=vv) (D:=B) (cs:=c1) (n:=(i+1+m+1)*2) (by rw[s2];simp) hA (by omega) hat'
 have hsB:aP (o+i*2) ((m+1)*2) cs=some B:=by
  have e:aP o (i*2+((m+1)*2+2)) cs=some (A++(B++t2)):=by rw[<- List.append_assoc,<- hs];congr 1;omega
  exact(dP (dP e hA).2 hB).1
 have hneB:B≠[]:=by rintro rfl;simp at hB
 have hneV:vv≠[]:=by rintro rfl;simp at lv
 obtain⟨y,hy⟩:=xu (n:=(i+1+m)*2+1) (o:=o) (cs:=cs) (xs:=A++B++t2) (by rw[show (i+1+m)*2+1+1=(i+1+m+1)*2 by omega];exact hs)
 refine Fn.go H oS uZ vq rfl rfl ?_
 refine cg ?_
 refine aq ?_
 refine Zu (aZ ej rfl rfl rfl (by omega) (by omega)) ?_
 refine aq ?_
 refine Zu (BN lR rfl) ?_
 refine Zu (qj rfl rfl (m:=i+1+m+1) (by omega) (by omega)) ?_
 refine aq ?_
 refine Zu (cD ej rfl rfl (k:=i+1+m+1) (by omega) (by omega) (fun a ha=>by cases ha;exact .inr rfl)) ?_
 refine aq ?_
 refine Zu (aZ ej rfl rfl (k:=i+1) (by omega) (by omega) (by omega)) ?_
 refine ax.call rfl rfl (pm (n:=m) H' hv (by omega) hb (by omega) hne hy (by omega)) ?_
 rintro v h1 c1' r1 w1 ⟨rfl,e1⟩
 cases e1
 refine aq ?_
 refine Zq (aZ ej rfl rfl (k:=i+1) (by omega) (by omega) (by omega)) ?_
 refine aq ?_
 refine Zq (aZ ej rfl rfl (k:=i) (by omega) (by omega) (by omega)) ?_
 refine Zd (fF iB rfl rfl (j:=m) (by show min _ _=_;omega) hb.cel (by omega) hsB hneB hb (by omega) s1) ?_
 refine aq ?_
 refine Zu (aZ ej rfl rfl (k:=i) (by omega) (by omega) (by omega)) ?_
 refine aq ?_
 refine Zu (fF iB rfl rfl (j:=0) (by show min _ _=_;omega) (hv.other hne).cel (by omega) hvs hneV ay.same (by omega) s3) ?_
 refine aq ?_
 refine⟨.inr rfl,aG.one rfl ⟨⟨rfl,rfl,_,ay.same,s4⟩,?_⟩⟩
 exact bM
theorem pE (H:sm 200=none) {h:T ag}{c:Nat}{rl wl:List Nat} (hf:ai h c) {b o n vb vo vc:Nat}{sp:Option Nat}{cs ws vv A t2:List Value} (hb:ay h b (.cells cs)) (hs:aP o ((n+1)*2) cs=some (A++t2)) (hA:A.length=n*2)
  (hv:ay h vb (.cells ws)) (hvs:aP vo 2 ws=some vv) (hat':∀x∈vv,atom x=true) (hbig:n+1<=dv) :
  ∃r s',aE (Cs sm) eg 200 [.slice (some ⟨b,o,some 2⟩) n (n+1),.int .i64 (n:Int),.slice (some ⟨vb,vo,sp⟩) 1 vc] ⟨h,c,rl,wl⟩ r s'/\(r=.slice (some ⟨b,o,some 2⟩) (n+1) (n+1)/\s'.c=c/\∃cs',ay s'.h b (.cells cs')/\aP o ((n+1)*2) cs'=some (A++vv))/\bA ⟨h,c,rl,wl⟩ s' (fun x=>x=b\/x=vb) (fun x=>x=b):=by
 have l1:=hb.lt hf
 have l2:=hv.lt hf
 have hbg:dv=1048576:=rfl
 have lv:vv.length=2:=(aN _ _ _ _ hvs).1
 have lt2:t2.length=2:=by
  have:=(aN _ _ _ _ hs).1
  simp only[List.length_append] at this
  omega
 obtain⟨c2,s3,s4⟩:=bG (o:=o) (k:=n*2) (A:=A) (B:=t2) (B':=vv) (D:=[]) (cs:=cs) (n:=(n+1)*2) (by rw[hs];simp) hA (by omega) hat'
 have hneV:vv≠[]:=by rintro rfl;simp at lv
 refine Fn.go H oS uZ vq rfl rfl ?_
 refine cg ?_
 refine aq ?_
 refine Zu (aZ ej rfl rfl rfl (by omega) (by omega)) ?_
 refine aq ?_
 refine Zu (nA iB lR rfl rfl (k:=0) hv.cel (by omega) hvs hneV (by omega) hb (by omega) s3) ?_
 refine aq ?_
 refine⟨.inr rfl,aG.one rfl ⟨⟨rfl,rfl,_,ay.same,by rw[s4,List.append_nil]⟩,?_⟩⟩
 exact bM
theorem pQ (H:sm 200=none) {h:T ag}{c:Nat}{rl wl:List Nat} (hf:ai h c) {b o n vb vo vc:Nat}{sp:Option Nat}{cs ws vv A:List Value} (hb:ay h b (.cells cs)) (hs:aP o ((n+1)*2) cs=some A)
  (hv:ay h vb (.cells ws)) (hvs:aP vo 2 ws=some vv) (hbig:n+2<=dv) :
  ∃r s',aE (Cs sm) eg 200 [.slice (some ⟨b,o,none⟩) (n+1) (n+1),.int .i64 ((n+1:Nat):Int),.slice (some ⟨vb,vo,sp⟩) 1 vc] ⟨h,c,rl,wl⟩ r s'/\(r=.slice (some ⟨c,0,some 2⟩) (n+2) (n+2)/\s'.c=c+1/\ay s'.h c (.cells (A++vv)))/\bA ⟨h,c,rl,wl⟩ s' (fun x=>x=b\/x=vb) (fun _=>False):=by
 have l1:=hb.lt hf
 have l2:=hv.lt hf
 have hbg:dv=1048576:=rfl
 refine Fn.go H oS uZ vq rfl rfl ?_
 refine cg ?_
 refine aq ?_
 refine Zu (qo ej rfl rfl rfl) ?_
 refine aq ?_
 refine Zu (rZ iB lR rfl rfl (k:=0) hv.cel (by omega) hvs (by omega) (by omega) hb.cel (by omega) hs aO) ?_
 refine aq ?_
 refine⟨.inr rfl,aG.one rfl ⟨⟨rfl,rfl,ay.same⟩,?_⟩⟩
 exact bM
theorem pp (H:sm 200=none) {h:T ag}{c:Nat}{rl wl:List Nat} (hf:ai h c) {b o m vb vo vc:Nat}{sp:Option Nat}{cs ws vv B:List Value} (hb:ay h b (.cells cs)) (hs:aP o ((m+1)*2) cs=some B)
  (hv:ay h vb (.cells ws)) (hvs:aP vo 2 ws=some vv) (hat:∀x∈B,atom x=true) (hat':∀x∈vv,atom x=true) (hbig:m+2<=dv) :
  ∃r s',aE (Cs sm) eg 200 [.slice (some ⟨b,o,none⟩) (m+1) (m+1),.int .i64 0,.slice (some ⟨vb,vo,sp⟩) 1 vc] ⟨h,c,rl,wl⟩ r s'/\(r=.slice (some ⟨c,0,some 2⟩) (m+2) (m+2)/\s'.c=c+1/\∃cs',ay s'.h c (.cells cs')/\aP 0 ((m+2)*2) cs'=some (vv++B))/\bA ⟨h,c,rl,wl⟩ s' (fun x=>x=b\/x=vb) (fun _=>False):=by
 have l1:=hb.lt hf
 have l2:=hv.lt hf
 have hbg:dv=1048576:=rfl
 have lv:vv.length=2:=(aN _ _ _ _ hvs).1
 have lB:B.length=(m+1)*2:=(aN _ _ _ _ hs).1
 have hneB:B≠[]:=by rintro rfl;simp at lB
 have hneV:vv≠[]:=by rintro rfl;simp at lv
 obtain⟨X,Y,hXY,hX,hY⟩:∃X Y:List Value,[]++rep [Value.int .i64 0,Value.int .i64 0] (m+2)=X++Y/\X.length=2/\Y.length=(m+1)*2:=by
  have hr:(rep [Value.int .i64 0,Value.int .i64 0] (m+2)).length=(m+2)*2:=by rw[dT];rfl
  refine⟨(rep [Value.int .i64 0,Value.int .i64 0] (m+2)).take 2,(rep [Value.int .i64 0,Value.int .i64 0] (m+2)).drop 2,?_,?_,?_⟩
  ·rw[List.take_append_drop];rfl
  ·rw[List.length_take,hr];omega
  ·rw[List.length_drop,hr];omega
 have hc0:aP 0 ((m+2)*2) ([]++rep [Value.int .i64 0,Value.int .i64 0] (m+2))=some (X++Y):=by
  rw[hXY];exact aA _ _ (by rw[List.length_append];omega)
 obtain⟨c1,s1,s2⟩:=bG (o:=0) (k:=0) (A:=[]) (B:=X) (B':=vv) (D:=Y) hc0 rfl (by omega) hat'
 obtain⟨c2,s3,s4⟩:=bG (o:=0) (k:=2) (A:=vv) (B:=Y) (B':=B) (D:=[]) (cs:=c1) (n:=(m+2)*2) (by rw[s2];simp) lv (by omega) hat
 refine Fn.go H oS uZ vq rfl rfl ?_
 refine cg ?_
 refine aq ?_
 refine Zu (eT ej rfl rfl (k:=0) rfl (by omega) (by omega) (by omega) (.inl rfl)) ?_
 refine aq ?_
 refine Zu (rC lR rfl) ?_
 refine aq ?_
 refine Zu (cD ej rfl rfl (k:=0) rfl (by omega) (fun a ha=>by cases ha;exact .inl rfl)) ?_
 refine aq ?_
 refine Zu (qD iB Mk rfl rfl (m:=m+2) (by omega) (by omega) (by omega) aO) ?_
 refine aq ?_
 refine Zu (aZ ej rfl rfl (k:=0) rfl (by omega) (by omega)) ?_
 refine aq ?_
 refine Zu (fF iB rfl rfl (j:=0) (by show min _ _=_;omega) (hv.other (by omega)).cel (by omega) hvs hneV ay.same (by omega) (by rw[Nat.zero_mul];exact s1)) ?_
 refine aq ?_
 refine Zq (aZ ej rfl rfl (k:=1) (by omega) (by omega) (by omega)) ?_
 refine aq ?_
 refine Zq (eT ej rfl rfl (k:=0) rfl (by omega) (by omega) (by omega) (.inl rfl)) ?_
 refine Zd (fF iB rfl rfl (j:=m) (by show min _ _=_;omega) ((hb.other (by omega)).other (by omega)).cel (by omega) (by rw[Nat.zero_mul];exact hs) hneB ay.same (by omega) s3) ?_
 refine aq ?_
 refine⟨.inr rfl,aG.one rfl ⟨⟨congrArg (fun q=>Value.slice (some ⟨c,0,some 2⟩) q q) (Nat.zero_add (m+2)),rfl,_,ay.same,by rw[s4,List.append_nil]⟩,?_⟩⟩
 exact bM
theorem sW (H:sm 200=none) {h:T ag}{c:Nat}{rl wl:List Nat} (hf:ai h c) {b o i m vb vo vc:Nat}{sp:Option Nat}{cs ws vv A B:List Value} (hb:ay h b (.cells cs)) (hs:aP o ((i+1+m+1)*2) cs=some (A++B)) (hA:A.length=(i+1)*2)
  (hv:ay h vb (.cells ws)) (hvs:aP vo 2 ws=some vv) (hat:∀x∈B,atom x=true) (hat':∀x∈vv,atom x=true) (hbig:i+m+3<=dv) :
  ∃r s',aE (Cs sm) eg 200 [.slice (some ⟨b,o,none⟩) (i+1+m+1) (i+1+m+1),.int .i64 ((i+1:Nat):Int),.slice (some ⟨vb,vo,sp⟩) 1 vc] ⟨h,c,rl,wl⟩ r s'/\(r=.slice (some ⟨c,0,some 2⟩) (i+1+(m+2)) (i+1+(m+2))/\s'.c=c+1/\∃cs',ay s'.h c (.cells cs')/\aP 0 ((i+1+(m+2))*2) cs'=some (A++vv++B))/\bA ⟨h,c,rl,wl⟩ s' (fun x=>x=b\/x=vb) (fun _=>False):=by
 have l1:=hb.lt hf
 have l2:=hv.lt hf
 have hbg:dv=1048576:=rfl
 have lv:vv.length=2:=(aN _ _ _ _ hvs).1
 have lB:B.length=(m+1)*2:=by
  have:=(aN _ _ _ _ hs).1
  simp only[List.length_append] at this
  omega
 have hneB:B≠[]:=by rintro rfl;simp at lB
 have hneV:vv≠[]:=by rintro rfl;simp at lv
 have hsB:aP o ((i+1)*2) cs=some A/\aP (o+(i+1)*2) ((m+1)*2) cs=some B:=dP (by rw[<- hs];congr 1;omega) hA
 obtain⟨X,Y,hXY,hX,hY⟩:∃X Y:List Value,rep [Value.int .i64 0,Value.int .i64 0] (m+2)=X++Y/\X.length=2/\Y.length=(m+1)*2:=by
  have hr:(rep [Value.int .i64 0,Value.int .i64 0] (m+2)).length=(m+2)*2:=by rw[dT];rfl
  refine⟨(rep [Value.int .i64 0,Value.int .i64 0] (m+2)).take 2,(rep [Value.int .i64 0,Value.int .i64 0] (m+2)).drop 2,?_,?_,?_⟩
  ·rw[List.take_append_drop]
  ·rw[List.length_take,hr];omega
  ·rw[List.length_drop,hr];omega
 have hc0:aP 0 ((i+1+(m+2))*2) (A++rep [Value.int .i64 0,Value.int .i64 0] (m+2))=some (A++X++Y):=by
  rw[hXY,List.append_assoc];exact aA _ _ (by simp only[List.length_append];omega)
 obtain⟨c1,s1,s2⟩:=bG (o:=0) (k:=(i+1)*2) (A:=A) (B:=X) (B':=vv) (D:=Y) hc0 hA (by omega) hat'
 obtain⟨c2,s3,s4⟩:=bG (o:=0) (k:=(i+1+1)*2) (A:=A++vv) (B:=Y) (B':=B) (D:=[]) (cs:=c1) (n:=(i+1+(m+2))*2) (by rw[s2];simp) (by rw[List.length_append];omega) (by omega) hat
 refine Fn.go H oS uZ vq rfl rfl ?_
 refine cg ?_
 refine aq ?_
 refine Zu (eT ej rfl rfl (k:=i+1) (by omega) (by omega) (by omega) (by omega) (.inl rfl)) ?_
 refine aq ?_
 refine Zu (rC lR rfl) ?_
 refine aq ?_
 refine Zu (cD ej rfl rfl (k:=i+1) (by omega) (by omega) (fun a ha=>by cases ha;exact .inl rfl)) ?_
 refine aq ?_
 refine Zu (tk iB Mk rfl rfl (m:=m+2) (by omega) (by omega) (by omega) hb.cel (by omega) hsB.1 aO) ?_
 refine aq ?_
 refine Zu (aZ ej rfl rfl (k:=i+1) (by omega) (by omega) (by omega)) ?_
 refine aq ?_
 refine Zu (fF iB rfl rfl (j:=0) (by show min _ _=_;omega) (hv.other (by omega)).cel (by omega) hvs hneV ay.same (by omega) s1) ?_
 refine aq ?_
 refine Zq (aZ ej rfl rfl (k:=i+1+1) (by omega) (by omega) (by omega)) ?_
 refine aq ?_
 refine Zq (eT ej rfl rfl (k:=i+1) (by omega) (by omega) (by omega) (by omega) (.inl rfl)) ?_
 refine Zd (fF iB rfl rfl (j:=m) (by show min _ _=_;omega) ((hb.other (by omega)).other (by omega)).cel (by omega) hsB.2 hneB ay.same (by omega) s3) ?_
 refine aq ?_
 refine⟨.inr rfl,aG.one rfl ⟨⟨rfl,rfl,_,ay.same,by rw[s4,List.append_nil]⟩,?_⟩⟩
 exact bM
theorem wM (H:sm 200=none) {h:T ag}{c:Nat}{rl wl:List Nat} (hf:ai h c) {vb vo vc:Nat}{sp:Option Nat}{ws vv:List Value}
  (hv:ay h vb (.cells ws)) (hvs:aP vo 2 ws=some vv) :
  ∃r s',aE (Cs sm) eg 200 [.slice none 0 0,.int .i64 0,.slice (some ⟨vb,vo,sp⟩) 1 vc] ⟨h,c,rl,wl⟩ r s'/\(r=.slice (some ⟨c,0,some 2⟩) 1 1/\s'.h=h.set c (some (.cells vv))/\s'.c=c+1/\ay s'.h c (.cells vv))/\bA ⟨h,c,rl,wl⟩ s' (fun x=>x=vb) (fun _=>False):=by
 have l2:=hv.lt hf
 have hbg:dv=1048576:=rfl
 refine Fn.go H oS uZ vq rfl rfl ?_
 refine cg ?_
 refine aq ?_
 refine Zu (jr ej rfl rfl rfl) ?_
 refine aq ?_
 refine Zu (cy iB lR rfl rfl (k:=0) hv.cel (by omega) hvs (by omega) aO) ?_
 refine aq ?_
 refine⟨.inr rfl,aG.one rfl ⟨⟨rfl,rfl,rfl,ay.same⟩,?_⟩⟩
 exact bM
end Go.Ab.Seat
end
