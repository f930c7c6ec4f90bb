import Derived.Test.YtofikbfljjjgeaaGreatDoorDZ0
import Derived.Test.YtofikbfljjjgeaaGreatDoorE43
set_option linter.unusedVariables false
set_option linter.unusedSimpArgs false
section
namespace Go.Ab.Seat
open Go.Extern Go.Proofs
def upd (g:Nat->Value):List (Nat×Value)->Nat->Value
 | [],n=>g n
 |x::l,n=>if n=x.1 then x.2 else upd g l n
def fr (g:Nat->Value) (l:List (Nat×Value)):List Nat->L
 | []=>.nil
 |p::ks=>.cons p (upd g l p) (fr g l ks)
theorem BY (g:Nat->Value) (l:List (Nat×Value)) (n:Nat):∀ks:List Nat,(fr g l ks).look (fun _=>top) n=if n∈ks then upd g l n else top
 | []=>rfl
 |p::ks=>by
  show (L.cons p (upd g l p) (fr g l ks)).look (fun _=>top) n=_
  rw[bH]
  by_cases h:p=n
  ·subst h;rw[if_pos rfl,if_pos (List.mem_cons_self ..)]
  ·rw[if_neg h,BY g l n ks]
   by_cases h2:n∈ks
   ·rw[if_pos h2,if_pos (List.mem_cons_of_mem _ h2)]
   ·rw[if_neg h2,if_neg (fun q=>(List.mem_cons.1 q).elim (fun e=>h e.symm) h2)]
theorem Ey (g:Nat->Value) (n:Nat):∀l:List (Nat×Value),(∀x∈l,g x.1=x.2)->upd g l n=g n
 | [],_=>rfl
 |x::l,h=>by
  show (if n=x.1 then x.2 else upd g l n)=_
  split
  ·rename_i e;rw[e,h x (List.mem_cons_self ..)]
  ·exact Ey g n l fun y hy=>h y (List.mem_cons_of_mem _ hy)
noncomputable def JW (k:L) (n:Nat):Value:=k.look (fun _=>top) n
theorem A6 {k:L}{ks:List Nat}{l:List (Nat×Value)} (h2:(k.keys.all fun p=>ks.contains p)=true) (h3:∀x∈l,k.look (fun _=>top) x.1=x.2):lP (fr (JW k) l ks) k:=fun t=>by
 rw[BY,Ey (JW k) t l h3]
 by_cases h:t∈ks
 ·rw[if_pos h];rfl
 ·rw[if_neg h,su k t fun q=>h (by
   have:=List.all_eq_true.1 h2 t q
   simpa using this)]
section
variable {C:aS}{eg:TypeId->Bool}{km:Nat}{Q:Ex->aR->St->Prop}{k:L}{s:St}
theorem aC.goF {J:Nat->L->St->Prop}{m:Nat} (m':Nat) (ks:List Nat) (l:List (Nat×Value)) (h1:m'<m) (h4:J m' (fr (JW k) l ks) s) (h2:(k.keys.all fun p=>ks.contains p)=true:=by rfl) (h3:∀x∈l,k.look (fun _=>top) x.1=x.2:=by(repeat (first|(exact a7)|(apply all_cons;rfl)))):aC J m Q .normal (.mk .nil k) s :=
 aC.go m' _ h1 (A6 h2 h3) h4
theorem di.goF {J:L->St->Prop} (ks:List Nat) (l:List (Nat×Value)) (h4:J (fr (JW k) l ks) s) (h2:(k.keys.all fun p=>ks.contains p)=true:=by rfl) (h3:∀x∈l,k.look (fun _=>top) x.1=x.2:=by(repeat (first|(exact a7)|(apply all_cons;rfl)))):di J Q .normal (.mk .nil k) s :=
 di.go _ (A6 h2 h3) h4
theorem Wx.loopF {b:Code} (J:Nat->L->St->Prop) (m:Nat) (ks:List Nat) (l:List (Nat×Value)) (h0:J m (fr (JW k) l ks) s) (hr:∀m k s,J m k s->Wx C eg km b (.mk .nil k) s (aC J m Q)) (hQ:gQ Q:=by exact iY) (h2:(k.keys.all fun p=>ks.contains p)=true:=by rfl) (h3:∀x∈l,k.look (fun _=>top) x.1=x.2:=by(repeat (first|(exact a7)|(apply all_cons;rfl)))):Wx C eg km (.loop b) (.mk .nil k) s Q :=
 Wx.loopE J m _ hQ (A6 h2 h3) h0 hr
theorem Wx.sw {c:Code}{k':L} (h:k=k') (h2:Wx C eg km c (.mk .nil k') s Q):Wx C eg km c (.mk .nil k) s Q:=h▸h2
end
theorem i5 (g:Nat->Value) (l:List (Nat×Value)):fr g l []=.nil:=rfl
theorem i6 (g:Nat->Value) (l:List (Nat×Value)) (p:Nat) (ks:List Nat):fr g l (p::ks)=.cons p (upd g l p) (fr g l ks):=rfl
theorem dC (g:Nat->Value) (n:Nat):upd g [] n=g n:=rfl
theorem dB (g:Nat->Value) (p:Nat) (v:Value) (l:List (Nat×Value)) (n:Nat):upd g ((p,v)::l) n=if n=p then v else upd g l n:=rfl
end Go.Ab.Seat
end
section
namespace Go.Ab.Seat
open Go.Extern Go.Proofs
def B3 (f:Nat):Bool:=[15,71,195,262,84,144,200].contains f
def pV (sm:Nat->Option (List Value->M Value)):Prop:=∀f,B3 f=false->sm f=none
set_option maxRecDepth 4000
variable {sm:Nat->Option (List Value->M Value)}
theorem C1 (H:pV sm) {h:T ag}{c:Nat}{rl wl:List Nat}:∃v s',aE (Cs sm) eg 136 [.slice none 0 0] ⟨h,c,rl,wl⟩ v s'/\(v=.slice none 0 0/\s'=⟨h,c,rl,wl⟩):=by
 refine Fn.go (H 136 rfl) F9 EY ES rfl rfl ?_
 refine cg ?_
 refine aq ?_
 refine⟨.inr rfl,aG.one rfl ⟨rfl,rfl⟩⟩
theorem Ag (H:pV sm) {h:T ag}{c:Nat}{rl wl:List Nat} (hf:ai h c) (ad:Addr) (cap:Nat):∃v s',aE (Cs sm) eg 136 [.slice (some ad) 0 cap] ⟨h,c,rl,wl⟩ v s'/\(v=.slice (some ⟨c,0,none⟩) 0 0/\s'=⟨h.set c (some (.cells [])),c+1,rl,wl⟩):=by
 refine Fn.go (H 136 rfl) F9 EY ES rfl rfl ?_
 refine cg ?_
 refine aq ?_
 refine ax.st (nJ DT IC rfl rfl (by omega)) ?_
 refine aq ?_
 refine⟨.inr rfl,aG.one rfl ⟨rfl,rfl⟩⟩
theorem Bi (H:pV sm) {h:T ag}{c:Nat}{rl wl:List Nat} (hf:ai h c) {b o n cap:Nat}{sp:Option Nat}{cs xs:List Value} (hb:gX h b cs) (hs:aP o ((n+1)*1) cs=some xs) (hn:n+1<=vV) :
  ∃v s',aE (Cs sm) eg 136 [.slice (some ⟨b,o,sp⟩) (n+1) cap] ⟨h,c,rl,wl⟩ v s'/\(v=.slice (some ⟨c+1,0,some 1⟩) (n+1) (n+1)/\ay s'.h (c+1) (.cells xs)/\bA ⟨h,c,rl,wl⟩ s' (· = b) (fun _=>False)):=by
 have hbc:=hb.lt hf
 refine Fn.go (H 136 rfl) F9 EY ES rfl rfl ?_
 refine cg ?_
 refine aq ?_
 refine ax.st (Cg DT IC rfl rfl KF (by omega) hs (by decide) (by unfold vV at hn;omega) aO) ?_
 refine aq ?_
 refine⟨.inr rfl,aG.one rfl ⟨rfl,gL,?_⟩⟩
 exact bM
theorem Bl (H:pV sm) {h:T ag}{c:Nat}{rl wl:List Nat} (hf:ai h c) {v:Value}{n:Nat}{xs:List Value} (hv:bj h v n 1 xs) (hn:n<=vV) (hz:n=0->∃a cap,v=.slice a 0 cap/\(a=none->cap=0)) (bs:Nat->Prop) (hbs:∀b o sp n' cap,v=.slice (some ⟨b,o,sp⟩) n' cap->bs b) :
  ∃v' s',aE (Cs sm) eg 136 [v] ⟨h,c,rl,wl⟩ v' s'/\kc s'.h c v' n xs/\bA ⟨h,c,rl,wl⟩ s' bs (fun _=>False):=by
 cases n with
 |zero =>
  obtain⟨a,cap,rfl,ha⟩:=hz rfl
  have hx:xs=[]:=by
   rcases hv with⟨_,h2,_⟩|⟨b,o,sp,cap',cs,_,_,h4⟩
   ·exact h2
   ·have:=(aN _ _ _ _ h4).1
    simpa using this
  subst hx
  cases a with
  |none =>
   obtain rfl:=ha rfl
   obtain⟨v',s',h1,rfl,rfl⟩:=C1 H (h:=h) (c:=c) (rl:=rl) (wl:=wl)
   exact⟨_,_,h1,.inl ⟨rfl,rfl,rfl⟩,bA.refl hf⟩
  |some ad =>
   obtain⟨v',s',h1,rfl,rfl⟩:=Ag H (rl:=rl) (wl:=wl) hf ad cap
   refine⟨_,_,h1,.inr ⟨c,none,0,rfl,Nat.le_refl _,Nat.le_refl _,ay.same⟩,⟨by simp,hf.new,fun b hb _=>am (by simp at hb;omega),fun _ q=>.inl q,fun _ q=>.inl q⟩⟩
 |succ n =>
  rcases hv with⟨h1,_⟩|⟨b,o,sp,cap',cs,rfl,h3,h4⟩
  ·cases h1
  ·obtain⟨v',s',h1,rfl,h5,h6⟩:=Bi H (rl:=rl) (wl:=wl) (cap:=cap') (sp:=sp) hf h3 h4 hn
   exact⟨_,_,h1,.inr ⟨c+1,some 1,n+1,rfl,Nat.le_refl _,by omega,h5⟩,h6.mono (fun x _ q=>by subst q;exact hbs _ _ _ _ _ rfl) (fun _ _ q=>q)⟩
theorem jR (H:pV sm) {h:T ag}{c:Nat}{rl wl:List Nat} (hf:ai h c) {v:Value}{n:Nat}{xs:List Value} (hv:bj h v n 1 xs) (hn:n<=vV) (hz:n=0->∃a cap,v=.slice a 0 cap/\(a=none->cap=0)) (bs:Nat->Prop) (hbs:∀b o sp n' cap,v=.slice (some ⟨b,o,sp⟩) n' cap->bs b) :
  ∃v' s',aE (Cs sm) eg 73 [v] ⟨h,c,rl,wl⟩ v' s'/\kc s'.h c v' n xs/\bA ⟨h,c,rl,wl⟩ s' bs (fun _=>False):=by
 obtain⟨v',⟨h1,c1,rl1,wl1⟩,hfn,hown,hext⟩:=Bl H (rl:=[]) (wl:=[]) hf hv hn hz bs hbs
 refine Fn.go (H 73 rfl) Ou N9 Mt rfl rfl ?_
 refine cg ?_
 refine aq ?_
 refine ax.st (aW.ofCall hfn rfl) ?_
 refine aq ?_
 refine⟨.inr rfl,aG.one rfl ⟨hown,?_⟩⟩
 exact bA.of hext.c hext.fresh hext.h (Lg.extR Lg.nil hext fun _ _ q=>q) (Lg.extW Lg.nil hext fun _ _ q=>q)
end Go.Ab.Seat
end
section
namespace Go.Ab.Seat
open Go.Extern Go.Proofs
set_option maxRecDepth 4000
variable {sm:Nat->Option (List Value->M Value)}
theorem bp {h:T ag}{oa:Option Addr}{n cap k:Nat}{xs:List Value} (hr:bj h (.slice oa n cap) n k xs) {j:Nat}{x:Value} (hj:j<n*k) (hx:xs[j]?=some x) :
  ∃b o sp cs,oa=some ⟨b,o,sp⟩/\gX h b cs/\cu cs (o+j)=some x:=by
 rcases hr with⟨rfl,rfl,_⟩|⟨b,o,sp,cap',cs,e,hc,hs⟩
 ·simp at hx
 ·cases e
  refine⟨b,o,sp,cs,rfl,hc,?_⟩
  rw[b8,<- (aN _ _ _ _ hs).2.2 j hj]
  exact hx
end Go.Ab.Seat
end
section
namespace Go.Ab.Seat
open Go.Extern Go.Proofs
set_option maxRecDepth 4000
variable {sm:Nat->Option (List Value->M Value)}
def EQ (a:Option Addr) (n k:Nat) (b:Option Addr) (k':Nat) (z:Int) (j5 j14 j24:Value):L :=
 .cons 0 (.slice a n k) (.cons 1 (.slice b n k') (.cons 4 (.bool false) (.cons 5 j5 (.cons 10 (.bool false) (.cons 12 (.int .i64 (n:Int)) (.cons 13 (.int .i64 z) (.cons 14 j14 (.cons 24 j24 .nil))))))))
def iF (z:Int):Int:=max (-1048576) (min z 1048576)
def qI (zs:List Int) (dim i:Nat):List Value:=(List.range dim).map fun j=>if j<i then .int .i32 (iF (zs.getD j 0)) else .int .i32 0
def rT (zs:List Int) (dim:Nat):List Int:=(List.range dim).map fun j=>iF (zs.getD j 0)
theorem oP (zs:List Int) (dim:Nat):(rT zs dim).length=dim:=by simp [rT]
theorem j0 (zs:List Int) (dim i:Nat):(qI zs dim i).length=dim:=by simp [qI]
theorem Di (zs:List Int) (dim:Nat):rep [Value.int .i32 0] dim=qI zs dim 0:=by
 refine List.ext_getElem? fun i=>?_
 rw[BR]
 simp only[qI,List.length_singleton,Nat.mul_one,Nat.mod_one,List.getElem?_map,List.getElem?_range',Nat.not_lt_zero,if_false]
 by_cases h:i<dim
 ·rw[if_pos h,List.getElem?_range h];rfl
 ·rw[if_neg h,List.getElem?_eq_none (by simp;omega)];rfl
theorem DH (zs:List Int) (dim i:Nat) (hi:i<dim):bw [.int .i32 (iF (zs.getD i 0))] (qI zs dim i) (0+i*1)=some (qI zs dim (i+1)):=by
 have h:=cz (qI zs dim i) (0+i*1) [.int .i32 (iF (zs.getD i 0))] (by rw[j0];simp;omega) (all_cons rfl a7)
 rw[h]
 congr 1
 refine List.ext_getElem? fun j=>?_
 rw[show 0+i*1=i by omega]
 have e:∀m j,(qI zs dim m)[j]?=if j<dim then some (if j<m then .int .i32 (iF (zs.getD j 0)) else .int .i32 0) else none:=by
  intro m j
  unfold qI
  rw[List.getElem?_map]
  by_cases h:j<dim
  ·rw[List.getElem?_range h,if_pos h];rfl
  ·rw[List.getElem?_eq_none (by simp;omega),if_neg h];rfl
 rw[e (i+1) j]
 rcases Nat.lt_trichotomy j i with hj|hj|hj
 ·rw[List.append_assoc,List.getElem?_append_left (by rw[List.length_take,j0];omega),List.getElem?_take_of_lt hj,e i j,if_pos hj,if_pos (by omega:j<i+1)]
 ·subst hj
  rw[List.append_assoc,List.getElem?_append_right (by rw[List.length_take,j0];omega),List.length_take,j0,show j - min j dim=0 by omega,if_pos hi,if_pos (by omega)]
  rfl
 ·rw[List.getElem?_append_right (by rw[List.length_append,List.length_take,j0];simp;omega),List.length_append,List.length_take,j0,List.getElem?_drop,show i+[Value.int .i32 (iF (zs.getD i 0))].length+(j - (min i dim+[Value.int .i32 (iF (zs.getD i 0))].length))=j by simp;omega,e i j,if_neg (by omega:¬j<i),if_neg (by omega:¬j<i+1)]
theorem zC (zs:List Int) (dim i:Nat) (hi:dim<=i\/zs.length<=i):qI zs dim i=(rT zs dim).map (Value.int .i32):=by
 unfold qI rT
 rw[List.map_map]
 refine List.map_congr_left fun j hj=>?_
 have hj:=List.mem_range.1 hj
 by_cases h:j<i
 ·rw[if_pos h];rfl
 ·rw[if_neg h]
  have:zs.getD j 0=0:=by rw[List.getD_eq_getElem?_getD,List.getElem?_eq_none (by omega)];rfl
  show Value.int .i32 0=Value.int .i32 (iF (zs.getD j 0))
  rw[this];rfl
def EV (a:Option Addr) (n k dim c:Nat) (z:Int) (j17:Value):L :=
 .cons 0 (.slice a n k) (.cons 1 (.int .i64 (dim:Int)) (.cons 4 (.slice none 0 0) (.cons 5 (.slice (some ⟨c,0,none⟩) dim dim) (.cons 6 (.int .i64 z) (.cons 17 j17 .nil)))))
theorem yo (H:pV sm) {h:T ag}{c:Nat}{rl wl:List Nat} (hf:ai h c) {a:Option Addr}{n k:Nat}{zs:List Int} (hn:zs.length=n) (hx:bj h (.slice a n k) n 1 (zs.map (Value.int .i32))) (dim:Nat) (hd:dim<=1000) (R:Nat->Prop) (hR:∀x,au (.slice a n k)=some x->R x) :
  ∃r s',aE (Cs sm) eg 21 [.slice a n k,.int .i64 (dim:Int)] ⟨h,c,rl,wl⟩ r s'/\(r=.slice (some ⟨c,0,none⟩) dim dim/\ay s'.h c (.cells ((rT zs dim).map (Value.int .i32))))/\bA ⟨h,c,rl,wl⟩ s' R (fun _=>False):=by
 refine Fn.go (H 21 rfl) N0 Pj O1 rfl rfl ?_
 refine cg ?_
 refine aq ?_
 refine Zu (dM (a:=dim) (b:=dim) DT rfl rfl rfl rfl (by omega) (by unfold dv;omega) aO) ?_
 refine aq ?_
 refine Wx.loopE (fun k1 e s=>∃(i:Nat) (z:Int) (h':T ag) (rl' wl':List Nat) (j17:Value),e=EV a n k dim c z j17/\z=i/\s=⟨h',c+1,rl',wl'⟩/\ai h' (c+1)/\Kp h h' c (fun _=>False)/\ay h' c (.cells (qI zs dim i))/\Lg c R rl'/\Lg c (fun _=>False) wl'/\i<=dim/\k1=dim - i) dim (EV a n k dim c 0 top) iY ?_ ?_ ?_
 ·unfold EV
  exact eI
 ·exact⟨0,0,_,_,_,_,rfl,rfl,rfl,aO,bW,(by rw[<- Di];exact ay.same),az,az,by omega,rfl⟩
 ·rintro k1 e s ⟨i,z,h',rl',wl',j17,rfl,hz,rfl,hf',hkp,hB,hlr,hlw,hid,rfl⟩
  unfold EV
  by_cases hi:i<dim
  ·by_cases hi2:i<n
   ·have hzs:(zs.map (Value.int .i32))[i]?=some (.int .i32 (zs.getD i 0)):=by
     rw[List.getElem?_map,List.getD_eq_getElem?_getD,List.getElem?_eq_getElem (by omega:i<zs.length)];rfl
    obtain⟨b1,o1,sp1,cs1,rfl,hc1,hn1⟩:=bp hx (j:=i*1) (by omega) (by rw[Nat.mul_one];exact hzs)
    have hR1:=hR b1 rfl
    have l1:=hc1.lt hf
    have hc1':gX h' b1 cs1:=by unfold gX ay at hc1 ⊢;rw[hkp b1 l1 (fun q=>q)];exact hc1
    refine aq ?_
    refine Zu (aj (k:=i) lh rfl rfl hz (by omega)) ?_
    refine Zu (aB (dV rfl) rfl hc1' (by omega) hn1) ?_
    refine aq ?_
    refine Zu (aj (k:=i) lh rfl rfl hz (by omega)) ?_
    ((with_reducible apply ax.so);rfl;exact(uc rfl);rfl;exact hB;omega;refine wC ?_;refine⟨_,_,(by(first|exact a8 _|rfl)),rfl,DH zs dim i hi,?_⟩)
    refine aq ?_
    refine aC.go (dim - (i+1)) (EV _ n k dim c (z+1) _) (by omega) eI ⟨i+1,z+1,_,_,_,_,rfl,by omega,rfl,aO,bW,ay.same,az,az,by omega,rfl⟩
   ·refine aq ?_
    refine⟨.inr rfl,aG.one rfl ⟨⟨rfl,?_⟩,?_⟩⟩
    ·rw[<- zC zs dim i (.inr (by omega))];exact hB
    ·exact bM
  ·refine aq ?_
   refine⟨.inr rfl,aG.one rfl ⟨⟨rfl,?_⟩,?_⟩⟩
   ·rw[<- zC zs dim i (.inl (by omega))];exact hB
   ·exact bM
end Go.Ab.Seat
end
section
namespace Go.Ab
section
variable {C:aS}{eg:TypeId->Bool}{e:aR}{s:St}
theorem aW.ofCallV {d:Option Nat}{g:Nat}{fo:Operand}{first cap:Array Value}{ar:Array Operand}{ts:Array TypeId}{ty:TypeId}{ps:String}{af:Array Edge}{gd:Option (Nat×Bool)}{args:List Value}{v:Value}{s':St} (hf:ae e fo=.func (.func g) first cap) (ha:gO (ae e) ar.toList=args)
  (h:aE C eg g (app first.toList (app args cap.toList)) s v s'):aW C eg e ⟨d,.call ⟨.value fo,ar,ts⟩,ty,ps,af,gd⟩ s v s':=by
 obtain⟨n,h⟩:=h
 refine⟨n,?_⟩
 show callV C (a6 C eg n) (ae e fo) (gO (ae e) ar.toList) s=_
 rw[hf,ha]
 exact h
end
section
variable {C:aS}{eg:TypeId->Bool}{all os:List Oper}{loc kept:L}{h:T ag}{c:Nat}{rl wl:List Nat}{Q:aR->St->Prop}{d:Nat}{ty:TypeId}{ps:String}{af:Array Edge}{g:Option (Nat×Bool)}
theorem ax.callV {f:Nat}{fo:Operand}{first cap:Array Value}{ar:Array Operand}{ts:Array TypeId}{args:List Value}{P:Value->St->Prop} (hw:aJ all (.mk loc kept) ⟨some d,.call ⟨.value fo,ar,ts⟩,ty,ps,af,g⟩=some true) (hf:ae (.mk loc kept) fo=.func (.func f) first cap) (ha:gO (ae (.mk loc kept)) ar.toList=args)
  (hc:∃v s',aE C eg f (app first.toList (app args cap.toList)) ⟨h,c,rl,wl⟩ v s'/\P v s') (k:∀v h' c' r1 w1,P v ⟨h',c',r1,w1⟩->ax C eg all os (.mk (.cons d v loc) kept) ⟨h',c',r1,w1⟩ Q) :
  ax C eg all (⟨some d,.call ⟨.value fo,ar,ts⟩,ty,ps,af,g⟩::os) (.mk loc kept) ⟨h,c,rl,wl⟩ Q:=by
 obtain⟨v,⟨h',c',r1,w1⟩,h1,h2⟩:=hc
 exact ax.op hw (aW.ofCallV hf ha h1) (k v h' c' r1 w1 h2)
end
end Go.Ab
end
section
namespace Go.Ab
theorem bG {o n k:Nat}{cs A B B' D:List Value} (h:aP o n cs=some (A++B++D)) (hA:A.length=k) (hB:B'.length=B.length) (ha:∀x∈B',atom x=true) :
  ∃r,bw B' cs (o+k)=some r/\aP o n r=some (A++B'++D):=by
 obtain⟨h1,h2,_⟩:=aN _ _ _ _ h
 rw[fj o n cs h2] at h
 have h:=Option.some.inj h
 have hcs:cs=cs.take o++(A++B++D)++cs.drop (o+n):=by
  rw[<- h,List.append_assoc,<- List.drop_drop,List.take_append_drop,List.take_append_drop]
 have hP:(cs.take o).length=o:=by rw[List.length_take];omega
 simp only[List.length_append] at h1
 generalize cs.take o=P at hcs hP
 generalize cs.drop (o+n)=S at hcs
 subst hcs
 subst hA
 refine⟨P++(A++B'++D)++S,?_,?_⟩
 ·rw[cz _ _ _ (by simp only[List.length_append];omega) ha]
  congr 1
  have e1:P++(A++B++D)++S=(P++A)++(B++(D++S)):=by simp only[List.append_assoc]
  rw[e1,List.take_left' (by rw[List.length_append];omega),List.drop_append,List.drop_eq_nil_of_le (by rw[List.length_append];omega),List.nil_append,List.drop_left' (by rw[List.length_append];omega)]
  simp only[List.append_assoc]
 ·rw[fj _ _ _ (by simp only[List.length_append];omega)]
  congr 1
  rw[List.append_assoc,List.drop_left' hP,List.take_left' (by simp only[List.length_append];omega)]
section
variable {C:aS}{eg:TypeId->Bool}{e:aR}{s:St}{h:T ag}{c:Nat}{rl wl:List Nat}{d:Option Nat}{ty:TypeId}{ps:String}{af:Array Edge}{g:Option (Nat×Bool)}
theorem aE.of_ex {f:Nat}{args:List Value}{v:Value}{s':St}{q:List Value->M Value} (hsm:C.sm f=none) (hex:C.ex f=some q) (h:q args s=some (v,s')):aE C eg f args s v s':=by
 refine⟨0,?_⟩
 unfold cr
 rw[hsm]
 simp only
 rw[hex]
 exact h
theorem aE.of_sm {f:Nat}{args:List Value}{v:Value}{s':St}{q:List Value->M Value} (hsm:C.sm f=some q) (h:q args s=some (v,s')):aE C eg f args s v s':=by
 refine⟨0,?_⟩
 unfold cr
 rw[hsm]
 exact h
theorem rC {t:TypeId}{x:Operand}{b o n cap:Nat} (ht:cI C t=true) (hx:ae e x=.slice (some ⟨b,o,none⟩) n cap) :
  aW C eg e ⟨d,.call ⟨.builtin .cap,#[x],#[t]⟩,ty,ps,af,g⟩ s (.int .i64 (cap:Int)) s:=⟨0,by
 show gg C .cap #[t] [ae e x] s=_
 rw[hx]
 show ((M.lift (cu [t] 0)).bind fun t=>nP C t _) s=_
 rw[ac (aw (show cu [t] 0=some t from rfl))]
 unfold cI at ht
 unfold nP
 cases hu:C.und t with
 |none=>rw[hu] at ht;cases ht
 |some u =>
  rw[hu] at ht
  cases u<;>first|(cases ht;done)|rfl⟩
theorem BN {t:TypeId}{x:Operand}{b o n cap k:Nat} (ht:cI C t=true) (hx:ae e x=.slice (some ⟨b,o,some k⟩) n cap) :
  aW C eg e ⟨d,.call ⟨.builtin .cap,#[x],#[t]⟩,ty,ps,af,g⟩ s (.chan (some cap)) s:=⟨0,by
 show gg C .cap #[t] [ae e x] s=_
 rw[hx]
 show ((M.lift (cu [t] 0)).bind fun t=>nP C t _) s=_
 rw[ac (aw (show cu [t] 0=some t from rfl))]
 unfold cI at ht
 unfold nP
 cases hu:C.und t with
 |none=>rw[hu] at ht;cases ht
 |some u =>
  rw[hu] at ht
  cases u<;>first|(cases ht;done)|rfl⟩
theorem qj {t t2:TypeId}{x y:Operand}{z:Int}{m k:Nat} (hx:ae e x=.int .i64 z) (hy:ae e y=.chan (some k)) (hz:z=(m:Int)) (hk:m<=k) :
  aW C eg e ⟨d,.binOp .gtr t x y t2,ty,ps,af,g⟩ s (.bool false) s :=
 cY hx hy (by
  subst hz
  show oq .gtr .i64 (m:Int) k=_
  unfold oq
  show (match decide (IntKind.i64=.i64)&&Nat.ble m k with|true=>some (Value.bool false)|false=>none)=_
  rw[aH.2 hk]
  rfl)
theorem fF {t et xt:TypeId}{a x:Operand}{n by_ j dl xl cp cap b0 o0 ob off:Nat}{sp0 sp:Option Nat}{z cs cs0 r r0:List Value} (ht:C.row t=some (et,n,by_,z)) (ha:ae e a=.slice (some ⟨b0,o0,sp0⟩) dl cp) (hx:ae e x=.slice (some ⟨ob,off,sp⟩) xl cap)
  (hj:Nat.min xl dl=j+1) (hb:gX h ob cs) (hc:ob<c) (hs:aP off ((j+1)*n) cs=some r) (hne:r≠[]) (h0:ay h b0 (.cells cs0)) (hc0:b0<c) (hr:bw r cs0 o0=some r0) :
  aW C eg e ⟨d,.call ⟨.builtin .copy,#[a,x],#[t,xt]⟩,ty,ps,af,g⟩ ⟨h,c,rl,wl⟩ (.int .i64 ((j+1:Nat):Int)) ⟨h.set b0 (some (.cells r0)),c,b0::ob::rl,b0::wl⟩:=⟨0,by
 show nN C #[t,xt] (ae e a) (ae e x) _=_
 rw[ha,hx]
 unfold nN
 rw[show cu (#[t,xt]:Array TypeId).toList 0=some t from rfl,show ou (.slice (some ⟨ob,off,sp⟩) xl cap)=some xl from rfl]
 simp only
 rw[ac (aw ht)]
 simp only
 rw[hj]
 have hfirst:cR n (j+1) (.slice (some ⟨ob,off,sp⟩) xl cap) ⟨h,c,rl,wl⟩=some (r,⟨h,c,ob::rl,wl⟩):=by
  unfold cR
  simp only[aH.2 (show j+1<=xl by have:=Nat.min_le_left xl dl;have e:Nat.min xl dl=min xl dl:=rfl;omega)]
  exact db hb hc hs
 rw[ac hfirst]
 cases r with
 |nil=>exact absurd rfl hne
 |cons y ys =>
  simp only
  rw[ac (fY h0 hc0 hr)]
  rfl⟩
noncomputable def FN (C:aS) (t:TypeId):Bool:=match C.und t with|some (.int _)=>true|_=>false
theorem nx {n m:Nat}{z:List Value}{xt:TypeId}{j:IntKind} (hu:FN C xt=true) (hm:m<=dv):bI C n z (some xt) (.int j (m:Int)) s=some ((m,rep z m),s):=by
 unfold bI
 unfold FN at hu
 cases hw:C.und xt with
 |none=>rw[hw] at hu;cases hu
 |some w =>
  rw[hw] at hu
  cases w<;>first|(cases hu;done)|skip
  simp only[hw]
  rw[ac (aw (show cZ (.int j (m:Int))=some m from rfl))]
  simp only[aH.2 hm]
  rfl
theorem qD {t et xt:TypeId}{a x:Operand}{n by_ cp m b0 o0:Nat}{j:IntKind}{y:Int}{z:List Value} (ht:C.row t=some (et,n,by_,z)) (hu:FN C xt=true) (ha:ae e a=.slice (some ⟨b0,o0,none⟩) 0 cp) (hx:ae e x=.int j y) (hy:y=(m:Int))
  (hroom:cp<0+m) (hbig:0+m<=dv) (hf:ai h c) :
  aW C eg e ⟨d,.call ⟨.builtin .append,#[a,x],#[t,xt]⟩,ty,ps,af,g⟩ ⟨h,c,rl,wl⟩ (.slice (some ⟨c,0,some n⟩) (0+m) (0+m)) ⟨h.set c (some (.cells ([]++rep z m))),c+1,rl,wl⟩:=⟨0,by
 subst hy
 show bQ C #[t,xt] (ae e a) (ae e x) _=_
 rw[ha,hx]
 unfold bQ
 rw[show cu (#[t,xt]:Array TypeId).toList 0=some t from rfl]
 simp only
 rw[ac (aw ht)]
 simp only
 have happ:bI C n z (cu #[t,xt].toList 1) (.int j (m:Int)) ⟨h,c,rl,wl⟩=_:=nx (z:=z) hu (by omega)
 rw[ac happ]
 simp only[show Nat.ble (0+m) cp=false from cC.2 (by omega),show jl by_ (0+m)=true from iu hbig]
 rw[ac (show cR n 0 _ _=some ([],⟨h,c,rl,wl⟩) from rfl),cP,ac (bc hf)]
 rfl⟩
theorem tk {t et xt:TypeId}{a x:Operand}{n by_ ln cp m b0 o0:Nat}{j:IntKind}{y:Int}{z cs0 old:List Value} (ht:C.row t=some (et,n,by_,z)) (hu:FN C xt=true) (ha:ae e a=.slice (some ⟨b0,o0,none⟩) (ln+1) cp) (hx:ae e x=.int j y) (hy:y=(m:Int))
  (hroom:cp<ln+1+m) (hbig:ln+1+m<=dv) (h0:gX h b0 cs0) (hc0:b0<c) (hs0:aP o0 ((ln+1)*n) cs0=some old) (hf:ai h c) :
  aW C eg e ⟨d,.call ⟨.builtin .append,#[a,x],#[t,xt]⟩,ty,ps,af,g⟩ ⟨h,c,rl,wl⟩ (.slice (some ⟨c,0,some n⟩) (ln+1+m) (ln+1+m)) ⟨h.set c (some (.cells (old++rep z m))),c+1,b0::rl,wl⟩:=⟨0,by
 subst hy
 show bQ C #[t,xt] (ae e a) (ae e x) _=_
 rw[ha,hx]
 unfold bQ
 rw[show cu (#[t,xt]:Array TypeId).toList 0=some t from rfl]
 simp only
 rw[ac (aw ht)]
 simp only
 have happ:bI C n z (cu #[t,xt].toList 1) (.int j (m:Int)) ⟨h,c,rl,wl⟩=_:=nx (z:=z) hu (by omega)
 rw[ac happ]
 simp only[show Nat.ble (ln+1+m) cp=false from cC.2 (by omega),show jl by_ (ln+1+m)=true from iu hbig]
 have hfirst:cR n (ln+1) (.slice (some ⟨b0,o0,none⟩) (ln+1) cp) ⟨h,c,rl,wl⟩=some (old,⟨h,c,b0::rl,wl⟩):=by
  unfold cR
  simp only[aH.2 (Nat.le_refl (ln+1))]
  exact db h0 hc0 hs0
 rw[ac hfirst,cP,ac (bc hf)]
 rfl⟩
theorem rZ {t et xt:TypeId}{a x:Operand}{n by_ k cap ln cp b0 o0:Nat}{z cs r cs0 old:List Value}{sp:Option Nat}{ob off:Nat} (ht:C.row t=some (et,n,by_,z)) (hu:cI C xt=true) (ha:ae e a=.slice (some ⟨b0,o0,none⟩) (ln+1) cp) (hx:ae e x=.slice (some ⟨ob,off,sp⟩) (k+1) cap)
  (hb:gX h ob cs) (hc:ob<c) (hs:aP off ((k+1)*n) cs=some r) (hroom:cp<ln+1+(k+1)) (hbig:ln+1+(k+1)<=dv) (h0:gX h b0 cs0) (hc0:b0<c) (hs0:aP o0 ((ln+1)*n) cs0=some old) (hf:ai h c) :
  aW C eg e ⟨d,.call ⟨.builtin .append,#[a,x],#[t,xt]⟩,ty,ps,af,g⟩ ⟨h,c,rl,wl⟩ (.slice (some ⟨c,0,some n⟩) (ln+1+(k+1)) (ln+1+(k+1))) ⟨h.set c (some (.cells (old++r))),c+1,b0::ob::rl,wl⟩:=⟨0,by
 show bQ C #[t,xt] (ae e a) (ae e x) _=_
 rw[ha,hx]
 unfold bQ
 rw[show cu (#[t,xt]:Array TypeId).toList 0=some t from rfl]
 simp only
 rw[ac (aw ht)]
 simp only
 have happ:bI C n z (cu #[t,xt].toList 1) (.slice (some ⟨ob,off,sp⟩) (k+1) cap) ⟨h,c,rl,wl⟩=_:=ig (z:=z) hu hb hc hs
 rw[ac happ]
 simp only[show Nat.ble (ln+1+(k+1)) cp=false from cC.2 (by omega),show jl by_ (ln+1+(k+1))=true from iu hbig]
 have hfirst:cR n (ln+1) (.slice (some ⟨b0,o0,none⟩) (ln+1) cp) ⟨h,c,ob::rl,wl⟩=some (old,⟨h,c,b0::ob::rl,wl⟩):=by
  unfold cR
  simp only[aH.2 (Nat.le_refl (ln+1))]
  exact db h0 hc0 hs0
 rw[ac hfirst,cP,ac (bc hf)]
 rfl⟩
theorem nA {t et xt:TypeId}{a x:Operand}{n by_ k cap ln cp b0 o0:Nat}{sp0:Option Nat}{z cs r cs0 r0:List Value}{sp:Option Nat}{ob off:Nat} (ht:C.row t=some (et,n,by_,z)) (hu:cI C xt=true) (ha:ae e a=.slice (some ⟨b0,o0,sp0⟩) ln cp) (hx:ae e x=.slice (some ⟨ob,off,sp⟩) (k+1) cap)
  (hb:gX h ob cs) (hc:ob<c) (hs:aP off ((k+1)*n) cs=some r) (hne:r≠[]) (hroom:ln+(k+1)<=cp) (h0:ay h b0 (.cells cs0)) (hc0:b0<c) (hr:bw r cs0 (o0+ln*n)=some r0) :
  aW C eg e ⟨d,.call ⟨.builtin .append,#[a,x],#[t,xt]⟩,ty,ps,af,g⟩ ⟨h,c,rl,wl⟩ (.slice (some ⟨b0,o0,sp0⟩) (ln+(k+1)) cp) ⟨h.set b0 (some (.cells r0)),c,b0::ob::rl,b0::wl⟩:=⟨0,by
 show bQ C #[t,xt] (ae e a) (ae e x) _=_
 rw[ha,hx]
 unfold bQ
 rw[show cu (#[t,xt]:Array TypeId).toList 0=some t from rfl]
 simp only
 rw[ac (aw ht)]
 simp only
 have happ:bI C n z (cu #[t,xt].toList 1) (.slice (some ⟨ob,off,sp⟩) (k+1) cap) ⟨h,c,rl,wl⟩=_:=ig (z:=z) hu hb hc hs
 rw[ac happ]
 simp only[show Nat.ble (ln+(k+1)) cp=true from aH.2 hroom]
 cases r with
 |nil=>exact absurd rfl hne
 |cons y ys =>
  simp only
  rw[ac (fY h0 hc0 hr)]
  rfl⟩
theorem qo {t:TypeId}{x lo:Operand}{b o len n:Nat}{j:IntKind}{z:Int} (ht:cQ C t=some n) (hx:ae e x=.slice (some ⟨b,o,none⟩) len len) (hl:ae e lo=.int j z) (hz:z=(len:Int)) :
  aW C eg e ⟨d,.slice t x (some lo) none none,ty,ps,af,g⟩ s (.slice (some ⟨b,o,none⟩) (len - len) (len - len)) s:=⟨0,by
 show cV C t (ae e x) ((some lo).map (ae e)) ((none:Option Operand).map (ae e)) ((none:Option Operand).map (ae e)) s=_
 subst hz
 simp only[Option.map_some,Option.map_none]
 rw[hx,hl]
 unfold cQ at ht
 unfold cV
 cases hu:C.und t with
 |none=>rw[hu] at ht;cases ht
 |some u =>
  rw[hu] at ht
  cases u<;>first|(cases ht;done)|skip
  simp only at ht ⊢
  rw[ac (aw ht)]
  have hb:dL len len (some (.int j (len:Int))) none none=some (len,len,len):=by
   unfold dL
   simp only
   show (match dr none len len with|none=>none|some m=>_)=_
   simp only[dr]
   rw[show cZ (.int j (len:Int))=some len from rfl]
   simp only[aH.2 (Nat.le_refl len)]
  rw[ac (aw hb)]
  simp only[Nat.beq_refl]
  rfl⟩
end
end Go.Ab
end
section
namespace Go.Ab.Seat
open Go.Extern Go.Proofs
set_option maxRecDepth 4000
variable {sm:Nat->Option (List Value->M Value)}
abbrev jw (id sc:Int):Value:=.agg ⟨[.int .i64 id,.int .i64 sc]⟩
structure Ht where
 id:Int
 sc:Int
def Ht.val (x:Ht):Value:=jw x.id x.sc
def Ht.cells (x:Ht):List Value:=[.int .i64 x.id,.int .i64 x.sc]
def de (a b:Ht):Bool:=if a.sc=b.sc then decide (a.id<b.id) else decide (a.sc<b.sc)
theorem uH (H:pV sm) {h:T ag}{c:Nat}{rl wl:List Nat} (hf:ai h c) (a b:Ht) :
  ∃r s',aE (Cs sm) eg 187 [jw a.id a.sc,jw b.id b.sc] ⟨h,c,rl,wl⟩ r s'/\r=.bool (de a b)/\bA ⟨h,c,rl,wl⟩ s' (fun _=>False) (fun _=>False):=by
 refine Fn.go (H 187 rfl) J7 Ko LT rfl rfl ?_
 refine cg ?_
 by_cases h1:a.sc=b.sc
 ·refine aq ?_
  refine⟨.inr rfl,aG.one rfl ⟨?_,?_⟩⟩
  ·unfold de
   rw[if_pos h1]
   rfl
  ·exact bM
 ·refine aq ?_
  refine⟨.inr rfl,aG.one rfl ⟨?_,?_⟩⟩
  ·unfold de
   rw[if_neg h1]
   rfl
  ·exact bM
theorem iU (H:pV sm) {h:T ag}{c:Nat}{rl wl:List Nat} (hf:ai h c) (m:Int) (hm:m=1\/m=2) :
  ∃r s',aE (Cs sm) eg 72 [.int .i64 m] ⟨h,c,rl,wl⟩ r s'/\(r=.bool true/\s'=⟨h,c,rl,wl⟩):=by
 refine Fn.go (H 72 rfl) MN NX MZ rfl rfl ?_
 refine cg ?_
 rcases hm with rfl|rfl
 ·refine aq ?_
  exact⟨.inr rfl,aG.one rfl ⟨rfl,rfl⟩⟩
 ·refine aq ?_
  exact⟨.inr rfl,aG.one rfl ⟨rfl,rfl⟩⟩
theorem DX (H:pV sm) {h:T ag}{c:Nat}{rl wl:List Nat} (hf:ai h c) (m:Int) (hm:m=1\/m=2) :
  ∃r s',aE (Cs sm) eg 18 [.int .i64 m] ⟨h,c,rl,wl⟩ r s'/\(r=.pointer (some ⟨c+1,0,none⟩)/\ay s'.h c (.map [] 0)/\ay s'.h (c+1) (.cells [.int .i64 m,.map (some c)])/\s'.c=c+2)/\bA ⟨h,c,rl,wl⟩ s' (fun _=>False) (fun _=>False):=by
 refine Fn.go (H 18 rfl) MT OO Px rfl rfl ?_
 refine cg ?_
 refine aq ?_
 refine ax.call rfl rfl (iU H aO m hm) ?_
 rintro v h1 c1 r1 w1 ⟨rfl,e1⟩
 cases e1
 refine aq ?_
 refine⟨.inr rfl,aG.one rfl ⟨⟨rfl,ay.other (by omega) ay.same,ay.same,rfl⟩,?_⟩⟩
 exact bM
theorem uX (H:pV sm) {h:T ag}{c:Nat}{rl wl:List Nat} (hf:ai h c) (k:Int) :
  ∃r s',aE (Cs sm) eg 137 [.int .i64 k] ⟨h,c,rl,wl⟩ r s'/\(r=.pointer (some ⟨c,0,none⟩)/\ay s'.h c (.cells [.slice none 0 0,.int .i64 (max k 0)])/\s'.c=c+1)/\bA ⟨h,c,rl,wl⟩ s' (fun _=>False) (fun _=>False):=by
 refine Fn.go (H 137 rfl) JL L9 JD rfl rfl ?_
 refine cg ?_
 refine aq ?_
 refine⟨.inr rfl,aG.one rfl ⟨⟨rfl,?_,rfl⟩,?_⟩⟩
 ·exact ay.same
 ·exact bM
theorem E1 (H:pV sm) {h:T ag}{c b:Nat}{rl wl:List Nat} (hf:ai h c) (x y:Ht) (hb:ay h b (.cells [.int .i64 y.id,.int .i64 y.sc])) :
  ∃r s',aE (Cs sm) eg 199 [jw x.id x.sc,.pointer (some ⟨b,0,none⟩)] ⟨h,c,rl,wl⟩ r s'/\r=.bool (decide (x.id=y.id))/\bA ⟨h,c,rl,wl⟩ s' (fun z=>z=b) (fun _=>False):=by
 have l1:=hb.lt hf
 refine Fn.go (H 199 rfl) Jh Ke KI rfl rfl ?_
 refine cg ?_
 refine aq ?_
 refine⟨.inr rfl,aG.one rfl ⟨rfl,?_⟩⟩
 exact bM
end Go.Ab.Seat
end
section
namespace Go.Ab.Seat
open Go.Extern Go.Proofs
set_option maxRecDepth 4000
variable {sm:Nat->Option (List Value->M Value)}
def vt (m x y:Int):Int:=if m=1 then(x - y)*(x - y) else -(x*y)
def fX (m:Int) (zs ys:List Int):Nat->Int
 |0=>0
 |i+1=>fX m zs ys i+vt m (zs.getD i 0) (ys.getD i 0)
def cX (m:Int) (zs ys:List Int):Int:=fX m zs ys zs.length
def gc (zs:List Int):Prop:=∀i,-1048576<=zs.getD i 0/\zs.getD i 0<=1048576
theorem Ce {a b:Int}{k:Int} (hk:0<=k) (ha : -k<=a/\a<=k) (hb : -k<=b/\b<=k) : -(k*k)<=a*b/\a*b<=k*k:=by
 have h1:(a*b).natAbs<=(k*k).natAbs:=by
  rw[Int.natAbs_mul,Int.natAbs_mul]
  exact Nat.mul_le_mul (by omega) (by omega)
 have h2:0<=k*k:=Int.mul_nonneg hk hk
 omega
theorem zV {m x y:Int} (hx : -1048576<=x/\x<=1048576) (hy : -1048576<=y/\y<=1048576):(-4398046511104<=(x - y)*(x - y)/\(x - y)*(x - y)<=4398046511104)/\(-4398046511104<=x*y/\x*y<=4398046511104) /\ -4398046511104<=vt m x y/\vt m x y<=4398046511104:=by
 have h1:=Ce (a:=x - y) (b:=x - y) (k:=2097152) (by omega) (by omega) (by omega)
 have h2:=Ce (a:=x) (b:=y) (k:=1048576) (by omega) hx hy
 refine⟨by omega,by omega,?_⟩
 unfold vt
 split<;>omega
theorem Dr {m:Int}{zs ys:List Int} (hx:gc zs) (hy:gc ys):∀i:Nat,-(4398046511104*(i:Int))<=fX m zs ys i/\fX m zs ys i<=4398046511104*(i:Int):=by
 intro i
 induction i with
 |zero=>exact⟨by simp [fX],by simp [fX]⟩
 |succ i ih =>
  have:=(zV (m:=m) (hx i) (hy i)).2.2
  unfold fX
  omega
def GC (m:Int) (a:Option Addr) (n k:Nat) (b:Option Addr) (k':Nat) (s z:Int) (j8 j9 j10 j17 j29 j30 j41:Value):L :=
 .cons 0 (.int .i64 m) (.cons 1 (.slice a n k) (.cons 2 (.slice b n k') (.cons 6 (.int .i64 0) (.cons 7 (.int .i64 s) (.cons 15 (.int .i64 (n:Int)) (.cons 16 (.int .i64 z) (.cons 8 j8 (.cons 9 j9 (.cons 10 j10 (.cons 17 j17 (.cons 29 j29 (.cons 30 j30 (.cons 41 j41 .nil)))))))))))))
set_option maxHeartbeats 4000000 in
theorem gh (H:pV sm) {h:T ag}{c:Nat}{rl wl:List Nat} (hf:ai h c) {m:Int} (hm:m=1\/m=2) {a b:Option Addr}{n k k':Nat}{zs ys:List Int} (hn:zs.length=n) (hn':ys.length=n) (hx:bj h (.slice a n k) n 1 (zs.map (Value.int .i32))) (hy:bj h (.slice b n k') n 1 (ys.map (Value.int .i32))) (bx:gc zs) (by_:gc ys) (hb:n<=1000) (R:Nat->Prop) (hR:∀x,au (.slice a n k)=some x\/au (.slice b n k')=some x->R x) :
  ∃r s',aE (Cs sm) eg 35 [.int .i64 m,.slice a n k,.slice b n k'] ⟨h,c,rl,wl⟩ r s'/\(r=.int .i64 (cX m zs ys)/\s'.h=h/\s'.c=c)/\bA ⟨h,c,rl,wl⟩ s' R (fun _=>False):=by
 refine Fn.go (H 35 rfl) OH O5 Pk rfl rfl ?_
 refine cg ?_
 refine aq ?_
 simp only[Int.min_self]
 refine Wx.cutO (fun e s=>∃(j8 j9 j10 j17 j29 j30 j41:Value) (rl':List Nat),e=GC m a n k b k' (cX m zs ys) n j8 j9 j10 j17 j29 j30 j41/\s=⟨h,c,rl',[]⟩/\Lg c R rl') iY ?_ ?_
 ·refine Wx.loopE (fun k1 e s=>∃(i:Nat) (z:Int) (j8 j9 j10 j17 j29 j30 j41:Value) (rl':List Nat),e=GC m a n k b k' (fX m zs ys i) z j8 j9 j10 j17 j29 j30 j41/\z=i/\s=⟨h,c,rl',[]⟩/\Lg c R rl'/\i<=n/\k1=n - i) n (GC m a n k b k' 0 0 top top top top top top top) iY ?_ ?_ ?_
  ·unfold GC
   exact eI
  ·exact⟨0,0,_,_,_,_,_,_,_,_,rfl,rfl,rfl,az,by omega,rfl⟩
  ·rintro k1 e s ⟨i,z,j8,j9,j10,j17,j29,j30,j41,rl',rfl,hz,rfl,hlr,hid,rfl⟩
   unfold GC
   by_cases hi:i<n
   ·have hzs:(zs.map (Value.int .i32))[i]?=some (.int .i32 (zs.getD i 0)):=by
     rw[List.getElem?_map,List.getD_eq_getElem?_getD,List.getElem?_eq_getElem (by omega:i<zs.length)];rfl
    have hys:(ys.map (Value.int .i32))[i]?=some (.int .i32 (ys.getD i 0)):=by
     rw[List.getElem?_map,List.getD_eq_getElem?_getD,List.getElem?_eq_getElem (by omega:i<ys.length)];rfl
    obtain⟨b1,o1,sp1,cs1,rfl,hc1,hn1⟩:=bp hx (j:=i*1) (by omega) (by rw[Nat.mul_one];exact hzs)
    obtain⟨b2,o2,sp2,cs2,rfl,hc2,hn2⟩:=bp hy (j:=i*1) (by omega) (by rw[Nat.mul_one];exact hys)
    have hR1:=hR b1 (.inl rfl)
    have hR2:=hR b2 (.inr rfl)
    have l1:=hc1.lt hf
    have l2:=hc2.lt hf
    have q1:=bx i
    have q2:=by_ i
    have q3:=Dr (m:=m) bx by_ i
    obtain⟨t1,t2,_⟩:=zV (m:=m) q1 q2
    refine aq ?_
    refine Zq (aj (k:=i) lh rfl rfl hz (by omega)) ?_
    refine Zd (aB (dV rfl) rfl hc1 (by omega) hn1) ?_
    refine aq ?_
    refine Zq (aj (k:=i) lh rfl rfl hz (by omega)) ?_
    refine Zd (aB (dV rfl) rfl hc2 (by omega) hn2) ?_
    refine aq ?_
    simp only[cm (show (-9223372036854775808:Int)<=zs.getD i 0 by omega) (by omega),cm (show (-9223372036854775808:Int)<=ys.getD i 0 by omega) (by omega)]
    rcases hm with rfl|rfl
    ·refine aq ?_
     refine aC.go (n - (i+1)) (GC 1 _ n k _ k' (fX 1 zs ys (i+1)) (z+1) _ _ _ _ _ _ _) (by omega) eI ⟨i+1,z+1,_,_,_,_,_,_,_,_,rfl,by omega,rfl,az,by omega,rfl⟩
    ·refine aq ?_
     have e:fX 2 zs ys (i+1)=fX 2 zs ys i - zs.getD i 0*ys.getD i 0:=by
      show _+vt 2 _ _=_
      unfold vt
      rw[if_neg (by decide)];omega
     refine aC.go (n - (i+1)) (GC 2 _ n k _ k' (fX 2 zs ys i - zs.getD i 0*ys.getD i 0) (z+1) _ _ _ _ _ _ _) (by omega) eI ⟨i+1,z+1,_,_,_,_,_,_,_,_,(by rw[e];rfl),by omega,rfl,az,by omega,rfl⟩
   ·refine aq ?_
    obtain rfl:i=n:=by omega
    subst hz
    have e:cX m zs ys=fX m zs ys i:=by unfold cX;rw[hn]
    exact di.go (GC m a i k b k' (fX m zs ys i) i _ _ _ _ _ _ _) eI ⟨_,_,_,_,_,_,_,_,(by rw[e];rfl),rfl,az⟩
 ·rintro e s ⟨j8,j9,j10,j17,j29,j30,j41,rl',rfl,rfl,hlr⟩
  unfold GC
  refine aq ?_
  refine⟨.inr rfl,aG.one rfl ⟨⟨rfl,rfl,rfl⟩,?_⟩⟩
  exact bM
end Go.Ab.Seat
end
