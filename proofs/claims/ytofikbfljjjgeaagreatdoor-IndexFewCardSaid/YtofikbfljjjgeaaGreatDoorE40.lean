import Derived.Test.YtofikbfljjjgeaaGreatDoorE19
import Derived.Test.YtofikbfljjjgeaaGreatDoorProg
import Derived.KernelRfl
set_option linter.unusedVariables false
set_option linter.unusedSimpArgs false
section
namespace Go.Ab
noncomputable def trial {α:Type} (m:M α):M (α×Nat×List Nat):=fun s =>
 Option.rec (motive:=fun _=>Option ((α×Nat×List Nat)×St)) none
  (fun p=>some ((p.1,s.c,p.2.wl),⟨s.h,p.2.c,below s.c p.2.rl (below s.c p.2.wl s.rl),s.wl⟩)) (m ⟨s.h,s.c,[],[]⟩)
theorem nG {α:Type}{m:M α}{s s':St}{p:α×Nat×List Nat} (h:trial m s=some (p,s')) :
  ∃s1,m ⟨s.h,s.c,[],[]⟩=some (p.1,s1)/\p.2.1=s.c/\p.2.2=s1.wl/\s'=⟨s.h,s1.c,s1.rl.filter (fun b=>decide (b<s.c))++(s1.wl.filter (fun b=>decide (b<s.c))++s.rl),s.wl⟩:=by
 unfold trial at h
 cases hm:m ⟨s.h,s.c,[],[]⟩ with
 |none=>rw[hm] at h;cases h
 |some q =>
  rw[hm] at h
  simp only[jO,Option.some.injEq,Prod.mk.injEq] at h
  obtain⟨rfl,rfl⟩:=h
  exact⟨q.2,rfl,rfl,rfl,rfl⟩
theorem Fj {α:Type}{m:M α}{s s1:St}{a:α} (h:m ⟨s.h,s.c,[],[]⟩=some (a,s1)) :
  trial m s=some ((a,s.c,s1.wl),⟨s.h,s1.c,s1.rl.filter (fun b=>decide (b<s.c))++(s1.wl.filter (fun b=>decide (b<s.c))++s.rl),s.wl⟩):=by
 unfold trial
 rw[h]
 simp only[jO]
theorem ah.trial {α:Type}{m:M α} (hm:ah m):ah (trial m):=by
 intro s p s' h
 obtain⟨s1,h1,h2,h3,rfl⟩:=nG h
 obtain⟨r,w,L⟩:=hm _ _ _ h1
 have er:s1.rl=r:=by rw[L.rl];simp
 have ew:s1.wl=w:=by rw[L.wl];simp
 have cle:s.c<=s1.c:=L.cle
 refine⟨r.filter (fun b=>decide (b<s.c))++w.filter (fun b=>decide (b<s.c)),[],by rw[er,ew];simp,rfl,cle,?_,by simp,fun _ _ _=>rfl,fun t ht hh=>?_⟩
 ·intro b hb
  simp only[List.mem_append,List.mem_filter,decide_eq_true_eq] at hb
  show b<s1.c
  omega
 ·have up:∀b,fP r w s.c s1.c b->fP (r.filter (fun b=>decide (b<s.c))++w.filter (fun b=>decide (b<s.c))) [] s.c s1.c b:=by
   intro b hb
   simp only[fP,List.mem_append,List.mem_filter,decide_eq_true_eq]
   rcases hb with hb|hb|hb
   ·have:=L.rlt b hb
    by_cases hc:b<s.c
    ·exact .inl (.inl ⟨hb,hc⟩)
    ·exact .inr (.inr (by omega))
   ·have:=L.wlt b hb
    by_cases hc:b<s.c
    ·exact .inl (.inr ⟨hb,hc⟩)
    ·exact .inr (.inr (by omega))
   ·exact .inr (.inr hb)
  obtain⟨h',e,_,_⟩:=L.move ⟨t.h,t.c,[],[]⟩ ht fun b hb=>hh b (up b hb)
  refine⟨t.h,?_,hh,fun _ _ _=>rfl⟩
  rw[Fj e]
  obtain⟨a,c,wl⟩:=p
  simp only at h2 h3
  subst h2
  subst h3
  simp only[List.append_nil,ht,ew,List.append_assoc,List.nil_append]
noncomputable def p5 (a b:Value):Bool :=
 match a,b with
 |.int j x,.int k y=>decide (j=k)&&decide (x=y)
 |.float j x,.float k y=>decide (j=k)&&decide (x=y)
 |.bool x,.bool y=>x==y
 |_,_=>false
theorem xR {a b:Value} (h:p5 a b=true):a=b:=by
 unfold p5 at h
 split at h
 ·simp only[Bool.and_eq_true,decide_eq_true_eq] at h;rw[h.1,h.2]
 ·simp only[Bool.and_eq_true,decide_eq_true_eq] at h;rw[h.1,h.2]
 ·rw[beq_iff_eq] at h;rw[h]
 ·cases h
noncomputable def tC (l:List Value):List Value->List Value :=
 List.rec (motive:=fun _=>List Value->List Value) (fun _=>[]) (fun x _ ih r=>List.rec (motive:=fun _=>List Value) [] (fun y r _=>(Bool.rec (motive:=fun _=>Value) top x (p5 x y))::ih r) r) l
theorem y3 {ι:aD}:∀(l r m:List Value),bS ι l m->l.length=r.length->bS ι (tC l r) m:=by
 intro l
 induction l with
 |nil=>intro r m h _;exact h
 |cons x l ih =>
  intro r m h hl
  cases r with
  |nil=>simp at hl
  |cons y r =>
   obtain⟨x',m',rfl,h1,h2⟩:=h.cons_inv
   refine bS.cons ?_ (ih r m' h2 (by simpa using hl))
   cases p5 x y
   ·exact .top _
   ·exact h1
theorem wi {ι:aD}:∀(l r m:List Value),bS ι r m->l.length=r.length->bS ι (tC l r) m:=by
 intro l
 induction l with
 |nil=>intro r m h hl;have:r=[]:=List.length_eq_zero_iff.1 (by simpa using hl.symm);subst this;exact h
 |cons x l ih =>
  intro r m h hl
  cases r with
  |nil=>simp at hl
  |cons y r =>
   obtain⟨x',m',rfl,h1,h2⟩:=h.cons_inv
   refine bS.cons ?_ (ih r m' h2 (by simpa using hl))
   cases hs:p5 x y
   ·exact .top _
   ·rw[xR hs];exact h1
noncomputable def FL (n:Nat):List Value:=Nat.rec (motive:=fun _=>List Value) [] (fun _ ih=>top::ih) n
theorem rH (n:Nat):(FL n).length=n:=by
 induction n with
 |zero=>rfl
 |succ n ih=>show (FL n).length+1=_;rw[ih]
theorem Fl {n:Nat}{x:Value} (h:x∈FL n):x=top:=by
 induction n with
 |zero=>cases h
 |succ n ih =>
  rcases List.mem_cons.1 (show x∈top::FL n from h) with h|h
  ·exact h
  ·exact ih h
noncomputable def qF (cs:List Value) (n:Nat):List Value:=app cs (FL (Nat.sub n (len cs)))
noncomputable def lC (size n:Nat) (v:Value):M (Nat×List Value) :=
 match v with
 |.slice (some ⟨k,o,some e⟩) m c =>
  match Nat.beq e size&&Nat.beq m n&&Nat.ble n c with
  |true=>(bu k).bind fun cs=>(M.lift (aP o (n*size) cs)).bind fun l=>M.ret (k,l)
  |false=>M.fail
 |_=>M.fail
noncomputable def uC (b:Nat) (p:(Nat×List Value)×Nat×List Nat):Bool :=
 (Nat.beq p.1.1 b||Nat.ble p.2.1 p.1.1)&&ee (fun x=>Nat.beq x b||Nat.ble p.2.1 x) p.2.2
noncomputable def OW (C:aS) (eg:TypeId->Bool) (fuel f size:Nat) (b o n:Nat) (rest:List Value):M (Nat×List Value) :=
 (callB C (a6 C eg fuel) f (.slice (some ⟨b,o,none⟩) n n::rest)).bind (lC size (n+1))
noncomputable def Nn (C:aS) (eg:TypeId->Bool) (fuel f size:Nat) (b o n:Nat) (cs:List Value) (rest:List Value):M (Nat×List Value) :=
 (putO b (some (.cells (qF cs (o+(n+1)*size))))).bind fun _ =>
  (callB C (a6 C eg fuel) f (.slice (some ⟨b,o,some size⟩) n (n+1)::rest)).bind (lC size (n+1))
noncomputable def wd (b size n:Nat) (A B:(Nat×List Value)×Nat×List Nat):M Value :=
 match uC b A&&uC b B with
 |true=>(putO b none).bind fun _=>(bq (tC A.1.2 B.1.2)).bind fun k=>M.ret (.slice (some ⟨k,0,some size⟩) (n+1) (n+1))
 |false=>M.fail
noncomputable def Bj (C:aS) (eg:TypeId->Bool) (fuel f size:Nat) (args:List Value):M Value :=
 match args with
 |.slice (some ⟨b,o,some e⟩) n cap::rest =>
  match Nat.beq e size&&Nat.ble n cap&&Nat.blt 0 cap with
  |true =>
   (bu b).bind fun cs =>
    (trial (OW C eg fuel f size b o n rest)).bind fun A =>
     (trial (Nn C eg fuel f size b o n cs rest)).bind fun B=>wd b size n A B
  |false=>M.fail
 |args=>callB C (a6 C eg fuel) f args
theorem qz (size n:Nat) (v:Value):ah (lC size n v):=by
 unfold lC
 split
 ·split
  ·exact ah.bind (bB _) fun _=>ah.bind (ah.lift _) fun _=>ah.ret _
  ·exact ah.fail
 ·exact ah.fail
theorem AO {C:aS}{eg:TypeId->Bool} (hs:cM C) (fuel f size:Nat) (args:List Value):ah (Bj C eg fuel f size args):=by
 have hr:=gq (eg:=eg) hs fuel
 unfold Bj
 split
 ·split
  ·refine ah.bind (bB _) fun cs=>ah.bind (ah.trial ?_) fun A=>ah.bind (ah.trial ?_) fun B=>?_
   ·exact ah.bind (d9 hr _ _) (qz _ _)
   ·exact ah.bind (ah.putO _ _) fun _=>ah.bind (d9 hr _ _) (qz _ _)
   ·unfold wd
    split
    ·exact ah.bind (ah.putO _ _) fun _=>ah.bind (cH _) fun _=>ah.ret _
    ·exact ah.fail
  ·exact ah.fail
 ·exact d9 hr _ _
end Go.Ab
end
section
namespace Go.Ab.Seat
open Go.Proofs (Tryz.prog)
def G0:Nat:=2
def nO:Nat:=257
def qf:Nat:=158
def aV:Nat:=82
def Jg:Nat:=159
def iZ:Nat:=59
def lZ:Nat:=166
def yS:Nat:=167
def pF:Nat:=168
def oR:Nat:=213
def zE:Nat:=214
def Fd:Nat:=215
def hd (t:Nat):Value:=.pointer (some ⟨G0,t,none⟩)
def rt (t:Nat):Value:=.iface nO (.agg #[hd t])
def rv (t:Nat) (a:Value) (f:Nat):Value:=.agg #[hd t,a,.int .u64 f]
noncomputable def Ee (v:Value):Option Nat :=
 match v with
 |.pointer (some ⟨b,o,none⟩)=>bif Nat.beq b G0 then some o else none
 |_=>none
noncomputable def gR (v:Value):Option Nat :=
 match v with
 |.agg cs=>match cs.toList with|[h]=>Ee h|_=>none
 |_=>none
noncomputable def qW (v:Value):Option (Nat×Nat×Nat×Nat) :=
 match v with
 |.agg cs =>
  match cs.toList with
  | [h,.pointer (some ⟨b,o,none⟩),.int .u64 (.ofNat (f+1))]=>match Ee h with|some t=>some (t,b,o,f+1)|none=>none
  |_=>none
 |_=>none
noncomputable def oe (args:List Value):M Value :=
 match args with
 | [.iface t _]=>M.ret (rt t)
 |_=>M.fail
noncomputable def xr (t:Nat):Option Nat :=
 bif Nat.beq t qf then some 150 else bif Nat.beq t aV then some 130 else none
noncomputable def lO (args:List Value):M Value :=
 match args with
 | [.iface t v] =>
  match atom v,xr t with
  |true,some f=>(bq [v]).bind fun b=>M.ret (rv t (.pointer (some ⟨b,0,none⟩)) f)
  |_,_=>M.fail
 |_=>M.fail
noncomputable def yN (args:List Value):M Value :=
 match args with
 | [v]=>match qW v with|some (t,_)=>M.ret (rt t)|none=>M.fail
 |_=>M.fail
noncomputable def rN (args:List Value):M Value :=
 match args with
 | [v] =>
  match qW v with
  |some (t,b,o,f) =>
   bif Nat.beq t qf&&Nat.beq f 150 then(cj b).bind fun cs =>
    match cu cs o with
    |some (.pointer none)=>M.ret (.bool true)
    |some (.pointer (some _))=>M.ret (.bool false)
    |_=>M.fail
   else M.fail
  |none=>M.fail
 |_=>M.fail
noncomputable def yi (args:List Value):M Value :=
 match args with
 | [v] =>
  match qW v with
  |some (t,b,o,f) =>
   bif Nat.beq t qf&&Nat.beq f 150 then(cj b).bind fun cs =>
    match cu cs o with
    |some (.pointer (some ⟨c,p,none⟩))=>M.ret (rv aV (.pointer (some ⟨c,p,none⟩)) 386)
    |_=>M.fail
   else M.fail
  |none=>M.fail
 |_=>M.fail
noncomputable def Fk (args:List Value):M Value :=
 match args with
 | [v,x] =>
  match qW v,qW x with
  |some (t,b,o,f),some (u,c,p,g) =>
   bif Nat.beq t aV&&Nat.beq u aV&&Nat.beq f 386&&Nat.beq g 130 then
    (cj c).bind fun cs =>
     match cu cs p with
     |some (.int .i64 n)=>(cx b o [.int .i64 n]).bind fun _=>M.ret br
     |_=>M.fail
   else M.fail
  |_,_=>M.fail
 |_=>M.fail
noncomputable def ez (args:List Value):M Value :=
 match args with
 | [.slice (some a) (_+1) _,.slice (some b) (_+1) _] =>
  bif Nat.beq a.block b.block then M.fail else(bu a.block).bind fun _=>(bu b.block).bind fun cs=>match cu cs 0 with|some _=>M.ret (.bool false)|none=>M.fail
 |_=>M.fail
def lW:Nat:=204
def mp:Nat:=227
def jo:Nat:=144
def jf:Nat:=200
noncomputable def ex (f:Nat):Option (List Value->M Value) :=
 bif Nat.beq f oR then some oe else
 bif Nat.beq f lZ then some lO else
 bif Nat.beq f yS then some yN else
 bif Nat.beq f pF then some rN else
 bif Nat.beq f zE then some yi else
 bif Nat.beq f Fd then some Fk else
 bif Nat.beq f lW then some ez else
 bif Nat.beq f mp then some ez else none
noncomputable def xV (args:List Value):M Value :=
 match args with
 | [v]=>match gR v with
  |some t=>bif Nat.beq t qf then M.ret (.int .u8 22) else bif Nat.beq t aV then M.ret (.int .u8 2) else M.fail
  |none=>M.fail
 |_=>M.fail
noncomputable def yZ (args:List Value):M Value :=
 match args with
 | [v]=>match gR v with
  |some t=>bif Nat.beq t qf then M.ret (rt aV) else M.fail
  |none=>M.fail
 |_=>M.fail
noncomputable def eR (args:List Value):M Value :=
 match args with
 | [v,.iface r u]=>match gR v,gR u with
  |some t,some e=>bif Nat.beq t aV&&Nat.beq e iZ&&Nat.beq r nO then M.ret (.bool true) else M.fail
  |_,_=>M.fail
 |_=>M.fail
noncomputable def dS (args:List Value):M Value :=
 match args with
 | [v,.iface r u]=>match gR v,gR u with
  |some t,some e=>bif Nat.beq e aV&&Nat.beq r nO then(bif Nat.beq t aV then M.ret (.bool true) else bif Nat.beq t Jg then M.ret (.bool false) else M.fail) else M.fail
  |_,_=>M.fail
 |_=>M.fail
noncomputable def gB (args:List Value):M Value :=
 match args with
 | [v]=>match gR v with
  |some t=>bif Nat.beq t aV then M.ret (.bool true) else M.fail
  |none=>M.fail
 |_=>M.fail
noncomputable def vi (t:Nat) (name:String):Option (List Value->M Value) :=
 bif Nat.beq t nO then
  match name with
  | "Kind" => some xV
  | "Elem" => some yZ
  | "Implements" => some eR
  | "AssignableTo" => some dS
  | "Comparable" => some gB
  |_=>none
 else none
def Qt:List Nat:=[0,0,0,2319282994207,1267669943410854577798583058419,316921112537799156446745919247,3848291023903,1286306517387554776530549791,1127841232101319,11462583032047255313540231626609530496558088189,21778071485159688454326116642971384938483,196207366486323332452224797459830365420945572534828396607,4503608250869703,2535301201526369976860746776335,151115729430949576916751,4951760157141522473986064383,131527,37,37,37147268195997750458483834639,135,131187,16806963,65971251326919,31431,5,8390573,32282066037556383475,21,71,135,1008806316534990535,37182857619891580687,4616198439919690511,2256210746151367,2200634099655,33554503,66483,21,755,19,83,17697271,21,37325842632360861455,557,67459571,71027425395,4157,17183670323,131087,2155905235,8467,11247716600898666159958805025917556981378870312689351,16806963,67637301,3613,21,5,783,10384593721910081766728691964443711,9223372372130662387,19,983213,917565,21,1107191,2055,7327,135,4505661345902023,1,5,5,38885736577748731411487,35184379960847,8053064007,71,21,15539,21,21,17592193916431,268467055,13,7,155,582907660279,537330935,524487,5,65555,7,16806963,21,7,4147,7,108716138161064600943532043125869455896215495,296305330421974179827,34368129779,5,77371400030414896351018767,16777243,339,339,339,8395827,10633864531098827074374669187500006323,19,71,15032393203,16791677,477,4977378920694605937359903,4401267869639,1107191,1907,21,4299165727,2105399,33620175,67174519,2163,132111,4115,66114300693392295753415,268437363,1005,33231,4147,32925,147,64424756723,19,132095,21,5,2207613222971,1005,21,66483,11,134251507,295147905181504570311,16071,21,7,65735,23,537399539,95,5,5,8363,537399539,21,11,2067,19,5,21,19,5,8363,16806963,0,0,0,1193287703199244111,1037,73805023713087741455,9672456868407859218511559,19,18107597860367,21,4440391,288247968346175463,7,755,755,65587,19,11,2212238067,19,159,543,66483,7197,140814797768135,30755,2251799932174589,5,21,1,21,83,19,15,295147905181504570311,21,19,5,0,3,8363,183,10384593871817177683247510831234831,5,66483,66483,66483,0,0,0,31,8363,4147,42535296023574879666274036850519702559,504373101,7,3758112483,4836293578209799956332861,1029,4398047164383,66483,0,3,5,3,1073746119,1074268103,8804682991559,20829169751433159,8391,83087207854311395603287443752634311,19023213622105999119,22458641409078797123448399039441150152463,277,16661,17179886351,8592039695,35218731966215,1333065575601045263,33543,21268317252094917911888073248812900111,1217485249602318769183,22997644815212700899627017342834150232570911,65619,16883,1048621,261,1073746419,17729625006707,33149,8797099655923,1049213,17592202854515,70403104048125,1188952517831098055,144257025092751347,1,3,525,4503668346913551,5,5,71,1055,288231475663604767,271,4159,1048829,33991,51,21,66013,21,21,576465154644903923,1049359,5,17179871549,4339,5,45,19,32967,1267,4295008255,525,262927,4197407,590311713694889820019,5,19,33,35,134219891,8197,83,2099,4639143427053511,0,0,0,0,0,0,0,0,0,0,0,0,0,0,0,0,0,0,0,5,0,0,0,0,0,0,0,0,0,0,0,0,0,0,0,0,0,0,0,0,0]
noncomputable def eg (t:Nat):Bool:=Proofs.Tryz.prog.eqGuardType Proofs.Tryz.prog.depth t||Proofs.Tryz.prog.stoodInHeld t
noncomputable def Cs (sm:Nat->Option (List Value->M Value)):aS:={km:=T.ofList Qt,ty:=T.ofList Proofs.Tryz.prog.types.toList,fn:=T.ofList Proofs.Tryz.prog.funcs.toList,sm,ex,vi}
noncomputable def C0:aS:=Cs fun _=>none
noncomputable def qi (rest:Nat->Option (List Value->M Value)) (f:Nat):Option (List Value->M Value) :=
 bif Nat.beq f jf then some (Bj C0 eg 100 jf 2) else
 bif Nat.beq f jo then some (Bj C0 eg 100 jo 1) else rest f
noncomputable def pP:List Value:=[0,1,28,2,29,14,24,3,30,22,20,15,25,17,4,8,31,27,13,23,21,19,16,7,26,12,18,6,11,5,10,9].map fun n=>.int .u8 n
noncomputable def s0:St:={h:=((T.leaf:T ag).set 0 (some (.ro pP))).set 1 (some (.ro [rt iZ])),c:=3,rl:=[],wl:=[]}
noncomputable def pu (x:Option (Value×St)):Bool:=match x with|some (.bool true,_)=>true|_=>false
end Go.Ab.Seat
end
section
namespace Go.Ab
def fh {α:Type} (m m':M α):Prop:=∀s r,m s=some r->m' s=some r
theorem fh.refl {α:Type} (m:M α):fh m m:=fun _ _ h=>h
theorem ac {α β:Type}{m:M α}{f:α->M β}{s s1:St}{a:α} (h:m s=some (a,s1)):m.bind f s=f a s1:=by
 show Option.rec (motive:=fun _=>Option (β×St)) none (fun p=>Prod.rec (motive:=fun _=>Option (β×St)) (fun a s=>f a s) p) (m s)=_
 rw[h]
theorem fh.bind {α β:Type}{m m':M α}{f f':α->M β} (h:fh m m') (k:∀a,fh (f a) (f' a)):fh (m.bind f) (m'.bind f'):=by
 intro s ⟨b,s'⟩ hb
 obtain⟨a,s1,h1,h2⟩:=bind_some hb
 rw[ac (h _ _ h1)]
 exact k a _ _ h2
theorem o7 {α:Type}{m:M α}{s s1:St}{a:α} (h:m ⟨s.h,s.c,[],[]⟩=some (a,s1)):told m s=some ((a,⟨s1.rl,s1.wl,s.c,s1.c⟩),⟨s1.h,s1.c,s1.rl++s.rl,s1.wl++s.wl⟩):=by
 obtain⟨h0,c,rl,wl⟩:=s
 obtain⟨h1,c1,rl1,wl1⟩:=s1
 show Option.rec (motive:=fun _=>Option ((α×Fp)×St)) none _ (m ⟨h0,c,[],[]⟩)=_
 rw[h]
 show some ((a,Fp.mk rl1 wl1 c c1),St.mk h1 c1 (app rl1 rl) (app wl1 wl))=_
 rw[cP,cP]
theorem tz {α:Type}{m:M α}{s s1:St}{a:α} (h:m ⟨s.h,s.c,[],[]⟩=some (a,s1)):framed m s=some (a,⟨s1.h,s1.c,s1.rl.filter (fun b=>decide (b<s.c))++s.rl,s1.wl.filter (fun b=>decide (b<s.c))++s.wl⟩):=by
 obtain⟨h0,c,rl,wl⟩:=s
 obtain⟨h1,c1,rl1,wl1⟩:=s1
 show Option.rec (motive:=fun _=>Option (α×St)) none _ (m ⟨h0,c,[],[]⟩)=_
 rw[h]
 show some (a,St.mk h1 c1 (below c rl1 rl) (below c wl1 wl))=_
 rw[jO,jO]
theorem fh.told {α:Type}{m m':M α} (h:fh m m'):fh (told m) (told m'):=by
 intro s ⟨⟨a,f⟩,s'⟩ hb
 obtain⟨s2,h1,h2,rfl⟩:=mD hb
 subst h2
 exact o7 (h _ _ h1)
theorem fh.framed {α:Type}{m m':M α} (h:fh m m'):fh (framed m) (framed m'):=by
 intro s ⟨a,s'⟩ hb
 obtain⟨s2,h1,rfl⟩:=lQ hb
 exact tz (h _ _ h1)
def nS (r r':kf):Prop:=∀km c e,fh (r km c e) (r' km c e)
section le
variable {C:aS}{eg:TypeId->Bool}{rec rec':kf}
theorem F2 (h:nS rec rec') (f:Nat) (args:List Value):fh (callB C rec f args) (callB C rec' f args):=by
 unfold callB
 split
 ·exact fh.refl _
 ·split
  ·exact fh.framed (fh.bind (h _ _ _) fun _=>fh.refl _)
  ·exact fh.refl _
theorem zF (h:nS rec rec') (f:Nat) (args:List Value):fh (cr C rec f args) (cr C rec' f args):=by
 unfold cr
 split
 ·exact fh.refl _
 ·split
  ·exact fh.refl _
  ·exact F2 h _ _
theorem CG (h:nS rec rec') (e:aR) (c:Call):fh (nM C rec e c) (nM C rec' e c):=by
 unfold nM
 split
 ·exact fh.refl _
 ·unfold callV
  split
  ·exact zF h _ _
  ·exact fh.refl _
 ·unfold vE
  split
  ·split
   ·exact fh.refl _
   ·split
    ·exact fh.refl _
    ·exact zF h _ _
  ·exact fh.refl _
theorem mh (h:nS rec rec') (e:aR) (o:Oper):fh (dp C eg rec e o) (dp C eg rec' e o):=by
 obtain⟨dst,op,ty,pos,after,guard⟩:=o
 unfold dp
 cases op
 case call=>exact CG h e _
 all_goals exact fh.refl _
theorem ux (h:nS rec rec') (all:List Oper):∀(os:List Oper) (e:aR),fh (bP C eg rec all os e) (bP C eg rec' all os e):=by
 intro os
 induction os with
 |nil=>intro e;exact fh.refl _
 |cons o os ih =>
  intro e
  show fh (gA C eg rec e o (bP C eg rec all os) (aJ all e o)) (gA C eg rec' e o (bP C eg rec' all os) (aJ all e o))
  cases aJ all e o with
  |none=>exact fh.refl _
  |some b =>
   cases b with
   |false=>show fh (eF e o.dst br _) (eF e o.dst br _);rw[bE,bE];exact ih _
   |true =>
    show fh ((dp C eg rec e o).bind fun v=>eF e o.dst v (bP C eg rec all os)) ((dp C eg rec' e o).bind fun v=>eF e o.dst v (bP C eg rec' all os))
    refine fh.bind (mh h e o) fun v=>?_
    rw[bE,bE];exact ih _
theorem lS (h:nS rec rec') (all:List Oper):∀(os:List Oper) (e:aR),fh (aT C eg rec all os e) (aT C eg rec' all os e):=by
 intro os
 induction os with
 |nil=>intro e;exact fh.refl _
 |cons o os ih =>
  intro e
  show fh (ev C eg rec e o (aT C eg rec all os) (aJ all e o)) (ev C eg rec' e o (aT C eg rec' all os) (aJ all e o))
  cases aJ all e o with
  |none=>exact fh.refl _
  |some b =>
   cases b with
   |false =>
    show fh ((told (M.ret ())).bind fun p=>eF e o.dst br fun e=>(aT C eg rec all os e).bind (b6 p.2)) ((told (M.ret ())).bind fun p=>eF e o.dst br fun e=>(aT C eg rec' all os e).bind (b6 p.2))
    refine fh.bind (fh.refl _) fun p=>?_
    rw[bE,bE]
    exact fh.bind (ih _) fun r=>fh.refl _
   |true =>
    show fh ((told (dp C eg rec e o)).bind fun p=>eF e o.dst p.1 fun e=>(aT C eg rec all os e).bind (b6 p.2)) ((told (dp C eg rec' e o)).bind fun p=>eF e o.dst p.1 fun e=>(aT C eg rec' all os e).bind (b6 p.2))
    refine fh.bind (fh.told (mh h e o)) fun p=>?_
    rw[bE,bE]
    exact fh.bind (ih _) fun r=>fh.refl _
theorem E7 (h:nS rec rec') (km:Nat) (c:Code) (e:aR):fh (yV C eg rec km c e) (yV C eg rec' km c e):=by
 have thn:∀c:Code,∀r:Ex×aR,fh (jb (rec km c) r) (jb (rec' km c) r):=by
  intro c ⟨x,e⟩
  cases x with
  |normal=>exact h _ _ _
  |exit j=>exact fh.refl _
  |ret=>exact fh.refl _
 cases c
 case region id ops draw =>
  cases draw with
  |false=>exact fh.bind (ux h _ _ _) fun _=>fh.refl _
  |true=>exact fh.bind (fh.bind (lS h _ _ _) fun _=>fh.refl _) fun _=>fh.refl _
 case seq a b=>exact fh.bind (h _ _ _) (thn b)
 case cond c a b =>
  show fh (iV rec km e c a b) (iV rec' km e c a b)
  unfold iV
  split
  ·exact h _ _ _
  ·exact h _ _ _
  ·exact fh.refl _
 case block id b=>exact fh.bind (h _ _ _) fun _=>fh.refl _
 case loop b=>exact fh.bind (h _ _ _) (thn (.loop b))
 all_goals exact fh.refl _
theorem Es:∀n,nS (a6 C eg n) (a6 C eg (n+1)):=by
 intro n
 induction n with
 |zero=>intro km c e s r h;exact(aa (s:=s) (show M.fail s=some (r.1,r.2) from h)).elim
 |succ n ih=>intro km c e;exact E7 ih km c e
theorem gu {n m:Nat} (h:n<=m):nS (a6 C eg n) (a6 C eg m):=by
 induction h with
 |refl=>intro km c e;exact fh.refl _
 |step _ ih=>exact fun km c e s r hr=>Es _ km c e s r (ih km c e s r hr)
end le
def Wx (C:aS) (eg:TypeId->Bool) (km:Nat) (c:Code) (e:aR) (s:St) (Q:Ex->aR->St->Prop):Prop :=
 ∃n x e' s',a6 C eg n km c e s=some ((x,e'),s')/\Q x e' s'
def aW (C:aS) (eg:TypeId->Bool) (e:aR) (o:Oper) (s:St) (v:Value) (s':St):Prop :=
 ∃n,dp C eg (a6 C eg n) e o s=some (v,s')
def aE (C:aS) (eg:TypeId->Bool) (f:Nat) (args:List Value) (s:St) (v:Value) (s':St):Prop :=
 ∃n,cr C (a6 C eg n) f args s=some (v,s')
def ax (C:aS) (eg:TypeId->Bool) (all os:List Oper) (e:aR) (s:St) (Q:aR->St->Prop):Prop :=
 ∃n e' s',bP C eg (a6 C eg n) all os e s=some (e',s')/\Q e' s'
def bN (C:aS) (eg:TypeId->Bool) (all:List Oper) (bef:List Nat) (done:List (Nat×Fp)) (j:Nat) (os:List Oper) (e:aR) (s:St) (Q:aR->St->Prop):Prop :=
 ∃n e' fps s',aT C eg (a6 C eg n) all os e s=some ((e',fps),s')/\bJ bef done j fps=true/\Q e' s'
section rules
variable {C:aS}{eg:TypeId->Bool}{km:Nat}{e:aR}{s:St}{Q:Ex->aR->St->Prop}
theorem Wx.mono {c:Code}{Q':Ex->aR->St->Prop} (h:Wx C eg km c e s Q) (k:∀x e' s',Q x e' s'->Q' x e' s'):Wx C eg km c e s Q':=by
 obtain⟨n,x,e',s',h1,h2⟩:=h
 exact⟨n,x,e',s',h1,k _ _ _ h2⟩
def kh (C:aS) (eg:TypeId->Bool) (km:Nat) (b:Code) (Q:Ex->aR->St->Prop) (x:Ex) (e:aR) (s:St):Prop :=
 match x with|.normal=>Wx C eg km b e s Q|x=>Q x e s
theorem Wx.seq {a b:Code} (h:Wx C eg km a e s (kh C eg km b Q)):Wx C eg km (.seq a b) e s Q:=by
 obtain⟨n,x,e',s',h1,h2⟩:=h
 cases x with
 |normal =>
  obtain⟨m,x,e2,s2,h3,h4⟩:=h2
  refine⟨max n m+1,x,e2,s2,?_,h4⟩
  show ((a6 C eg (max n m) km a e).bind (jb (a6 C eg (max n m) km b))) s=_
  rw[ac (gu (Nat.le_max_left n m) _ _ _ _ _ h1)]
  exact gu (Nat.le_max_right n m) _ _ _ _ _ h3
 |exit j =>
  refine⟨n+1,_,_,_,?_,h2⟩
  show ((a6 C eg n km a e).bind (jb (a6 C eg n km b))) s=_
  rw[ac h1];rfl
 |ret =>
  refine⟨n+1,_,_,_,?_,h2⟩
  show ((a6 C eg n km a e).bind (jb (a6 C eg n km b))) s=_
  rw[ac h1];rfl
theorem Wx.skip (h:Q .normal e s):Wx C eg km .skip e s Q:=⟨1,_,_,_,rfl,h⟩
theorem Wx.exit {id:Nat} (h:Q (.exit id) e s):Wx C eg km (.exit id) e s Q:=⟨1,_,_,_,rfl,h⟩
theorem Wx.ret (h:Q .ret e s):Wx C eg km .ret e s Q:=⟨1,_,_,_,rfl,h⟩
theorem Wx.cond {c:Operand}{a b:Code}{p:Bool} (hc:ae e c=.bool p) (h1:p=true->Wx C eg km a e s Q) (h2:p=false->Wx C eg km b e s Q):Wx C eg km (.cond c a b) e s Q:=by
 cases p with
 |true =>
  obtain⟨n,x,e',s',h3,h4⟩:=h1 rfl
  refine⟨n+1,x,e',s',?_,h4⟩
  show iV (a6 C eg n) km e c a b s=_
  unfold iV
  rw[hc];exact h3
 |false =>
  obtain⟨n,x,e',s',h3,h4⟩:=h2 rfl
  refine⟨n+1,x,e',s',?_,h4⟩
  show iV (a6 C eg n) km e c a b s=_
  unfold iV
  rw[hc];exact h3
def ug (id:Nat) (Q:Ex->aR->St->Prop) (x:Ex) (e:aR) (s:St):Prop :=
 match x with|.exit j=>(if j=id then Q .normal e s else Q (.exit j) e s)|x=>Q x e s
theorem Wx.block {id:Nat}{b:Code} (h:Wx C eg km b e s (ug id Q)):Wx C eg km (.block id b) e s Q:=by
 obtain⟨n,x,e',s',h1,h2⟩:=h
 cases x with
 |exit j =>
  by_cases hj:j=id
  ·subst hj
   refine⟨n+1,.normal,e',s',?_,by simpa [ug] using h2⟩
   show ((a6 C eg n km b e).bind (kJ j)) s=_
   rw[ac h1]
   show (bif Nat.beq j j then M.ret (Ex.normal,e') else M.ret (Ex.exit j,e')) s'=_
   rw[show Nat.beq j j=true from Nat.beq_refl j];rfl
  ·refine⟨n+1,.exit j,e',s',?_,by simpa [ug,hj] using h2⟩
   show ((a6 C eg n km b e).bind (kJ id)) s=_
   rw[ac h1]
   show (bif Nat.beq j id then M.ret (Ex.normal,e') else M.ret (Ex.exit j,e')) s'=_
   rw[show Nat.beq j id=false from bh.2 hj];rfl
 |normal =>
  refine⟨n+1,_,_,_,?_,h2⟩
  show ((a6 C eg n km b e).bind (kJ id)) s=_
  rw[ac h1];rfl
 |ret =>
  refine⟨n+1,_,_,_,?_,h2⟩
  show ((a6 C eg n km b e).bind (kJ id)) s=_
  rw[ac h1];rfl
theorem Wx.loop1 {b:Code} (h:Wx C eg km b e s (kh C eg km (.loop b) Q)):Wx C eg km (.loop b) e s Q:=by
 obtain⟨n,x,e',s',h1,h2⟩:=h
 cases x with
 |normal =>
  obtain⟨m,x,e2,s2,h3,h4⟩:=h2
  refine⟨max n m+1,x,e2,s2,?_,h4⟩
  show ((a6 C eg (max n m) km b e).bind (jb (a6 C eg (max n m) km (.loop b)))) s=_
  rw[ac (gu (Nat.le_max_left n m) _ _ _ _ _ h1)]
  exact gu (Nat.le_max_right n m) _ _ _ _ _ h3
 |exit j =>
  refine⟨n+1,_,_,_,?_,h2⟩
  show ((a6 C eg n km b e).bind (jb (a6 C eg n km (.loop b)))) s=_
  rw[ac h1];rfl
 |ret =>
  refine⟨n+1,_,_,_,?_,h2⟩
  show ((a6 C eg n km b e).bind (jb (a6 C eg n km (.loop b)))) s=_
  rw[ac h1];rfl
def rO (I:Nat->aR->St->Prop) (m:Nat) (Q:Ex->aR->St->Prop) (x:Ex) (e:aR) (s:St):Prop :=
 match x with|.normal=>∃m',m'<m/\I m' e s|x=>Q x e s
theorem Wx.loop {b:Code} (I:Nat->aR->St->Prop) (m:Nat) (h0:I m e s) (hr:∀m e s,I m e s->Wx C eg km b e s (rO I m Q)):Wx C eg km (.loop b) e s Q:=by
 induction m using Nat.strongRecOn generalizing e s with
 |ind m ih =>
  refine Wx.loop1 ((hr m e s h0).mono fun x e' s' h=>?_)
  cases x with
  |normal =>
   obtain⟨m',h1,h2⟩:=h
   exact ih m' h1 h2
  |exit j=>exact h
  |ret=>exact h
theorem Wx.region {id:Nat}{ops:Array Oper} (h:ax C eg ops.toList ops.toList e s fun e' s'=>Q .normal (ju km e') s'):Wx C eg km (.region id ops false) e s Q:=by
 obtain⟨n,e',s',h1,h2⟩:=h
 refine⟨n+1,.normal,ju km e',s',?_,h2⟩
 show ((bP C eg (a6 C eg n) ops.toList ops.toList e).bind (d7 km)) s=_
 rw[ac h1]
 unfold d7
 rw[fO];rfl
theorem Wx.draw {id:Nat}{ops:Array Oper} (h:bN C eg ops.toList (Region.before ops).toList [] 0 ops.toList e s fun e' s'=>Q .normal (ju km e') s'):Wx C eg km (.region id ops true) e s Q:=by
 obtain⟨n,e',fps,s',h1,h2,h3⟩:=h
 refine⟨n+1,.normal,ju km e',s',?_,h3⟩
 show (((aT C eg (a6 C eg n) ops.toList ops.toList e).bind (ii ops)).bind (d7 km)) s=_
 have:((aT C eg (a6 C eg n) ops.toList ops.toList e).bind (ii ops)) s=some (e',s'):=by
  rw[ac h1]
  show (Bool.rec (motive:=fun _=>M aR) M.fail (M.ret e') (bJ (Region.before ops).toList [] 0 fps)) s'=_
  rw[h2];rfl
 rw[ac this]
 unfold d7
 rw[fO];rfl
end rules
section ops
variable {C:aS}{eg:TypeId->Bool}{all os:List Oper}{o:Oper}{e:aR}{s:St}{Q:aR->St->Prop}
theorem ax.nil (h:Q e s):ax C eg all [] e s Q:=⟨0,e,s,rfl,h⟩
theorem ax.op {v:Value}{s1:St} (hw:aJ all e o=some true) (ho:aW C eg e o s v s1) (k:ax C eg all os (put e o.dst v) s1 Q):ax C eg all (o::os) e s Q:=by
 obtain⟨n,h1⟩:=ho
 obtain⟨m,e',s',h2,h3⟩:=k
 refine⟨max n m,e',s',?_,h3⟩
 show gA C eg (a6 C eg (max n m)) e o (bP C eg (a6 C eg (max n m)) all os) (aJ all e o) s=_
 rw[hw]
 show ((dp C eg (a6 C eg (max n m)) e o).bind fun v=>eF e o.dst v (bP C eg (a6 C eg (max n m)) all os)) s=_
 rw[ac (mh (gu (Nat.le_max_left n m)) _ _ _ _ h1),bE]
 exact ux (gu (Nat.le_max_right n m)) _ _ _ _ _ h2
theorem ax.not (hw:aJ all e o=some false) (k:ax C eg all os (put e o.dst br) s Q):ax C eg all (o::os) e s Q:=by
 obtain⟨m,e',s',h2,h3⟩:=k
 refine⟨m,e',s',?_,h3⟩
 show gA C eg (a6 C eg m) e o (bP C eg (a6 C eg m) all os) (aJ all e o) s=_
 rw[hw]
 show eF e o.dst br (bP C eg (a6 C eg m) all os) s=_
 rw[bE];exact h2
def bt (i j:Fp):Prop:=(∀b∈i.w,b∉j.r)/\(∀b∈i.w,b∉j.w)/\(∀b∈j.w,b∉i.r)/\(∀b∈j.r,¬(i.c0<=b/\b<i.c1))/\(∀b∈j.w,¬(i.c0<=b/\b<i.c1))
noncomputable def Ap (bef:List Nat) (j i:Nat):Bool:=match cu bef j with|some m=>Nat.testBit m i|none=>false
theorem Dk {b:Nat}{l:List Nat} (h:b∉l):mem b l=false:=by
 induction l with
 |nil=>rfl
 |cons x l ih =>
  have h1:x≠b:=fun e=>h (by rw[e];exact List.mem_cons_self ..)
  show Bool.rec (motive:=fun _=>Bool) (mem b l) true (Nat.beq x b)=false
  rw[show Nat.beq x b=false from bh.2 h1]
  exact ih fun hm=>h (List.mem_cons_of_mem _ hm)
theorem mr {l ys:List Nat} (h:∀b∈l,b∉ys):mj l ys=false:=by
 induction l with
 |nil=>rfl
 |cons x l ih =>
  show Bool.rec (motive:=fun _=>Bool) (mj l ys) true (mem x ys)=false
  rw[Dk (h x (List.mem_cons_self ..))]
  exact ih fun b hb=>h b (List.mem_cons_of_mem _ hb)
theorem oQ {lo hi:Nat}{l:List Nat} (h:∀b∈l,¬(lo<=b/\b<hi)):iX lo hi l=false:=by
 induction l with
 |nil=>rfl
 |cons x l ih =>
  have ih':=ih fun b hb=>h b (List.mem_cons_of_mem _ hb)
  show Bool.rec (motive:=fun _=>Bool) (iX lo hi l) (Bool.rec (motive:=fun _=>Bool) (iX lo hi l) true (Nat.blt x hi)) (Nat.ble lo x)=false
  have hx:=h x (List.mem_cons_self ..)
  cases h1:Nat.ble lo x with
  |false=>exact ih'
  |true =>
   have h2:Nat.blt x hi=false:=Dq.2 (by have:=aH.1 h1;omega)
   rw[h2];exact ih'
theorem A3 {i j:Fp} (h:bt i j):jc i j=true:=by
 obtain⟨h1,h2,h3,h4,h5⟩:=h
 unfold jc
 rw[mr h1,mr h2,mr h3,oQ h4,oQ h5];rfl
theorem DU (bef:List Nat):∀(fs:List Fp) (j:Nat) (d d':List (Nat×Fp)),(∀p∈d',p∈d)->bJ bef d j fs=true->bJ bef d' j fs=true:=by
 intro fs
 induction fs with
 |nil=>intro j d d' _ _;rfl
 |cons f fs ih =>
  intro j d d' hs h
  unfold bJ at h ⊢
  cases hf:f.silent with
  |true =>
   rw[hf] at h
   exact ih _ _ _ hs h
  |false =>
   rw[hf] at h
   simp only at h ⊢
   split at h
   ·rename_i hall
    rw[bT,List.all_eq_true] at hall
    split
    ·refine ih _ _ _ ?_ h
     intro p hp
     rcases List.mem_cons.1 hp with rfl|hp
     ·exact List.mem_cons_self ..
     ·exact List.mem_cons_of_mem _ (hs p hp)
    ·rename_i hn
     have:∀p∈d',_:=fun p hp=>hall p (hs p hp)
     rw[<- List.all_eq_true,<- bT] at this
     rw[this] at hn;cases hn
   ·cases h
theorem bN.nil {bef:List Nat}{done:List (Nat×Fp)}{j:Nat} (h:Q e s):bN C eg all bef done j [] e s Q:=⟨0,e,[],s,rfl,rfl,h⟩
theorem bN.op {bef:List Nat}{done:List (Nat×Fp)}{j:Nat}{v:Value}{s1:St} (hw:aJ all e o=some true) (ho:aW C eg e o ⟨s.h,s.c,[],[]⟩ v s1)
  (ha:∀p∈done,Ap bef j p.1=true\/bt p.2 ⟨s1.rl,s1.wl,s.c,s1.c⟩)
  (k:bN C eg all bef ((j,⟨s1.rl,s1.wl,s.c,s1.c⟩)::done) (j+1) os (put e o.dst v) ⟨s1.h,s1.c,s1.rl++s.rl,s1.wl++s.wl⟩ Q):bN C eg all bef done j (o::os) e s Q:=by
 obtain⟨n,h1⟩:=ho
 obtain⟨m,e',fps,s',h2,h3,h4⟩:=k
 refine⟨max n m,e',⟨s1.rl,s1.wl,s.c,s1.c⟩::fps,s',?_,?_,h4⟩
 ·show ev C eg (a6 C eg (max n m)) e o (aT C eg (a6 C eg (max n m)) all os) (aJ all e o) s=_
  rw[hw]
  show ((told (dp C eg (a6 C eg (max n m)) e o)).bind fun p=>eF e o.dst p.1 fun e=>(aT C eg (a6 C eg (max n m)) all os e).bind (b6 p.2)) s=_
  rw[ac (o7 (mh (gu (Nat.le_max_left n m)) _ _ _ _ h1)),bE]
  rw[ac (lS (gu (Nat.le_max_right n m)) _ _ _ _ _ h2)]
  rfl
 ·unfold bJ
  cases hf:Fp.silent ⟨s1.rl,s1.wl,s.c,s1.c⟩ with
  |true=>exact DU bef fps _ _ _ (fun p hp=>List.mem_cons_of_mem _ hp) h3
  |false =>
   have:ee (fun p:Nat×Fp=>(match cu bef j with|some m=>Nat.testBit m p.1|none=>false)||jc p.2 ⟨s1.rl,s1.wl,s.c,s1.c⟩) done=true:=by
    rw[bT,List.all_eq_true]
    intro p hp
    rcases ha p hp with h|h
    ·have h':(match cu bef j with|some m=>Nat.testBit m p.1|none=>false)=true:=h
     rw[h'];rfl
    ·rw[A3 h,Bool.or_true]
   simp only
   split
   ·exact h3
   ·rename_i hn
    have hn':ee (fun p:Nat×Fp=>(match cu bef j with|some m=>Nat.testBit m p.1|none=>false)||jc p.2 ⟨s1.rl,s1.wl,s.c,s1.c⟩) done=false:=hn
    rw[this] at hn';cases hn'
theorem bN.quiet {bef:List Nat}{done:List (Nat×Fp)}{j:Nat}{v:Value} (hw:aJ all e o=some true) (ho:aW C eg e o ⟨s.h,s.c,[],[]⟩ v ⟨s.h,s.c,[],[]⟩)
  (k:bN C eg all bef done (j+1) os (put e o.dst v) s Q):bN C eg all bef done j (o::os) e s Q:=by
 obtain⟨n,h1⟩:=ho
 obtain⟨m,e',fps,s',h2,h3,h4⟩:=k
 refine⟨max n m,e',⟨[],[],s.c,s.c⟩::fps,s',?_,?_,h4⟩
 ·show ev C eg (a6 C eg (max n m)) e o (aT C eg (a6 C eg (max n m)) all os) (aJ all e o) s=_
  rw[hw]
  show ((told (dp C eg (a6 C eg (max n m)) e o)).bind fun p=>eF e o.dst p.1 fun e=>(aT C eg (a6 C eg (max n m)) all os e).bind (b6 p.2)) s=_
  rw[ac (o7 (mh (gu (Nat.le_max_left n m)) _ _ _ _ h1)),bE]
  show ((aT C eg (a6 C eg (max n m)) all os (put e o.dst v)).bind (b6 _)) ⟨s.h,s.c,s.rl,s.wl⟩=_
  rw[ac (lS (gu (Nat.le_max_right n m)) _ _ _ _ _ h2)]
  rfl
 ·have hq:Fp.silent ⟨[],[],s.c,s.c⟩=true:=Nat.beq_refl _
  unfold bJ
  rw[hq]
  exact h3
theorem bN.not {bef:List Nat}{done:List (Nat×Fp)}{j:Nat} (hw:aJ all e o=some false) (k:bN C eg all bef done (j+1) os (put e o.dst br) s Q):bN C eg all bef done j (o::os) e s Q:=by
 obtain⟨m,e',fps,s',h2,h3,h4⟩:=k
 refine⟨m,e',⟨[],[],s.c,s.c⟩::fps,s',?_,?_,h4⟩
 ·show ev C eg (a6 C eg m) e o (aT C eg (a6 C eg m) all os) (aJ all e o) s=_
  rw[hw]
  show ((told (M.ret ())).bind fun p=>eF e o.dst br fun e=>(aT C eg (a6 C eg m) all os e).bind (b6 p.2)) s=_
  rw[ac (o7 (m:=M.ret ()) (a:=()) (s1:=⟨s.h,s.c,[],[]⟩) rfl),bE]
  show ((aT C eg (a6 C eg m) all os (put e o.dst br)).bind (b6 _)) ⟨s.h,s.c,s.rl,s.wl⟩=_
  rw[ac h2]
  rfl
 ·have hq:Fp.silent ⟨[],[],s.c,s.c⟩=true:=Nat.beq_refl _
  unfold bJ
  rw[hq]
  exact h3
end ops
section calls
variable {C:aS}{eg:TypeId->Bool}{e:aR}{s:St}
def aG (C:aS) (e:aR) (rs:List ResultVar) (s:St) (Q:Value->St->Prop):Prop:=∃v s',iR C e rs s=some (v,s')/\Q v s'
theorem Fn.enter {f:Nat}{fn:Func}{body:Code}{args:List Value}{Q:Value->St->Prop} (hsm:C.sm f=none) (hex:C.ex f=none) (hf:C.fn.get f=some fn) (hb:fn.body=some body) (hl:Nat.ble (len args) fn.ntmps=true)
  (h:Wx C eg (Option.rec (motive:=fun _=>Nat) 0 (fun n=>n) (C.km.get f)) body (uv (Option.rec (motive:=fun _=>Nat) 0 (fun n=>n) (C.km.get f)) args) ⟨s.h,s.c,[],[]⟩
   fun x e' s'=>(x=.normal\/x=.ret)/\aG C e' fn.results.toList s' fun v s2=>Q v ⟨s2.h,s2.c,s2.rl.filter (fun b=>decide (b<s.c))++s.rl,s2.wl.filter (fun b=>decide (b<s.c))++s.wl⟩) :
  ∃v s',aE C eg f args s v s'/\Q v s':=by
 obtain⟨n,x,e',s',h1,h2,v,s2,h3,h4⟩:=h
 refine⟨v,_,⟨n,?_⟩,h4⟩
 unfold cr
 rw[hsm]
 simp only
 rw[hex]
 simp only
 unfold callB
 rw[hf]
 simp only
 rw[hb,hl]
 simp only
 refine tz ?_
 unfold GY
 rw[ac h1]
 rcases h2 with rfl|rfl<;>exact h3
theorem aW.ofCall {d:Option Nat}{f:Nat}{ar:Array Operand}{ts:Array TypeId}{ty:TypeId}{ps:String}{af:Array Edge}{g:Option (Nat×Bool)}{args:List Value}{v:Value}{s':St} (h:aE C eg f args s v s') (ha:gO (ae e) ar.toList=args) :
  aW C eg e ⟨d,.call ⟨.value (.func f),ar,ts⟩,ty,ps,af,g⟩ s v s':=by
 obtain⟨n,h⟩:=h
 refine⟨n,?_⟩
 show cr C (a6 C eg n) f (app [] (app (gO (ae e) ar.toList) [])) s=_
 rw[ha,show app ([]:List Value) (app args [])=args by rw[cP,cP];simp]
 exact h
end calls
end Go.Ab
end
