import Derived.Orders
import Derived.Tactics
import Derived.LoopN
set_option linter.unusedVariables false
set_option linter.unusedSimpArgs false
namespace Go.Ab
inductive T (α:Type) where
 |leaf
 |node (l:T α) (v:Option α) (r:T α)
namespace T
variable {α β:Type}
noncomputable def getP (t:T α):Nat->Option α :=
 T.rec (motive:=fun _=>Nat->Option α) (fun _=>none)
  (fun _ v _ il ir n=>Bool.rec (Bool.rec (ir (Nat.div n 2)) (il (Nat.div n 2)) (Nat.beq (Nat.mod n 2) 0)) v (Nat.beq n 1)) t
noncomputable def get (t:T α) (n:Nat):Option α:=getP t (Nat.add n 1)
noncomputable def force (t:T α) (k:T α->β):β:=T.rec (motive:=fun _=>β) (k .leaf) (fun l v r _ _=>k (.node l v r)) t
noncomputable def my (x:Option α) (f:Nat):Nat->T α :=
 Nat.rec (motive:=fun _=>Nat->T α) (fun _=>.leaf)
  (fun _ ih n=>Bool.rec (Bool.rec (.node .leaf none (ih (Nat.div n 2))) (.node (ih (Nat.div n 2)) none .leaf) (Nat.beq (Nat.mod n 2) 0)) (.node .leaf x .leaf) (Nat.beq n 1)) f
noncomputable def wK (x:Option α) (t:T α):Nat->T α :=
 T.rec (motive:=fun _=>Nat->T α) (fun n=>my x n n)
  (fun l v r il ir n=>Bool.rec (Bool.rec (.node l v (ir (Nat.div n 2))) (.node (il (Nat.div n 2)) v r) (Nat.beq (Nat.mod n 2) 0)) (.node l x r) (Nat.beq n 1)) t
noncomputable def set (t:T α) (n:Nat) (x:Option α):T α:=wK x t (Nat.add n 1)
noncomputable def iI:List α->Nat->T α->T α
 | [],_,t=>t
 |x::xs,i,t=>force (t.set i (some x)) fun t=>iI xs (i+1) t
noncomputable def ofList (l:List α):T α:=iI l 0 .leaf
end T
inductive ag where
 |cells (cs:List Value)
 |ro (cs:List Value)
 |bytes (cs:List Value)
 |map (es:List (Value×Value×Nat)) (clock:Nat)
structure St where
 h:T ag
 c:Nat
 rl:List Nat
 wl:List Nat
noncomputable def M (α:Type):Type:=St->Option (α×St)
namespace M
variable {α β:Type}
noncomputable def ret (a:α):M α:=fun s=>some (a,s)
noncomputable def fail:M α:=fun _=>none
noncomputable def bind (m:M α) (f:α->M β):M β:=fun s =>
 Option.rec (motive:=fun _=>Option (β×St)) none
  (fun p=>Prod.rec (motive:=fun _=>Option (β×St)) (fun a s=>f a s) p) (m s)
noncomputable def lift (x:Option α):M α:=fun s =>
 Option.rec (motive:=fun _=>Option (α×St)) none (fun a=>some (a,s)) x
end M
noncomputable def getO (b:Nat):M ag:=fun s =>
 St.rec (motive:=fun _=>Option (ag×St)) (fun h c rl wl =>
  Bool.rec (motive:=fun _=>Option (ag×St))
   (Option.rec (motive:=fun _=>Option (ag×St)) none (fun o=>some (o,⟨h,c,b::rl,wl⟩)) (h.get b))
   none (Nat.ble c b)) s
noncomputable def putO (b:Nat) (o:Option ag):M Unit:=fun s =>
 St.rec (motive:=fun _=>Option (Unit×St)) (fun h c rl wl =>
  Bool.rec (motive:=fun _=>Option (Unit×St))
   (Option.rec (motive:=fun _=>Option (Unit×St)) none
    (fun _=>(h.set b o).force fun h=>some ((),⟨h,c,rl,b::wl⟩)) (h.get b))
   none (Nat.ble c b)) s
noncomputable def newO (o:ag):M Nat:=fun s =>
 St.rec (motive:=fun _=>Option (Nat×St)) (fun h c rl wl =>
  Option.rec (motive:=fun _=>Option (Nat×St))
   ((h.set c (some o)).force fun h=>some (c,⟨h,Nat.add c 1,rl,wl⟩)) (fun _=>none) (h.get c)) s
noncomputable def cj (b:Nat):M (List Value):=(getO b).bind fun
 |.cells cs=>M.ret cs
 |.ro cs=>M.ret cs
 |.bytes cs=>M.ret cs
 |_=>M.fail
noncomputable def bu (b:Nat):M (List Value):=(getO b).bind fun
 |.cells cs=>M.ret cs
 |_=>M.fail
noncomputable def mM (b:Nat):M (List Value):=(getO b).bind fun
 |.cells cs=>M.ret cs
 |.bytes cs=>M.ret cs
 |_=>M.fail
noncomputable def iL (b:Nat):M (List (Value×Value×Nat)×Nat):=(getO b).bind fun
 |.map es k=>M.ret (es,k)
 |_=>M.fail
noncomputable def len {α:Type} (l:List α):Nat:=List.rec (motive:=fun _=>Nat) 0 (fun _ _ ih=>Nat.add ih 1) l
noncomputable def app {α:Type} (l:List α) (r:List α):List α:=List.rec (motive:=fun _=>List α) r (fun x _ ih=>x::ih) l
noncomputable def ee {α:Type} (p:α->Bool) (l:List α):Bool:=List.rec (motive:=fun _=>Bool) true (fun x _ ih=>Bool.rec (motive:=fun _=>Bool) false ih (p x)) l
noncomputable def below (c:Nat) (l:List Nat) (r:List Nat):List Nat :=
 List.rec (motive:=fun _=>List Nat) r (fun b _ ih=>Bool.rec (motive:=fun _=>List Nat) ih (b::ih) (Nat.blt b c)) l
structure Fp where
 r:List Nat
 w:List Nat
 c0:Nat
 c1:Nat
noncomputable def told {α:Type} (m:M α):M (α×Fp):=fun s =>
 St.rec (motive:=fun _=>Option ((α×Fp)×St)) (fun h c rl wl =>
  Option.rec (motive:=fun _=>Option ((α×Fp)×St)) none
   (fun p=>Prod.rec (motive:=fun _=>Option ((α×Fp)×St)) (fun a s1 =>
    St.rec (motive:=fun _=>Option ((α×Fp)×St)) (fun h1 c1 rl1 wl1=>some ((a,⟨rl1,wl1,c,c1⟩),⟨h1,c1,app rl1 rl,app wl1 wl⟩)) s1) p)
   (m ⟨h,c,[],[]⟩)) s
noncomputable def framed {α:Type} (m:M α):M α:=fun s =>
 St.rec (motive:=fun _=>Option (α×St)) (fun h c rl wl =>
  Option.rec (motive:=fun _=>Option (α×St)) none
   (fun p=>Prod.rec (motive:=fun _=>Option (α×St)) (fun a s1 =>
    St.rec (motive:=fun _=>Option (α×St)) (fun h1 c1 rl1 wl1=>some (a,⟨h1,c1,below c rl1 rl,below c wl1 wl⟩)) s1) p)
   (m ⟨h,c,[],[]⟩)) s
structure aS where
 ty:T TypeInfo
 fn:T Func
 km:T Nat
 sm:Nat->Option (List Value->M Value)
 ex:Nat->Option (List Value->M Value)
 vi:Nat->String->Option (List Value->M Value)
noncomputable def aS.und (C:aS) (t:TypeId):Option TypeDesc :=
 match C.ty.get t with
 |none=>none
 |some i =>
  match i.desc with
  |.named _ u =>
   match C.ty.get u with
   |none=>none
   |some j=>some j.desc
  |d=>some d
noncomputable def aS.size (C:aS) (t:TypeId):Option Nat:=match C.ty.get t with|none=>none|some i=>some i.size
noncomputable def aS.bytes (C:aS) (t:TypeId):Option Nat:=match C.ty.get t with|none=>none|some i=>some i.bytes
noncomputable def aS.zero (C:aS) (t:TypeId):Option Value:=match C.ty.get t with|none=>none|some i=>i.zero
noncomputable def aS.elem (C:aS) (t:TypeId):Option TypeId:=match C.und t with|some (.slice e)=>some e|_=>none
def top:Value:=.chan none
noncomputable def ba (v:Value):Option (List Value):=match v with|.agg cs=>some cs.toList|.chan _=>none|v=>some [v]
noncomputable def atom (v:Value):Bool:=match v with|.agg _=>false|.tuple _=>false|.chan _=>false|_=>true
noncomputable def cu {α:Type} (l:List α):Nat->Option α :=
 List.rec (motive:=fun _=>Nat->Option α) (fun _=>none)
  (fun x _ ih n=>Nat.rec (motive:=fun _=>Option α) (some x) (fun m _=>ih m) n) l
noncomputable def jh (xs:List Value):List Value->Option (List Value) :=
 List.rec (motive:=fun _=>List Value->Option (List Value)) (fun cs=>some cs)
  (fun x _ ih cs=>List.rec (motive:=fun _=>Option (List Value)) none
   (fun _ cs _=>Bool.rec (motive:=fun _=>Option (List Value)) none
    (Option.rec (motive:=fun _=>Option (List Value)) none (fun r=>some (x::r)) (ih cs)) (atom x)) cs) xs
noncomputable def bw (xs:List Value) (cs:List Value):Nat->Option (List Value) :=
 List.rec (motive:=fun _=>Nat->Option (List Value)) (fun o=>Nat.rec (motive:=fun _=>Option (List Value)) (jh xs []) (fun _ _=>none) o)
  (fun c cs ih o=>Nat.rec (motive:=fun _=>Option (List Value)) (jh xs (c::cs))
   (fun o _=>Option.rec (motive:=fun _=>Option (List Value)) none (fun r=>some (c::r)) (ih o)) o) cs
noncomputable def sK (n:Nat):List Value->Option (List Value) :=
 Nat.rec (motive:=fun _=>List Value->Option (List Value)) (fun _=>some [])
  (fun _ ih cs=>List.rec (motive:=fun _=>Option (List Value)) none
   (fun c cs _=>Option.rec (motive:=fun _=>Option (List Value)) none (fun r=>some (c::r)) (ih cs)) cs) n
noncomputable def aP (o n:Nat):List Value->Option (List Value) :=
 Nat.rec (motive:=fun _=>List Value->Option (List Value)) (sK n)
  (fun _ ih cs=>List.rec (motive:=fun _=>Option (List Value)) none (fun _ cs _=>ih cs) cs) o
noncomputable def jj (l:List UInt8):List UInt8->Bool :=
 List.rec (motive:=fun _=>List UInt8->Bool) (fun r=>List.rec (motive:=fun _=>Bool) true (fun _ _ _=>false) r)
  (fun x _ ih r=>List.rec (motive:=fun _=>Bool) false (fun y r _=>Bool.rec (motive:=fun _=>Bool) false (ih r) (Nat.beq x.toNat y.toNat)) r) l
noncomputable def pW {α β:Type} (l:List α):(List α->β)->β :=
 List.rec (motive:=fun _=>(List α->β)->β) (fun k=>k []) (fun x _ ih k=>ih fun xs=>k (x::xs)) l
noncomputable def rep (z:List Value) (n:Nat):List Value:=Nat.rec (motive:=fun _=>List Value) [] (fun _ ih=>app z ih) n
noncomputable def gO {α β:Type} (f:α->β) (l:List α):List β:=List.rec (motive:=fun _=>List β) [] (fun x _ ih=>f x::ih) l
noncomputable def kN (s:ByteArray):List Value:=gO (fun b=>.int .u8 b.toNat) s.data.toList
noncomputable def gi (b o n:Nat):M (List Value):=(cj b).bind fun cs=>M.lift (aP o n cs)
noncomputable def cx (b o:Nat) (xs:List Value):M Unit :=
 (bu b).bind fun cs=>(M.lift (bw xs cs o)).bind fun cs=>putO b (some (.cells cs))
noncomputable def bq (cs:List Value):M Nat:=pW cs fun cs=>newO (.cells cs)
noncomputable def ox (cs:List Value):M Nat:=pW cs fun cs=>newO (.bytes cs)
noncomputable def eM:Value->Option (Nat×Nat)
 |.pointer (some ⟨b,o,none⟩)=>some (b,o)
 |_=>none
noncomputable def br:Value:=.tuple #[]
noncomputable def fG (C:aS) (t:TypeId) (a:Value):M Value :=
 match eM a with
 |none=>M.fail
 |some (b,o) =>
  match C.und t with
  |none=>M.fail
  |some d =>
   match d with
   |.struct _|.array _ _ =>
    match C.size t with
    |none=>M.fail
    |some n=>(gi b o n).bind fun cs=>M.ret (.agg ⟨cs⟩)
   |_ =>
    (cj b).bind fun cs =>
     match cu cs o with
     |none=>M.fail
     |some v=>M.ret v
noncomputable def kM (C:aS) (t:TypeId) (a x:Value):M Value :=
 match eM a,C.size t with
 |some (b,o),some n =>
  (M.lift (ba x)).bind fun cs =>
   match Nat.beq (len cs) n with
   |true=>(cx b o cs).bind fun _=>M.ret br
   |false=>M.fail
 |_,_=>M.fail
noncomputable def oF (x:Value):M Value:=(M.lift (ba x)).bind fun cs=>(bq cs).bind fun b=>M.ret (.pointer (some ⟨b,0,none⟩))
noncomputable def ko (C:aS) (t:TypeId):M Value:=(M.lift (C.zero t)).bind fun z=>oF z
noncomputable def j4 (place:Nat->Option (Nat×Nat)) (cells:List Value):List (Nat×Value)->Option (List Value)
 | []=>some cells
 |(i,v)::rest =>
  match place i with
  |none=>none
  |some (off,size) =>
   match ba v with
   |none=>none
   |some cs =>
    match Nat.beq (len cs) size,bw cs cells off with
    |true,some cells=>j4 place cells rest
    |_,_=>none
noncomputable def jg (C:aS):List Field->Option (List (Nat×Nat))
 | []=>some []
 |f::fs =>
  match C.size f.type with
  |none=>none
  |some n =>
   match jg C fs with
   |none=>none
   |some l=>some ((f.offset,n)::l)
noncomputable def g9 (C:aS) (t:TypeId) (parts:List (Nat×Value)):M Value :=
 match C.und t,C.zero t with
 |some (.struct fields),some z =>
  (M.lift (jg C fields.toList)).bind fun pl=>(M.lift (ba z)).bind fun zs =>
   (M.lift (j4 (cu pl) zs parts)).bind fun cs=>M.ret (.agg ⟨cs⟩)
 |some (.array _ e),some z =>
  (M.lift (C.size e)).bind fun n=>(M.lift (ba z)).bind fun zs =>
   (M.lift (j4 (fun i=>some (i*n,n)) zs parts)).bind fun cs=>M.ret (.agg ⟨cs⟩)
 |_,_=>M.fail
noncomputable def aS.row (C:aS) (t:TypeId):Option (TypeId×Nat×Nat×List Value) :=
 match C.elem t with
 |none=>none
 |some e =>
  match C.ty.get e with
  |none=>none
  |some i =>
   match i.zero with
   |none=>none
   |some z =>
    match ba z with
    |none=>none
    |some zs =>
     match Nat.beq i.size 0||!Nat.beq (len zs) i.size||!Nat.ble i.bytes 65536 with
     |true=>none
     |false=>some (e,i.size,i.bytes,zs)
noncomputable def dv:Nat:=1048576
noncomputable def ei (C:aS) (t:TypeId) (len:Nat) (parts:List (Nat×Value)):M Value :=
 (M.lift (C.row t)).bind fun(_,n,_,z) =>
  match Nat.ble (len*n) dv with
  |false=>M.fail
  |true =>
   (M.lift (j4 (fun i=>some (i*n,n)) (rep z len) parts)).bind fun cs =>
    (bq cs).bind fun b=>M.ret (.slice (some ⟨b,0,none⟩) len len)
noncomputable def cZ:Value->Option Nat
 |.int _ (.ofNat n)=>some n
 |_=>none
noncomputable def eU (C:aS) (t:TypeId) (l c:Value):M Value :=
 match cZ l,cZ c with
 |some l,some c =>
  (M.lift (C.row t)).bind fun(_,_,_,z) =>
   match Nat.ble l c&&Nat.ble c dv with
   |false=>M.fail
   |true=>(bq (rep z c)).bind fun b=>M.ret (.slice (some ⟨b,0,none⟩) l c)
 |_,_=>M.fail
noncomputable def dr (x:Option Value) (dflt most:Nat):Option Nat :=
 match x with
 |none=>some dflt
 |some v =>
  match cZ v with
  |none=>none
  |some n=>match Nat.ble n most with|true=>some n|false=>none
noncomputable def dL (len cap:Nat) (lo hi mx:Option Value):Option (Nat×Nat×Nat) :=
 match mx,hi with
 |some _,none=>none
 |_,_ =>
  match dr mx cap cap with
  |none=>none
  |some m =>
   match dr hi len m with
   |none=>none
   |some h =>
    match dr lo 0 h with
    |none=>none
    |some l=>some (l,h,m)
noncomputable def cV (C:aS) (t:TypeId) (x:Value) (lo hi mx:Option Value):M Value :=
 match C.und t with
 |none=>M.fail
 |some d =>
  match d,x with
  |.string,.string s =>
   match mx with
   |some _=>M.fail
   |none=>(M.lift (dL s.size s.size lo hi none)).bind fun(l,h,_)=>M.ret (.string (s.extract l h))
  |.slice e,.slice a len cap =>
   (M.lift (C.size e)).bind fun n =>
    (M.lift (dL len cap lo hi mx)).bind fun(l,h,m) =>
     match a with
     |none=>M.ret (.slice none (h - l) (m - l))
     |some ⟨b,o,none⟩=>M.ret (.slice (some ⟨b,(match Nat.beq m l with|true=>o|false=>o+l*n),none⟩) (h - l) (m - l))
     |some ⟨b,o,some e⟩ =>
      match Nat.beq e n&&Nat.ble h m with
      |false=>M.fail
      |true =>
       match mx with
       |none=>M.ret (.slice (some ⟨b,o+l*n,some e⟩) (h - l) (m - l))
       |some _ =>
        match Nat.beq m l with
        |true=>M.ret (.slice (some ⟨b,o,some e⟩) (h - l) (m - l))
        |false=>M.ret (.slice (some ⟨b,o+l*n,none⟩) (h - l) (m - l))
  |.array k e,x =>
   match eM x with
   |none=>M.fail
   |some (b,o) =>
    (M.lift (C.size e)).bind fun n =>
     (M.lift (dL k k lo hi mx)).bind fun(l,h,m) =>
      match mx with
      |some _=>M.fail
      |none=>M.ret (.slice (some ⟨b,(match Nat.beq m l with|true=>o|false=>o+l*n),none⟩) (h - l) (m - l))
  |_,_=>M.fail
noncomputable def eS (C:aS) (s:TypeId) (x:Value) (f:Nat):M Value :=
 match C.und s,eM x with
 |some (.struct fields),some (b,o) =>
  match cu fields.toList f with
  |none=>M.fail
  |some f =>
   match C.size f.type with
   |some (_+1)=>M.ret (.pointer (some ⟨b,o+f.offset,none⟩))
   |_=>M.fail
 |_,_=>M.fail
noncomputable def dN (C:aS) (t:TypeId) (x i:Value):M Value :=
 match cZ i,C.und t with
 |some i,some d =>
  match d,x with
  |.array len e,x =>
   match eM x,C.size e,Nat.blt i len with
   |some (b,o),some n,true=>M.ret (.pointer (some ⟨b,o+i*n,none⟩))
   |_,_,_=>M.fail
  |.slice e,.slice (some a) len _ =>
   match C.size e,Nat.blt i len with
   |some n,true=>M.ret (.pointer (some ⟨a.block,a.off+i*n,none⟩))
   |_,_=>M.fail
  |_,_=>M.fail
 |_,_=>M.fail
noncomputable def nq (C:aS) (t:TypeId) (cs:List Value) (o:Nat):Option Value :=
 match C.und t with
 |none=>none
 |some d =>
  match d with
  |.struct _|.array _ _ =>
   match C.size t with
   |none=>none
   |some n=>match aP o n cs with|some r=>some (.agg ⟨r⟩)|none=>none
  |_=>cu cs o
noncomputable def kj (C:aS) (t:TypeId) (x i:Value):M Value :=
 match cZ i,C.und t with
 |some i,some d =>
  match d,x with
  |.array len e,.agg cs =>
   match C.size e,Nat.blt i len with
   |some n,true=>M.lift (nq C e cs.toList (i*n))
   |_,_=>M.fail
  |.string,.string s =>
   match cu s.data.toList i with
   |some b=>M.ret (.int .u8 b.toNat)
   |none=>M.fail
  |_,_=>M.fail
 |_,_=>M.fail
noncomputable def ki (C:aS) (t:TypeId) (x:Value) (f:Nat):M Value :=
 match C.und t,x with
 |some (.struct fields),.agg cs =>
  match cu fields.toList f with
  |none=>M.fail
  |some f=>M.lift (nq C f.type cs.toList f.offset)
 |_,_=>M.fail
noncomputable def gy (C:aS) (t:TypeId):Option TypeDesc :=
 match C.und t with
 |some (.int k)=>some (.int k)
 |some .string=>some .string
 |some .bool=>some .bool
 |_=>none
noncomputable def ny (a b:Value):Option Bool :=
 match a,b with
 |.int j x,.int k y=>match decide (j=k) with|true=>some (decide (x=y))|false=>none
 |.string x,.string y=>some (jj x.data.toList y.data.toList)
 |.bool x,.bool y=>some (x==y)
 |_,_=>none
noncomputable def pi (d:TypeDesc) (v:Value):Bool :=
 match d,v with
 |.int _,.int _ _=>true
 |.string,.string _=>true
 |.bool,.bool _=>true
 |_,_=>false
noncomputable def lF (k:Value):List (Value×Value×Nat)->Nat->Option (Option (Nat×Value))
 | [],_=>some none
 |(j,v,_)::es,i =>
  match ny k j with
  |none=>none
  |some true=>some (some (i,v))
  |some false=>lF k es (i+1)
noncomputable def iy (C:aS) (t:TypeId) (m k:Value) (ok:Bool):M Value :=
 match C.und t with
 |some (.map kt et) =>
  match gy C kt with
  |none=>M.fail
  |some d =>
   match pi d k with
   |false=>M.fail
   |true =>
    match m with
    |.map none=>(M.lift (C.zero et)).bind fun z=>M.ret (match ok with|true=>.tuple #[z,.bool false]|false=>z)
    |.map (some r) =>
     (iL r).bind fun(es,_) =>
      match lF k es 0 with
      |none=>M.fail
      |some none=>(M.lift (C.zero et)).bind fun z=>M.ret (match ok with|true=>.tuple #[z,.bool false]|false=>z)
      |some (some (_,v))=>M.ret (match ok with|true=>.tuple #[v,.bool true]|false=>v)
    |_=>M.fail
 |_=>M.fail
noncomputable def lf (k v:Value):List (Value×Value×Nat)->Nat->List (Value×Value×Nat)
 | [],_=>[]
 |(_,_,b)::es,0=>(k,v,b)::es
 |e::es,i+1=>e::lf k v es i
noncomputable def eQ (C:aS) (t:TypeId) (m k v:Value):M Value :=
 match C.und t with
 |some (.map kt _) =>
  match gy C kt with
  |none=>M.fail
  |some d =>
   match pi d k with
   |false=>M.fail
   |true =>
    match m with
    |.map (some r) =>
     (iL r).bind fun(es,c) =>
      match lF k es 0 with
      |none=>M.fail
      |some none=>pW (app es [(k,v,c)]) fun es=>(putO r (some (.map es (c+1)))).bind fun _=>M.ret br
      |some (some (i,_))=>pW (lf k v es i) fun es=>(putO r (some (.map es c))).bind fun _=>M.ret br
    |_=>M.fail
 |_=>M.fail
noncomputable def rK:List (Value×Value×Nat)->Nat->List (Value×Value×Nat)
 | [],_=>[]
 |_::es,0=>es
 |e::es,i+1=>e::rK es i
noncomputable def iC (C:aS) (t:TypeId) (m k:Value):M Value :=
 match C.und t with
 |some (.map kt _) =>
  match gy C kt with
  |none=>M.fail
  |some d =>
   match pi d k with
   |false=>M.fail
   |true =>
    match m with
    |.map none=>M.ret br
    |.map (some r) =>
     (iL r).bind fun(es,c) =>
      match lF k es 0 with
      |none=>M.fail
      |some none=>(putO r (some (.map es c))).bind fun _=>M.ret br
      |some (some (i,_))=>pW (rK es i) fun es=>(putO r (some (.map es c))).bind fun _=>M.ret br
    |_=>M.fail
 |_=>M.fail
noncomputable def qT (k:IntKind) (n:Nat):Value:=.int k n
noncomputable def rP (C:aS) (t:TypeId) (x:Value):M Value :=
 match C.und t with
 |none=>M.fail
 |some d =>
  match d,x with
  |.string,.string s=>M.ret (qT .i64 s.size)
  |.array n _,_=>M.ret (qT .i64 n)
  |.slice _,.slice _ n _=>M.ret (qT .i64 n)
  |.map _ _,.map none=>M.ret (qT .i64 0)
  |.map _ _,.map (some r)=>(iL r).bind fun(es,_)=>M.ret (qT .i64 (len es))
  |_,_=>M.fail
noncomputable def nP (C:aS) (t:TypeId) (x:Value):M Value :=
 match C.und t with
 |none=>M.fail
 |some d =>
  match d,x with
  |.array n _,_=>M.ret (qT .i64 n)
  |.slice _,.slice none _ n=>M.ret (qT .i64 n)
  |.slice _,.slice (some ⟨_,_,none⟩) _ n=>M.ret (qT .i64 n)
  |.slice _,.slice (some ⟨_,_,some _⟩) _ n=>M.ret (.chan (some n))
  |_,_=>M.fail
noncomputable def ou:Value->Option Nat
 |.slice _ n _=>some n
 |.string s=>some s.size
 |_=>none
noncomputable def cR (size n:Nat) (x:Value):M (List Value) :=
 match n with
 |0=>M.ret []
 |_+1 =>
  match x with
  |.slice (some a) len _=>match Nat.ble n len with|true=>gi a.block a.off (n*size)|false=>M.fail
  |.string s=>match Nat.beq size 1 with|true=>M.lift (sK n (kN s))|false=>M.fail
  |_=>M.fail
noncomputable def bI (C:aS) (size:Nat) (z:List Value) (xt:Option TypeId) (x:Value):M (Nat×List Value) :=
 match xt with
 |some xt =>
  match C.und xt with
  |none=>M.fail
  |some d =>
   match d with
   |.int _ =>
    (M.lift (cZ x)).bind fun n=>match Nat.ble n dv with|true=>M.ret (n,rep z n)|false=>M.fail
   |_=>(M.lift (ou x)).bind fun n=>(cR size n x).bind fun cs=>M.ret (n,cs)
 |none=>(M.lift (ou x)).bind fun n=>(cR size n x).bind fun cs=>M.ret (n,cs)
noncomputable def jl (by_ m:Nat):Bool:=Nat.ble m dv||(Nat.ble 1 by_&&Nat.ble (m*by_) 140737488355328)
noncomputable def bQ (C:aS) (ts:Array TypeId) (s x:Value):M Value :=
 match cu ts.toList 0,s with
 |some st,.slice base ln cap =>
  (M.lift (C.row st)).bind fun(_,size,by_,z) =>
   (bI C size z (cu ts.toList 1) x).bind fun(n,new) =>
    match Nat.ble (ln+n) cap with
    |true =>
     match new,base with
     | [],_=>M.ret (.slice base (ln+n) cap)
     |_::_,none=>M.fail
     |_::_,some a=>(cx a.block (a.off+ln*size) new).bind fun _=>M.ret (.slice base (ln+n) cap)
    |false =>
     match jl by_ (ln+n) with
     |false=>M.fail
     |true =>
      match base with
      |none =>
       match ln with
       |0=>(bq new).bind fun b=>M.ret (.slice (some ⟨b,0,some size⟩) n n)
       |_+1=>M.fail
      |some ⟨b0,o,none⟩ =>
       (cR size ln (.slice (some ⟨b0,o,none⟩) ln cap)).bind fun old =>
        (bq (app old new)).bind fun b=>M.ret (.slice (some ⟨b,0,some size⟩) (ln+n) (ln+n))
      |some ⟨b0,o,some e⟩ =>
       match Nat.beq e size&&ee atom new with
       |false=>M.fail
       |true =>
        (bu b0).bind fun cs=>(M.lift (aP o (ln*size) cs)).bind fun old =>
         (putO b0 none).bind fun _ =>
          (bq (app old new)).bind fun b=>M.ret (.slice (some ⟨b,0,some size⟩) (ln+n) (ln+n))
 |_,_=>M.fail
noncomputable def nN (C:aS) (ts:Array TypeId) (d x:Value):M Value :=
 match cu ts.toList 0,d,ou x with
 |some dt,.slice base dlen _,some xlen =>
  (M.lift (C.row dt)).bind fun(_,size,_,_) =>
   (cR size (Nat.min xlen dlen) x).bind fun cs =>
    match cs,base with
    | [],_=>M.ret (qT .i64 (Nat.min xlen dlen))
    |_::_,none=>M.fail
    |_::_,some a=>(cx a.block a.off cs).bind fun _=>M.ret (qT .i64 (Nat.min xlen dlen))
 |_,_,_=>M.fail
noncomputable def mW (C:aS) (ts:Array TypeId) (x:Value):M Value :=
 match cu ts.toList 0,x with
 |some _,.map none=>M.ret br
 |some _,.slice none _ _=>M.ret br
 |some t,.slice (some a) n _ =>
  match n with
  |0=>M.ret br
  |_+1 =>
   (M.lift (C.row t)).bind fun(_,_,_,z)=>(cx a.block a.off (rep z n)).bind fun _=>M.ret br
 |_,_=>M.fail
noncomputable def sZ (x y:Value):Option Value :=
 match x,y with
 |.int k a,.int _ b=>some (.int k (match decide (b<a) with|true=>b|false=>a))
 |_,_=>none
noncomputable def sn (x y:Value):Option Value :=
 match x,y with
 |.int k a,.int _ b=>some (.int k (match decide (b>a) with|true=>b|false=>a))
 |_,_=>none
noncomputable def o4 (f:Value->Value->Option Value):Value->List Value->Option Value
 |x,[]=>some x
 |x,y::ys=>match f x y with|none=>none|some z=>o4 f z ys
noncomputable def cf (k:IntKind) (n:Int):Int :=
 match n with
 |.ofNat m=>match Nat.ble m 127 with|true=>.ofNat m|false=>k.wrap (.ofNat m)
 |.negSucc m=>k.wrap (.negSucc m)
noncomputable def lK:List Value->Option (List UInt8)
 | []=>some []
 |.int .u8 n::l=>match lK l with|none=>none|some r=>some (UInt8.ofNat n.toNat::r)
 |_=>none
noncomputable def gm (C:aS) (src dst:TypeId) (x:Value):M Value :=
 match C.und src,C.und dst with
 |some ds,some dd =>
  match ds,dd,x with
  |_,.int k,.int _ n=>M.ret (.int k (cf k n))
  |_,.string,.string s=>M.ret (.string s)
  |.slice _,.slice e,.slice (some a) n c =>
   match C.und e,Nat.beq src dst,Nat.blt 0 n with
   |some (.int .u8),true,true=>(mM a.block).bind fun cs=>(putO a.block (some (.bytes cs))).bind fun _=>M.ret (.slice (some a) n c)
   |_,_,_=>M.fail
  |_,.slice e,.string s =>
   match C.und e with
   |some (.int .u8) =>
    match Nat.ble s.size dv with
    |true=>(ox (kN s)).bind fun b=>M.ret (.slice (some ⟨b,0,some 1⟩) s.size s.size)
    |false=>M.fail
   |_=>M.fail
  |.slice e,.string,x =>
   match C.und e with
   |some (.int .u8) =>
    match x with
    |.slice none _ _=>M.ret (.string .empty)
    |.slice (some a) len cap =>
     (cR 1 len (.slice (some a) len cap)).bind fun cs=>(M.lift (lK cs)).bind fun l=>M.ret (.string ⟨⟨l⟩⟩)
    |_=>M.fail
   |_=>M.fail
  |_,_,_=>M.fail
 |_,_=>M.fail
noncomputable def em (C:aS) (t:TypeId) (x:Value):M Value :=
 match C.und t with
 |none=>M.fail
 |some d=>match d with|.interface _=>M.fail|_=>M.ret (.iface t x)
noncomputable def pv (want:List (String×TypeId)) (got:List Method):Bool:=ee (fun w=>!ee (fun m=>!(m.name==w.1&&m.sig==w.2)) got) want
noncomputable def fV (C:aS) (x:Value) (asserted:TypeId) (ok:Bool):M Value :=
 match C.und asserted with
 |none=>M.fail
 |some d =>
  match d,x with
  |.interface want,.iface t v =>
   match C.ty.get t with
   |none=>M.fail
   |some i =>
    match pv want.toList i.methods.toList with
    |true=>M.ret (match ok with|true=>.tuple #[.iface t v,.bool true]|false=>.iface t v)
    |false =>
     match ok with
     |true=>(M.lift (C.zero asserted)).bind fun z=>M.ret (.tuple #[z,.bool false])
     |false=>M.fail
  |.interface _,.nilIface =>
   match ok with
   |true=>(M.lift (C.zero asserted)).bind fun z=>M.ret (.tuple #[z,.bool false])
   |false=>M.fail
  |.interface _,_=>M.fail
  |_,.nilIface =>
   match ok with
   |true=>(M.lift (C.zero asserted)).bind fun z=>M.ret (.tuple #[z,.bool false])
   |false=>M.fail
  |_,.iface t v =>
   match Nat.beq t asserted with
   |true=>M.ret (match ok with|true=>.tuple #[v,.bool true]|false=>v)
   |false =>
    match ok with
    |true=>(M.lift (C.zero asserted)).bind fun z=>M.ret (.tuple #[z,.bool false])
    |false=>M.fail
  |_,_=>M.fail
noncomputable def io (x:Value) (i:Nat):M Value :=
 match x with
 |.tuple vs=>M.lift (cu vs.toList i)
 |_=>M.fail
noncomputable def eW (x:Value):M Value :=
 match x with
 |.pointer (some a)=>M.ret (.pointer (some a))
 |.map r=>M.ret (.map r)
 |.iface t v=>M.ret (.iface t v)
 |.func (.func f) a b=>M.ret (.func (.func f) a b)
 |_=>M.fail
noncomputable def uM (op:BinOp) (k:IntKind) (x y:Int):Option Int :=
 match op with
 |.and=>some (cf k (BitVec.ofInt k.bits x &&& BitVec.ofInt k.bits y).toNat)
 |.or=>some (cf k (BitVec.ofInt k.bits x ||| BitVec.ofInt k.bits y).toNat)
 |.xor=>some (cf k (BitVec.ofInt k.bits x ^^^ BitVec.ofInt k.bits y).toNat)
 |.andNot=>some (cf k (BitVec.ofInt k.bits x &&& ~~~BitVec.ofInt k.bits y).toNat)
 |_=>none
noncomputable def eC (op:BinOp) (k:IntKind) (x y:Int):Option Value :=
 match op with
 |.add=>some (.int k (cf k (x+y)))
 |.sub=>some (.int k (cf k (x - y)))
 |.mul=>some (.int k (cf k (x*y)))
 |.quo=>match decide (y=0) with|true=>none|false=>some (.int k (cf k (x.tdiv y)))
 |.rem=>match decide (y=0) with|true=>none|false=>some (.int k (x.tmod y))
 |.eql=>some (.bool (decide (x=y)))
 |.neq=>some (.bool (!decide (x=y)))
 |.lss=>some (.bool (decide (x<y)))
 |.leq=>some (.bool (decide (x<=y)))
 |.gtr=>some (.bool (decide (y<x)))
 |.geq=>some (.bool (decide (y<=x)))
 |op=>match uM op k x y with|some n=>some (.int k n)|none=>none
noncomputable def nH (op:BinOp) (k:IntKind) (x y:Int):Option Value :=
 match y with
 |.negSucc _=>none
 |.ofNat m =>
  match op with
  |.shl=>some (.int k (cf k (x*((2^Nat.min m k.bits:Nat):Int))))
  |.shr=>some (.int k (x.fdiv ((2^Nat.min m k.bits:Nat):Int)))
  |_=>none
noncomputable def D2 (op:BinOp) (x y:ByteArray):Option Value :=
 match op with
 |.add=>match Nat.ble (x.size+y.size) dv with|true=>some (.string (x++y))|false=>none
 |.eql=>some (.bool (jj x.data.toList y.data.toList))
 |.neq=>some (.bool (!(jj x.data.toList y.data.toList)))
 |.lss=>some (.bool (Op.bytesLess x.data.toList y.data.toList))
 |.leq=>some (.bool (Op.bytesLess x.data.toList y.data.toList||jj x.data.toList y.data.toList))
 |.gtr=>some (.bool (!(Op.bytesLess x.data.toList y.data.toList||jj x.data.toList y.data.toList)))
 |.geq=>some (.bool (!Op.bytesLess x.data.toList y.data.toList))
 |_=>none
noncomputable def eqFields (C:aS) (eq:TypeId->Value->Value->Option Bool) (xs ys:List Value):List Field->Option Bool
 | []=>some true
 |f::fs =>
  match decide (f.name = "_") with
  |true=>eqFields C eq xs ys fs
  |false =>
   match nq C f.type xs f.offset,nq C f.type ys f.offset with
   |some a,some b =>
    match eq f.type a b with
    |none=>none
    |some false=>some false
    |some true=>eqFields C eq xs ys fs
   |_,_=>none
noncomputable def xz (C:aS) (eg:TypeId->Bool):Nat->TypeId->Value->Value->Option Bool
 |0,_,_,_=>none
 |d+1,t,x,y =>
  match C.und t with
  |none=>none
  |some u =>
   match u,x,y with
   |.bool,.bool a,.bool b=>some (a==b)
   |.int _,.int j a,.int k b=>match decide (j=k) with|true=>some (decide (a=b))|false=>none
   |.string,.string a,.string b=>some (jj a.data.toList b.data.toList)
   |.pointer _,.pointer none,.pointer none=>some true
   |.pointer _,.pointer none,.pointer (some _)=>some false
   |.pointer _,.pointer (some _),.pointer none=>some false
   |.pointer e,.pointer (some ⟨a,i,none⟩),.pointer (some ⟨b,j,none⟩) =>
    match C.size e,Nat.beq a b with
    |some (_+1),true=>some (Nat.beq i j)
    |_,_=>none
   |.interface _,.nilIface,.nilIface=>some true
   |.interface _,.nilIface,.iface _ _=>some false
   |.interface _,.iface _ _,.nilIface=>some false
   |.interface _,.iface tx vx,.iface ty vy =>
    match Nat.beq tx ty with
    |false=>some false
    |true =>
     match C.ty.get tx with
     |none=>none
     |some i=>match i.comparable with|true=>xz C eg d tx vx vy|false=>none
   |.struct fields,.agg xs,.agg ys=>match eg t with|true=>none|false=>eqFields C (xz C eg d) xs.toList ys.toList fields.toList
   |.slice _,.slice none _ _,.slice none _ _=>some true
   |.slice _,.slice none _ _,.slice (some _) _ _=>some false
   |.slice _,.slice (some _) _ _,.slice none _ _=>some false
   |.map _ _,.map none,.map none=>some true
   |.map _ _,.map none,.map (some _)=>some false
   |.map _ _,.map (some _),.map none=>some false
   |.func _ _ _,.nilFunc,.nilFunc=>some true
   |.func _ _ _,.nilFunc,.func _ _ _=>some false
   |.func _ _ _,.func _ _ _,.nilFunc=>some false
   |_,_,_=>none
noncomputable def ka:Operand->Bool
 |.const _=>true
 |_=>false
noncomputable def js (eg:TypeId->Bool) (t:TypeId) (x y:Operand) (a b:Value):Bool :=
 match a,b with
 |.nilIface,.nilIface=>ka x||ka y
 |.agg _,.agg _=>!eg t
 |_,_=>true
noncomputable def oq (op:BinOp) (j:IntKind) (m:Int) (k:Nat):Option Value :=
 match op,m with
 |.gtr,.ofNat x=>match decide (j=.i64)&&Nat.ble x k with|true=>some (.bool false)|false=>none
 |_,_=>none
noncomputable def nu (C:aS) (eg:TypeId->Bool) (op:BinOp) (t:TypeId) (x y:Operand) (a b:Value):Option Value :=
 match a,b with
 |.int j m,.int k n =>
  match op with
  |.shl=>nH .shl j m n
  |.shr=>nH .shr j m n
  |op=>match decide (j=k) with|true=>eC op j m n|false=>none
 |.string m,.string n=>D2 op m n
 |.int j m,.chan (some k)=>oq op j m k
 |a,b =>
  match op with
  |.eql=>match js eg t x y a b with|true=>(match xz C eg 100 t a b with|some r=>some (.bool r)|none=>none)|false=>none
  |.neq=>match js eg t x y a b with|true=>(match xz C eg 100 t a b with|some r=>some (.bool (!r))|none=>none)|false=>none
  |_=>none
noncomputable def Gz (op:UnOp) (x:Value):Option Value :=
 match op,x with
 |.neg,.int k n=>some (.int k (cf k (0 - n)))
 |.xor,.int k n=>match uM .xor k (if k.signed then -1 else k.max) n with|some r=>some (.int k r)|none=>none
 |.not,.bool b=>some (.bool (!b))
 |_,_=>none
inductive L where
 |nil
 |cons (k:Nat) (v:Value) (t:L)
inductive aR where
 |mk (loc kept:L)
noncomputable def L.look (l:L) (dflt:Nat->Value):Nat->Value :=
 L.rec (motive:=fun _=>Nat->Value) dflt (fun k v _ ih d=>Bool.rec (motive:=fun _=>Value) (ih d) v (Nat.beq k d)) l
noncomputable def L.set (d:Nat) (v:Value) (l:L):L :=
 L.rec (motive:=fun _=>L) (.cons d v .nil) (fun k u t ih=>Bool.rec (motive:=fun _=>L) (.cons k u ih) (.cons d v t) (Nat.beq k d)) l
noncomputable def rd (e:aR) (t:Nat):Value :=
 aR.rec (motive:=fun _=>Value) (fun loc kept=>loc.look (kept.look fun _=>top) t) e
noncomputable def ae (e:aR) (x:Operand):Value :=
 Operand.rec (motive:=fun _=>Value) (rd e) (fun v=>v) (fun g=>.pointer (some ⟨g,0,none⟩)) (fun f=>.func (.func f) #[] #[]) x
noncomputable def Fe {β:Type} (j:IntKind) (n:Int) (k:Value->β):β :=
 Int.rec (motive:=fun _=>β)
  (fun m=>Bool.rec (motive:=fun _=>β) (k (.int j (.ofNat m))) (k (.int j (.ofNat m))) (Nat.ble m 0))
  (fun m=>Bool.rec (motive:=fun _=>β) (k (.int j (.negSucc m))) (k (.int j (.negSucc m))) (Nat.ble m 0)) n
noncomputable def Ir {β:Type} (b:Bool) (k:Value->β):β:=Bool.rec (motive:=fun _=>β) (k (.bool false)) (k (.bool true)) b
noncomputable def xd {β:Type} (v:Value) (k:Value->β):β :=
 match v with
 |.int j n=>Fe j n k
 |.bool b=>Ir b k
 |v=>k v
noncomputable def Iz (e:aR) (d:Nat) (v:Value):aR:=aR.rec (motive:=fun _=>aR) (fun loc kept=>.mk (.cons d v loc) kept) e
noncomputable def eF {β:Type} (e:aR) (dst:Option Nat) (v:Value) (k:aR->β):β :=
 Option.rec (motive:=fun _=>β) (k e) (fun d=>xd v fun v=>k (Iz e d v)) dst
noncomputable def d6 (km:Nat) (loc:L):L->L :=
 L.rec (motive:=fun _=>L->L) (fun kept=>kept)
  (fun k v _ ih kept=>Bool.rec (motive:=fun _=>L) (ih kept) (L.set k v (ih kept)) (Nat.testBit km k)) loc
noncomputable def L.force {β:Type} (l:L) (k:L->β):β:=L.rec (motive:=fun _=>β) (k .nil) (fun d v t _=>k (.cons d v t)) l
noncomputable def flush {β:Type} (km:Nat) (e:aR) (k:aR->β):β :=
 aR.rec (motive:=fun _=>β) (fun loc kept=>(d6 km loc kept).force fun kept=>k (.mk .nil kept)) e
noncomputable def bO (km:Nat) (vs:List Value):Nat->L->L :=
 List.rec (motive:=fun _=>Nat->L->L) (fun _ l=>l)
  (fun v _ ih i l=>Bool.rec (motive:=fun _=>L) (ih (Nat.add i 1) l) (ih (Nat.add i 1) (.cons i v l)) (Nat.testBit km i)) vs
noncomputable def uv (km:Nat) (args:List Value):aR:=.mk .nil (bO km args 0 .nil)
noncomputable def FM (ops:List Oper) (e:aR) (j:Nat) (want:Bool):Option Bool :=
 match cu ops j with
 |none=>some false
 |some g =>
  match g.dst with
  |none=>some false
  |some d=>match rd e d with|.bool b=>some (b==want)|.tuple _=>some false|_=>none
noncomputable def aJ (ops:List Oper) (e:aR) (o:Oper):Option Bool :=
 Option.rec (motive:=fun _=>Option Bool) (some true) (fun p=>Prod.rec (motive:=fun _=>Option Bool) (fun j want=>FM ops e j want) p) o.guard
inductive Ex where
 |normal
 |exit (id:Nat)
 |ret
abbrev kf:=Nat->Code->aR->M (Ex×aR)
noncomputable def mI (C:aS) (e:aR) (r:ResultVar):M Value :=
 match r with
 |.tmp t=>M.ret (rd e t)
 |.cell a t=>fG C t (rd e a)
noncomputable def cU (C:aS) (e:aR) (rs:List ResultVar):M (List Value) :=
 List.rec (motive:=fun _=>M (List Value)) (M.ret []) (fun r _ ih=>(mI C e r).bind fun v=>ih.bind fun vs=>M.ret (v::vs)) rs
noncomputable def tf (vs:List Value):Value :=
 match vs with
 | [v]=>v
 |vs=>.tuple ⟨vs⟩
noncomputable def iR (C:aS) (e:aR) (rs:List ResultVar):M Value:=(cU C e rs).bind fun vs=>M.ret (tf vs)
noncomputable def yu (C:aS) (fn:Func) (r:Ex×aR):M Value :=
 match r with
 |(.normal,e)=>iR C e fn.results.toList
 |(.ret,e)=>iR C e fn.results.toList
 |(.exit _,_)=>M.fail
noncomputable def GY (C:aS) (rec:kf) (fn:Func) (body:Code) (km:Nat) (args:List Value):M Value :=
 (rec km body (uv km args)).bind (yu C fn)
noncomputable def callB (C:aS) (rec:kf) (f:Nat) (args:List Value):M Value :=
 match C.fn.get f with
 |none=>M.fail
 |some fn =>
  match fn.body,Nat.ble (len args) fn.ntmps with
  |some body,true=>framed (GY C rec fn body (Option.rec (motive:=fun _=>Nat) 0 (fun n=>n) (C.km.get f)) args)
  |_,_=>M.fail
noncomputable def cr (C:aS) (rec:kf) (f:Nat) (args:List Value):M Value :=
 match C.sm f with
 |some g=>g args
 |none =>
  match C.ex f with
  |some g=>g args
  |none=>callB C rec f args
noncomputable def oN (C:aS) (t:TypeId) (v:Value) (name:String):Option (Nat×Value) :=
 match C.ty.get t with
 |none=>none
 |some i =>
  match i.methods.toList.find? (fun m=>m.name==name) with
  |none=>none
  |some m =>
   match m.path.toList,m.func with
   | [],some (f,p) =>
    match C.und t,p with
    |some (.pointer _),true=>some (f,v)
    |some (.pointer _),false=>none
    |some _,false=>some (f,v)
    |_,_=>none
   |_,_=>none
noncomputable def callV (C:aS) (rec:kf) (f:Value) (args:List Value):M Value :=
 match f with
 |.func (.func g) first cap=>cr C rec g (app first.toList (app args cap.toList))
 |_=>M.fail
noncomputable def vE (C:aS) (rec:kf) (recv:Value) (name:String) (args:List Value):M Value :=
 match recv with
 |.iface t v =>
  match C.vi t name with
  |some g=>g (v::args)
  |none =>
   match oN C t v name with
   |none=>M.fail
   |some (f,r)=>cr C rec f (r::args)
 |_=>M.fail
noncomputable def gg (C:aS) (b:Builtin) (ts:Array TypeId) (args:List Value):M Value :=
 match b,args with
 |.append,[s,x]=>bQ C ts s x
 |.cap,[x]=>(M.lift (cu ts.toList 0)).bind fun t=>nP C t x
 |.len,[x]=>(M.lift (cu ts.toList 0)).bind fun t=>rP C t x
 |.copy,[d,x]=>nN C ts d x
 |.clear,[x]=>mW C ts x
 |.delete,[m,k]=>(M.lift (cu ts.toList 0)).bind fun t=>iC C t m k
 |.max,x::xs=>M.lift (o4 sn x xs)
 |.min,x::xs=>M.lift (o4 sZ x xs)
 |_,_=>M.fail
noncomputable def nM (C:aS) (rec:kf) (e:aR) (c:Call):M Value :=
 match c.callee with
 |.builtin b=>gg C b c.argTypes (gO (ae e) c.args.toList)
 |.value f=>callV C rec (ae e f) (gO (ae e) c.args.toList)
 |.invoke r name=>vE C rec (ae e r) name (gO (ae e) c.args.toList)
noncomputable def dA (e:aR) (ps:Array (Nat×Operand)):List (Nat×Value):=gO (fun p=>(p.1,ae e p.2)) ps.toList
noncomputable def BM (e:aR) (x:Operand):M Value:=M.ret (ae e x)
noncomputable def oI (e:aR) (c a b:Operand):M Value :=
 match ae e c with|.bool true=>M.ret (ae e a)|.bool false=>M.ret (ae e b)|_=>M.fail
noncomputable def mQ (e:aR) (fn:Fn) (first cap:Array Operand):M Value :=
 M.ret (.func fn ⟨gO (ae e) first.toList⟩ ⟨gO (ae e) cap.toList⟩)
noncomputable def Eo (_:TypeId) (r:Option Operand):M Value :=
 match r with|none=>(newO (.map [] 0)).bind fun b=>M.ret (.map (some b))|some _=>M.fail
noncomputable def GE (C:aS) (eg:TypeId->Bool) (e:aR) (op:BinOp) (t:TypeId) (x y:Operand) (_:TypeId):M Value :=
 M.lift (nu C eg op t x y (ae e x) (ae e y))
noncomputable def FK (C:aS) (e:aR) (t:TypeId) (x:Operand) (lo hi mx:Option Operand):M Value :=
 cV C t (ae e x) (lo.map (ae e)) (hi.map (ae e)) (mx.map (ae e))
noncomputable def Ju (e:aR) (_:TypeId) (x:Operand):M Value:=oF (ae e x)
noncomputable def Gh (C:aS) (e:aR) (t:TypeId) (ps:Array (Nat×Operand)):M Value:=g9 C t (dA e ps)
noncomputable def ql (C:aS) (e:aR) (t:TypeId) (n:Nat) (ps:Array (Nat×Operand)):M Value:=ei C t n (dA e ps)
noncomputable def kG (C:aS) (e:aR) (t:TypeId) (m k v:Operand):M Value:=eQ C t (ae e m) (ae e k) (ae e v)
noncomputable def HM (C:aS) (e:aR) (t:TypeId) (a:Operand):M Value:=fG C t (ae e a)
noncomputable def Ep (C:aS) (e:aR) (t:TypeId) (a x:Operand):M Value:=kM C t (ae e a) (ae e x)
noncomputable def vz (e:aR) (x:Operand):M Value:=eW (ae e x)
noncomputable def Ml (e:aR) (op:UnOp) (_:TypeId) (x:Operand):M Value:=M.lift (Gz op (ae e x))
noncomputable def zz (C:aS) (e:aR) (a b:TypeId) (x:Operand):M Value:=gm C a b (ae e x)
noncomputable def lL (C:aS) (e:aR) (t:TypeId) (x:Operand):M Value:=em C t (ae e x)
noncomputable def sk (C:aS) (e:aR) (t:TypeId) (l c:Operand):M Value:=eU C t (ae e l) (ae e c)
noncomputable def s8 (C:aS) (e:aR) (s:TypeId) (x:Operand) (f:Nat):M Value:=eS C s (ae e x) f
noncomputable def Fm (C:aS) (e:aR) (s:TypeId) (x:Operand) (f:Nat):M Value:=ki C s (ae e x) f
noncomputable def tg (C:aS) (e:aR) (t:TypeId) (x i:Operand):M Value:=dN C t (ae e x) (ae e i)
noncomputable def Fh (C:aS) (e:aR) (t:TypeId) (x i:Operand):M Value:=kj C t (ae e x) (ae e i)
noncomputable def BG (C:aS) (e:aR) (t:TypeId) (m k:Operand) (ok:Bool):M Value:=iy C t (ae e m) (ae e k) ok
noncomputable def qr (C:aS) (e:aR) (x:Operand) (_ a:TypeId) (ok:Bool):M Value:=fV C (ae e x) a ok
noncomputable def zG (e:aR) (x:Operand) (i:Nat):M Value:=io (ae e x) i
noncomputable def dp (C:aS) (eg:TypeId->Bool) (rec:kf) (e:aR) (o:Oper):M Value :=
 Op.rec (motive:=fun _=>M Value)
  (BM e)  -- move
  (BM e)  -- assign
  (oI e)
  (ko C)
  (Ju e)
  (Gh C e)
  (ql C e)
  (kG C e)
  (HM C e)
  (Ep C e)
  (fun _ => M.fail)  -- ready
  (fun _ => M.fail)  -- waits
  (vz e)
  (GE C eg e)
  (Ml e)
  (zz C e)
  (fun _ _ => M.fail)  -- sliceToArrayPointer
  (lL C e)
  (mQ e)
  Eo
  (fun _ _ => M.fail)  -- makeChan
  (sk C e)
  (FK C e)
  (s8 C e)
  (Fm C e)
  (tg C e)
  (Fh C e)
  (BG C e)
  (kG C e)
  (fun _ _ _ => M.fail)  -- mapEntry
  (fun _ _ _ _ => M.fail)  -- entryStore
  (fun _ _ => M.fail)  -- range
  (fun _ _ => M.fail)  -- next
  (fun _ => M.fail)  -- entry
  (qr C e)
  (zG e)
  (nM C rec e)
  (fun _ => M.fail)  -- go
  (fun _ => M.fail)  -- defer
  (fun _ => M.fail)  -- panic
  (fun _ _ => M.fail)  -- send
  (fun _ _ _ => M.fail)  -- recv
  (fun _ _ => M.fail)  -- select
  o.op
noncomputable def gA (C:aS) (eg:TypeId->Bool) (rec:kf) (e:aR) (o:Oper) (k:aR->M aR) (w:Option Bool):M aR :=
 Option.rec (motive:=fun _=>M aR) M.fail
  (fun w=>Bool.rec (motive:=fun _=>M aR)
   (eF e o.dst br k)
   ((dp C eg rec e o).bind fun v=>eF e o.dst v k) w) w
noncomputable def bP (C:aS) (eg:TypeId->Bool) (rec:kf) (all:List Oper) (os:List Oper):aR->M aR :=
 List.rec (motive:=fun _=>aR->M aR) (fun e=>M.ret e)
  (fun o _ ih e=>gA C eg rec e o ih (aJ all e o)) os
noncomputable def b6 (fp:Fp) (r:aR×List Fp):M (aR×List Fp):=M.ret (r.1,fp::r.2)
noncomputable def ev (C:aS) (eg:TypeId->Bool) (rec:kf) (e:aR) (o:Oper) (k:aR->M (aR×List Fp)) (w:Option Bool):M (aR×List Fp) :=
 Option.rec (motive:=fun _=>M (aR×List Fp)) M.fail
  (fun w=>Bool.rec (motive:=fun _=>M (aR×List Fp))
   ((told (M.ret ())).bind fun p=>eF e o.dst br fun e=>(k e).bind (b6 p.2))
   ((told (dp C eg rec e o)).bind fun p=>eF e o.dst p.1 fun e=>(k e).bind (b6 p.2)) w) w
noncomputable def aT (C:aS) (eg:TypeId->Bool) (rec:kf) (all:List Oper) (os:List Oper):aR->M (aR×List Fp) :=
 List.rec (motive:=fun _=>aR->M (aR×List Fp)) (fun e=>M.ret (e,[]))
  (fun o _ ih e=>ev C eg rec e o ih (aJ all e o)) os
noncomputable def mem (b:Nat) (l:List Nat):Bool :=
 List.rec (motive:=fun _=>Bool) false (fun x _ ih=>Bool.rec (motive:=fun _=>Bool) ih true (Nat.beq x b)) l
noncomputable def mj (l ys:List Nat):Bool :=
 List.rec (motive:=fun _=>Bool) false (fun x _ ih=>Bool.rec (motive:=fun _=>Bool) ih true (mem x ys)) l
noncomputable def iX (lo hi:Nat) (l:List Nat):Bool :=
 List.rec (motive:=fun _=>Bool) false (fun x _ ih=>Bool.rec (motive:=fun _=>Bool) ih (Bool.rec (motive:=fun _=>Bool) ih true (Nat.blt x hi)) (Nat.ble lo x)) l
noncomputable def jc (i j:Fp):Bool :=
 !mj i.w j.r&&!mj i.w j.w&&!mj j.w i.r&&!iX i.c0 i.c1 j.r&&!iX i.c0 i.c1 j.w
noncomputable def Fp.silent (f:Fp):Bool :=
 match f.r,f.w with
 | [],[]=>Nat.beq f.c0 f.c1
 |_,_=>false
noncomputable def bJ (bef:List Nat):List (Nat×Fp)->Nat->List Fp->Bool
 |_,_,[]=>true
 |done,j,f::fs =>
  match f.silent with
  |true=>bJ bef done (j+1) fs
  |false =>
   match ee (fun p=>(match cu bef j with|some m=>Nat.testBit m p.1|none=>false)||jc p.2 f) done with
   |true=>bJ bef ((j,f)::done) (j+1) fs
   |false=>false
noncomputable def lu (ops:Array Oper) (bef:List Nat):List (Nat×Oper)->Nat->List Oper->Bool
 |_,_,[]=>true
 |done,j,o::os =>
  match done.all (fun(i,g)=>(match cu bef j with|some m=>Nat.testBit m i|none=>false)||Oper.apart ops g o)&&o.after.toList.all (fun e=>!Region.binds .any e||Nat.blt e.on j) with
  |true=>lu ops bef ((j,o)::done) (j+1) os
  |false=>false
noncomputable def JK (o:Oper):Bool:=match o.op with|.select _ _=>false|_=>true
noncomputable def pN (ops:Array Oper):Bool:=lu ops (Region.before ops).toList [] 0 ops.toList&&ops.toList.all JK
noncomputable def ii (ops:Array Oper) (r:aR×List Fp):M (aR) :=
 Bool.rec (motive:=fun _=>M (aR)) M.fail (M.ret r.1) (bJ (Region.before ops).toList [] 0 r.2)
noncomputable def kZ (C:aS) (eg:TypeId->Bool) (rec:kf) (ops:Array Oper) (e:aR):M aR :=
 (aT C eg rec ops.toList ops.toList e).bind (ii ops)
noncomputable def BS (e:aR):M (Ex×aR):=M.ret (.normal,e)
noncomputable def d7 (km:Nat) (e:aR):M (Ex×aR):=flush km e BS
noncomputable def oB (C:aS) (eg:TypeId->Bool) (rec:kf) (km:Nat) (e:aR) (ops:Array Oper) (draw:Bool):M (Ex×aR) :=
 Bool.rec (motive:=fun _=>M (Ex×aR)) ((bP C eg rec ops.toList ops.toList e).bind (d7 km)) ((kZ C eg rec ops e).bind (d7 km)) draw
noncomputable def jb (k:aR->M (Ex×aR)) (r:Ex×aR):M (Ex×aR) :=
 match r with
 |(.normal,e)=>k e
 |(x,e)=>M.ret (x,e)
noncomputable def iV (rec:kf) (km:Nat) (e:aR) (c:Operand) (a b:Code):M (Ex×aR) :=
 match ae e c with
 |.bool true=>rec km a e
 |.bool false=>rec km b e
 |_=>M.fail
noncomputable def kJ (id:Nat) (r:Ex×aR):M (Ex×aR) :=
 match r with
 |(.exit j,e)=>bif Nat.beq j id then M.ret (.normal,e) else M.ret (.exit j,e)
 |(x,e)=>M.ret (x,e)
noncomputable def yV (C:aS) (eg:TypeId->Bool) (rec:kf) (km:Nat) (c:Code) (e:aR):M (Ex×aR) :=
 Code.casesOn (motive:=fun _=>M (Ex×aR)) c
  (BS e)
  (fun _ ops draw=>oB C eg rec km e ops draw)
  (fun a b=>(rec km a e).bind (jb (rec km b)))
  (iV rec km e)
  (fun id b=>(rec km b e).bind (kJ id))
  (fun b=>(rec km b e).bind (jb (rec km (.loop b))))
  (fun _ _ _ _=>M.fail)
  (fun id=>M.ret (.exit id,e))
  (fun _=>M.fail)
  (fun _=>M.fail)
  (fun _=>M.fail)
  (M.ret (.ret,e))
  (fun _=>M.fail)
noncomputable def a6 (C:aS) (eg:TypeId->Bool) (fuel:Nat):kf :=
 Nat.rec (motive:=fun _=>kf) (fun _ _ _=>M.fail) (fun _ ih km c e=>yV C eg ih km c e) fuel
noncomputable def call (C:aS) (eg:TypeId->Bool) (fuel:Nat) (f:Nat) (args:List Value):M Value:=cr C (a6 C eg fuel) f args
end Go.Ab
