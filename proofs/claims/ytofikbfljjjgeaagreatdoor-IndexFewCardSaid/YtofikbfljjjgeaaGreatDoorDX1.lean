import Derived.Test.YtofikbfljjjgeaaGreatDoorE22
import Derived.Test.YtofikbfljjjgeaaGreatDoorDF2
set_option linter.unusedVariables false
set_option linter.unusedSimpArgs false
section
namespace Go.Ab
open Go.RowKit (Below)
noncomputable def rq (n:Int):Bool:=decide (-9223372036854775808<=n)&&decide (n<=9223372036854775807)
noncomputable def pT (v:Value):Option Int :=
 match v with
 |.int .i64 n=>(match rq n with|true=>some n|false=>none)
 |_=>none
noncomputable def nL (l:List Value):Option (List Int) :=
 List.rec (motive:=fun _=>Option (List Int)) (some []) (fun x _ ih=>match pT x,ih with|some n,some r=>some (n::r)|_,_=>none) l
noncomputable def Cm (x:Int) (l:List Int):List Int :=
 List.rec (motive:=fun _=>List Int) [x] (fun y ys ih=>bif decide (x<=y) then x::y::ys else y::ih) l
noncomputable def fx (l:List Int):List Int:=List.rec (motive:=fun _=>List Int) [] (fun x _ ih=>Cm x ih) l
noncomputable def xG (x:Int) (l:List Int):Bool:=List.rec (motive:=fun _=>Bool) false (fun y _ ih=>bif decide (x=y) then true else ih) l
noncomputable def sU (l:List Int):Bool:=List.rec (motive:=fun _=>Bool) true (fun x xs ih=>bif xG x xs then false else ih) l
noncomputable def rL (l:List Nat):Bool:=List.rec (motive:=fun _=>Bool) true (fun x xs ih=>bif mem x xs then false else ih) l
theorem qg (x:Value) (xs:List Value):nL (x::xs)=match pT x,nL xs with|some n,some r=>some (n::r)|_,_=>none:=rfl
theorem vf (x y:Int) (ys:List Int):Cm x (y::ys)=bif decide (x<=y) then x::y::ys else y::Cm x ys:=rfl
theorem sL (x:Int) (xs:List Int):fx (x::xs)=Cm x (fx xs):=rfl
theorem DI (x y:Int) (ys:List Int):xG x (y::ys)=bif decide (x=y) then true else xG x ys:=rfl
theorem qe (x:Int) (xs:List Int):sU (x::xs)=bif xG x xs then false else sU xs:=rfl
theorem qq (x:Nat) (xs:List Nat):rL (x::xs)=bif mem x xs then false else rL xs:=rfl
theorem IJ {n:Int} (h:rq n=true):(Lit.int .i64 n).wf=true:=by
 unfold rq at h
 rw[Bool.and_eq_true,decide_eq_true_eq,decide_eq_true_eq] at h
 simp [Lit.wf,IntKind.min,IntKind.max,IntKind.bits,IntKind.signed]
 omega
theorem yC {v:Value}{n:Int} (h:pT v=some n):v=.int .i64 n/\rq n=true:=by
 unfold pT at h
 split at h
 ·rename_i m
  cases hm:rq m with
  |true=>rw[hm] at h;cases h;exact⟨rfl,hm⟩
  |false=>rw[hm] at h;cases h
 ·cases h
theorem qH:∀(l:List Value) (r:List Int),nL l=some r->l=r.map (fun n=>Value.int .i64 n)/\∀n∈r,rq n=true:=by
 intro l
 induction l with
 |nil=>intro r h;cases h;exact⟨rfl,by simp⟩
 |cons x xs ih =>
  intro r h
  rw[qg] at h
  split at h
  ·rename_i n q h1 h2
   cases h
   obtain⟨rfl,hw⟩:=yC h1
   obtain⟨rfl,hq⟩:=ih q h2
   refine⟨rfl,fun m hm=>?_⟩
   rcases List.mem_cons.1 hm with rfl|hm
   ·exact hw
   ·exact hq m hm
  ·cases h
theorem vG (x:Int):∀l,(Cm x l).Perm (x::l):=by
 intro l
 induction l with
 |nil=>exact .refl _
 |cons y ys ih =>
  rw[vf]
  cases decide (x<=y)
  ·exact(ih.cons y).trans (List.Perm.swap x y ys)
  ·exact .refl _
theorem dy:∀l,(fx l).Perm l:=by
 intro l
 induction l with
 |nil=>exact .refl _
 |cons x xs ih=>rw[sL];exact(vG x _).trans (ih.cons x)
theorem xI (x:Int):∀l:List Int,l.Pairwise (fun a b=>a<=b)->(Cm x l).Pairwise (fun a b=>a<=b):=by
 intro l
 induction l with
 |nil=>intro _;exact List.pairwise_singleton _ _
 |cons y ys ih =>
  intro h
  rw[vf]
  obtain⟨h1,h2⟩:=List.pairwise_cons.1 h
  by_cases hxy:x<=y
  ·rw[decide_eq_true hxy]
   refine List.pairwise_cons.2 ⟨fun z hz=>?_,h⟩
   rcases List.mem_cons.1 hz with rfl|hz
   ·exact hxy
   ·exact Int.le_trans hxy (h1 z hz)
  ·rw[decide_eq_false hxy]
   refine List.pairwise_cons.2 ⟨fun z hz=>?_,ih h2⟩
   rcases List.mem_cons.1 ((vG x ys).mem_iff.1 hz) with rfl|hz
   ·omega
   ·exact h1 z hz
theorem nT:∀l:List Int,(fx l).Pairwise (fun a b=>a<=b):=by
 intro l
 induction l with
 |nil=>exact .nil
 |cons x xs ih=>rw[sL];exact xI x _ ih
theorem qV {l l':List Int} (h:l.Perm l'):l.mergeSort (fun x y=>decide (x<=y))=fx l':=by
 have tr:∀a b c:Int,decide (a<=b)=true->decide (b<=c)=true->decide (a<=c)=true:=fun a b c h1 h2=>by simp only[decide_eq_true_eq] at *;exact Int.le_trans h1 h2
 have to:∀a b:Int,(decide (a<=b)||decide (b<=a))=true:=fun a b=>by simp only[Bool.or_eq_true,decide_eq_true_eq];exact Int.le_total a b
 refine List.Perm.eq_of_pairwise (le:=fun a b=>a<=b) (fun a b _ _ h1 h2=>Int.le_antisymm h1 h2) ?_ (nT l') (((List.mergeSort_perm l _).trans h).trans (dy l').symm)
 refine(List.pairwise_mergeSort tr to l).imp ?_
 intro a b h
 simpa using h
theorem B6 (x:Int) (l:List Int):xG x l=true↔x∈l:=by
 induction l with
 |nil=>simp [xG]
 |cons y ys ih =>
  rw[DI]
  by_cases h:x=y
  ·rw[decide_eq_true h];simp [h]
  ·rw[decide_eq_false h];simp [h,ih]
theorem wX {l:List Int} (h:sU l=true):l.Nodup:=by
 induction l with
 |nil=>exact .nil
 |cons x xs ih =>
  rw[qe] at h
  cases hm:xG x xs with
  |true=>rw[hm] at h;cases h
  |false =>
   rw[hm] at h
   exact List.nodup_cons.2 ⟨fun hh=>(by rw[(B6 x xs).2 hh] at hm;cases hm),ih h⟩
theorem wh {l:List Nat} (h:rL l=true):l.Nodup:=by
 induction l with
 |nil=>exact .nil
 |cons x xs ih =>
  rw[qq] at h
  cases hm:mem x xs with
  |true=>rw[hm] at h;cases h
  |false =>
   rw[hm] at h
   exact List.nodup_cons.2 ⟨fun hh=>(by rw[(vP x xs).2 hh] at hm;cases hm),ih h⟩
noncomputable def keyInts (es:List (Value×Value×Nat)) (k:Nat):Option (List Int) :=
 match nL (gO (fun e=>e.1) es) with
 |some l=>(match sU l&&rL (gO (fun e=>e.2.2) es)&&ee (fun e=>Nat.blt e.2.2 k) es with|true=>some l|false=>none)
 |none=>none
noncomputable def sliceAt (v:Value):Option (Option (Nat×Nat×Nat)) :=
 match v with
 |.slice none 0 0=>some none
 |.slice (some ⟨b,o,none⟩) n _=>some (some (b,o,n))
 |.slice (some ⟨b,o,some e⟩) (n+1) _=>(match Nat.beq e 1 with|true=>some (some (b,o,n+1))|false=>none)
 |_=>none
noncomputable def yW (p:Option (Nat×Nat×Nat)):M (List Int) :=
 match p with
 |none=>M.ret []
 |some q=>(cj q.1).bind fun cs=>(M.lift (aP q.2.1 q.2.2 cs)).bind fun l=>M.lift (nL l)
noncomputable def pG (v:Value):M (List Int):=(M.lift (sliceAt v)).bind yW
noncomputable def fT (v:Value):Option (Option Nat):=match v with|.map r=>some r|_=>none
noncomputable def cW (r:Option Nat):M (List Int) :=
 match r with
 |none=>M.ret []
 |some r=>(iL r).bind fun p=>M.lift (keyInts p.1 p.2)
noncomputable def f9 (keys:Bool) (v:Value):M (List Int) :=
 match keys with
 |true=>(M.lift (fT v)).bind cW
 |false=>pG v
noncomputable def iN (l:List Int):M Value :=
 match l with
 | []=>M.ret (.slice none 0 0)
 |x::xs =>
  match Nat.ble (len (x::xs)) 1000000 with
  |true=>(bq (gO (fun n=>Value.int .i64 n) (fx (x::xs)))).bind fun b=>M.ret (.slice (some ⟨b,0,some 1⟩) (len (x::xs)) (len (x::xs)))
  |false=>M.fail
noncomputable def iE (kind:Nat->Option Bool) (args:List Value):Option (Nat×Bool×Nat×Nat) :=
 match args with
 | [.func (.func g) a c] =>
  (match a.toList,c.toList,kind g with
  | [],[.pointer (some ⟨b,o,none⟩)],some k=>some (g,k,b,o)
  |_,_,_=>none)
 |_=>none
noncomputable def aX (kind:Nat->Option Bool) (args:List Value):M Value :=
 (M.lift (iE kind args)).bind fun p=>(cj p.2.2.1).bind fun cs=>(M.lift (cu cs p.2.2.2)).bind fun v=>(f9 p.2.1 v).bind iN
theorem qR (kind:Nat->Option Bool) (args:List Value):ah (aX kind args):=by
 have lsl:∀v,ah (pG v):=by
  intro v
  refine ah.bind (ah.lift _) fun p=>?_
  unfold yW
  split
  ·exact ah.ret _
  ·exact ah.bind (cG _) fun _=>ah.bind (ah.lift _) fun _=>ah.lift _
 refine ah.bind (ah.lift _) fun p=>ah.bind (cG _) fun cs=>ah.bind (ah.lift _) fun v=>ah.bind ?_ fun l=>?_
 ·unfold f9
  split
  ·refine ah.bind (ah.lift _) fun p=>?_
   unfold cW
   split
   ·exact ah.ret _
   ·exact ah.bind (ot _) fun _=>ah.lift _
  ·exact lsl v
 ·unfold iN
  split
  ·exact ah.ret _
  ·split
   ·exact ah.bind (cH _) fun _=>ah.ret _
   ·exact ah.fail
def jH (keys:Bool) (w:World) (v:Value) (l:List Int):Prop :=
 match keys with
 |true=>(v=.map none/\l=[])\/∃r es k,v=.map (some r)/\w.heap[r]?=some (.map es k)/\MapKept.Stamped es k/\es.toList.map (·.key)=l.map (fun n=>Value.int .i64 n)
 |false=>(v=.slice none 0 0/\l=[])\/∃b o c,v=.slice (some ⟨b,o,none⟩) l.length c/\b<w.heap.size/\∀(j:Nat) (n:Int),l[j]?=some n->w.cell? ⟨b,o+j,none⟩=some (.int .i64 n)
def du (P:Program) (f:Nat) (tInt:TypeId) (kind:Nat->Option Bool):Prop :=
 ∀g keys,kind g=some keys->∀(w:World) (b o:Nat) (v:Value) (l:List Int),w.cell? ⟨b,o,none⟩=some v->b<w.heap.size->jH keys w v l->(∀n∈l,rq n=true)->l.length<=1000000 ->
  Calls P f #[.func (.func g) #[] #[.pointer (some ⟨b,o,none⟩)]] w fun e w'=>∃v,e=.returned v/\w'.ownsRow w.heap.size tInt 1 v l.length ((fx l).map fun n=>Value.int .i64 n)/\(v=.slice none 0 0↔l=[])/\Below w.heap.size w w'
theorem yI {kind:Nat->Option Bool}{args:List Value}{p:Nat×Bool×Nat×Nat} (h:iE kind args=some p) :
  ∃a c,args=[.func (.func p.1) a c]/\a.toList=[]/\c.toList=[.pointer (some ⟨p.2.2.1,p.2.2.2,none⟩)]/\kind p.1=some p.2.1:=by
 unfold iE at h
 split at h
 ·rename_i g a c
  split at h
  ·rename_i b o k h1 h2 h3
   cases h
   exact⟨a,c,rfl,h1,h2,h3⟩
  ·cases h
 ·cases h
theorem th {G:Nat}{ι:aD}{v v':Value}{s s':St}{l:List Int}{w:World} (hr:HR G ι s.h w.heap) (h:pG v s=some (l,s')) (hv:VR ι v v') :
  jH false w v' l/\(∀n∈l,rq n=true)/\s'.h=s.h/\s'.c=s.c:=by
 have main:∀(b o n:Nat) (L:Loc) (s':St),ι b=some L->((cj b).bind fun cs=>(M.lift (aP o n cs)).bind fun l=>M.lift (nL l)) s=some (l,s') ->
   L.blk<w.heap.size/\l.length=n/\(∀(j:Nat) (m:Int),l[j]?=some m->w.cell? ⟨L.blk,L.off+o+j,none⟩=some (.int .i64 m))/\(∀n∈l,rq n=true)/\s'.h=s.h/\s'.c=s.c:=by
  intro b o n L s' hL h
  obtain⟨cs,s1,h1,h2⟩:=bind_some h
  obtain⟨g1,_,rfl⟩:=ci h1
  obtain⟨q,s2,h3,h4⟩:=bind_some h2
  obtain⟨h5,rfl⟩:=aI h3
  obtain⟨h6,rfl⟩:=aI h4
  obtain⟨rfl,hw⟩:=qH _ _ h6
  obtain⟨a1,a2,a3⟩:=aN _ _ _ _ h5
  obtain⟨L',c,t,fr,hL',hH,hc⟩:=hr.cells g1
  rw[hL] at hL';cases hL'
  refine⟨hr.lt _ _ hL,by simpa using a1,fun j m hj=>?_,hw,rfl,rfl⟩
  have hjl:j<n:=by
   have h9:j<l.length:=by
    rcases Nat.lt_or_ge j l.length with hh|hh
    ·exact hh
    ·rw[List.getElem?_eq_none hh] at hj;cases hj
   simp only[List.length_map] at a1
   omega
  have hm:(l.map fun n=>Value.int .i64 n)[j]?=some (.int .i64 m):=by rw[List.getElem?_map,hj];rfl
  rw[a3 j hjl] at hm
  obtain⟨y,hy,hyv⟩:=hc.2.2 _ _ hm
  rw[kV hH,Nat.add_assoc,hy]
  cases hyv
  rfl
 obtain⟨p,s1,h1,h2⟩:=bind_some h
 obtain⟨h3,rfl⟩:=aI h1
 unfold sliceAt at h3
 split at h3
 ·cases h3
  obtain⟨rfl,rfl⟩:=ak h2
  cases hv
  exact⟨.inl ⟨rfl,rfl⟩,by simp,rfl,rfl⟩
 ·rename_i b o n c
  cases h3
  cases hv with
  |sliceX _ _ _ _ L hL =>
   obtain⟨m1,m2,m3,m4,m5,m6⟩:=main b o n L s' hL h2
   exact⟨.inr ⟨L.blk,L.off+o,c,by rw[m2],m1,m3⟩,m4,m5,m6⟩
 ·rename_i b o e n c
  split at h3
  ·cases h3
   cases hv with
   |sliceI _ _ _ _ _ c' L hL hc hs =>
    obtain⟨m1,m2,m3,m4,m5,m6⟩:=main b o (n+1) L s' hL h2
    exact⟨.inr ⟨L.blk,L.off+o,c',by rw[m2],m1,m3⟩,m4,m5,m6⟩
  ·cases h3
 ·cases h3
theorem wR {G:Nat}{ι:aD}{keys:Bool}{v v':Value}{s s':St}{l:List Int}{w:World} (hr:HR G ι s.h w.heap) (h:f9 keys v s=some (l,s')) (hv:VR ι v v') :
  jH keys w v' l/\(∀n∈l,rq n=true)/\s'.h=s.h/\s'.c=s.c:=by
 cases keys with
 |false=>exact th hr h hv
 |true =>
  obtain⟨ro,s0,h01,h02⟩:=bind_some (show ((M.lift (fT v)).bind cW) s=_ from h)
  obtain⟨h03,rfl⟩:=aI h01
  obtain rfl:v=.map ro:=by
   unfold fT at h03
   split at h03
   ·cases h03;rfl
   ·cases h03
  cases ro with
  |none =>
   obtain⟨rfl,rfl⟩:=ak h02
   cases hv
   exact⟨.inl ⟨rfl,rfl⟩,by simp,rfl,rfl⟩
  |some r =>
   obtain⟨p,s1,h1,h2⟩:=bind_some (show ((iL r).bind fun p=>M.lift (keyInts p.1 p.2)) s0=_ from h02)
   obtain⟨g1,_,rfl⟩:=gK h1
   obtain⟨h3,rfl⟩:=aI h2
   cases hv with
   |map _ L hL =>
    obtain⟨L',hL',es',hH,hlen,hes⟩:=hr.obj r _ g1
    rw[hL] at hL';cases hL'
    unfold keyInts at h3
    split at h3
    ·rename_i q h4
     split at h3
     ·rename_i h5
      cases h3
      rw[Bool.and_eq_true,Bool.and_eq_true] at h5
      obtain⟨⟨h6,h7⟩,h8⟩:=h5
      rw[fm] at h4 h7
      rw[bT,List.all_eq_true] at h8
      obtain⟨e1,e2⟩:=qH _ _ h4
      have hk:es'.toList.map (·.key)=p.1.map (fun e=>e.1):=by
       apply List.ext_getElem?
       intro i
       rw[List.getElem?_map,List.getElem?_map]
       by_cases hi:i<p.1.length
       ·have hi':i<es'.toList.length:=by rw[Array.length_toList,<- hlen];exact hi
        rw[List.getElem?_eq_getElem hi,List.getElem?_eq_getElem hi']
        have:=(hes i _ _ (List.getElem?_eq_getElem hi) (by rw[<- Array.getElem?_toList];exact List.getElem?_eq_getElem hi')).1
        simp only[Option.map_some]
        rw[this]
       ·rw[List.getElem?_eq_none (by rw[Array.length_toList,<- hlen];omega),List.getElem?_eq_none (by omega)];rfl
      have hb:es'.toList.map (·.born)=p.1.map (fun e=>e.2.2):=by
       apply List.ext_getElem?
       intro i
       rw[List.getElem?_map,List.getElem?_map]
       by_cases hi:i<p.1.length
       ·have hi':i<es'.toList.length:=by rw[Array.length_toList,<- hlen];exact hi
        rw[List.getElem?_eq_getElem hi,List.getElem?_eq_getElem hi']
        have:=(hes i _ _ (List.getElem?_eq_getElem hi) (by rw[<- Array.getElem?_toList];exact List.getElem?_eq_getElem hi')).2.2.2
        simp only[Option.map_some]
        rw[this]
       ·rw[List.getElem?_eq_none (by rw[Array.length_toList,<- hlen];omega),List.getElem?_eq_none (by omega)];rfl
      refine⟨.inr ⟨L.blk,es',p.2,rfl,hH,⟨?_,?_,?_⟩,?_⟩,e2,rfl,rfl⟩
      ·intro x hx
       have:x.born∈p.1.map (fun e=>e.2.2):=by rw[<- hb];exact List.mem_map.2 ⟨x,hx,rfl⟩
       obtain⟨e,he,hee⟩:=List.mem_map.1 this
       have:=eh.1 (h8 e he)
       omega
      ·rw[hb];exact wh h7
      ·rw[hk,e1]
       exact List.pairwise_map.2 ((wX h6).imp fun {a b} hne he=>hne (by simpa using he))
      ·rw[hk,e1]
     ·cases h3
    ·cases h3
theorem aM.grown {G:Nat}{ι:aD}{s s':St}{w w':World} (h:HR G ι s.h w.heap) (hb:Below w.heap.size w w') {o:ag}{L:Loc} (hc:ι s.c=none)
  (hs:s'.h=s.h.set s.c (some o)) (hcc:s'.c=s.c+1) (h1:w.heap.size<=L.blk) (hO:OR (ι.upd s.c L) L w'.heap o):aM G ι (ι.upd s.c L) s s' w w':=by
 have hle:=ι.le_upd L hc
 refine⟨hle,?_,⟨?_,?_,?_,?_⟩,hb.os,hb.tape,hb.output,hb.size,?_,?_,by omega⟩
 ·intro b hb' hr
  rw[aD.upd_ne ι _ (by omega)];exact hb'
 ·intro b o' hb'
  rw[hs,T.get_set] at hb'
  by_cases e:b=s.c
  ·rw[if_pos e] at hb';cases hb'
   exact⟨_,by rw[e];exact aD.upd_same ..,hO⟩
  ·rw[if_neg e] at hb'
   obtain⟨L',a,d⟩:=h.obj b o' hb'
   exact⟨L',hle _ _ a,(d.mono hle).of_block (hb.block _ d.lt)⟩
 ·intro b1 b2 o1 o2 L1 L2 h1' h2' e1 e2 e
  rw[hs,T.get_set] at h1' h2'
  by_cases c1:b1=s.c<;>by_cases c2:b2=s.c
  ·rw[c1,c2]
  ·rw[c1,aD.upd_same] at e1;rw[aD.upd_ne ι _ c2] at e2;cases e1
   have:=h.lt _ _ e2
   omega
  ·rw[aD.upd_ne ι _ c1] at e1;rw[c2,aD.upd_same] at e2;cases e2
   have:=h.lt _ _ e1
   omega
  ·rw[aD.upd_ne ι _ c1] at e1;rw[aD.upd_ne ι _ c2] at e2;rw[if_neg c1] at h1';rw[if_neg c2] at h2'
   exact h.inj b1 b2 o1 o2 L1 L2 h1' h2' e1 e2 e
 ·intro b L' hb'
  by_cases c1:b=s.c
  ·rw[c1,aD.upd_same] at hb';cases hb';exact hO.lt
  ·rw[aD.upd_ne ι _ c1] at hb';have:=h.lt _ _ hb';have:=hb.size;omega
 ·intro g hg
  obtain⟨L',a,d⟩:=h.glob g hg
  exact⟨L',hle _ _ a,d⟩
 ·intro k hk _
  exact hb.block k hk
 ·rintro k hk ⟨b,o',L',hb',hw,hl,rfl⟩
  rw[hs,T.get_set] at hb'
  by_cases c1:b=s.c
  ·rw[c1,aD.upd_same] at hl;cases hl;exact absurd hk (by omega)
  ·rw[if_neg c1] at hb';rw[aD.upd_ne ι _ c1] at hl
   exact⟨b,o',L',hb',hw,hl,rfl⟩
theorem aM.grown0 {G:Nat}{ι:aD}{s s':St}{w w':World} (h:HR G ι s.h w.heap) (hb:Below w.heap.size w w') (hs:s'.h=s.h) (hcc:s'.c=s.c):aM G ι ι s s' w w':=by
 refine⟨aD.le_refl _,fun _ q _=>q,⟨fun b o hb'=>?_,fun b1 b2 o1 o2 L1 L2 q1 q2=>h.inj b1 b2 o1 o2 L1 L2 (by rw[<- hs];exact q1) (by rw[<- hs];exact q2),fun b L hL=>Nat.lt_of_lt_of_le (h.lt b L hL) hb.size,h.glob⟩,
  hb.os,hb.tape,hb.output,hb.size,fun k hk _=>hb.block k hk,fun k hk q=>by rw[hs] at q;exact q,by omega⟩
 rw[hs] at hb'
 obtain⟨L,hL,hO⟩:=h.obj b o hb'
 exact⟨L,hL,hO.of_block (hb.block _ (h.lt b L hL))⟩
theorem xy {P:Program}{G:Nat}{f:Nat}{tInt:TypeId}{kind:Nat->Option Bool} (hf:dO P f) (H:du P f tInt kind) (args:List Value) (s s':St) (v:Value) (ι:aD) (w:World) (args':List Value) (R:Ending->World->Prop)
  (h:aX kind args s=some (v,s')) (ha:bS ι args args') (hr:HR G ι s.h w.heap) (fr:∀b,s.c<=b->b<s'.c->ι b=none)
  (hR:∀v' w' ι',VR ι' v v'->aM G ι ι' s s' w w'->R (.returned v') w'):dO P f/\Calls P f args'.toArray w R:=by
 refine⟨hf,?_⟩
 unfold aX at h
 obtain⟨p,s1,h1,h2⟩:=bind_some h
 obtain⟨h3,rfl⟩:=aI h1
 obtain⟨cs,s2,h4,h5⟩:=bind_some h2
 obtain⟨g1,_,rfl⟩:=ci h4
 obtain⟨x,s3,h6,h7⟩:=bind_some h5
 obtain⟨h8,rfl⟩:=aI h6
 obtain⟨l,s4,h9,h10⟩:=bind_some h7
 obtain⟨g,keys,b,o⟩:=p
 obtain⟨a,c,rfl,ha0,hc0,hk⟩:=yI h3
 simp only at g1 h8 h9 hc0 hk
 obtain⟨y,rest,rfl,hy,hrest⟩:=ha.cons_inv
 obtain rfl:=hrest.nil_inv
 cases hy with
 |func _ _ _ a' c' hal hcl ra rc =>
  have ea:a'=#[]:=by
   rw[ha0] at hal
   have:a'.toList=[]:=List.length_eq_zero_iff.1 hal.symm
   exact Array.toList_inj.1 this
  subst ea
  rw[hc0] at hcl rc
  obtain⟨z,hz⟩:∃z,c'.toList=[z]:=List.length_eq_one_iff.1 hcl.symm
  have hzv:=rc 0 _ z rfl (by rw[hz];rfl)
  have ec:c'=#[z]:=Array.toList_inj.1 hz
  subst ec
  cases hzv with
  |ptr _ _ L hL =>
   obtain⟨L',c2,t,fr',hL',hH,hcr⟩:=hr.cells g1
   rw[hL] at hL';cases hL'
   rw[b8] at h8
   obtain⟨v2,hv2,hvv⟩:=hcr.2.2 _ _ h8
   obtain⟨q1,q2,q3,q4⟩:=wR (by exact hr) h9 hvv
   simp only at q3 q4
   have hcell:w.cell? ⟨L.blk,L.off+o,none⟩=some v2:=by rw[kV hH];exact hv2
   unfold iN at h10
   split at h10
   ·obtain⟨rfl,rfl⟩:=ak h10
    refine Calls.mono (H g keys hk w L.blk (L.off+o) v2 [] hcell (hr.lt _ _ hL) q1 q2 (by simp)) ?_
    rintro e w' ⟨v',rfl,hrow,hnil,hb⟩
    have:=hnil.2 rfl
    subst this
    exact hR _ w' ι (.nilSlice 0 0) (aM.grown0 hr hb (by rw[q3]) (by rw[q4]))
   ·rename_i m ms
    cases hble:Nat.ble (len (m::ms)) 1000000 with
    |false=>rw[hble] at h10;exact(aa h10).elim
    |true =>
     rw[hble] at h10
     have hlen:=aH.1 hble
     rw[eD] at hlen
     obtain⟨k,s5,h11,h12⟩:=bind_some h10
     obtain⟨rfl,rfl⟩:=ak h12
     unfold bq at h11
     rw[b4,fm] at h11
     obtain⟨_,rfl,rfl⟩:=dZ h11
     refine Calls.mono (H g keys hk w L.blk (L.off+o) v2 (m::ms) hcell (hr.lt _ _ hL) q1 q2 hlen) ?_
     rintro e w' ⟨v',rfl,hrow,hnil,hb⟩
     have hperm:=(dy (m::ms)).length_eq
     rcases hrow.2 with⟨_,h0⟩|⟨gb,cap,cur,rfl,hbase,hgb,r1,r2,r3,r4⟩
     ·simp at h0
     ·have hfree:ι s4.c=none:=by rw[q4];exact fr _ (Nat.le_refl _) (by show _<s4.c+1;omega)
      have hsz:cur.size=cap:=by omega
      have hO:OR (ι.upd s4.c ⟨gb,0,cur.size⟩) ⟨gb,0,cur.size⟩ w'.heap (.cells ((fx (m::ms)).map fun n=>Value.int .i64 n)):=by
       refine⟨cur,_,_,hgb,⟨rfl,?_,?_⟩,rfl⟩
       ·show 0+_<=cur.size
        rw[List.length_map,hperm]
        omega
       ·intro i x hx
        rw[List.getElem?_map,Option.map_eq_some_iff] at hx
        obtain⟨n,hn,rfl⟩:=hx
        refine⟨.int .i64 n,?_,.int _ _⟩
        show cur[0+i]?=_
        have hi:i<(m::ms).length:=by
         rcases Nat.lt_or_ge i (fx (m::ms)).length with hh|hh
         ·omega
         ·rw[List.getElem?_eq_none hh] at hn;cases hn
        have:(cur.toList.take ((m::ms).length*1))[i]?=some (.int .i64 n):=by rw[r4,List.getElem?_map,hn];rfl
        rw[List.getElem?_take_of_lt (by omega),Array.getElem?_toList] at this
        rw[Nat.zero_add];exact this
      have hp:=aM.grown (s:=s4) (s':=⟨s4.h.set s4.c (some (.cells ((fx (m::ms)).map fun n=>Value.int .i64 n))),s4.c+1,s4.rl,s4.wl⟩) (by rw[q3];exact hr) hb hfree rfl rfl (by exact hbase) hO
      refine hR _ w' _ ?_ (aM.log hp q3.symm q4.symm rfl rfl)
      rw[eD]
      refine .sliceI s4.c 0 1 _ _ cap ⟨gb,0,cur.size⟩ (aD.upd_same ..) r1 ?_
      show 0+0+cap*1<=cur.size
      omega
end Go.Ab
end
section
namespace Go.Ab
structure Rc where
 id:Int
 xs:List Value
 pay:ByteArray
 seq:Int
 gone:Bool
def cE (l:List Rc):Prop:=l.Pairwise fun a b=>a.id<b.id
noncomputable def aK (x:Int):List Rc->Option Rc
 | []=>none
 |r::l=>if r.id=x then some r else aK x l
noncomputable def cJ (r:Rc):List Rc->List Rc
 | []=>[r]
 |y::l=>if r.id<y.id then r::y::l else if r.id=y.id then r::l else y::cJ r l
theorem cE.nil:cE []:=List.Pairwise.nil
theorem cE.filter {l:List Rc} (h:cE l) (p:Rc->Bool):cE (l.filter p):=List.Pairwise.filter p h
theorem cF {x:Int}:∀ {l:List Rc}{r:Rc},aK x l=some r->r∈l/\r.id=x
 | [],_,h=>by cases h
 |y::l,r,h=>by
  unfold aK at h
  split at h
  ·cases h
   exact⟨List.mem_cons_self ..,by assumption⟩
  ·exact⟨List.mem_cons_of_mem _ (cF h).1,(cF h).2⟩
theorem fk {x:Int}:∀ {l:List Rc},aK x l=none↔∀r∈l,r.id≠x
 | []=>⟨(fun _ r h=>by cases h),(fun _=>rfl)⟩
 |y::l=>by
  unfold aK
  by_cases hy:y.id=x
  ·rw[if_pos hy]
   exact⟨(fun h=>by cases h),(fun h=>absurd hy (h y (List.mem_cons_self ..)))⟩
  ·rw[if_neg hy,fk]
   constructor
   ·intro h r hr
    rcases List.mem_cons.1 hr with rfl|hr
    ·exact hy
    ·exact h r hr
   ·exact fun h r hr=>h r (List.mem_cons_of_mem _ hr)
theorem dH {x:Int}{l:List Rc} (h:cE l) {r:Rc} (hr:r∈l) (hx:r.id=x):aK x l=some r:=by
 induction l with
 |nil=>cases hr
 |cons y l ih =>
  obtain⟨h1,h2⟩:=List.pairwise_cons.1 h
  unfold aK
  rcases List.mem_cons.1 hr with rfl|hr
  ·rw[if_pos hx]
  ·have:=h1 r hr
   rw[if_neg (by omega)]
   exact ih h2 hr
theorem dQ {r x:Rc}:∀ {l:List Rc},x∈cJ r l->x=r\/x∈l
 | [],h=>.inl (List.mem_singleton.1 h)
 |y::l,h=>by
  unfold cJ at h
  split at h
  ·rcases List.mem_cons.1 h with h|h
   ·exact .inl h
   ·exact .inr h
  ·split at h
   ·rcases List.mem_cons.1 h with h|h
    ·exact .inl h
    ·exact .inr (List.mem_cons_of_mem _ h)
   ·rcases List.mem_cons.1 h with h|h
    ·exact .inr (h▸List.mem_cons_self ..)
    ·rcases dQ h with h|h
     ·exact .inl h
     ·exact .inr (List.mem_cons_of_mem _ h)
theorem cE.put {l:List Rc} (h:cE l) (r:Rc):cE (cJ r l):=by
 induction l with
 |nil=>exact List.pairwise_singleton ..
 |cons y l ih =>
  obtain⟨h1,h2⟩:=List.pairwise_cons.1 h
  unfold cJ
  split
  ·refine List.pairwise_cons.2 ⟨fun z hz=>?_,h⟩
   rcases List.mem_cons.1 hz with rfl|hz
   ·assumption
   ·have:=h1 z hz
    omega
  ·split
   ·refine List.pairwise_cons.2 ⟨fun z hz=>?_,h2⟩
    have:=h1 z hz
    omega
   ·refine List.pairwise_cons.2 ⟨fun z hz=>?_,ih h2⟩
    rcases dQ hz with rfl|hz
    ·omega
    ·exact h1 z hz
theorem ek {l:List Rc} (r:Rc) (x:Int):aK x (cJ r l)=if r.id=x then some r else aK x l:=by
 induction l with
 |nil=>unfold cJ aK;rfl
 |cons y l ih =>
  unfold cJ
  split
  ·rw[aK]
  ·split
   ·rw[aK,aK]
    split
    ·rfl
    ·rw[if_neg (by omega)]
   ·rw[aK,ih,aK]
    by_cases hr:r.id=x
    ·rw[if_pos hr,if_neg (by omega),if_pos hr]
    ·rw[if_neg hr,if_neg hr]
theorem im:∀ {a b:List Int},a.Pairwise (fun x y=>x<y)->b.Pairwise (fun x y=>x<y)->(∀x,x∈a↔x∈b)->a=b
 | [],[],_,_,_=>rfl
 | [],y::b,_,_,h=>by cases (h y).2 (List.mem_cons_self ..)
 |x::a,[],_,_,h=>by cases (h x).1 (List.mem_cons_self ..)
 |x::a,y::b,ha,hb,h=>by
  obtain⟨a1,a2⟩:=List.pairwise_cons.1 ha
  obtain⟨b1,b2⟩:=List.pairwise_cons.1 hb
  have hxy:x=y:=by
   have h1:=(h x).1 (List.mem_cons_self ..)
   have h2:=(h y).2 (List.mem_cons_self ..)
   rcases List.mem_cons.1 h1 with h1|h1
   ·exact h1
   ·rcases List.mem_cons.1 h2 with h2|h2
    ·exact h2.symm
    ·have:=a1 y h2
     have:=b1 x h1
     omega
  subst hxy
  rw[im a2 b2 fun z=>?_]
  constructor
  ·intro hz
   rcases List.mem_cons.1 ((h z).1 (List.mem_cons_of_mem _ hz)) with rfl|h1
   ·have:=a1 z hz
    omega
   ·exact h1
  ·intro hz
   rcases List.mem_cons.1 ((h z).2 (List.mem_cons_of_mem _ hz)) with rfl|h1
   ·have:=b1 z hz
    omega
   ·exact h1
theorem jd {l:List Int} (h:l.Nodup):(fx l).Pairwise fun x y=>x<y:=by
 have h1:=nT l
 have h2:(fx l).Nodup:=(dy l).nodup_iff.2 h
 have:=List.pairwise_and_iff.2 ⟨h1,h2⟩
 exact this.imp fun {a b} h=>by have:=h.1;have:=h.2;omega
theorem cE.ids {l:List Rc} (h:cE l):(l.map Rc.id).Pairwise fun x y=>x<y:=List.pairwise_map.2 h
end Go.Ab
end
section
namespace Go.Ab.Seat
open Go.Extern Go.Proofs
def jI (id:Int) (M:List Rc):List Rc:=M.filter fun r=>!decide (r.id=id)
theorem iJ (id x:Int):∀M:List Rc,aK x (jI id M)=if x=id then none else aK x M
 | []=>by unfold jI aK;simp
 |y::M=>by
  have ih:=iJ id x M
  unfold jI at ih ⊢
  by_cases h:y.id=id
  ·rw[List.filter_cons,decide_eq_true h]
   simp only[Bool.not_true,Bool.false_eq_true,if_false]
   rw[ih]
   by_cases hx:x=id
   ·rw[if_pos hx,if_pos hx]
   ·rw[if_neg hx,if_neg hx,aK,if_neg (by omega)]
  ·rw[List.filter_cons,decide_eq_false h]
   simp only[Bool.not_false,if_true]
   rw[aK,ih,aK]
   by_cases hy:y.id=x
   ·rw[if_pos hy,if_pos hy,if_neg (by omega)]
   ·rw[if_neg hy,if_neg hy]
theorem IG {h:T ag}{b:Nat}{cs:List Value}{m n:Nat}{es:List (Value×Value×Nat)} (h1:ay h b (.cells cs)) (h2:ay h m (.map es n)):b≠m:=by
 rintro rfl
 unfold ay at h1 h2
 rw[h1] at h2
 cases h2
theorem tu (zs:List Int) (dim:Nat):gc (rT zs dim):=by
 intro i
 unfold rT
 rw[List.getD_eq_getElem?_getD,List.getElem?_map]
 cases h:(List.range dim)[i]? with
 |none=>simp
 |some j =>
  show -1048576<=iF _/\iF _<=1048576
  unfold iF
  omega
theorem mS {a b:Ht}:de a b=true↔a.sc<b.sc\/a.sc=b.sc/\a.id<b.id:=by
 unfold de
 split
 ·rw[decide_eq_true_eq];omega
 ·rw[decide_eq_true_eq];omega
theorem j1 {a b:Ht}:de a b=false↔b.sc<a.sc\/a.sc=b.sc/\b.id<=a.id:=by
 rw[<- Bool.not_eq_true,mS];omega
end Go.Ab.Seat
end
section
namespace Go.Ab.Seat
open Go.Extern Go.Proofs
def aF (l:List Ht):List Value:=l.flatMap Ht.cells
theorem cN (l:List Ht):(aF l).length=l.length*2:=by
 induction l with
 |nil=>rfl
 |cons x l ih=>unfold aF at ih ⊢;rw[List.flatMap_cons,List.length_append,ih];simp [Ht.cells];omega
theorem fg (a b:List Ht):aF (a++b)=aF a++aF b:=by unfold aF;rw[List.flatMap_append]
theorem tn (l:List Ht) (i:Nat):(aF l).take (i*2)=aF (l.take i):=by
 induction l generalizing i with
 |nil=>cases i<;>rfl
 |cons x l ih =>
  cases i with
  |zero=>rfl
  |succ i =>
   show ([Value.int .i64 x.id,.int .i64 x.sc]++aF l).take ((i+1)*2)=[Value.int .i64 x.id,.int .i64 x.sc]++aF (l.take i)
   rw[show (i+1)*2=i*2+1+1 by omega,<- ih]
   rfl
theorem te (l:List Ht) (i:Nat):(aF l).drop (i*2)=aF (l.drop i):=by
 induction l generalizing i with
 |nil=>cases i<;>simp [aF]
 |cons x l ih =>
  cases i with
  |zero=>rfl
  |succ i =>
   show ([Value.int .i64 x.id,.int .i64 x.sc]++aF l).drop ((i+1)*2)=aF (l.drop i)
   rw[show (i+1)*2=i*2+1+1 by omega,<- ih]
   rfl
theorem A1 (l:List Ht):∀v∈aF l,atom v=true:=by
 intro v hv
 unfold aF at hv
 obtain⟨x,_,hx⟩:=List.mem_flatMap.1 hv
 unfold Ht.cells at hx
 simp only[List.mem_cons,List.not_mem_nil,or_false] at hx
 rcases hx with rfl|rfl<;>rfl
theorem gZ {l:List Ht}{i o:Nat}{cs:List Value}{x:Ht} (h:aP o (l.length*2) cs=some (aF l)) (hx:l[i]?=some x):aP (o+i*2) 2 cs=some [.int .i64 x.id,.int .i64 x.sc]:=by
 obtain⟨hi,rfl⟩:=List.getElem?_eq_some_iff.1 hx
 have h1:aF l=aF (l.take i)++(([.int .i64 l[i].id,.int .i64 l[i].sc]:List Value)++aF (l.drop (i+1))):=by
  conv=>lhs;rw[show l=l.take i++(l[i]::l.drop (i+1)) by simp]
  rw[fg];rfl
 rw[h1] at h
 have h2:aP o (i*2+(2+(l.length - (i+1))*2)) cs=some (aF (l.take i)++(([.int .i64 l[i].id,.int .i64 l[i].sc]:List Value)++aF (l.drop (i+1)))):=by rw[<- h];congr 1;omega
 exact(dP (dP h2 (by rw[cN,List.length_take];omega)).2 rfl).1
def iH (x:Ht) (l:List Ht):Nat:=(l.takeWhile fun y=>de y x).length
def eu (k:Nat) (l:List Ht) (x:Ht):List Ht :=
 if l.any (fun y=>decide (y.id=x.id)) then l else if k<=iH x l then l else(l.take (iH x l)++x::l.drop (iH x l)).take k
theorem xL (x:Ht) (l:List Ht):iH x l<=l.length:=by unfold iH;exact(List.takeWhile_sublist _).length_le
theorem BW {x:Ht}:∀ {l:List Ht}{i:Nat},(∀y∈l.take i,de y x=true)->(∀y,l[i]?=some y->de y x=false)->i<=l.length->iH x l=i
 | [],0,_,_,_=>rfl
 | [],i+1,_,_,h=>by cases h
 |y::l,0,_,h2,_=>by
  unfold iH
  rw[List.takeWhile_cons,h2 y rfl]
  rfl
 |y::l,i+1,h1,h2,h3=>by
  have:=BW (x:=x) (l:=l) (i:=i) (fun z hz=>h1 z (List.mem_cons_of_mem _ hz)) (fun z hz=>h2 z (by simpa using hz)) (by simpa using h3)
  unfold iH at this ⊢
  rw[List.takeWhile_cons,h1 y (List.mem_cons_self ..)]
  simp only[if_true,List.length_cons]
  omega
def aQ (k:Nat) (l:List Ht):List Ht:=l.foldl (eu k) []
theorem Er (k:Nat) (l:List Ht) (x:Ht):(eu k l x).length<=l.length+1:=by
 unfold eu
 split
 ·omega
 ·split
  ·omega
  ·rw[List.length_take,List.length_append,List.length_take,List.length_cons,List.length_drop];omega
theorem uu (k:Nat):∀(l a:List Ht),(l.foldl (eu k) a).length<=a.length+l.length
 | [],a=>Nat.le_refl _
 |x::l,a=>by
  have h1:=uu k l (eu k a x)
  have h2:=Er k a x
  rw[List.foldl_cons,List.length_cons]
  omega
theorem iP (k:Nat) (l:List Ht):(aQ k l).length<=l.length:=by
 have:=uu k l []
 simp only[List.length_nil] at this
 unfold aQ;omega
theorem eL {k:Nat}{l:List Ht}{i:Nat} (hi:i<l.length):aQ k (l.take (i+1))=eu k (aQ k (l.take i)) l[i]:=by
 unfold aQ
 rw[List.take_succ_eq_append_getElem hi,List.foldl_append];rfl
end Go.Ab.Seat
end
section
namespace Go.Ab.Seat
open Go.Extern Go.Proofs
def oZ (x:Ht) (p:List Ht):List Ht:=p.take (iH x p)++x::p.drop (iH x p)
theorem lU {k:Nat}{p:List Ht}{x:Ht} (hx:∀y∈p,y.id≠x.id) (hk:p.length<k):eu k p x=oZ x p:=by
 have h1:p.any (fun y=>decide (y.id=x.id))=false:=by
  rw[List.any_eq_false]
  intro y hy
  simpa using hx y hy
 have h2:=xL x p
 unfold eu oZ
 rw[h1,if_neg (by decide),if_neg (by omega),List.take_of_length_le (by rw[List.length_append,List.length_take,List.length_cons,List.length_drop];omega)]
theorem uY (x y:Ht) (p:List Ht):oZ x (y::p)=if de y x then y::oZ x p else x::y::p:=by
 cases hl:de y x<;>simp [oZ,iH,List.takeWhile_cons,hl]
theorem qG {a b c:Ht} (h1:de a b=true) (h2:de b c=true):de a c=true:=by
 rw[mS] at *;omega
theorem qh {a b:Ht} (h1:de a b=false) (h2:a.id≠b.id):de b a=true:=by
 rw[j1] at h1;rw[mS];omega
theorem pX {a b:Ht} (h1:de a b=true):de b a=false:=by
 rw[mS] at h1;rw[j1];omega
def Gi (p:List Ht):Prop:=p.Pairwise (fun a b=>de a b=true)
theorem jN (x:Ht):∀p:List Ht,(oZ x p).Perm (x::p)
 | []=>.refl _
 |y::p=>by
  rw[uY]
  split
  ·exact((jN x p).cons y).trans (List.Perm.swap x y p)
  ·exact .refl _
theorem tA {x:Ht}:∀ {p:List Ht},Gi p->(∀y∈p,y.id≠x.id)->Gi (oZ x p)
 | [],_,_=>List.pairwise_cons.2 ⟨fun _ h=>absurd h List.not_mem_nil,List.Pairwise.nil⟩
 |y::p,ho,hx=>by
  obtain⟨h1,h2⟩:=List.pairwise_cons.1 ho
  rw[uY]
  cases hl:de y x
  ·rw[if_neg (by decide)]
   have h3:=qh hl (hx y List.mem_cons_self)
   refine List.pairwise_cons.2 ⟨fun z hz=>?_,ho⟩
   rcases List.mem_cons.1 hz with rfl|hz
   ·exact h3
   ·exact qG h3 (h1 z hz)
  ·rw[if_pos rfl]
   refine List.pairwise_cons.2 ⟨fun z hz=>?_,tA h2 fun z hz=>hx z (List.mem_cons_of_mem _ hz)⟩
   rcases List.mem_cons.1 ((jN x p).mem_iff.1 hz) with rfl|hz
   ·exact hl
   ·exact h1 z hz
theorem wn {l:List Ht}{i:Nat} (hd:(l.map Ht.id).Nodup) (hi:i<l.length):∀y∈l.take i,y.id≠l[i].id:=by
 intro y hy e
 obtain⟨j,hj⟩:=List.mem_iff_getElem?.1 hy
 rw[List.getElem?_take] at hj
 split at hj
 ·rename_i hji
  obtain⟨q1,q2⟩:=List.getElem?_eq_some_iff.1 hj
  have:=(List.getElem_inj (h₀:=by rw[List.length_map];exact q1) (h₁:=by rw[List.length_map];exact hi) hd).1 (by rw[List.getElem_map,List.getElem_map,q2,e])
  omega
 ·cases hj
theorem cO {k:Nat}{l:List Ht} (hd:(l.map Ht.id).Nodup):∀m,m<=l.length->m<=k->(aQ k (l.take m)).Perm (l.take m)/\Gi (aQ k (l.take m))
 |0,_,_=>by
  rw[List.take_zero]
  exact⟨.refl _,List.Pairwise.nil⟩
 |m+1,hm,hk=>by
  obtain⟨h1,h2⟩:=cO (k:=k) hd m (by omega) (by omega)
  have h3:∀y∈aQ k (l.take m),y.id≠(l[m]'(by omega)).id:=fun y hy=>wn hd (by omega) y (h1.mem_iff.1 hy)
  have h4:(aQ k (l.take m)).length=m:=by rw[h1.length_eq,List.length_take];omega
  rw[eL (by omega),lU h3 (by omega),List.take_succ_eq_append_getElem (by omega)]
  exact⟨(jN _ _).trans ((h1.cons _).trans (List.perm_append_singleton _ _).symm),tA h2 h3⟩
theorem gz {k:Nat}{l:List Ht} (hd:(l.map Ht.id).Nodup) {m:Nat} (hm:m<=l.length) (hk:m<=k):(aQ k (l.take m)).length=m:=by
 rw[(cO hd m hm hk).1.length_eq,List.length_take];omega
theorem BO {x:Ht}{A q:List Ht} (ho:Gi (A++q)) (hx:∀y∈A++q,y.id≠x.id) (hq:∀y∈q,de x y=true) (hA:∀y,A.getLast?=some y->de x y=false):oZ x (A++q)=A++x::q:=by
 have h:iH x (A++q)=A.length:=by
  refine BW (fun y hy=>?_) (fun y hy=>?_) (by rw[List.length_append];omega)
  ·rw[List.take_left] at hy
   obtain⟨A',z,rfl⟩:∃A' z,A=A'++[z]:=by
    have hne:A≠[]:=by rintro rfl;cases hy
    exact⟨A.dropLast,A.getLast hne,(List.dropLast_concat_getLast hne).symm⟩
   have hz:=qh (hA z (by simp)) (by have:=hx z (by simp);omega)
   rcases List.mem_append.1 hy with hy|hy
   ·have h1:=List.pairwise_append.1 (List.pairwise_append.1 ho).1
    exact qG (h1.2.2 y hy z (by simp)) hz
   ·rw[List.mem_singleton.1 hy];exact hz
  ·rw[List.getElem?_append_right (Nat.le_refl _),Nat.sub_self] at hy
   exact pX (hq y (List.mem_of_getElem? hy))
 unfold oZ
 rw[h,List.take_left,List.drop_left]
end Go.Ab.Seat
end
