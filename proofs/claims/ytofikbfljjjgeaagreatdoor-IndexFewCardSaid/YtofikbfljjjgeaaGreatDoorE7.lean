import Derived.Test.YtofikbfljjjgeaaGreatDoorE5
import Derived.Laws.Strings
set_option linter.unusedVariables false
set_option linter.unusedSimpArgs false
section
namespace Go.Ab
section ops
variable {G:Nat}{C:aS}{eg:TypeId->Bool}{P:Program}{ι:aD}{s:St}{w:World}
theorem ub (ok:C.Ok eg P) (hr:HR G ι s.h w.heap) (t:TypeId) {x x':Value} (f:Nat) (hx:VR ι x x') :
  d8 G P ι s w (eS C t x f) (Instr.fieldAt t x' f):=by
 intro v s' h _
 unfold eS at h
 cases hd:C.und t with
 |none=>rw[hd] at h;exact(aa h).elim
 |some d =>
  cases hp:eM x with
  |none=>rw[hd,hp] at h;cases d<;>exact(aa h).elim
  |some p =>
   obtain⟨b,o⟩:=p
   rw[hd,hp] at h
   have e1:=gJ hp
   simp only at e1
   subst e1
   obtain⟨L,hL,rfl⟩:=hx.ptr_inv
   cases d with
   |struct fields =>
    simp only at h
    cases hn:cu fields.toList f with
    |none=>rw[hn] at h;exact(aa h).elim
    |some fd =>
     rw[hn] at h
     simp only at h
     cases hs:C.size fd.type with
     |none=>rw[hs] at h;exact(aa h).elim
     |some n =>
      rw[hs] at h
      cases n with
      |zero=>exact(aa h).elim
      |succ n =>
       simp only at h
       obtain⟨rfl,rfl⟩:=ak h
       refine⟨.pointer (some ⟨L.blk,L.off+(o+fd.offset),none⟩),w,ι,?_,.ptr b _ L hL,aM.refl hr rfl rfl⟩
       rw[b8,Array.getElem?_toList] at hn
       unfold Instr.fieldAt
       simp only[Sem.run_bind,ok.runUnd hd,Result.andThen_ok,hn,Instr.sureAddr,Sem.run_pure,fieldPlace,ok.size hs]
       rw[if_neg (by omega)]
       simp only[Sem.run_pure,Result.andThen_ok,eY,Nat.add_assoc]
   |_=>exact(aa h).elim
theorem tH (ok:C.Ok eg P) (hr:HR G ι s.h w.heap) (t:TypeId) {x x' i i':Value} (hx:VR ι x x') (hi:VR ι i i') :
  d8 G P ι s w (dN C t x i) (Instr.indexAt t x' i'):=by
 intro v s' h _
 unfold dN at h
 cases hn:cZ i with
 |none=>rw[hn] at h;exact(aa h).elim
 |some n =>
  obtain⟨k,rfl⟩:=nQ hi hn
  cases hd:C.und t with
  |none=>rw[hn,hd] at h;exact(aa h).elim
  |some d =>
   rw[hn,hd] at h
   simp only at h
   have hun:=ok.runUnd hd w
   cases d with
   |array len e =>
    simp only at h
    cases hp:eM x with
    |none=>rw[hp] at h;exact(aa h).elim
    |some p =>
     cases hs:C.size e with
     |none=>rw[hp,hs] at h;exact(aa h).elim
     |some sz =>
      cases hl:Nat.blt n len with
      |false=>rw[hp,hs,hl] at h;exact(aa h).elim
      |true =>
       obtain⟨b,o⟩:=p
       rw[hp,hs,hl] at h
       have e1:=gJ hp
       simp only at e1
       subst e1
       obtain⟨L,hL,rfl⟩:=hx.ptr_inv
       simp only at h
       obtain⟨rfl,rfl⟩:=ak h
       have hlt:=eh.1 hl
       refine⟨.pointer (some ⟨L.blk,L.off+(o+n*sz),none⟩),w,ι,?_,.ptr b _ L hL,aM.refl hr rfl rfl⟩
       unfold Instr.indexAt
       simp only[asIntOf,Sem.run_bind,Sem.run_pure,hun,Result.andThen_ok,Instr.sureAddr]
       rw[if_pos (by omega)]
       simp only[Sem.run_bind,ok.size hs,Result.andThen_ok,Sem.run_pure,Int.toNat_natCast,eY,Nat.add_assoc]
   |slice e =>
    cases x with
    |slice a len cap =>
     cases a with
     |none=>exact(aa h).elim
     |some a =>
      simp only at h
      cases hs:C.size e with
      |none=>rw[hs] at h;exact(aa h).elim
      |some sz =>
       cases hl:Nat.blt n len with
       |false=>rw[hs,hl] at h;exact(aa h).elim
       |true =>
        rw[hs,hl] at h
        simp only at h
        obtain⟨rfl,rfl⟩:=ak h
        have hlt:=eh.1 hl
        have fin:∀(L:Loc) (c':Nat),ι a.block=some L->x'=.slice (some ⟨L.blk,L.off+a.off,none⟩) len c' ->
          ∃v' w' ι',(Instr.indexAt t x' (.int k (n:Int))).run P w=.ok v' w'/\VR ι' (.pointer (some ⟨a.block,a.off+n*sz,none⟩)) v'/\aM G ι ι' s' s' w w':=by
         intro L c' hL he
         subst he
         refine⟨.pointer (some ⟨L.blk,L.off+(a.off+n*sz),none⟩),w,ι,?_,.ptr a.block _ L hL,aM.refl hr rfl rfl⟩
         unfold Instr.indexAt
         simp only[asIntOf,Sem.run_bind,Sem.run_pure,hun,Result.andThen_ok]
         rw[if_pos (by omega)]
         simp only[Sem.run_bind,ok.size hs,Result.andThen_ok,Sem.run_pure,Int.toNat_natCast,eY,Nat.add_assoc]
        obtain⟨b,o,sp⟩:=a
        rcases hx.slice_inv with⟨rfl,L,hL,hx'⟩|⟨e',rfl,L,c',hL,hc,hs',hx'⟩|⟨e',rfl,rfl,rfl,a',hx'⟩
        ·exact fin L cap hL hx'
        ·exact fin L c' hL hx'
        ·omega
    |_=>exact(aa h).elim
   |_=>exact(aa h).elim
theorem rf (ok:C.Ok eg P) {t:TypeId}{cs:List Value}{cs':Array Value}{o:Nat}{v:Value} (hv:bS ι cs cs'.toList) (h:nq C t cs o=some v) :
  ∃v',(part t cs' o).run P w=.ok v' w/\VR ι v v':=by
 unfold nq at h
 cases hd:C.und t with
 |none=>simp [hd] at h
 |some d =>
  rw[hd] at h
  simp only at h
  have hag:=ok.isAgg hd w
  have one:Ev d=false->cu cs o=some v->∃v',(part t cs' o).run P w=.ok v' w/\VR ι v v':=by
   intro ha hn
   rw[b8] at hn
   obtain⟨y,hy,hxy⟩:=hv.get hn
   refine⟨y,?_,hxy⟩
   rw[Array.getElem?_toList] at hy
   unfold part
   simp only[Sem.run_bind,hag,Result.andThen_ok,ha,Bool.false_eq_true,if_false,hy,Sem.run_pure]
  have many:Ev d=true->(match C.size t with|none=>none|some n=>match aP o n cs with|some r=>some (Value.agg ⟨r⟩)|none=>none)=some v->∃v',(part t cs' o).run P w=.ok v' w/\VR ι v v':=by
   intro ha hn
   cases hs:C.size t with
   |none=>simp [hs] at hn
   |some n =>
    simp only[hs] at hn
    cases hsub:aP o n cs with
    |none=>simp [hsub] at hn
    |some r =>
     simp only[hsub,Option.some.injEq] at hn
     subst hn
     obtain⟨r1,r2,r3⟩:=aN o n cs r hsub
     have hl:=hv.1
     simp only[Array.length_toList] at hl
     refine⟨.agg (cs'.extract o (o+n)),?_,.agg _ _ ?_ ?_⟩
     ·unfold part
      simp only[Sem.run_bind,hag,Result.andThen_ok,ha,if_true,ok.size hs,Sem.run_pure]
     ·simp [r1];omega
     ·intro i x y hx hy
      have hi:i<n:=by
       rcases Nat.lt_or_ge i n with hh|hh
       ·exact hh
       ·rw[List.getElem?_eq_none (by show r.length<=i;omega)] at hx;cases hx
      have hx':r[i]?=some x:=hx
      rw[r3 i hi] at hx'
      have hy':cs'.toList[o+i]?=some y:=by
       rw[Array.getElem?_toList] at hy ⊢
       rw[Array.getElem?_extract] at hy
       split at hy
       ·exact hy
       ·cases hy
      exact hv.2 _ x y hx' hy'
  cases d with
  |struct fs=>exact many rfl h
  |array n e=>exact many rfl h
  |_=>exact one rfl h
theorem CR (ok:C.Ok eg P) (hr:HR G ι s.h w.heap) (t:TypeId) {x x':Value} (f:Nat) (hx:VR ι x x') :
  d8 G P ι s w (ki C t x f) (Instr.field t x' f):=by
 intro v s' h _
 unfold ki at h
 cases hd:C.und t with
 |none=>rw[hd] at h;exact(aa h).elim
 |some d =>
  rw[hd] at h
  cases d with
  |struct fields =>
   cases x with
   |agg cs =>
    cases hx with
    |agg _ cs' ha ra =>
     simp only at h
     cases hn:cu fields.toList f with
     |none=>rw[hn] at h;exact(aa h).elim
     |some fd =>
      rw[hn] at h
      simp only at h
      obtain⟨hp,rfl⟩:=aI h
      obtain⟨v',h1,h2⟩:=rf (P:=P) (w:=w) ok ⟨ha,ra⟩ hp
      refine⟨v',w,ι,?_,h2,aM.refl hr rfl rfl⟩
      rw[b8,Array.getElem?_toList] at hn
      unfold Instr.field
      simp only[Sem.run_bind,ok.runUnd hd,Result.andThen_ok,hn,asAgg,Sem.run_pure,h1]
   |_=>exact(aa h).elim
  |_=>exact(aa h).elim
theorem Dl (ok:C.Ok eg P) (hr:HR G ι s.h w.heap) (t:TypeId) {x x' i i':Value} (hx:VR ι x x') (hi:VR ι i i') :
  d8 G P ι s w (kj C t x i) (Instr.index t x' i'):=by
 intro v s' h _
 unfold kj at h
 cases hn:cZ i with
 |none=>rw[hn] at h;exact(aa h).elim
 |some n =>
  obtain⟨k,rfl⟩:=nQ hi hn
  cases hd:C.und t with
  |none=>rw[hn,hd] at h;exact(aa h).elim
  |some d =>
   rw[hn,hd] at h
   simp only at h
   have hun:=ok.runUnd hd w
   cases d with
   |array len e =>
    cases x with
    |agg cs =>
     cases hx with
     |agg _ cs' ha ra =>
      simp only at h
      cases hs:C.size e with
      |none=>rw[hs] at h;exact(aa h).elim
      |some sz =>
       cases hl:Nat.blt n len with
       |false=>rw[hs,hl] at h;exact(aa h).elim
       |true =>
        rw[hs,hl] at h
        simp only at h
        obtain⟨hp,rfl⟩:=aI h
        have hlt:=eh.1 hl
        obtain⟨v',h1,h2⟩:=rf (P:=P) (w:=w) ok ⟨ha,ra⟩ hp
        refine⟨v',w,ι,?_,h2,aM.refl hr rfl rfl⟩
        unfold Instr.index
        simp only[asIntOf,Sem.run_bind,Sem.run_pure,hun,Result.andThen_ok]
        rw[if_pos (by omega)]
        simp only[Sem.run_bind,ok.size hs,Result.andThen_ok,Int.toNat_natCast,h1]
    |_=>exact(aa h).elim
   |string =>
    cases x with
    |string st =>
     cases hx with
     |string =>
      simp only at h
      cases hb:cu st.data.toList n with
      |none=>rw[hb] at h;exact(aa h).elim
      |some b =>
       rw[hb] at h
       simp only at h
       obtain⟨rfl,rfl⟩:=ak h
       refine⟨.int .u8 b.toNat,w,ι,?_,.int _ _,aM.refl hr rfl rfl⟩
       rw[b8,Array.getElem?_toList] at hb
       have hb':(if(0:Int)<=(n:Int) then st[(n:Int).toNat]? else none)=some b:=by
        rw[if_pos (by omega),Int.toNat_natCast]
        have hlt:n<st.data.size:=by
         rcases Nat.lt_or_ge n st.data.size with hh|hh
         ·exact hh
         ·rw[Array.getElem?_eq_none hh] at hb;cases hb
        rw[getElem?_pos st n hlt]
        rw[Array.getElem?_eq_getElem hlt] at hb
        exact hb
       unfold Instr.index
       simp only[asIntOf,Sem.run_bind,Sem.run_pure,hun,Result.andThen_ok,hb']
    |_=>exact(aa h).elim
   |_=>exact(aa h).elim
end ops
end Go.Ab
end
section
namespace Go.Ab
theorem xv (a b:ByteArray):(a==b)=(a.data.toList==b.data.toList):=by
 obtain⟨⟨l⟩⟩:=a
 obtain⟨⟨m⟩⟩:=b
 have:((ByteArray.mk ⟨l⟩==ByteArray.mk ⟨m⟩):Bool)=((Array.mk l)==(Array.mk m)):=rfl
 rw[this]
 simp
section ops
variable {G:Nat}{C:aS}{eg:TypeId->Bool}{P:Program}{ι:aD}{s:St}{w:World}
def jW:TypeDesc->Bool
 |.int _|.string|.bool=>true
 |_=>false
theorem kg {t:TypeId}{d:TypeDesc} (h:gy C t=some d):C.und t=some d/\jW d=true:=by
 unfold gy at h
 cases hd:C.und t with
 |none=>simp [hd] at h
 |some u=>cases u<;>simp [hd] at h<;>subst h<;>exact⟨rfl,rfl⟩
theorem CX {d:TypeDesc}{k j:Value}{r:Bool} (hd:jW d=true) (hf:pi d k=true) (h:ny k j=some r):Instr.sameNow d k j=some r:=by
 cases d<;>simp [jW] at hd<;>cases k<;>simp [pi] at hf<;>cases j<;>simp [ny] at h
 ·rename_i a b
  simp [Instr.sameNow,h]
 ·rename_i kk a b c d'
  by_cases e:a=c
  ·subst e
   simp at h
   simp [Instr.sameNow,<- h]
   rfl
  ·simp [e] at h
 ·rename_i a b
  simp only[Instr.sameNow,xv]
  rw[kT] at h
  rw[<- h]
theorem AG {k j:Value} (h:ny k j=some true):j=k/\∀n,Instr.sameBits n j k=true:=by
 unfold ny at h
 split at h
 ·rename_i a b c d
  by_cases e:a=c
  ·subst e
   simp at h
   subst h
   exact⟨rfl,fun n=>by cases n<;>simp [Instr.sameBits]⟩
  ·simp [e] at h
 ·rename_i a b
  simp only[Option.some.injEq] at h
  rw[kT,<- xv] at h
  have h':a.data.toList==b.data.toList:=by rw[<- xv];exact h
  have e:a=b:=by
   obtain⟨⟨l⟩⟩:=a
   obtain⟨⟨m⟩⟩:=b
   simp at h'
   rw[h']
  subst e
  exact⟨rfl,fun n=>by cases n<;>simp [Instr.sameBits,h]⟩
 ·rename_i a b
  simp at h
  subst h
  exact⟨rfl,fun n=>by cases n<;>simp [Instr.sameBits]⟩
 ·cases h
theorem vR {d:TypeDesc}{k:Value} (hd:jW d=true) (hf:pi d k=true):∀(es:List (Value×Value×Nat)) (es':List MapEntry) (i:Nat) (r:Option (Nat×Value)),
  es.length=es'.length->(∀(i:Nat) e e',es[i]?=some e->es'[i]?=some e'->ER ι e e')->lF k es i=some r ->
  ∃r',Instr.findNow d k es' i=some r'/\(match r,r' with|none,none=>True|some (a,x),some (b,y)=>a=b/\VR ι x y/\i<=a/\∃e,es[a - i]?=some e/\ny k e.1=some true|_,_=>False):=by
 intro es
 induction es with
 |nil =>
  intro es' i r hl _ h
  cases es' with
  |nil=>cases h;exact⟨none,rfl,trivial⟩
  |cons _ _=>simp at hl
 |cons e es ih =>
  intro es' i r hl he h
  cases es' with
  |nil=>simp at hl
  |cons e' es' =>
   have h0:=he 0 e e' rfl rfl
   obtain⟨j,v,b⟩:=e
   simp only[lF] at h
   have hk:e'.key=j:=h0.1
   cases hq:ny k j with
   |none=>simp [hq] at h
   |some q =>
    have hs:=CX hd hf hq
    simp only[hq] at h
    cases q with
    |true =>
     simp only[Option.some.injEq] at h
     subst h
     exact⟨some (i,e'.val),by simp [Instr.findNow,hk,hs],rfl,h0.2.2.1,Nat.le_refl _,(j,v,b),by simp,hq⟩
    |false =>
     simp only at h
     obtain⟨r',h1,h2⟩:=ih es' (i+1) r (by simpa using hl) (fun i a b ha hb=>he (i+1) a b (by simpa using ha) (by simpa using hb)) h
     refine⟨r',by simp [Instr.findNow,hk,hs,h1],?_⟩
     cases r with
     |none=>cases r' with
      |none=>trivial
      |some _=>exact h2
     |some p=>cases r' with
      |none=>exact h2
      |some p' =>
       obtain⟨a,b,c,e,d1,d2⟩:=h2
       refine⟨a,b,by omega,e,?_,d2⟩
       rw[show p.1 - i=(p.1 - (i+1))+1 by omega,List.getElem?_cons_succ];exact d1
theorem dR {kt:TypeId}{d:TypeDesc} (hu:P.underlying kt=some d) (hd:jW d=true) (e:Bool) (n:Nat) (v:Value):(Instr.checkKey e (n+1) kt v).run P w=.ok () w:=by
 unfold Instr.checkKey
 simp only[Sem.run_bind,runUnd hu,Result.andThen_ok]
 cases d<;>simp [jW] at hd<;>rfl
theorem eO {kt:TypeId}{d:TypeDesc} (hu:P.underlying kt=some d) {k:Value}{es:List MapEntry}{r:Option (Nat×Value)} (h:Instr.findNow d k es 0=some r) :
  (Instr.findKey kt k es).run P w=.ok r w:=by
 unfold Instr.findKey
 simp only[Sem.run_bind,runUnd hu,Result.andThen_ok,h]
 rfl
theorem wz {d:TypeDesc}{k k':Value} (hk:VR ι k k') (hf:pi d k=true):k'=k/\H0 k=true:=by
 cases hk<;>first|exact⟨rfl,rfl⟩|(cases d<;>simp [pi] at hf)
theorem dq {r:Nat}{es:Array MapEntry}{c:Nat} (h:w.heap[r]?=some (.map es c)):(getObj r).run P w=.ok (.map es c) w:=by
 simp [getObj,Sem.run,h]
theorem HR.map (h:HR G ι s.h w.heap) {b:Nat}{es:List (Value×Value×Nat)}{c:Nat} (hb:s.h.get b=some (.map es c)) :
  ∃L es',ι b=some L/\w.heap[L.blk]?=some (.map es' c)/\es.length=es'.size/\∀(i:Nat) e e',es[i]?=some e->es'[i]?=some e'->ER ι e e':=by
 obtain⟨L,a,es',d,e,f⟩:=h.obj _ _ hb;exact⟨L,es',a,d,e,f⟩
theorem zh {z z':Value} (cok b:Bool) (h:VR ι z z'):VR ι (match cok with|true=>Value.tuple #[z,.bool b]|false=>z) (if cok then Value.tuple #[z',.bool b] else z'):=by
 cases cok with
 |true=>exact .tuple _ _ rfl (bS.cons h (bS.cons (.bool b) (bS.nil ι))).2
 |false=>exact h
theorem AS (ok:C.Ok eg P) (hr:HR G ι s.h w.heap) (t:TypeId) {m m' k k':Value} (cok:Bool) (hm:VR ι m m') (hk:VR ι k k') :
  d8 G P ι s w (iy C t m k cok) (Instr.lookup t m' k' cok):=by
 intro v s' h _
 unfold iy at h
 cases hd:C.und t with
 |none=>rw[hd] at h;exact(aa h).elim
 |some d =>
  rw[hd] at h
  cases d with
  |map kt et =>
   simp only at h
   cases hkk:gy C kt with
   |none=>rw[hkk] at h;exact(aa h).elim
   |some d =>
    obtain⟨hku,hpl⟩:=kg hkk
    rw[hkk] at h
    simp only at h
    cases hf:pi d k with
    |false=>rw[hf] at h;exact(aa h).elim
    |true =>
     rw[hf] at h
     obtain⟨rfl,hkey⟩:=wz hk hf
     simp only at h
     have hun:=ok.runUnd hd w
     have hku':=ok.und hku
     cases m with
     |map r =>
      cases r with
      |none =>
       cases hm with
       |nilMap =>
        simp only at h
        obtain⟨z,s1,h1,h2⟩:=bind_some h
        obtain⟨hz,rfl⟩:=aI h1
        obtain⟨rfl,rfl⟩:=ak h2
        refine⟨_,w,ι,?_,zh cok false (ok.zeroFlat hz ι),aM.refl hr rfl rfl⟩
        unfold Instr.lookup
        simp only[Sem.run_bind,hun,Result.andThen_ok,Sem.run_pure,dR hku' hpl]
        rw[eO (r:=none) hku' (by rfl)]
        simp only[Result.andThen_ok,Sem.run_bind,ok.zero hz,Sem.run_pure]
      |some r =>
       cases hm with
       |map _ L hL =>
        simp only at h
        obtain⟨⟨es,c⟩,s1,h1,h2⟩:=bind_some h
        obtain⟨hb,_,rfl⟩:=gK h1
        simp only at hb h2
        obtain⟨L',es',hL',hH,hl,he⟩:=hr.map hb
        rw[hL] at hL';cases hL'
        cases hfi:lF k' es 0 with
        |none=>rw[hfi] at h2;exact(aa h2).elim
        |some q =>
         rw[hfi] at h2
         obtain⟨q',hq1,hq2⟩:=vR hpl hf es es'.toList 0 q (by simpa using hl) (fun i a b ha hb=>he i a b ha (by simpa using hb)) hfi
         cases q with
         |none =>
          cases q' with
          |some _=>exact hq2.elim
          |none =>
           simp only at h2
           obtain⟨z,s2,h3,h4⟩:=bind_some h2
           obtain⟨hz,rfl⟩:=aI h3
           obtain⟨rfl,rfl⟩:=ak h4
           refine⟨_,w,ι,?_,zh cok false (ok.zeroFlat hz ι),aM.refl hr rfl rfl⟩
           unfold Instr.lookup
           simp only[Sem.run_bind,hun,Result.andThen_ok,Sem.run_pure,dq hH,dR hku' hpl]
           rw[eO hku' hq1]
           simp only[Result.andThen_ok,Sem.run_bind,ok.zero hz,Sem.run_pure]
         |some q =>
          cases q' with
          |none=>exact hq2.elim
          |some q' =>
           obtain⟨a,x⟩:=q
           obtain⟨b,y⟩:=q'
           obtain⟨rfl,hxy,_⟩:=hq2
           simp only at h2
           obtain⟨rfl,rfl⟩:=ak h2
           refine⟨if cok then .tuple #[y,.bool true] else y,w,ι,?_,?_,aM.refl hr rfl rfl⟩
           ·unfold Instr.lookup
            simp only[Sem.run_bind,hun,Result.andThen_ok,Sem.run_pure,dq hH,dR hku' hpl]
            rw[eO hku' hq1]
            simp only[Result.andThen_ok,Sem.run_bind,Sem.run_pure]
           ·exact zh cok true hxy
     |_=>exact(aa h).elim
  |_=>exact(aa h).elim
theorem zf (k v:Value):∀(es:List (Value×Value×Nat)) (i:Nat),(lf k v es i).length=es.length/\∀j:Nat,(lf k v es i)[j]?=if j=i then(es[j]?).map fun e=>(k,v,e.2.2) else es[j]?:=by
 intro es
 induction es with
 |nil=>intro i;exact⟨rfl,fun j=>by simp [lf]⟩
 |cons e es ih =>
  intro i
  obtain⟨a,b,c⟩:=e
  cases i with
  |zero=>exact⟨rfl,fun j=>by cases j<;>simp [lf]⟩
  |succ i =>
   obtain⟨h1,h2⟩:=ih i
   refine⟨by simp [lf,h1],fun j=>?_⟩
   cases j with
   |zero=>simp [lf]
   |succ j=>simp [lf,h2 j]
theorem mR:∀(es:List (Value×Value×Nat)) (i:Nat),rK es i=es.eraseIdx i:=by
 intro es
 induction es with
 |nil=>intro i;rfl
 |cons e es ih =>
  intro i
  cases i with
  |zero=>rfl
  |succ i=>simp [rK,ih i]
theorem kI {r:Nat}{o o':Obj} (h:w.heap[r]?=some o) (hc:∀c t fr,o≠.cells c t fr):(setObj r o').run P w=.ok () {w with heap:=w.heap.setIfInBounds r o'}:=by
 cases o<;>first|exact absurd rfl (hc _ _ _)|simp [setObj,Sem.run,h]
theorem aM.map (hr:HR G ι s.h w.heap) {r:Nat}{es:List (Value×Value×Nat)}{c:Nat}{es':Array MapEntry}{L:Loc}{fs:List (Value×Value×Nat)}{c':Nat}{fs':Array MapEntry}{s':St}
  (hb:s.h.get r=some (.map es c)) (hL:ι r=some L) (hH:w.heap[L.blk]?=some (.map es' c))
  (hs:s'.h=s.h.set r (some (.map fs c'))) (hc:s'.c=s.c) (hl:fs.length=fs'.size) (he:∀(i:Nat) e e',fs[i]?=some e->fs'[i]?=some e'->ER ι e e') :
  aM G ι ι s s' w {w with heap:=w.heap.setIfInBounds L.blk (.map fs' c')}:=by
 have hlt:L.blk<w.heap.size:=by
  rcases Nat.lt_or_ge L.blk w.heap.size with hh|hh
  ·exact hh
  ·rw[Array.getElem?_eq_none hh] at hH;cases hH
 refine aM.put hr hb rfl hL hs hc ⟨fs',?_,hl,he⟩ ?_ (by simp) rfl rfl rfl
 ·show (w.heap.setIfInBounds L.blk _)[L.blk]?=_
  simp [hlt]
 ·intro k hk
  show (w.heap.setIfInBounds L.blk _)[k]?=_
  rw[Array.getElem?_setIfInBounds_ne (by omega)]
theorem nh (ok:C.Ok eg P) (hr:HR G ι s.h w.heap) (t:TypeId) {m m' k k' x x':Value} (hm:VR ι m m') (hk:VR ι k k') (hx:VR ι x x') :
  d8 G P ι s w (eQ C t m k x) (do Instr.mapUpdate t m' k' x';pure undef):=by
 intro v s' h _
 unfold eQ at h
 cases hd:C.und t with
 |none=>rw[hd] at h;exact(aa h).elim
 |some d =>
  rw[hd] at h
  cases d with
  |map kt et =>
   simp only at h
   cases hkk:gy C kt with
   |none=>rw[hkk] at h;exact(aa h).elim
   |some d =>
    obtain⟨hku,hpl⟩:=kg hkk
    rw[hkk] at h
    simp only at h
    cases hf:pi d k with
    |false=>rw[hf] at h;exact(aa h).elim
    |true =>
     rw[hf] at h
     obtain⟨rfl,hkey⟩:=wz hk hf
     simp only at h
     have hun:=ok.runUnd hd w
     have hku':=ok.und hku
     cases m with
     |map r =>
      cases r with
      |none=>exact(aa h).elim
      |some r =>
       cases hm with
       |map _ L hL =>
        simp only at h
        obtain⟨⟨es,c⟩,s1,h1,h2⟩:=bind_some h
        obtain⟨hb,_,rfl⟩:=gK h1
        simp only at hb h2
        obtain⟨L',es',hL',hH,hl,he⟩:=hr.map hb
        rw[hL] at hL';cases hL'
        cases hfi:lF k' es 0 with
        |none=>rw[hfi] at h2;exact(aa h2).elim
        |some q =>
         rw[hfi] at h2
         obtain⟨q',hq1,hq2⟩:=vR hpl hf es es'.toList 0 q (by simpa using hl) (fun i a b ha hb=>he i a b ha (by simpa using hb)) hfi
         cases q with
         |none =>
          cases q' with
          |some _=>exact hq2.elim
          |none =>
           simp only[b4] at h2
           obtain⟨⟨⟩,s2,h3,h4⟩:=bind_some h2
           obtain⟨_,_,rfl⟩:=dI h3
           obtain⟨rfl,rfl⟩:=ak h4
           refine⟨undef,_,ι,?_,dK ι 1 _ rfl,aM.map (s':=⟨_,_,_,_⟩) (fs':=es'.push {key:=k',val:=x',born:=c}) hr hb hL hH rfl rfl ?_ ?_⟩
           ·unfold Instr.mapUpdate
            simp only[Sem.run_bind,hun,Result.andThen_ok,dq hH,dR hku' hpl]
            rw[eO hku' hq1]
            simp only[Result.andThen_ok]
            rw[kI hH (by intro _ _ _ hh;cases hh)]
            rfl
           ·simp [cP,hl]
           ·intro i e e' a b
            rw[cP] at a
            by_cases hi:i<es.length
            ·rw[List.getElem?_append_left hi] at a
             rw[Array.getElem?_push,if_neg (by omega)] at b
             exact he i e e' a b
            ·rw[List.getElem?_append_right (by omega)] at a
             have:i=es.length:=by
              rcases Nat.lt_or_ge (i - es.length) 1 with hh|hh
              ·omega
              ·rw[List.getElem?_eq_none (by simpa using hh)] at a;cases a
             subst this
             rw[Array.getElem?_push,if_pos hl] at b
             simp at a b
             subst a b
             exact⟨rfl,hkey,hx,rfl⟩
         |some q =>
          cases q' with
          |none=>exact hq2.elim
          |some q' =>
           obtain⟨a,y⟩:=q
           obtain⟨b,y'⟩:=q'
           obtain⟨rfl,hxy,_,e0,he0,hk0⟩:=hq2
           rw[Nat.sub_zero] at he0
           obtain⟨hke,hsb⟩:=AG hk0
           have hlt:a<es.length:=by
            rcases Nat.lt_or_ge a es.length with hh|hh
            ·exact hh
            ·rw[List.getElem?_eq_none hh] at he0;cases he0
           have hlt':a<es'.size:=by omega
           simp only[b4] at h2
           obtain⟨⟨⟩,s2,h3,h4⟩:=bind_some h2
           obtain⟨_,_,rfl⟩:=dI h3
           obtain⟨rfl,rfl⟩:=ak h4
           have hgold:es'[a]?=some es'[a]:=Array.getElem?_eq_getElem hlt'
           have her:=he a e0 es'[a] he0 hgold
           refine⟨undef,_,ι,?_,dK ι 1 _ rfl,aM.map (s':=⟨_,_,_,_⟩) (fs':=es'.modify a fun e=>{e with key:=k',val:=x'}) hr hb hL hH rfl rfl ?_ ?_⟩
           ·unfold Instr.mapUpdate
            simp only[Sem.run_bind,hun,Result.andThen_ok,dq hH,dR hku' hpl]
            rw[eO hku' hq1]
            have hold:((es'[a]?).map (·.key)).getD k'=k':=by rw[hgold];show es'[a].key=k';rw[her.1,hke]
            have hstay:(Instr.keyThatStays (((es'[a]?).map (·.key)).getD k') k').run P w=.ok k' w:=by
             rw[hold]
             unfold Instr.keyThatStays
             rw[if_pos (by rw[hke] at hsb;exact hsb 10000)];rfl
            simp only[Result.andThen_ok,Sem.run_bind,hstay]
            rw[kI hH (by intro _ _ _ hh;cases hh)]
            rfl
           ·simp [(zf k' x es a).1,hl]
           ·intro i e e' ha hb'
            rw[(zf k' x es a).2 i] at ha
            rw[Array.getElem?_modify] at hb'
            by_cases hi:i=a
            ·subst hi
             rw[if_pos rfl,he0] at ha
             rw[if_pos rfl,hgold] at hb'
             simp at ha hb'
             subst ha hb'
             exact⟨rfl,hkey,hx,her.2.2.2⟩
            ·rw[if_neg hi] at ha
             rw[if_neg (by omega)] at hb'
             exact he i e e' ha hb'
     |_=>exact(aa h).elim
  |_=>exact(aa h).elim
theorem Bg (ok:C.Ok eg P) (hr:HR G ι s.h w.heap) (t ty:TypeId) (ts:Array TypeId) (hts:ts[0]?=some t) {m m' k k':Value} (hm:VR ι m m') (hk:VR ι k k') :
  d8 G P ι s w (iC C t m k) (Builtin.delete_ ts ty #[m',k']):=by
 intro v s' h _
 unfold iC at h
 cases hd:C.und t with
 |none=>rw[hd] at h;exact(aa h).elim
 |some d =>
  rw[hd] at h
  cases d with
  |map kt et =>
   simp only at h
   cases hkk:gy C kt with
   |none=>rw[hkk] at h;exact(aa h).elim
   |some d =>
    obtain⟨hku,hpl⟩:=kg hkk
    rw[hkk] at h
    simp only at h
    cases hf:pi d k with
    |false=>rw[hf] at h;exact(aa h).elim
    |true =>
     rw[hf] at h
     obtain⟨rfl,hkey⟩:=wz hk hf
     simp only at h
     have hun:=ok.runUnd hd w
     have hku':=ok.und hku
     have h0:(#[m',k']:Array Value)[0]?=some m':=rfl
     have h1':(#[m',k']:Array Value)[1]?=some k':=rfl
     cases m with
     |map r =>
      cases r with
      |none =>
       cases hm with
       |nilMap =>
        obtain⟨rfl,rfl⟩:=ak h
        refine⟨.tuple #[],w,ι,?_,dK ι 1 _ rfl,aM.refl hr rfl rfl⟩
        unfold Builtin.delete_
        simp only[hts,h0,h1',Sem.run_bind,hun,Result.andThen_ok,dR hku' hpl,Sem.run_pure]
      |some r =>
       cases hm with
       |map _ L hL =>
        simp only at h
        obtain⟨⟨es,c⟩,s1,h1,h2⟩:=bind_some h
        obtain⟨hb,_,rfl⟩:=gK h1
        simp only at hb h2
        obtain⟨L',es',hL',hH,hl,he⟩:=hr.map hb
        rw[hL] at hL';cases hL'
        cases hfi:lF k' es 0 with
        |none=>rw[hfi] at h2;exact(aa h2).elim
        |some q =>
         rw[hfi] at h2
         obtain⟨q',hq1,hq2⟩:=vR hpl hf es es'.toList 0 q (by simpa using hl) (fun i a b ha hb=>he i a b ha (by simpa using hb)) hfi
         cases q with
         |none =>
          cases q' with
          |some _=>exact hq2.elim
          |none =>
           simp only at h2
           obtain⟨⟨⟩,s2,h3,h4⟩:=bind_some h2
           obtain⟨_,_,rfl⟩:=dI h3
           obtain⟨rfl,rfl⟩:=ak h4
           refine⟨.tuple #[],_,ι,?_,dK ι 1 _ rfl,aM.map (s':=⟨_,_,_,_⟩) (fs':=es') hr hb hL hH rfl rfl hl he⟩
           unfold Builtin.delete_
           simp only[hts,h0,h1',Sem.run_bind,hun,Result.andThen_ok,dq hH,dR hku' hpl]
           rw[eO hku' hq1]
           simp only[Result.andThen_ok,Sem.run_bind]
           rw[kI hH (by intro _ _ _ hh;cases hh)]
           rfl
         |some q =>
          cases q' with
          |none=>exact hq2.elim
          |some q' =>
           obtain⟨a,y⟩:=q
           obtain⟨b,y'⟩:=q'
           obtain⟨rfl,hxy,_,e0,he0,hk0⟩:=hq2
           rw[Nat.sub_zero] at he0
           have hlt:a<es.length:=by
            rcases Nat.lt_or_ge a es.length with hh|hh
            ·exact hh
            ·rw[List.getElem?_eq_none hh] at he0;cases he0
           simp only[b4] at h2
           obtain⟨⟨⟩,s2,h3,h4⟩:=bind_some h2
           obtain⟨_,_,rfl⟩:=dI h3
           obtain⟨rfl,rfl⟩:=ak h4
           refine⟨.tuple #[],_,ι,?_,dK ι 1 _ rfl,aM.map (s':=⟨_,_,_,_⟩) (fs':=es'.eraseIdxIfInBounds a) hr hb hL hH rfl rfl ?_ ?_⟩
           ·unfold Builtin.delete_
            simp only[hts,h0,h1',Sem.run_bind,hun,Result.andThen_ok,dq hH,dR hku' hpl]
            rw[eO hku' hq1]
            simp only[Result.andThen_ok,Sem.run_bind]
            rw[kI hH (by intro _ _ _ hh;cases hh)]
            rfl
           ·rw[mR,List.length_eraseIdx,if_pos hlt]
            have hq:(es'.eraseIdxIfInBounds a).toList.length=es'.toList.length - 1:=by
             rw[Array.toList_eraseIdxIfInBounds,List.length_eraseIdx,if_pos (by simp only[Array.length_toList];omega)]
            simp only[Array.length_toList] at hq
            omega
           ·intro i e e' ha hb'
            rw[mR,List.getElem?_eraseIdx] at ha
            have hb'':(es'.toList.eraseIdx a)[i]?=some e':=by
             rw[<- hb',<- Array.getElem?_toList,Array.toList_eraseIdxIfInBounds]
            rw[List.getElem?_eraseIdx] at hb''
            by_cases hi:i<a
            ·rw[if_pos hi] at ha hb''
             exact he i e e' ha (by simpa using hb'')
            ·rw[if_neg hi] at ha hb''
             exact he (i+1) e e' ha (by simpa using hb'')
     |_=>exact(aa h).elim
  |_=>exact(aa h).elim
theorem Hr (ok:C.Ok eg P) (hr:HR G ι s.h w.heap) (t ty:TypeId) (ts:Array TypeId) (hts:ts[0]?=some t) {x x':Value} (hx:VR ι x x') :
  d8 G P ι s w (rP C t x) (Builtin.len_ ts ty #[x']):=by
 intro v s' h _
 unfold rP at h
 have h0:(#[x']:Array Value)[0]?=some x':=rfl
 cases hd:C.und t with
 |none=>rw[hd] at h;exact(aa h).elim
 |some d =>
  rw[hd] at h
  simp only at h
  have hun:=ok.runUnd hd w
  have fin:∀n:Nat,(Builtin.len_ ts ty #[x']).run P w=.ok (goInt n) w->M.ret (qT .i64 n) s=some (v,s') ->
    ∃v' w' ι',(Builtin.len_ ts ty #[x']).run P w=.ok v' w'/\VR ι' v v'/\aM G ι ι' s s' w w':=by
   intro n hn hh
   obtain⟨rfl,rfl⟩:=ak hh
   exact⟨_,w,ι,hn,.int _ _,aM.refl hr rfl rfl⟩
  cases d with
  |string =>
   cases x with
   |string st =>
    cases hx with
    |string =>
     refine fin _ ?_ h
     unfold Builtin.len_
     simp only[hts,h0,Sem.run_bind,hun,Result.andThen_ok,Sem.run_pure]
   |_=>exact(aa h).elim
  |array n e =>
   refine fin _ ?_ h
   unfold Builtin.len_
   simp only[hts,h0,Sem.run_bind,hun,Result.andThen_ok,Sem.run_pure]
  |slice e =>
   cases x with
   |slice a n c =>
    have hx':∃a' c',x'=.slice a' n c':=by
     cases hx with
     |nilSlice=>exact⟨_,_,rfl⟩
     |sliceX=>exact⟨_,_,rfl⟩
     |sliceI=>exact⟨_,_,rfl⟩
     |sliceZ=>exact⟨_,_,rfl⟩
    obtain⟨a',c',rfl⟩:=hx'
    refine fin _ ?_ h
    unfold Builtin.len_
    simp only[hts,h0,Sem.run_bind,hun,Result.andThen_ok,Sem.run_pure]
   |_=>exact(aa h).elim
  |map kt et =>
   cases x with
   |map r =>
    cases r with
    |none =>
     cases hx with
     |nilMap =>
      refine fin 0 ?_ h
      unfold Builtin.len_
      simp only[hts,h0,Sem.run_bind,hun,Result.andThen_ok,Sem.run_pure];rfl
    |some r =>
     cases hx with
     |map _ L hL =>
      simp only at h
      obtain⟨⟨es,c⟩,s1,h1,h2⟩:=bind_some h
      obtain⟨hb,_,rfl⟩:=gK h1
      simp only at hb h2
      obtain⟨L',es',hL',hH,hl,he⟩:=hr.map hb
      rw[hL] at hL';cases hL'
      obtain⟨rfl,rfl⟩:=ak h2
      refine⟨goInt es'.size,w,ι,?_,?_,aM.refl hr rfl rfl⟩
      ·unfold Builtin.len_
       simp only[hts,h0,Sem.run_bind,hun,Result.andThen_ok,dq hH,Sem.run_pure]
      ·rw[eD,hl];exact .int _ _
   |_=>exact(aa h).elim
  |_=>exact(aa h).elim
theorem Hu (ok:C.Ok eg P) (hr:HR G ι s.h w.heap) (t ty:TypeId) (ts:Array TypeId) (hts:ts[0]?=some t) {x x':Value} (hx:VR ι x x') :
  d8 G P ι s w (nP C t x) (Builtin.cap_ ts ty #[x']):=by
 intro v s' h _
 unfold nP at h
 have h0:(#[x']:Array Value)[0]?=some x':=rfl
 cases hd:C.und t with
 |none=>rw[hd] at h;exact(aa h).elim
 |some d =>
  rw[hd] at h
  simp only at h
  have hun:=ok.runUnd hd w
  cases d with
  |array n e =>
   obtain⟨rfl,rfl⟩:=ak h
   refine⟨goInt n,w,ι,?_,.int _ _,aM.refl hr rfl rfl⟩
   unfold Builtin.cap_
   simp only[hts,h0,Sem.run_bind,hun,Result.andThen_ok,Sem.run_pure]
  |slice e =>
   cases x with
   |slice a n c =>
    cases a with
    |none =>
     cases hx with
     |nilSlice =>
      obtain⟨rfl,rfl⟩:=ak h
      refine⟨goInt c,w,ι,?_,.int _ _,aM.refl hr rfl rfl⟩
      unfold Builtin.cap_
      simp only[hts,h0,Sem.run_bind,hun,Result.andThen_ok,Sem.run_pure]
    |some a =>
     obtain⟨b,o,sp⟩:=a
     cases sp with
     |some q =>
      cases hx with
      |sliceI _ _ _ _ _ c' L hL hc hs =>
       obtain⟨rfl,rfl⟩:=ak h
       refine⟨goInt c',w,ι,?_,.least _ _ hc,aM.refl hr rfl rfl⟩
       unfold Builtin.cap_
       simp only[hts,h0,Sem.run_bind,hun,Result.andThen_ok,Sem.run_pure]
      |sliceZ _ _ _ a =>
       obtain⟨rfl,rfl⟩:=ak h
       refine⟨goInt ((0:Nat):Int),w,ι,?_,.least _ _ (Nat.le_refl _),aM.refl hr rfl rfl⟩
       unfold Builtin.cap_
       simp only[hts,h0,Sem.run_bind,hun,Result.andThen_ok,Sem.run_pure]
     |none =>
      cases hx with
      |sliceX _ _ _ _ L hL =>
       obtain⟨rfl,rfl⟩:=ak h
       refine⟨goInt c,w,ι,?_,.int _ _,aM.refl hr rfl rfl⟩
       unfold Builtin.cap_
       simp only[hts,h0,Sem.run_bind,hun,Result.andThen_ok,Sem.run_pure]
   |_=>exact(aa h).elim
  |_=>exact(aa h).elim
end ops
end Go.Ab
end
