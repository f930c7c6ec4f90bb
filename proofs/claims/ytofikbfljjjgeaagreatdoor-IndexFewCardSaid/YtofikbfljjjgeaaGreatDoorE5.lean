import Derived.Test.YtofikbfljjjgeaaGreatDoorE4
import Derived.Laws.Tables
set_option linter.unusedVariables false
set_option linter.unusedSimpArgs false
namespace Go.Ab
def Iw (ι:aD) (l l':List (Nat×Value)):Prop:=l.length=l'.length/\∀(i:Nat) p p',l[i]?=some p->l'[i]?=some p'->p.1=p'.1/\VR ι p.2 p'.2
theorem Iw.cons_inv {ι:aD}{p:Nat×Value}{l m:List (Nat×Value)} (t:Iw ι (p::l) m):∃p' l',m=p'::l'/\p.1=p'.1/\VR ι p.2 p'.2/\Iw ι l l':=by
 cases m with
 |nil=>exact absurd t.1 (by simp)
 |cons p' l' =>
  have h0:=t.2 0 p p' rfl rfl
  exact⟨p',l',rfl,h0.1,h0.2,by have:=t.1;simpa using this,fun i a b ha hb=>t.2 (i+1) a b (by simpa using ha) (by simpa using hb)⟩
theorem tM (off:Nat):∀(l:List Value) (n:Nat) (cells:Array Value) (i:Nat),off+n+l.length<=cells.size ->
  ((l.zipIdx n).foldl (fun cs (x:Value×Nat)=>cs.setIfInBounds (off+x.2) x.1) cells)[i]?=(if off+n<=i/\i<off+n+l.length then l[i - (off+n)]? else cells[i]?) /\
  ((l.zipIdx n).foldl (fun cs (x:Value×Nat)=>cs.setIfInBounds (off+x.2) x.1) cells).size=cells.size:=by
 intro l
 induction l with
 |nil=>intro n cells i _;exact⟨by rw[if_neg (by simp only[List.length_nil];omega)];rfl,rfl⟩
 |cons c l ih =>
  intro n cells i h
  simp only[List.length_cons] at h
  simp only[List.zipIdx_cons,List.foldl_cons]
  obtain⟨h1,h2⟩:=ih (n+1) (cells.setIfInBounds (off+n) c) i (by simp;omega)
  refine⟨?_,by rw[h2];simp⟩
  rw[h1]
  by_cases a:off+(n+1)<=i/\i<off+(n+1)+l.length
  ·rw[if_pos a,if_pos (by simp only[List.length_cons];omega),show i - (off+n)=(i - (off+(n+1)))+1 by omega,List.getElem?_cons_succ]
  ·rw[if_neg a]
   by_cases e:i=off+n
   ·subst e
    rw[if_pos (by simp only[List.length_cons];omega),Nat.sub_self]
    have:off+n<cells.size:=by omega
    simp [this]
   ·rw[if_neg (by simp only[List.length_cons];omega),Array.getElem?_setIfInBounds_ne (by omega)]
theorem vX {ι:aD}{place:Nat->Option (Nat×Nat)}:∀(parts:List (Nat×Value)) (cells r:List Value) (parts':List (Nat×Value)) (cells':Array Value),
  j4 place cells parts=some r->Iw ι parts parts'->bS ι cells cells'.toList->∃r',Instr.fill place cells' parts'=some r'/\bS ι r r'.toList:=by
 intro parts
 induction parts with
 |nil =>
  intro cells r parts' cells' h hp hc
  have:parts'=[]:=by cases parts' with|nil=>rfl|cons _ _=>exact absurd hp.1 (by simp)
  subst this
  cases h
  exact⟨cells',rfl,hc⟩
 |cons p parts ih =>
  intro cells r parts' cells' h hp hc
  obtain⟨p',l',rfl,e1,hv,hp'⟩:=hp.cons_inv
  obtain⟨i,v⟩:=p
  obtain⟨i',v'⟩:=p'
  simp only at e1 hv
  subst e1
  simp only[j4] at h
  cases hpl:place i with
  |none=>simp [hpl] at h
  |some q =>
   obtain⟨off,size⟩:=q
   simp only[hpl] at h
   cases hcs:ba v with
   |none=>simp [hcs] at h
   |some cs =>
    simp only[hcs] at h
    cases hb:Nat.beq (len cs) size with
    |false=>simp [hb] at h
    |true =>
     cases hm:bw cs cells off with
     |none=>simp [hb,hm] at h
     |some q =>
      simp only[hb,hm] at h
      have hlen:=aL.1 hb
      rw[eD] at hlen
      obtain⟨m1,m2,_,m4⟩:=oC cs cells off q hm
      have hcv:=gt hv hcs
      have hsz:v'.cells.size=size:=by rw[<- Array.length_toList,<- hcv.1];exact hlen
      have hle:off+v'.cells.size<=cells'.size:=by rw[hsz,<- hlen,<- Array.length_toList,<- hc.1];exact m2
      have hfold:(v'.cells.zipIdx.foldl (fun cs (x:Value×Nat)=>cs.setIfInBounds (off+x.2) x.1) cells')=(v'.cells.toList.zipIdx 0).foldl (fun cs (x:Value×Nat)=>cs.setIfInBounds (off+x.2) x.1) cells':=by
       rw[<- Array.foldl_toList,Array.toList_zipIdx]
      have hg:=fun j=>tM off v'.cells.toList 0 cells' j (by simpa using hle)
      have hnew:bS ι q (v'.cells.zipIdx.foldl (fun cs (x:Value×Nat)=>cs.setIfInBounds (off+x.2) x.1) cells').toList:=by
       rw[hfold]
       refine⟨by have h1:=(hg 0).2;have h2:=hc.1;simp only[Array.length_toList] at h2 ⊢;omega,fun j x y hx hy=>?_⟩
       rw[Array.getElem?_toList,(hg j).1] at hy
       rw[m4 j] at hx
       have hl:=hcv.1
       by_cases a:off<=j/\j<off+cs.length
       ·rw[if_pos a] at hx
        rw[if_pos (by omega)] at hy
        exact hcv.2 _ x y hx (by rw[Nat.add_zero] at hy;exact hy)
       ·rw[if_neg a] at hx
        rw[if_neg (by omega)] at hy
        exact hc.2 j x y hx (by rw[Array.getElem?_toList];exact hy)
      obtain⟨r',hr',hvr⟩:=ih q r l' _ h hp' hnew
      refine⟨r',?_,hvr⟩
      simp only[Instr.fill,hpl]
      rw[if_neg (by simp [hsz];rw[<- hsz];omega)]
      exact hr'
section ops
variable {G:Nat}{C:aS}{eg:TypeId->Bool}{P:Program}{ι:aD}{s:St}{w:World}
theorem zt (ok:C.Ok eg P):∀(fs:List Field) (pl:List (Nat×Nat)),jg C fs=some pl->fs.mapM (fun f=>(P.info? f.type).map fun i=>(f.offset,i.size))=some pl:=by
 intro fs
 induction fs with
 |nil=>intro pl h;simp only[jg,Option.some.injEq] at h;subst h;rfl
 |cons f fs ih =>
  intro pl h
  simp only[jg] at h
  cases hs:C.size f.type with
  |none=>simp [hs] at h
  |some n =>
   cases hp:jg C fs with
   |none=>simp [hs,hp] at h
   |some l =>
    simp only[hs,hp,Option.some.injEq] at h
    subst h
    unfold aS.size at hs
    cases hi:C.ty.get f.type with
    |none=>simp [hi] at hs
    |some i =>
     simp only[hi,Option.some.injEq] at hs
     subst hs
     simp [List.mapM_cons,ok.ty _ _ hi,ih l hp]
theorem Cy (ok:C.Ok eg P) (hr:HR G ι s.h w.heap) (t:TypeId) {ps:List (Nat×Value)}{ps':Array (Nat×Value)} (hp:Iw ι ps ps'.toList) :
  d8 G P ι s w (g9 C t ps) (Instr.build t ps'):=by
 intro v s' h _
 unfold g9 at h
 cases hd:C.und t with
 |none=>rw[hd] at h;exact(aa h).elim
 |some d =>
  cases hz:C.zero t with
  |none=>rw[hd,hz] at h;cases d<;>exact(aa h).elim
  |some z =>
   rw[hd,hz] at h
   have hzf:=ok.zeroFlat hz ι
   have hz':=hz
   unfold aS.zero at hz'
   cases hi:C.ty.get t with
   |none=>simp [hi] at hz'
   |some i =>
    simp only[hi] at hz'
    cases d with
    |struct fields =>
     simp only at h
     obtain⟨pl,s1,h1,h2⟩:=bind_some h
     obtain⟨e1,rfl⟩:=aI h1
     obtain⟨zs,s2,h3,h4⟩:=bind_some h2
     obtain⟨e2,rfl⟩:=aI h3
     obtain⟨cs,s3,h5,h6⟩:=bind_some h4
     obtain⟨e3,rfl⟩:=aI h5
     obtain⟨rfl,rfl⟩:=ak h6
     obtain⟨r',hf,hv⟩:=vX ps zs cs ps'.toList z.cells e3 hp (gt hzf e2)
     refine⟨.agg r',w,ι,run_build w t ps' r' ?_,.agg _ _ hv.1 hv.2,aM.refl hr rfl rfl⟩
     have hpl:=zt ok _ _ e1
     unfold Program.built
     simp only[ok.ty _ _ hi,ok.und hd,hz',hpl]
     rw[<- hf]
     congr 1
     funext j
     rw[b8];simp
    |array n e =>
     simp only at h
     obtain⟨m,s1,h1,h2⟩:=bind_some h
     obtain⟨e1,rfl⟩:=aI h1
     obtain⟨zs,s2,h3,h4⟩:=bind_some h2
     obtain⟨e2,rfl⟩:=aI h3
     obtain⟨cs,s3,h5,h6⟩:=bind_some h4
     obtain⟨e3,rfl⟩:=aI h5
     obtain⟨rfl,rfl⟩:=ak h6
     obtain⟨r',hf,hv⟩:=vX ps zs cs ps'.toList z.cells e3 hp (gt hzf e2)
     refine⟨.agg r',w,ι,run_build w t ps' r' ?_,.agg _ _ hv.1 hv.2,aM.refl hr rfl rfl⟩
     unfold aS.size at e1
     cases hie:C.ty.get e with
     |none=>simp [hie] at e1
     |some ie =>
      simp only[hie,Option.some.injEq] at e1
      subst e1
      unfold Program.built
      simp only[ok.ty _ _ hi,ok.und hd,hz',ok.ty _ _ hie]
      exact hf
    |_=>exact(aa h).elim
theorem jY {t:TypeId}{e n b:Nat}{z:List Value} (h:C.row t=some (e,n,b,z)) :
  ∃i zv,C.und t=some (.slice e)/\C.ty.get e=some i/\i.zero=some zv/\ba zv=some z/\i.size=n/\i.bytes=b/\0<n/\z.length=n/\b<=65536:=by
 unfold aS.row at h
 cases he:C.elem t with
 |none=>simp [he] at h
 |some e' =>
  simp only[he] at h
  cases hi:C.ty.get e' with
  |none=>simp [hi] at h
  |some i =>
   simp only[hi] at h
   cases hz:i.zero with
   |none=>simp [hz] at h
   |some zv =>
    simp only[hz] at h
    cases hc:ba zv with
    |none=>simp [hc] at h
    |some zs =>
     simp only[hc] at h
     cases hb:(Nat.beq i.size 0||!Nat.beq (len zs) i.size||!Nat.ble i.bytes 65536) with
     |true=>simp [hb] at h
     |false =>
      simp only[hb,Option.some.injEq,Prod.mk.injEq] at h
      obtain⟨rfl,rfl,rfl,rfl⟩:=h
      simp only[Bool.or_eq_false_iff,Bool.not_eq_false'] at hb
      have h1:=bh.1 hb.1.1
      have h2:=aL.1 hb.1.2
      have h3:=aH.1 hb.2
      rw[eD] at h2
      refine⟨i,zv,?_,hi,hz,hc,rfl,rfl,by omega,h2,h3⟩
      unfold aS.elem at he
      cases hd:C.und t with
      |none=>simp [hd] at he
      |some d=>cases d<;>simp [hd] at he;subst he;rfl
theorem aS.Ok.rowZero (ok:C.Ok eg P) {e:TypeId}{i:TypeInfo}{zv:Value}{z:List Value} (hi:C.ty.get e=some i) (hz:i.zero=some zv) (hc:ba zv=some z) (ι:aD) :
  bS ι z z/\zv.cells.toList=z:=by
 have h:=DQ hc
 refine⟨?_,h⟩
 have:=gt (dK ι 30 zv (ok.flat _ _ _ hi hz)) hc
 rw[h] at this
 exact this
theorem ul {z:Array Value}{zs:List Value} (h:z.toList=zs) (hz:0<zs.length) (n i:Nat) (hi:i<n*zs.length) :
  ((Array.range (n*zs.length)).map (fun x=>z[x%z.size]!))[i]?=(rep zs n)[i]?:=by
 have hsz:z.size=zs.length:=by rw[<- Array.length_toList,h]
 rw[BR,if_pos hi,Array.getElem?_map,Array.getElem?_range]
 rw[if_pos hi,Option.map_some,hsz]
 have hm:i%zs.length<z.size:=by rw[hsz];exact Nat.mod_lt _ hz
 rw[getElem!_pos z _ hm]
 have e:zs[i%zs.length]?=z[i%zs.length]?:=by rw[<- Array.getElem?_toList,h]
 rw[e,Array.getElem?_eq_getElem hm]
theorem bS.rep {ι:aD}{z:List Value} (h:bS ι z z) (n:Nat):bS ι (rep z n) (rep z n):=by
 induction n with
 |zero=>exact bS.nil ι
 |succ n ih=>rw[rU];exact h.append ih
theorem nQ {x x':Value}{n:Nat} (hx:VR ι x x') (hn:cZ x=some n):∃k,x'=.int k (n:Int):=by
 unfold cZ at hn
 split at hn
 ·rename_i k m
  cases hn
  cases hx
  exact⟨k,rfl⟩
 ·cases hn
theorem tY (ok:C.Ok eg P) (hr:HR G ι s.h w.heap) (t:TypeId) {l l' c c':Value} (hl:VR ι l l') (hc:VR ι c c') :
  d8 G P ι s w (eU C t l c) (Instr.makeSlice t l' c'):=by
 intro v s' h hf
 unfold eU at h
 have key:∀ {x x':Value}{n:Nat},VR ι x x'->cZ x=some n->∃k,x'=.int k (n:Int):=by
  intro x x' n hx hn
  unfold cZ at hn
  split at hn
  ·rename_i k m
   cases hn
   cases hx
   exact⟨k,rfl⟩
  ·cases hn
 cases hn:cZ l with
 |none=>rw[hn] at h;exact(aa h).elim
 |some n =>
  cases hm:cZ c with
  |none=>rw[hn,hm] at h;exact(aa h).elim
  |some m =>
   rw[hn,hm] at h
   obtain⟨k1,rfl⟩:=key hl hn
   obtain⟨k2,rfl⟩:=key hc hm
   simp only at h
   obtain⟨⟨e,sz,b,z⟩,s1,h1,h2⟩:=bind_some h
   obtain⟨hrow,rfl⟩:=aI h1
   obtain⟨i,zv,hu,hi,hz,hcz,hsz,hby,hpos,hlen,hb⟩:=jY hrow
   simp only at h2
   cases hbool:(Nat.ble n m&&Nat.ble m dv) with
   |false=>rw[hbool] at h2;exact(aa h2).elim
   |true =>
    rw[hbool] at h2
    simp only[Bool.and_eq_true] at hbool
    have hnm:=aH.1 hbool.1
    have hbig:=aH.1 hbool.2
    simp only at h2
    obtain⟨bn,s2,h3,h4⟩:=bind_some h2
    obtain⟨rfl,rfl⟩:=ak h4
    obtain⟨hzz,hzl⟩:=ok.rowZero hi hz hcz ι
    have hbb:m*b<=68719476736:=by
     have:m*b<=1048576*65536:=Nat.mul_le_mul hbig hb
     omega
    have hmm:(m:Int)*(b:Int)=((m*b:Nat):Int):=by simp
    have hwl:IntKind.i64.wrap (n:Int)=(n:Int):=by
     unfold IntKind.wrap;simp [IntKind.bits,IntKind.signed];unfold dv at hbig;omega
    have hwm:IntKind.i64.wrap (m:Int)=(m:Int):=by
     unfold IntKind.wrap;simp [IntKind.bits,IntKind.signed];unfold dv at hbig;omega
    have hlarge:∀k:Nat,k<=m->(decide ((k:Int)<0)||decide ((b:Int)*(k:Int)>2^48))=false:=by
     intro k hk
     have h1:k*b<=m*b:=Nat.mul_le_mul_right _ hk
     have h2:(b:Int)*(k:Int)=((k*b:Nat):Int):=by rw[Int.mul_comm];simp
     rw[h2]
     simp only[Bool.or_eq_false_iff,decide_eq_false_iff_not]
     constructor<;>omega
    obtain⟨Z,hZ,hZr⟩:∃Z:Array Value,((m*sz=0->Z=#[])/\(m*sz≠0->Z=zv.cells)) /\
      ((∀(k:Nat) (x:Value),(rep z m)[k]?=some x->((Array.range (m*sz)).map (fun x=>Z[x%Z.size]!))[k]?=some x)):=by
     by_cases h0:m*sz=0
     ·refine⟨#[],⟨fun _=>rfl,fun hh=>absurd h0 hh⟩,fun k x hx=>?_⟩
      have:m=0:=by
       rcases Nat.mul_eq_zero.1 h0 with hh|hh
       ·exact hh
       ·omega
      subst this
      simp [sH] at hx
     ·refine⟨zv.cells,⟨fun hh=>absurd hh h0,fun _=>rfl⟩,fun k x hx=>?_⟩
      ·have hk:k<m*z.length:=by
        rcases Nat.lt_or_ge k (m*z.length) with hh|hh
        ·exact hh
        ·rw[List.getElem?_eq_none (by rw[dT];exact hh)] at hx;cases hx
       rw[<- hx,<- ul hzl (by omega) m k hk,hlen]
    have hrun:(Instr.makeSlice t (.int k1 n) (.int k2 m)).run P w=.ok (.slice (some ⟨w.heap.size,0,none⟩) n m) (w.alloc (.cells ((Array.range (m*sz)).map (fun x=>Z[x%Z.size]!)) e)):=by
     have hsize:C.size e=some sz:=by unfold aS.size;simp [hi,hsz]
     unfold Instr.makeSlice
     simp only[Sem.run_bind,ok.runUnd hu,Result.andThen_ok,asInt,asIntOf,Sem.run_pure,ok.info hi,hby,hwl,hwm]
     rw[if_neg]
     ·simp only[Sem.run_bind,run_askRoom,Result.andThen_ok,ok.size hsize,Int.toNat_natCast]
      have hzz:C.zero e=some zv:=by unfold aS.zero;simp [hi,hz]
      by_cases h0:m*sz=0
      ·rw[if_pos h0,hZ.1 h0]
       simp only[newRow,Sem.run_bind,run_newObj,Result.andThen_ok,Sem.run_pure];rfl
      ·rw[if_neg h0,hZ.2 h0]
       simp only[newRow,Sem.run_bind,ok.zero hzz,run_newObj,Result.andThen_ok,Sem.run_pure];rfl
     ·have h1:=hlarge m (Nat.le_refl _)
      simp only[Bool.or_eq_false_iff,decide_eq_false_iff_not] at h1
      simp only[Bool.or_eq_true,decide_eq_true_eq]
      rintro((h|h)|h)
      ·rcases h with h|h
       ·exact h1.1 h
       ·exact h1.2 h
      ·omega
      ·omega
    obtain⟨rfl,_,hp⟩:=mL hr (c:=(Array.range (m*sz)).map (fun x=>Z[x%Z.size]!)) e h3 hf
     (fun k x hx=>⟨x,hZr k x hx,((hzz.rep m).2 k x x hx hx)⟩) (by rw[dT,hlen];simp)
    exact⟨_,_,_,hrun,.sliceX s1.c 0 n m ⟨w.heap.size,0,_⟩ (aD.upd_same ..),hp⟩
theorem nE {Z:Array Value}{z:List Value}{n sz:Nat} (hlen:z.length=sz) (hpos:0<sz) (h1:n*sz≠0->Z.toList=z) :
  ((Array.range (n*sz)).map (fun x=>Z[x%Z.size]!)).toList=rep z n:=by
 apply List.ext_getElem?
 intro k
 rw[Array.getElem?_toList]
 by_cases hk:k<n*sz
 ·rw[<- hlen] at hk ⊢
  exact ul (h1 (by rw[<- hlen];omega)) (by omega) n k hk
 ·rw[List.getElem?_eq_none (by rw[dT,hlen];omega),Array.getElem?_eq_none (by simp;omega)]
theorem rE (ok:C.Ok eg P) (hr:HR G ι s.h w.heap) (t:TypeId) (len:Nat) {ps:List (Nat×Value)}{ps':Array (Nat×Value)} (hp:Iw ι ps ps'.toList) :
  d8 G P ι s w (ei C t len ps) (Instr.buildSlice t len ps'):=by
 intro v s' h hf
 unfold ei at h
 obtain⟨⟨e,sz,b,z⟩,s1,h1,h2⟩:=bind_some h
 obtain⟨hrow,rfl⟩:=aI h1
 obtain⟨i,zv,hu,hi,hz,hcz,hsz,hby,hpos,hlen,hb⟩:=jY hrow
 simp only at h2
 cases hbool:Nat.ble (len*sz) dv with
 |false=>rw[hbool] at h2;exact(aa h2).elim
 |true =>
  rw[hbool] at h2
  have hbig:=aH.1 hbool
  simp only at h2
  obtain⟨cs,s2,h3,h4⟩:=bind_some h2
  obtain⟨hfill,rfl⟩:=aI h3
  obtain⟨bn,s3,h5,h6⟩:=bind_some h4
  obtain⟨rfl,rfl⟩:=ak h6
  obtain⟨hzz,hzl⟩:=ok.rowZero hi hz hcz ι
  have hsize:C.size e=some sz:=by unfold aS.size;simp [hi,hsz]
  have hzero:C.zero e=some zv:=by unfold aS.zero;simp [hi,hz]
  have main:∀Z:Array Value,(len*sz≠0->Z.toList=z)->∃r',Instr.fill (fun i=>some (i*sz,sz)) ((Array.range (len*sz)).map (fun x=>Z[x%Z.size]!)) ps'.toList=some r'/\bS ι cs r'.toList:=by
   intro Z hZ
   exact vX ps (rep z len) cs ps'.toList _ hfill hp (by rw[nE hlen hpos hZ];exact hzz.rep len)
  have hle:¬ (len*sz>2^24):=by unfold dv at hbig;omega
  by_cases h0:len*sz=0
  ·obtain⟨r',hr',hv⟩:=main #[] (fun hh=>absurd h0 hh)
   obtain⟨rfl,_,hp⟩:=mL hr (c:=r') e h5 hf (fun k x hx=>by obtain⟨y,a,b⟩:=hv.get hx;exact⟨y,by simpa using a,b⟩) (by have:=hv.1;simp at this;omega)
   refine⟨.slice (some ⟨w.heap.size,0,none⟩) len len,_,_,?_,.sliceX s2.c 0 len len ⟨w.heap.size,0,_⟩ (aD.upd_same ..),hp⟩
   unfold Instr.buildSlice
   simp only[Sem.run_bind,ok.runUnd hu,Result.andThen_ok,ok.size hsize]
   rw[if_neg hle,if_pos h0]
   simp only[Sem.run_bind,Sem.run_pure,Result.andThen_ok]
   rw[hr']
   simp only[newRow,Sem.run_bind,run_newObj,Result.andThen_ok,Sem.run_pure];rfl
  ·obtain⟨r',hr',hv⟩:=main zv.cells (fun _=>hzl)
   obtain⟨rfl,_,hp⟩:=mL hr (c:=r') e h5 hf (fun k x hx=>by obtain⟨y,a,b⟩:=hv.get hx;exact⟨y,by simpa using a,b⟩) (by have:=hv.1;simp at this;omega)
   refine⟨.slice (some ⟨w.heap.size,0,none⟩) len len,_,_,?_,.sliceX s2.c 0 len len ⟨w.heap.size,0,_⟩ (aD.upd_same ..),hp⟩
   unfold Instr.buildSlice
   simp only[Sem.run_bind,ok.runUnd hu,Result.andThen_ok,ok.size hsize]
   rw[if_neg hle,if_neg h0]
   simp only[Sem.run_bind,ok.zero hzero,Sem.run_pure,Result.andThen_ok]
   rw[hr']
   simp only[newRow,Sem.run_bind,run_newObj,Result.andThen_ok,Sem.run_pure];rfl
def tL (ι:aD) (a b:Option Value):Prop:=match a,b with|none,none=>True|some x,some y=>VR ι x y|_,_=>False
theorem tL.none_iff {a b:Option Value} (h:tL ι a b):a=none↔b=none:=by
 cases a<;>cases b<;>simp [tL] at h ⊢
theorem eZ {v v':Value}{n most most':Nat} (code:BoundsCode) (hv:VR ι v v') (hn:cZ v=some n) (hm:n<=most) (hle:most<=most') :
  (Instr.sliceBound v' most' code).run P w=.ok n w:=by
 obtain⟨k,rfl⟩:=nQ hv hn
 unfold Instr.sliceBound
 simp only[asIntOf,Sem.run_bind,Sem.run_pure,Result.andThen_ok]
 rw[if_pos (by omega)];rfl
theorem gF (d m:Nat):dr none d m=some d:=rfl
theorem fH {v:Value}{d most n:Nat} (h:dr (some v) d most=some n):cZ v=some n/\n<=most:=by
 unfold dr at h
 simp only at h
 cases hn:cZ v with
 |none=>simp [hn] at h
 |some m =>
  simp only[hn] at h
  cases hb:Nat.ble m most with
  |false=>simp [hb] at h
  |true=>simp only[hb,Option.some.injEq] at h;subst h;exact⟨rfl,aH.1 hb⟩
theorem kW (isS:Bool) {len cap cap':Nat}{lo hi mx lo' hi' mx':Option Value}{l h m:Nat} (hb:dL len cap lo hi mx=some (l,h,m))
  (rl:tL ι lo lo') (rh:tL ι hi hi') (rm:tL ι mx mx') (hc:cap<=cap') :
  (Instr.sliceBounds isS len cap' lo' hi' mx').run P w=.ok (l,h,if mx.isNone then cap' else m) w/\l<=h/\(mx=none->m=cap)/\m<=cap/\(hi≠none->h<=m)/\(hi=none->h=len):=by
 unfold dL at hb
 cases mx with
 |none =>
  cases mx' with
  |some _=>exact absurd rm (by simp [tL])
  |none =>
   simp only[gF] at hb
   cases hi with
   |none =>
    cases hi' with
    |some _=>exact absurd rh (by simp [tL])
    |none =>
     simp only[gF] at hb
     cases lo with
     |none =>
      cases lo' with
      |some _=>exact absurd rl (by simp [tL])
      |none =>
       simp only[gF,Option.some.injEq,Prod.mk.injEq] at hb
       obtain⟨rfl,rfl,rfl⟩:=hb
       exact⟨by simp [Instr.sliceBounds],Nat.zero_le _,fun _=>rfl,Nat.le_refl _,fun hh=>absurd rfl hh,fun _=>rfl⟩
     |some v =>
      cases lo' with
      |none=>exact absurd rl (by simp [tL])
      |some v' =>
       cases hq:dr (some v) 0 len with
       |none=>simp [hq] at hb
       |some q =>
        simp only[hq,Option.some.injEq,Prod.mk.injEq] at hb
        obtain⟨rfl,rfl,rfl⟩:=hb
        obtain⟨q1,q2⟩:=fH hq
        refine⟨?_,q2,fun _=>rfl,Nat.le_refl _,fun hh=>absurd rfl hh,fun _=>rfl⟩
        simp [Instr.sliceBounds,eZ (P:=P) (w:=w) .sliceB rl q1 q2 (Nat.le_refl _)]
   |some u =>
    cases hi' with
    |none=>exact absurd rh (by simp [tL])
    |some u' =>
     cases hp:dr (some u) len cap with
     |none=>simp [hp] at hb
     |some p =>
      obtain⟨p1,p2⟩:=fH hp
      simp only[hp] at hb
      cases lo with
      |none =>
       cases lo' with
       |some _=>exact absurd rl (by simp [tL])
       |none =>
        simp only[gF,Option.some.injEq,Prod.mk.injEq] at hb
        obtain⟨rfl,rfl,rfl⟩:=hb
        refine⟨?_,Nat.zero_le _,fun _=>rfl,Nat.le_refl _,fun _=>p2,fun hh=>by cases hh⟩
        simp [Instr.sliceBounds,eZ (P:=P) (w:=w) (if isS then .sliceAcap else .sliceAlen) rh p1 p2 hc]
      |some v =>
       cases lo' with
       |none=>exact absurd rl (by simp [tL])
       |some v' =>
        cases hq:dr (some v) 0 p with
        |none=>simp [hq] at hb
        |some q =>
         simp only[hq,Option.some.injEq,Prod.mk.injEq] at hb
         obtain⟨rfl,rfl,rfl⟩:=hb
         obtain⟨q1,q2⟩:=fH hq
         refine⟨?_,q2,fun _=>rfl,Nat.le_refl _,fun _=>p2,fun hh=>by cases hh⟩
         simp [Instr.sliceBounds,eZ (P:=P) (w:=w) (if isS then .sliceAcap else .sliceAlen) rh p1 p2 hc,eZ (P:=P) (w:=w) .sliceB rl q1 q2 (Nat.le_refl _)]
 |some x =>
  cases mx' with
  |none=>exact absurd rm (by simp [tL])
  |some x' =>
   cases hi with
   |none=>simp at hb
   |some u =>
    cases hi' with
    |none=>exact absurd rh (by simp [tL])
    |some u' =>
     simp only at hb
     cases hx:dr (some x) cap cap with
     |none=>simp [hx] at hb
     |some y =>
      obtain⟨x1,x2⟩:=fH hx
      simp only[hx] at hb
      cases hp:dr (some u) len y with
      |none=>simp [hp] at hb
      |some p =>
       obtain⟨p1,p2⟩:=fH hp
       simp only[hp] at hb
       cases lo with
       |none =>
        cases lo' with
        |some _=>exact absurd rl (by simp [tL])
        |none =>
         simp only[gF,Option.some.injEq,Prod.mk.injEq] at hb
         obtain⟨rfl,rfl,rfl⟩:=hb
         refine⟨?_,Nat.zero_le _,fun hh=>by(cases hh),x2,fun _=>p2,fun hh=>by(cases hh)⟩
         simp [Instr.sliceBounds,eZ (P:=P) (w:=w) (if isS then .slice3Acap else .slice3Alen) rm x1 x2 hc,eZ (P:=P) (w:=w) .slice3B rh p1 p2 (Nat.le_refl _)]
       |some v =>
        cases lo' with
        |none=>exact absurd rl (by simp [tL])
        |some v' =>
         cases hq:dr (some v) 0 p with
         |none=>simp [hq] at hb
         |some q =>
          simp only[hq,Option.some.injEq,Prod.mk.injEq] at hb
          obtain⟨rfl,rfl,rfl⟩:=hb
          obtain⟨q1,q2⟩:=fH hq
          refine⟨?_,q2,fun hh=>by(cases hh),x2,fun _=>p2,fun hh=>by(cases hh)⟩
          simp [Instr.sliceBounds,eZ (P:=P) (w:=w) (if isS then .slice3Acap else .slice3Alen) rm x1 x2 hc,eZ (P:=P) (w:=w) .slice3B rh p1 p2 (Nat.le_refl _),eZ (P:=P) (w:=w) .slice3C rl q1 q2 (Nat.le_refl _)]
theorem VR.slice_inv {b o:Nat}{sp:Option Nat}{n c:Nat}{v:Value} (h:VR ι (.slice (some ⟨b,o,sp⟩) n c) v) :
  (sp=none/\∃L,ι b=some L/\v=.slice (some ⟨L.blk,L.off+o,none⟩) n c) \/
  (∃e,sp=some e/\∃L c',ι b=some L/\c<=c'/\L.off+o+c'*e<=L.size/\v=.slice (some ⟨L.blk,L.off+o,none⟩) n c') \/
  (∃e,sp=some e/\n=0/\c=0/\∃a,v=.slice (some a) 0 0):=by
 cases h with
 |sliceX _ _ _ _ L h=>exact .inl ⟨rfl,L,h,rfl⟩
 |sliceI _ _ e _ _ c' L h h1 h2=>exact .inr (.inl ⟨e,rfl,L,c',h,h1,h2,rfl⟩)
 |sliceZ _ _ e a=>exact .inr (.inr ⟨e,rfl,rfl,rfl,a,rfl⟩)
theorem DJ (ok:C.Ok eg P) (hr:HR G ι s.h w.heap) (t:TypeId) {x x':Value}{lo hi mx lo' hi' mx':Option Value} (hx:VR ι x x') (rl:tL ι lo lo') (rh:tL ι hi hi') (rm:tL ι mx mx') :
  d8 G P ι s w (cV C t x lo hi mx) (Instr.sliceAt t x' lo' hi' mx'):=by
 intro v s' h _
 unfold cV at h
 cases hd:C.und t with
 |none=>rw[hd] at h;exact(aa h).elim
 |some d =>
  rw[hd] at h
  simp only at h
  have hun:=ok.runUnd hd w
  cases d with
  |string =>
   cases hx with
   |string st =>
    simp only at h
    cases mx with
    |some y=>exact(aa h).elim
    |none =>
     simp only at h
     obtain⟨⟨l,u,m⟩,s1,h1,h2⟩:=bind_some h
     obtain⟨hb,rfl⟩:=aI h1
     obtain⟨rfl,rfl⟩:=ak h2
     obtain⟨hrun,hle,_⟩:=kW (P:=P) (w:=w) false hb rl rh rm (Nat.le_refl _)
     have hm':=rm.none_iff.1 rfl
     subst hm'
     refine⟨.string (st.extract l u),w,ι,?_,.string _,aM.refl hr rfl rfl⟩
     simp only[Instr.sliceAt,Instr.slice,Sem.run_bind,hun,Result.andThen_ok,Option.isSome_none,Bool.false_eq_true,if_false,hrun,Sem.run_pure]
   |_=>exact(aa h).elim
  |slice e =>
   cases x with
   |slice a len cap =>
    simp only at h
    obtain⟨n,s1,h1,h2⟩:=bind_some h
    obtain⟨hn,rfl⟩:=aI h1
    obtain⟨⟨l,u,m⟩,s2,h3,h4⟩:=bind_some h2
    obtain⟨hb,rfl⟩:=aI h3
    simp only at h4
    have hsz:=ok.size hn w
    have step:∀(a':Option Addr) (cap':Nat),cap<=cap'->x'=.slice a' len cap' ->
      (Instr.sliceAt t x' lo' hi' mx').run P w=.ok (.slice (if(if mx.isNone then cap' else m)=l then a' else a'.map (·.add (l*n))) (u - l) ((if mx.isNone then cap' else m) - l)) w:=by
     intro a' cap' hc he
     subst he
     obtain⟨hrun,_⟩:=kW (P:=P) (w:=w) true hb rl rh rm hc
     simp only[Instr.sliceAt,Instr.slice,Sem.run_bind,hun,Result.andThen_ok,hrun,hsz,Sem.run_pure]
    have facts:=(kW (P:=P) (w:=w) true hb rl rh rm (Nat.le_refl _)).2
    cases a with
    |none =>
     obtain⟨rfl,rfl⟩:=ak h4
     cases hx with
     |nilSlice =>
      refine⟨_,w,ι,step none cap (Nat.le_refl _) rfl,?_,aM.refl hr rfl rfl⟩
      have:(if mx.isNone=true then cap else m)=m:=by
       cases mx with
       |none=>simp [facts.2.1 rfl]
       |some _=>rfl
      rw[this]
      have h2:(if m=l then(none:Option Addr) else(none:Option Addr).map (·.add (l*n)))=none:=by split<;>rfl
      rw[h2]
      exact .nilSlice _ _
    |some a =>
     obtain⟨b,o,sp⟩:=a
     rcases hx.slice_inv with⟨rfl,L,hL,hx'⟩|⟨e',rfl,L,c',hL,hc,hs,hx'⟩|⟨e',rfl,rfl,rfl,a',hx'⟩
     ·simp only at h4
      obtain⟨rfl,rfl⟩:=ak h4
      refine⟨_,w,ι,step _ cap (Nat.le_refl _) hx',?_,aM.refl hr rfl rfl⟩
      have:(if mx.isNone=true then cap else m)=m:=by
       cases mx with
       |none=>simp [facts.2.1 rfl]
       |some _=>rfl
      rw[this]
      by_cases hml:m=l
      ·rw[if_pos hml,aL.2 hml]
       exact .sliceX b o _ _ L hL
      ·rw[if_neg hml,bh.2 hml]
       simp only[Option.map_some,eY,Nat.add_assoc]
       exact .sliceX b (o+l*n) _ _ L hL
     ·simp only at h4
      cases hbe:(Nat.beq e' n&&Nat.ble u m) with
      |false=>rw[hbe] at h4;exact(aa h4).elim
      |true =>
       rw[hbe] at h4
       simp only[Bool.and_eq_true] at hbe
       have hen:=aL.1 hbe.1
       have hum:=aH.1 hbe.2
       subst hen
       have hlu:=facts.1
       cases mx with
       |none =>
        simp only at h4
        obtain⟨rfl,rfl⟩:=ak h4
        refine⟨_,w,ι,step _ c' hc hx',?_,aM.refl hr rfl rfl⟩
        have hm:=facts.2.1 rfl
        subst hm
        simp only[Option.isNone_none,if_true]
        by_cases hcl:c'=l
        ·rw[if_pos hcl,show u - l=0 by omega,show m - l=0 by omega,show c' - l=0 by omega]
         exact .sliceZ b _ e' _
        ·rw[if_neg hcl]
         simp only[Option.map_some,eY,Nat.add_assoc]
         refine .sliceI b (o+l*e') e' _ _ (c' - l) L hL (by omega) ?_
         have hsub:l*e'+(c' - l)*e'=c'*e':=by rw[<- Nat.add_mul];congr 1;omega
         omega
       |some y =>
        simp only at h4
        by_cases hml:m=l
        ·rw[aL.2 hml] at h4
         obtain⟨rfl,rfl⟩:=ak h4
         refine⟨_,w,ι,step _ c' hc hx',?_,aM.refl hr rfl rfl⟩
         simp only[Option.isNone_some,Bool.false_eq_true,if_false]
         rw[if_pos hml]
         exact .sliceI b o e' _ _ (m - l) L hL (Nat.le_refl _) (by rw[show m - l=0 by omega];omega)
        ·rw[bh.2 hml] at h4
         obtain⟨rfl,rfl⟩:=ak h4
         refine⟨_,w,ι,step _ c' hc hx',?_,aM.refl hr rfl rfl⟩
         simp only[Option.isNone_some,Bool.false_eq_true,if_false]
         rw[if_neg hml]
         simp only[Option.map_some,eY,Nat.add_assoc]
         exact .sliceX b (o+l*e') _ _ L hL
     ·simp only at h4
      cases hbe:(Nat.beq e' n&&Nat.ble u m) with
      |false=>rw[hbe] at h4;exact(aa h4).elim
      |true =>
       rw[hbe] at h4
       simp only[Bool.and_eq_true] at hbe
       have hum:=aH.1 hbe.2
       have hlu:=facts.1
       have hm0:=facts.2.2.1
       obtain rfl:m=0:=by omega
       obtain rfl:u=0:=by omega
       obtain rfl:l=0:=by omega
       cases mx with
       |none =>
        simp only at h4
        obtain⟨rfl,rfl⟩:=ak h4
        refine⟨_,w,ι,step _ 0 (Nat.le_refl _) hx',?_,aM.refl hr rfl rfl⟩
        simp only[Option.isNone_none,if_true]
        exact .sliceZ b _ e' _
       |some y =>
        simp only at h4
        obtain⟨rfl,rfl⟩:=ak h4
        refine⟨_,w,ι,step _ 0 (Nat.le_refl _) hx',?_,aM.refl hr rfl rfl⟩
        simp only[Option.isNone_some,Bool.false_eq_true,if_false,if_true]
        exact .sliceZ b _ e' _
   |_=>exact(aa h).elim
  |array k e =>
   simp only at h
   cases hp:eM x with
   |none=>rw[hp] at h;exact(aa h).elim
   |some p =>
    obtain⟨b,o⟩:=p
    rw[hp] at h
    have e1:=gJ hp
    simp only at e1
    subst e1
    obtain⟨L,hL,rfl⟩:=hx.ptr_inv
    simp only at h
    obtain⟨n,s1,h1,h2⟩:=bind_some h
    obtain⟨hn,rfl⟩:=aI h1
    obtain⟨⟨l,u,m⟩,s2,h3,h4⟩:=bind_some h2
    obtain⟨hb,rfl⟩:=aI h3
    simp only at h4
    cases mx with
    |some _=>exact(aa h4).elim
    |none =>
     simp only at h4
     obtain⟨rfl,rfl⟩:=ak h4
     obtain⟨hrun,_,hm,_⟩:=kW (P:=P) (w:=w) false hb rl rh rm (Nat.le_refl _)
     have hm':=hm rfl
     subst hm'
     refine⟨.slice (some (if m=l then⟨L.blk,L.off+o,none⟩ else(Addr.mk L.blk (L.off+o) none).add (l*n))) (u - l) (m - l),w,ι,?_,?_,aM.refl hr rfl rfl⟩
     ·simp only[Instr.sliceAt,Instr.sureAddr,Sem.run_bind,hun,Result.andThen_ok,Sem.run_pure,hrun,ok.size hn,Option.isNone_none,if_true]
     ·by_cases hml:m=l
      ·rw[if_pos hml,aL.2 hml]
       exact .sliceX b o _ _ L hL
      ·rw[if_neg hml,bh.2 hml]
       simp only[eY,Nat.add_assoc]
       exact .sliceX b (o+l*n) _ _ L hL
  |_=>exact(aa h).elim
end ops
end Go.Ab
