import Derived.Test.YtofikbfljjjgeaaGreatDoorE8
import Derived.Laws.BytesString
import Derived.Laws.StructEq
set_option linter.unusedVariables false
set_option linter.unusedSimpArgs false
namespace Go.Ab
section ops
variable {G:Nat}{C:aS}{eg:TypeId->Bool}{P:Program}{ι:aD}{s:St}{w:World}
theorem FW {x x':Value}{n:Nat} (hx:VR ι x x') (h:ou x=some n):(Builtin.lenOf x').run P w=.ok n w:=Bv hx h
theorem FV (ok:C.Ok eg P) (hr:HR G ι s.h w.heap) (ts:Array TypeId) (ty:TypeId) {x x' y y':Value} (hx:VR ι x x') (hy:VR ι y y') :
  d8 G P ι s w (nN C ts x y) (Builtin.copy_ ts ty #[x',y']):=by
 intro v s' h _
 unfold nN at h
 cases h0:cu ts.toList 0 with
 |none=>rw[h0] at h;exact(aa h).elim
 |some dt =>
  rw[h0] at h
  rw[b8,Array.getElem?_toList] at h0
  cases x with
  |slice base dlen dcap =>
   cases hl:ou y with
   |none=>rw[hl] at h;exact(aa h).elim
   |some xlen =>
    rw[hl] at h
    simp only at h
    obtain⟨⟨e,size,b,z⟩,s1,h1,h2⟩:=bind_some h
    obtain⟨hrow,rfl⟩:=aI h1
    obtain⟨i,zv,hu,hi,hz,hcz,hsz,hby,hpos,hlen,hb⟩:=jY hrow
    simp only at h2
    obtain⟨cs,s2,h3,h4⟩:=bind_some h2
    obtain⟨f1,f2,f3,f4⟩:=ky (P:=P) hr hy h3
    have hsize:C.size e=some size:=by unfold aS.size;simp [hi,hsz]
    have hA:∃A:Array Value,(Builtin.firstCells size (Nat.min xlen dlen) y').run P w=.ok A w/\bS ι cs A.toList/\cs.length=Nat.min xlen dlen*size:=by
     rcases Nat.eq_zero_or_pos (Nat.min xlen dlen) with hh|hh
     ·rw[hh,f3 hh]
      exact⟨#[],kn hy hl,bS.nil ι,by simp⟩
     ·exact f4 hh
    obtain⟨A,a1,a2,a3⟩:=hA
    have k0:(#[x',y']:Array Value)[0]?=some x':=rfl
    have k1:(#[x',y']:Array Value)[1]?=some y':=rfl
    have shape:∃base' cap',x'=.slice base' dlen cap'/\(base=none->base'=none):=by
     cases hx with
     |nilSlice=>exact⟨_,_,rfl,fun _=>rfl⟩
     |sliceX=>exact⟨_,_,rfl,fun hh=>by cases hh⟩
     |sliceI=>exact⟨_,_,rfl,fun hh=>by cases hh⟩
     |sliceZ=>exact⟨_,_,rfl,fun hh=>by cases hh⟩
    have run:∀(base':Option Addr) (cap':Nat) (w':World),x'=.slice base' dlen cap'->(∀a,base'=some a->(storeCells a A.toList).run P w=.ok () w')->(base'=none->w'=w) ->
      (Builtin.copy_ ts ty #[x',y']).run P w=.ok (goInt (Nat.min xlen dlen)) w':=by
     intro base' cap' w' he hst hno
     subst he
     unfold Builtin.copy_
     simp only[h0,k0,k1,Sem.run_bind,ok.runUnd hu,Result.andThen_ok,FW hy hl,ok.size hsize,a1]
     cases base' with
     |none=>rw[hno rfl];rfl
     |some a=>simp only[Sem.run_bind,hst a rfl,Result.andThen_ok];rfl
    cases cs with
    |nil =>
     obtain⟨rfl,rfl⟩:=ak h4
     obtain⟨base',cap',he,_⟩:=shape
     refine⟨_,w,ι,run base' cap' w he (fun a _=>?_) (fun _=>rfl),.int _ _,aM.refl hr f1 f2⟩
     rw[a2.nil_inv];rfl
    |cons q cs =>
     cases base with
     |none=>exact(aa h4).elim
     |some a =>
      obtain⟨b0,o,sp⟩:=a
      simp only at h4
      obtain⟨⟨⟩,s3,h5,h6⟩:=bind_some h4
      obtain⟨rfl,rfl⟩:=ak h6
      have hr2:HR G ι s2.h w.heap:=by rw[f1];exact hr
      have fin:∀(L:Loc) (cap':Nat),ι b0=some L->x'=.slice (some ⟨L.blk,L.off+o,none⟩) dlen cap' ->
        ∃v' w' ι',(Builtin.copy_ ts ty #[x',y']).run P w=.ok v' w'/\VR ι' (qT .i64 (Nat.min xlen dlen)) v'/\aM G ι ι' s1 s' w w':=by
       intro L cap' hL he
       obtain⟨w',hw,hp⟩:=jZ (P:=P) (w:=w) hr2 hL a2 h5
       exact⟨_,w',ι,run _ cap' w' he (fun a ha=>by cases ha;exact hw) (fun hh=>by cases hh),.int _ _,hp.log f1.symm f2.symm rfl rfl⟩
      rcases hx.slice_inv with⟨rfl,L,hL,hx'⟩|⟨e',rfl,L,c',hL,hc,hs,hx'⟩|⟨e',rfl,rfl,rfl,a',hx'⟩
      ·exact fin L _ hL hx'
      ·exact fin L c' hL hx'
      ·simp at a3
  |_=>exact(aa h).elim
theorem C5 (ok:C.Ok eg P) (hr:HR G ι s.h w.heap) (ts:Array TypeId) (ty:TypeId) {x x':Value} (hx:VR ι x x') (hD:∀t,ts[0]?=some t->(C.und t).isSome=true) :
  d8 G P ι s w (mW C ts x) (Builtin.clear_ ts ty #[x']):=by
 intro v s' h _
 unfold mW at h
 have k0:(#[x']:Array Value)[0]?=some x':=rfl
 cases h0:cu ts.toList 0 with
 |none=>rw[h0] at h;exact(aa h).elim
 |some t =>
  rw[h0] at h
  rw[b8,Array.getElem?_toList] at h0
  obtain⟨d,hd⟩:=Option.isSome_iff_exists.1 (hD t h0)
  have hun:=ok.runUnd hd w
  cases x with
  |map r =>
   cases r with
   |some _=>exact(aa h).elim
   |none =>
    cases hx with
    |nilMap =>
     obtain⟨rfl,rfl⟩:=ak h
     refine⟨.tuple #[],w,ι,?_,dK ι 1 _ rfl,aM.refl hr rfl rfl⟩
     unfold Builtin.clear_
     simp only[h0,k0,Sem.run_bind,hun,Result.andThen_ok]
     cases d<;>rfl
  |slice a n c =>
   cases a with
   |none =>
    cases hx with
    |nilSlice =>
     obtain⟨rfl,rfl⟩:=ak h
     refine⟨.tuple #[],w,ι,?_,dK ι 1 _ rfl,aM.refl hr rfl rfl⟩
     unfold Builtin.clear_
     simp only[h0,k0,Sem.run_bind,hun,Result.andThen_ok]
     cases d<;>rfl
   |some a =>
    obtain⟨b0,o,sp⟩:=a
    simp only at h
    cases n with
    |zero =>
     obtain⟨rfl,rfl⟩:=ak h
     have:∃a' c',x'=.slice (some a') 0 c':=by
      cases hx with
      |sliceX=>exact⟨_,_,rfl⟩
      |sliceI=>exact⟨_,_,rfl⟩
      |sliceZ=>exact⟨_,_,rfl⟩
     obtain⟨a',c',rfl⟩:=this
     refine⟨.tuple #[],w,ι,?_,dK ι 1 _ rfl,aM.refl hr rfl rfl⟩
     unfold Builtin.clear_
     simp only[h0,k0,Sem.run_bind,hun,Result.andThen_ok]
     cases d<;>rfl
    |succ n =>
     simp only at h
     obtain⟨⟨e,size,b,z⟩,s1,h1,h2⟩:=bind_some h
     obtain⟨hrow,rfl⟩:=aI h1
     obtain⟨i,zv,hu,hi,hz,hcz,hsz,hby,hpos,hlen,hb⟩:=jY hrow
     simp only at h2
     obtain⟨⟨⟩,s3,h5,h6⟩:=bind_some h2
     obtain⟨rfl,rfl⟩:=ak h6
     obtain⟨hzz,hzl⟩:=ok.rowZero hi hz hcz ι
     have hzero:C.zero e=some zv:=by unfold aS.zero;simp [hi,hz]
     have hcs:zv.cells.size=size:=by rw[<- Array.length_toList,hzl,hlen]
     have hze:(Builtin.zeroCells zv.cells (n+1)).toList=rep z (n+1):=by
      unfold Builtin.zeroCells
      rw[hcs]
      have:=nE (Z:=zv.cells) (n:=n+1) hlen hpos (fun _=>hzl)
      rw[hcs] at this
      rw[<- this]
     have fin:∀(L:Loc) (cap':Nat),ι b0=some L->x'=.slice (some ⟨L.blk,L.off+o,none⟩) (n+1) cap' ->
       ∃v' w' ι',(Builtin.clear_ ts ty #[x']).run P w=.ok v' w'/\VR ι' br v'/\aM G ι ι' s1 s' w w':=by
      intro L cap' hL he
      subst he
      obtain⟨w',hw,hp⟩:=jZ (P:=P) (w:=w) hr hL (hzz.rep (n+1)) h5
      refine⟨.tuple #[],w',ι,?_,dK ι 1 _ rfl,hp⟩
      unfold Builtin.clear_
      simp only[h0,k0,Sem.run_bind,ok.runUnd hu,Result.andThen_ok,ok.zero hzero,hze,hw]
      rfl
     rcases hx.slice_inv with⟨rfl,L,hL,hx'⟩|⟨e',rfl,L,c',hL,hc,hs,hx'⟩|⟨e',rfl,hh,_⟩
     ·exact fin L _ hL hx'
     ·exact fin L c' hL hx'
     ·cases hh
  |_=>exact(aa h).elim
theorem fB (k:IntKind) (n:Int):cf k n=k.wrap n:=by
 unfold cf
 split
 ·rename_i m
  cases h:Nat.ble m 127 with
  |false=>rfl
  |true =>
   have:=aH.1 h
   simp only
   rw[show Int.ofNat m=(m:Int) from rfl]
   cases k<;>(unfold IntKind.wrap;simp [IntKind.bits,IntKind.signed];omega)
 ·rfl
theorem D8 {x x' y y' z:Value} (hx:VR ι x x') (hy:VR ι y y') (h:sZ x y=some z):∃z',(Builtin.min2 x' y').run P w=.ok z' w/\VR ι z z':=by
 unfold sZ at h
 split at h
 ·cases hx;cases hy
  rename_i k a k' b
  simp only[Option.some.injEq] at h
  subst h
  refine⟨.int k (if b<a then b else a),rfl,?_⟩
  by_cases hh:b<a
  ·simp only[hh,decide_true,if_true];exact .int _ _
  ·simp only[hh,decide_false,if_false];exact .int _ _
 ·cases h
theorem F4 {x x' y y' z:Value} (hx:VR ι x x') (hy:VR ι y y') (h:sn x y=some z):∃z',(Builtin.max2 x' y').run P w=.ok z' w/\VR ι z z':=by
 unfold sn at h
 split at h
 ·cases hx;cases hy
  rename_i k a k' b
  simp only[Option.some.injEq] at h
  subst h
  refine⟨.int k (if b>a then b else a),rfl,?_⟩
  by_cases hh:b>a
  ·simp only[hh,decide_true,if_true];exact .int _ _
  ·simp only[hh,decide_false,if_false];exact .int _ _
 ·cases h
theorem xP {f:Value->Value->Option Value}{g:Value->Value->Sem Value} (hfg:∀ {x x' y y' z:Value},VR ι x x'->VR ι y y'->f x y=some z->∃z',(g x' y').run P w=.ok z' w/\VR ι z z') :
  ∀(ys ys':List Value) (x x' z:Value),VR ι x x'->bS ι ys ys'->o4 f x ys=some z->∃z',(ys'.foldlM g x').run P w=.ok z' w/\VR ι z z':=by
 intro ys
 induction ys with
 |nil =>
  intro ys' x x' z hx hy h
  rw[hy.nil_inv]
  cases h
  exact⟨x',rfl,hx⟩
 |cons y ys ih =>
  intro ys' x x' z hx hy h
  obtain⟨y',l',rfl,h1,h2⟩:=hy.cons_inv
  simp only[o4] at h
  cases hq:f x y with
  |none=>simp [hq] at h
  |some q =>
   simp only[hq] at h
   obtain⟨q',a,b⟩:=hfg hx h1 hq
   obtain⟨z',c,d⟩:=ih l' q q' z b h2 h
   exact⟨z',by simp [List.foldlM_cons,a,c],d⟩
theorem AV (e:TypeId) (c:Array Value):(w.alloc (.cells c e)).freeze ⟨w.heap.size,c.size,none⟩ 1=w.alloc (.cells c e (c.size,c.size+1)):=by
 unfold World.freeze World.alloc
 simp only[if_neg (Nat.one_ne_zero)]
 congr 1
 apply Array.ext
 ·simp
 ·intro i h1 h2
  simp only[Array.getElem_modify]
  by_cases hi:i=w.heap.size
  ·subst hi;simp
  ·rw[if_neg (by omega)]
   have:i<w.heap.size:=by simp at h2;omega
   simp [Array.getElem_push,this]
theorem zm (e:TypeId) (c:Array Value):(markStringish ⟨w.heap.size,0,none⟩).run P (w.alloc (.cells c e))=.ok () (w.alloc (.cells c e (c.size,c.size+1))):=by
 have hb:(w.alloc (.cells c e)).heap[w.heap.size]?=some (.cells c e):=by
  show (w.heap.push _)[w.heap.size]?=_
  simp
 have hs:(w.alloc (.cells c e)).shape? w.heap.size=some (e,c.size):=by unfold World.shape?;rw[hb]
 unfold markStringish
 simp only[Sem.run_bind,run_shape,Result.andThen_ok,hs,run_freeze,AV]
theorem Al:∀(ns:List Int) (s:ByteArray),(ns.foldl (fun r n=>r.push (UInt8.ofNat n.toNat)) s).data.toList=s.data.toList++ns.map fun n=>UInt8.ofNat n.toNat:=by
 intro ns
 induction ns with
 |nil=>intro s;simp
 |cons n ns ih =>
  intro s
  simp only[List.foldl_cons,List.map_cons]
  rw[ih]
  simp [ByteArray.push]
theorem wj:∀(cs:List Value) (l:List UInt8),lK cs=some l->∃ns:List Int,cs=ns.map (Value.int .u8)/\l=ns.map fun n=>UInt8.ofNat n.toNat:=by
 intro cs
 induction cs with
 |nil=>intro l h;cases h;exact⟨[],rfl,rfl⟩
 |cons c cs ih =>
  intro l h
  unfold lK at h
  split at h
  ·rename_i heq;cases heq
  ·rename_i n t heq
   cases heq
   cases hb:lK cs with
   |none=>simp [hb] at h
   |some r =>
    simp only[hb,Option.some.injEq] at h
    obtain⟨ns,h1,h2⟩:=ih r hb
    exact⟨n::ns,by rw[h1];rfl,by rw[<- h,h2];rfl⟩
  ·cases h
theorem Gb {ns:List Int}{k:IntKind}:∀ {m:List Value},bS ι (ns.map (Value.int k)) m->m=ns.map (Value.int k):=by
 induction ns with
 |nil=>intro m h;exact h.nil_inv
 |cons n ns ih =>
  intro m h
  obtain⟨y,l',rfl,h1,h2⟩:=h.cons_inv
  cases h1
  rw[ih h2];rfl
theorem zd (ok:C.Ok eg P) (hr:HR G ι s.h w.heap) (src dst:TypeId) {x x':Value} (hx:VR ι x x') :
  d8 G P ι s w (gm C src dst x) (convert src dst x'):=by
 intro v s' h hf
 unfold gm at h
 cases hs:C.und src with
 |none=>rw[hs] at h;exact(aa h).elim
 |some ds =>
  cases hd:C.und dst with
  |none=>rw[hs,hd] at h;exact(aa h).elim
  |some dd =>
   rw[hs,hd] at h
   have r1:=ok.runUnd hs w
   have r2:=ok.runUnd hd w
   simp only at h
   split at h
   ·-- to an integer
    rename_i k kk n
    cases hx
    obtain⟨rfl,rfl⟩:=ak h
    refine⟨.int k (k.wrap n),w,ι,?_,by rw[fB];exact .int _ _,aM.refl hr rfl rfl⟩
    unfold convert
    simp only[Sem.run_bind,r1,r2,Result.andThen_ok]
    cases ds<;>rfl
   ·-- a string as it is
    rename_i st
    cases hx
    obtain⟨rfl,rfl⟩:=ak h
    refine⟨.string st,w,ι,?_,.string _,aM.refl hr rfl rfl⟩
    unfold convert
    simp only[Sem.run_bind,r1,r2,Result.andThen_ok]
    cases ds<;>rfl
   ·-- bytes as they are
    rename_i e0 e a n c
    cases hu:C.und e with
    |none=>rw[hu] at h;exact(aa h).elim
    |some u =>
     cases hb1:Nat.beq src dst with
     |false=>rw[hu,hb1] at h;cases u<;>first|exact(aa h).elim|(rename_i kk;cases kk<;>exact(aa h).elim)
     |true =>
      cases hb2:Nat.blt 0 n with
      |false=>rw[hu,hb1,hb2] at h;cases u<;>first|exact(aa h).elim|(rename_i kk;cases kk<;>exact(aa h).elim)
      |true =>
       rw[hu,hb1,hb2] at h
       have he:=aL.1 hb1
       have hn:=eh.1 hb2
       subst he
       by_cases hu8:u=.int .u8
       ·subst hu8
        simp only at h
        obtain⟨cs,s1,h1,h2⟩:=bind_some h
        obtain⟨hb,_,rfl⟩:=tq h1
        obtain⟨⟨⟩,s2,h3,h4⟩:=bind_some h2
        obtain⟨_,_,rfl⟩:=dI h3
        obtain⟨rfl,rfl⟩:=ak h4
        obtain⟨ob,hob,hwr,L,hL,cc,t,fr,hH,hcr,hfr⟩:∃ob,s.h.get a.block=some ob/\ob.wr=true/\∃L,ι a.block=some L/\∃cc t fr,w.heap[L.blk]?=some (.cells cc t fr)/\kU ι L cs cc/\(fr=(0,0)\/fr=(cc.size,cc.size+1)):=by
         rcases hb with hb|hb
         ·obtain⟨L,q1,cc,t,fr,q2,q3,q4⟩:=hr.obj _ _ hb
          exact⟨_,hb,rfl,L,q1,cc,t,fr,q2,q3,.inl q4⟩
         ·obtain⟨L,q1,cc,t,fr,q2,q3,q4⟩:=hr.obj _ _ hb
          exact⟨_,hb,rfl,L,q1,cc,t,fr,q2,q3,q4⟩
        have hlt:L.blk<w.heap.size:=hr.lt _ _ hL
        have fin:∀(o:Nat) (c':Nat),x'=.slice (some ⟨L.blk,o,none⟩) n c' ->
          ∃w',(convert src src x').run P w=.ok x' w'/\aM G ι ι s ⟨s.h.set a.block (some (.bytes cs)),s.c,a.block::s.rl,a.block::s.wl⟩ w w':=by
         intro o c' hx'
         subst hx'
         refine⟨w.freeze ⟨L.blk,cc.size,none⟩ 1,?_,?_⟩
         ·have hsh:w.shape? L.blk=some (t,cc.size):=by simp [World.shape?,hH]
          unfold convert
          rw[hd] at hs
          cases hs
          simp only[Sem.run_bind,r2,Result.andThen_ok,ok.runUnd hu,beq_self_eq_true,markStringish,run_shape,hsh,run_freeze]
          rfl
         ·have hbl:(w.freeze ⟨L.blk,cc.size,none⟩ 1).heap[L.blk]?=some (.cells cc t (cc.size,cc.size+1)):=by
           simp only[World.freeze,if_neg Nat.one_ne_zero,Array.getElem?_modify,if_pos,hH,Option.map_some]
           rcases hfr with rfl|rfl
           ·simp
           ·simp
          refine aM.put hr hob hwr hL rfl rfl ⟨cc,t,_,hbl,hcr,.inr rfl⟩ ?_ (by simp [World.freeze]) (by simp [World.freeze]) (by simp [World.freeze]) (by simp [World.freeze])
          intro k hk
          simp only[World.freeze,if_neg Nat.one_ne_zero,Array.getElem?_modify]
          rw[if_neg (by omega)]
        obtain⟨b,o,sp⟩:=a
        rcases hx.slice_inv with⟨rfl,L',hL',hx'⟩|⟨e',rfl,L',c',hL',hc,hs',hx'⟩|⟨e',rfl,rfl,_⟩
        ·have:L'=L:=by rw[hL] at hL';cases hL';rfl
         subst this
         obtain⟨w',q1,q2⟩:=fin _ _ hx'
         exact⟨x',w',ι,q1,hx,q2⟩
        ·have:L'=L:=by rw[hL] at hL';cases hL';rfl
         subst this
         obtain⟨w',q1,q2⟩:=fin _ _ hx'
         exact⟨x',w',ι,q1,hx,q2⟩
        ·omega
       ·exfalso
        cases u with
        |int kk=>cases kk<;>first|exact hu8 rfl|exact aa h
        |_=>exact aa h
   ·-- a string to bytes
    rename_i e st
    cases hx
    cases hu:C.und e with
    |none=>rw[hu] at h;exact(aa h).elim
    |some u =>
     rw[hu] at h
     by_cases hu8:u=.int .u8
     ·subst hu8
      simp only at h
      cases h2:Nat.ble st.size dv with
      |false=>rw[h2] at h;exact(aa h).elim
      |true =>
       rw[h2] at h
       obtain⟨bn,s1,h3,h4⟩:=bind_some h
       obtain⟨rfl,rfl⟩:=ak h4
       unfold ox at h3
       rw[b4] at h3
       obtain⟨hn1,rfl,rfl⟩:=dZ h3
       have hch:(choose (.appendCap st.size 0 e)).run P w=.ok ((Question.appendCap st.size 0 e).cut (w.tape w.drawn (.appendCap st.size 0 e))) w.drew:=by
        rw[run_choose];rfl
       have hm:st.size<=(Question.appendCap st.size 0 e).cut (w.tape w.drawn (.appendCap st.size 0 e)):=Nat.le_add_right _ _
       generalize (Question.appendCap st.size 0 e).cut (w.tape w.drawn (.appendCap st.size 0 e))=m at *
       have hcsz:(st.data.map (fun b=>Value.int .u8 b.toNat)++Array.replicate (m - st.size) (Value.int .u8 0)).size=m:=by
        simp only[Array.size_append,Array.size_map,Array.size_replicate]
        show st.size+_=_
        omega
       refine⟨.slice (some ⟨w.heap.size,0,none⟩) st.size m,w.drew.alloc (.cells (st.data.map (fun b=>Value.int .u8 b.toNat)++Array.replicate (m - st.size) (Value.int .u8 0)) e (m,m+1)),_,?_,
        .sliceI s.c 0 1 _ _ m ⟨w.heap.size,0,m⟩ (aD.upd_same ..) hm (by show 0+0+m*1<=m;omega),
        aM.drew (aM.alloc (w:=w.drew) hr (hf _ (Nat.le_refl _) (Nat.lt_succ_self _)) rfl rfl ?_)⟩
       ·have hmk:=zm (P:=P) (w:=w.drew) e (st.data.map (fun b=>Value.int .u8 b.toNat)++Array.replicate (m - st.size) (Value.int .u8 0))
        rw[hcsz] at hmk
        unfold convert
        simp only[Sem.run_bind,r1,r2,Result.andThen_ok]
        have:(Conv.stringToBytes e st).run P w=.ok (.slice (some ⟨w.heap.size,0,none⟩) st.size m) (w.drew.alloc (.cells (st.data.map (fun b=>Value.int .u8 b.toNat)++Array.replicate (m - st.size) (Value.int .u8 0)) e (m,m+1))):=by
         unfold Conv.stringToBytes
         simp only[Sem.run_bind,hch,Result.andThen_ok,newRow,run_newObj,Sem.run_pure,World.alloc_eq]
         have hmk':=hmk
         simp only[World.size_drew] at hmk'
         simp only[World.size_drew,hmk',Result.andThen_ok]
        cases ds<;>simp only[ok.runUnd hu,Result.andThen_ok,this]
       ·intro ι' hle'
        refine⟨_,e,(m,m+1),?_,⟨hcsz.symm,?_,?_⟩,.inr (by rw[hcsz])⟩
        ·show (w.heap.push _)[w.heap.size]?=_
         simp
        ·show 0+(kN st).length<=_
         rw[hcsz]
         have:(kN st).length=st.size:=by unfold kN;rw[fm,List.length_map,Array.length_toList];rfl
         omega
        ·intro k y hk
         rw[tD] at hk
         have hlt:k<st.data.size:=by
          rcases Nat.lt_or_ge k st.data.size with hh|hh
          ·exact hh
          ·rw[Array.getElem?_eq_none hh] at hk;cases hk
         refine⟨y,?_,?_⟩
         ·show _[0+k]?=_
          rw[Nat.zero_add,Array.getElem?_append_left (by simpa using hlt),Array.getElem?_map];exact hk
         ·cases hq:st.data[k]? with
          |none=>rw[hq] at hk;cases hk
          |some q=>rw[hq] at hk;cases hk;exact .int _ _
     ·exfalso
      cases u with
      |int kk=>cases kk<;>first|exact hu8 rfl|exact aa h
      |_=>exact aa h
   ·-- bytes to a string
    rename_i e _
    cases hu:C.und e with
    |none=>rw[hu] at h;exact(aa h).elim
    |some u =>
     rw[hu] at h
     by_cases hu8:u=.int .u8
     ·subst hu8
      simp only at h
      split at h
      ·cases hx
       obtain⟨rfl,rfl⟩:=ak h
       refine⟨.string .empty,w,ι,?_,.string _,aM.refl hr rfl rfl⟩
       rw[run_convert_bytes_string w src dst e _ _ _ (ok.und hs) (ok.und hu) (ok.und hd)]
       rfl
      ·rename_i a len cap _
       obtain⟨cs,s1,h1,h2⟩:=bind_some h
       obtain⟨l,s2,h3,h4⟩:=bind_some h2
       obtain⟨hl,rfl⟩:=aI h3
       obtain⟨rfl,rfl⟩:=ak h4
       obtain⟨f1,f2,f3,f4⟩:=ky (P:=P) hr hx h1
       obtain⟨ns,n1,n2⟩:=wj cs l hl
       have hA:∃A:Array Value,(Builtin.firstCells 1 len x').run P w=.ok A w/\bS ι cs A.toList:=by
        rcases Nat.eq_zero_or_pos len with hh|hh
        ·subst hh
         rw[f3 rfl]
         exact⟨#[],kn (m:=0) hx rfl,bS.nil ι⟩
        ·obtain⟨A,a1,a2,_⟩:=f4 hh;exact⟨A,a1,a2⟩
       obtain⟨A,a1,a2⟩:=hA
       have shape:∃a' c',x'=.slice (some a') len c':=by
        cases hx with
        |sliceX=>exact⟨_,_,rfl⟩
        |sliceI=>exact⟨_,_,rfl⟩
        |sliceZ=>exact⟨_,_,rfl⟩
       obtain⟨a',c',rfl⟩:=shape
       rw[n1] at a2
       have hA':=Gb a2
       have hload:(loadCells a' len).run P w=.ok (ns.map (Value.int .u8)).toArray w:=by
        simp only[Builtin.firstCells,Nat.mul_one] at a1
        rw[a1,<- hA']
       refine⟨.string (ns.foldl (fun r n=>r.push (UInt8.ofNat n.toNat)) ByteArray.empty),w,ι,?_,?_,aM.refl hr f1 f2⟩
       ·rw[run_convert_bytes_string w src dst e _ _ _ (ok.und hs) (ok.und hu) (ok.und hd),run_bytesToString w a' len c' ns hload]
       ·have:=Al ns ByteArray.empty
        have he:(ns.foldl (fun r n=>r.push (UInt8.ofNat n.toNat)) ByteArray.empty)=⟨⟨l⟩⟩:=by
         have h2:((ns.foldl (fun r n=>r.push (UInt8.ofNat n.toNat)) ByteArray.empty)).data.toList=l:=by rw[this,n2];rfl
         generalize (ns.foldl (fun r n=>r.push (UInt8.ofNat n.toNat)) ByteArray.empty)=q at h2
         obtain⟨⟨q⟩⟩:=q
         simp at h2
         rw[h2]
        rw[he];exact .string _
      ·exact(aa h).elim
     ·exfalso
      cases u with
      |int kk=>cases kk<;>first|exact hu8 rfl|exact aa h
      |_=>exact aa h
   ·exact(aa h).elim
end ops
end Go.Ab
