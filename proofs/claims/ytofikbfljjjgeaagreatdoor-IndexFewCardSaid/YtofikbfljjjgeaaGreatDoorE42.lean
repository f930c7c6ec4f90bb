import Derived.Test.YtofikbfljjjgeaaGreatDoorE40
import Derived.IntWalk
set_option linter.unusedVariables false
set_option linter.unusedSimpArgs false
section
namespace Go.Ab
def ay (h:T ag) (b:Nat) (o:ag):Prop:=h.get b=some o
def ai (h:T ag) (c:Nat):Prop:=∀b,c<=b->h.get b=none
def gX (h:T ag) (b:Nat) (cs:List Value):Prop:=ay h b (.cells cs)\/ay h b (.ro cs)\/ay h b (.bytes cs)
theorem ay.same {h:T ag}{b:Nat}{o:ag}:ay (h.set b (some o)) b o:=by unfold ay;rw[T.get_set,if_pos rfl]
theorem ay.other {h:T ag}{b b':Nat}{o:ag}{x:Option ag} (k:b≠b') (hb:ay h b o):ay (h.set b' x) b o:=by unfold ay;rw[T.get_set,if_neg k];exact hb
theorem ay.cel {h:T ag}{b:Nat}{cs:List Value} (hb:ay h b (.cells cs)):gX h b cs:=.inl hb
theorem ay.celR {h:T ag}{b:Nat}{cs:List Value} (hb:ay h b (.ro cs)):gX h b cs:=.inr (.inl hb)
theorem gX.other {h:T ag}{b b':Nat}{cs:List Value}{x:Option ag} (k:b≠b') (hb:gX h b cs):gX (h.set b' x) b cs:=hb.imp (ay.other k) (Or.imp (ay.other k) (ay.other k))
theorem ay.lt {h:T ag}{b c:Nat}{o:ag} (hf:ai h c) (hb:ay h b o):b<c:=by
 rcases Nat.lt_or_ge b c with k|k
 ·exact k
 ·rw[ay,hf b k] at hb;cases hb
theorem gX.lt {h:T ag}{b c:Nat}{cs:List Value} (hf:ai h c) (hb:gX h b cs):b<c:=by
 rcases hb with hb|hb|hb<;>exact hb.lt hf
theorem ai.new {h:T ag}{c:Nat}{o:Option ag} (hf:ai h c):ai (h.set c o) (c+1):=fun b hb=>by rw[T.get_set,if_neg (by omega)];exact hf b (by omega)
theorem ai.put {h:T ag}{c b:Nat}{o:Option ag} (hb:b<c) (hf:ai h c):ai (h.set b o) c:=fun x hx=>by rw[T.get_set,if_neg (by omega)];exact hf x hx
section prim
variable {h:T ag}{c:Nat}{rl wl:List Nat}{b:Nat}
theorem sD {o:ag} (hb:ay h b o) (hc:b<c):getO b ⟨h,c,rl,wl⟩=some (o,⟨h,c,b::rl,wl⟩):=by
 show Bool.rec (motive:=fun _=>Option (ag×St)) (Option.rec (motive:=fun _=>Option (ag×St)) none (fun o=>some (o,⟨h,c,b::rl,wl⟩)) (h.get b)) none (Nat.ble c b)=_
 rw[show Nat.ble c b=false from cC.2 (by omega),hb]
theorem gD {o:ag}{x:Option ag} (hb:ay h b o) (hc:b<c):putO b x ⟨h,c,rl,wl⟩=some ((),⟨h.set b x,c,rl,b::wl⟩):=by
 show Bool.rec (motive:=fun _=>Option (Unit×St)) (Option.rec (motive:=fun _=>Option (Unit×St)) none (fun _=>(h.set b x).force fun h=>some ((),⟨h,c,rl,b::wl⟩)) (h.get b)) none (Nat.ble c b)=_
 rw[show Nat.ble c b=false from cC.2 (by omega),hb]
 simp only[T.force_eq]
theorem y5 {o:ag} (hf:ai h c):newO o ⟨h,c,rl,wl⟩=some (c,⟨h.set c (some o),c+1,rl,wl⟩):=by
 show Option.rec (motive:=fun _=>Option (Nat×St)) ((h.set c (some o)).force fun h=>some (c,⟨h,Nat.add c 1,rl,wl⟩)) (fun _=>none) (h.get c)=_
 rw[hf c (Nat.le_refl _)]
 simp only[T.force_eq]
theorem bU {cs:List Value} (hb:gX h b cs) (hc:b<c):cj b ⟨h,c,rl,wl⟩=some (cs,⟨h,c,b::rl,wl⟩):=by
 unfold cj
 rcases hb with hb|hb|hb<;>(rw[ac (sD hb hc)];rfl)
theorem bz {cs:List Value} (hb:ay h b (.cells cs)) (hc:b<c):bu b ⟨h,c,rl,wl⟩=some (cs,⟨h,c,b::rl,wl⟩):=by
 unfold bu
 rw[ac (sD hb hc)];rfl
theorem dk {es:List (Value×Value×Nat)}{k:Nat} (hb:ay h b (.map es k)) (hc:b<c):iL b ⟨h,c,rl,wl⟩=some ((es,k),⟨h,c,b::rl,wl⟩):=by
 unfold iL
 rw[ac (sD hb hc)];rfl
theorem aw {α:Type}{x:Option α}{a:α}{s:St} (hx:x=some a):M.lift x s=some (a,s):=by
 show Option.rec (motive:=fun _=>Option (α×St)) none (fun a=>some (a,s)) x=_
 rw[hx]
theorem bc {cs:List Value} (hf:ai h c):bq cs ⟨h,c,rl,wl⟩=some (c,⟨h.set c (some (.cells cs)),c+1,rl,wl⟩):=by
 unfold bq
 rw[b4]
 exact y5 hf
theorem db {cs r:List Value}{o n:Nat} (hb:gX h b cs) (hc:b<c) (hs:aP o n cs=some r):gi b o n ⟨h,c,rl,wl⟩=some (r,⟨h,c,b::rl,wl⟩):=by
 unfold gi
 rw[ac (bU hb hc)]
 exact aw hs
theorem fY {cs xs r:List Value}{o:Nat} (hb:ay h b (.cells cs)) (hc:b<c) (hs:bw xs cs o=some r):cx b o xs ⟨h,c,rl,wl⟩=some ((),⟨h.set b (some (.cells r)),c,b::rl,b::wl⟩):=by
 unfold cx
 rw[ac (bz hb hc),ac (aw hs)]
 exact gD hb hc
theorem vD {x:Value}{cs:List Value} (hx:ba x=some cs) (hf:ai h c):oF x ⟨h,c,rl,wl⟩=some (.pointer (some ⟨c,0,none⟩),⟨h.set c (some (.cells cs)),c+1,rl,wl⟩):=by
 unfold oF
 rw[ac (aw hx),ac (bc hf)];rfl
end prim
section ops
variable {C:aS}{eg:TypeId->Bool}{e:aR}{s:St}{h:T ag}{c:Nat}{rl wl:List Nat}{d:Option Nat}{ty:TypeId}{ps:String}{af:Array Edge}{g:Option (Nat×Bool)}
theorem Cc {x:Operand}{v:Value} (hx:ae e x=v):aW C eg e ⟨d,.move x,ty,ps,af,g⟩ s v s:=⟨0,by show M.ret (ae e x) s=_;rw[hx];rfl⟩
theorem uR {x:Operand}{v:Value} (hx:ae e x=v):aW C eg e ⟨d,.assign x,ty,ps,af,g⟩ s v s:=⟨0,by show M.ret (ae e x) s=_;rw[hx];rfl⟩
theorem zo {x a b:Operand}{v:Value} (hx:ae e x=.bool true) (ha:ae e a=v):aW C eg e ⟨d,.pick x a b,ty,ps,af,g⟩ s v s:=⟨0,by show oI e x a b s=_;unfold oI;rw[hx,ha];rfl⟩
theorem xK {x a b:Operand}{v:Value} (hx:ae e x=.bool false) (ha:ae e b=v):aW C eg e ⟨d,.pick x a b,ty,ps,af,g⟩ s v s:=⟨0,by show oI e x a b s=_;unfold oI;rw[hx,ha];rfl⟩
theorem Ip {t:TypeId}{x:Operand}{v:Value}{cs:List Value} (hx:ae e x=v) (hc:ba v=some cs) (hf:ai h c) :
  aW C eg e ⟨d,.box t x,ty,ps,af,g⟩ ⟨h,c,rl,wl⟩ (.pointer (some ⟨c,0,none⟩)) ⟨h.set c (some (.cells cs)),c+1,rl,wl⟩ :=
 ⟨0,by show oF (ae e x) _=_;rw[hx];exact vD hc hf⟩
theorem zy {t:TypeId}{z:Value}{cs:List Value} (hz:C.zero t=some z) (hc:ba z=some cs) (hf:ai h c) :
  aW C eg e ⟨d,.alloc t,ty,ps,af,g⟩ ⟨h,c,rl,wl⟩ (.pointer (some ⟨c,0,none⟩)) ⟨h.set c (some (.cells cs)),c+1,rl,wl⟩ :=
 ⟨0,by show ko C t _=_;unfold ko;rw[ac (aw hz)];exact vD hc hf⟩
noncomputable def jt (C:aS) (t:TypeId):Bool:=match C.und t with|none=>false|some (.struct _)=>false|some (.array _ _)=>false|some _=>true
noncomputable def tI (C:aS) (t:TypeId):Option Nat:=match C.und t with|some (.struct _)=>C.size t|some (.array _ _)=>C.size t|_=>none
theorem aB {t:TypeId}{a:Operand}{b o:Nat}{cs:List Value}{v:Value} (ht:jt C t=true) (ha:ae e a=.pointer (some ⟨b,o,none⟩)) (hb:gX h b cs) (hc:b<c) (hv:cu cs o=some v) :
  aW C eg e ⟨d,.load t a,ty,ps,af,g⟩ ⟨h,c,rl,wl⟩ v ⟨h,c,b::rl,wl⟩:=⟨0,by
 show fG C t (ae e a) _=_
 rw[ha]
 unfold jt at ht
 unfold fG
 simp only[eM]
 cases hu:C.und t with
 |none=>rw[hu] at ht;cases ht
 |some u =>
  rw[hu] at ht
  cases u<;>first|(cases ht;done)|(simp only;rw[ac (bU hb hc)];simp only[hv];rfl)⟩
theorem cT {t:TypeId}{a:Operand}{b o n:Nat}{cs r:List Value} (ht:tI C t=some n) (ha:ae e a=.pointer (some ⟨b,o,none⟩)) (hb:gX h b cs) (hc:b<c) (hv:aP o n cs=some r) :
  aW C eg e ⟨d,.load t a,ty,ps,af,g⟩ ⟨h,c,rl,wl⟩ (.agg ⟨r⟩) ⟨h,c,b::rl,wl⟩:=⟨0,by
 show fG C t (ae e a) _=_
 rw[ha]
 unfold tI at ht
 unfold fG
 simp only[eM]
 cases hu:C.und t with
 |none=>rw[hu] at ht;cases ht
 |some u =>
  rw[hu] at ht
  cases u<;>first|(cases ht;done)|(simp only at ht ⊢;rw[ht];simp only;rw[ac (db hb hc hv)];rfl)⟩
theorem zl {t:TypeId}{a x:Operand}{b o n:Nat}{cs xs r:List Value}{v:Value} (ht:C.size t=some n) (ha:ae e a=.pointer (some ⟨b,o,none⟩)) (hx:ae e x=v) (hxs:ba v=some xs) (hn:Nat.beq (len xs) n=true) (hb:ay h b (.cells cs)) (hc:b<c) (hr:bw xs cs o=some r) :
  aW C eg e ⟨d,.store t a x,ty,ps,af,g⟩ ⟨h,c,rl,wl⟩ br ⟨h.set b (some (.cells r)),c,b::rl,b::wl⟩:=⟨0,by
 show kM C t (ae e a) (ae e x) _=_
 rw[ha,hx]
 unfold kM
 simp only[eM,ht]
 rw[ac (aw hxs)]
 simp only[hn]
 rw[ac (fY hb hc hr)];rfl⟩
theorem pZ {x:Operand}{a:Addr} (hx:ae e x=.pointer (some a)):aW C eg e ⟨d,.nilCheck x,ty,ps,af,g⟩ s (.pointer (some a)) s:=⟨0,by
 show eW (ae e x) s=_;rw[hx];rfl⟩
noncomputable def fieldAt (C:aS) (t:TypeId) (f:Nat):Option (Nat×TypeId) :=
 match C.und t with
 |some (.struct fields)=>match cu fields.toList f with|none=>none|some f=>match C.size f.type with|some (_+1)=>some (f.offset,f.type)|_=>none
 |_=>none
theorem og {t:TypeId}{x:Operand}{f b o off:Nat}{ft:TypeId} (ht:fieldAt C t f=some (off,ft)) (hx:ae e x=.pointer (some ⟨b,o,none⟩)) :
  aW C eg e ⟨d,.fieldAddr t x f,ty,ps,af,g⟩ s (.pointer (some ⟨b,o+off,none⟩)) s:=⟨0,by
 show eS C t (ae e x) f s=_
 rw[hx]
 unfold fieldAt at ht
 unfold eS
 simp only[eM]
 cases hu:C.und t with
 |none=>rw[hu] at ht;cases ht
 |some u =>
  rw[hu] at ht
  cases u<;>first|(cases ht;done)|skip
  rename_i fields
  simp only at ht ⊢
  cases hn:cu fields.toList f with
  |none=>rw[hn] at ht;cases ht
  |some fl =>
   rw[hn] at ht
   simp only at ht ⊢
   cases hz:C.size fl.type with
   |none=>rw[hz] at ht;cases ht
   |some z =>
    rw[hz] at ht
    cases z with
    |zero=>cases ht
    |succ z=>simp only[Option.some.injEq,Prod.mk.injEq] at ht ⊢;rw[ht.1];rfl⟩
theorem zP {t:TypeId}{x:Operand}{f off:Nat}{ft:TypeId}{cs:Array Value}{v:Value} (ht:fieldAt C t f=some (off,ft)) (hp:jt C ft=true) (hx:ae e x=.agg cs) (hv:cu cs.toList off=some v) :
  aW C eg e ⟨d,.field t x f,ty,ps,af,g⟩ s v s:=⟨0,by
 show ki C t (ae e x) f s=_
 rw[hx]
 unfold fieldAt at ht
 unfold ki
 cases hu:C.und t with
 |none=>rw[hu] at ht;cases ht
 |some u =>
  rw[hu] at ht
  cases u<;>first|(cases ht;done)|skip
  rename_i fields
  simp only at ht ⊢
  cases hn:cu fields.toList f with
  |none=>rw[hn] at ht;cases ht
  |some fl =>
   rw[hn] at ht
   simp only at ht ⊢
   cases hz:C.size fl.type with
   |none=>rw[hz] at ht;cases ht
   |some z =>
    rw[hz] at ht
    cases z with
    |zero=>cases ht
    |succ z =>
     simp only[Option.some.injEq,Prod.mk.injEq] at ht
     obtain⟨rfl,rfl⟩:=ht
     refine aw ?_
     unfold nq
     unfold jt at hp
     cases hw:C.und fl.type with
     |none=>rw[hw] at hp;cases hp
     |some w=>rw[hw] at hp;cases w<;>first|(cases hp;done)|exact hv⟩
noncomputable def cQ (C:aS) (t:TypeId):Option Nat:=match C.und t with|some (.slice e)=>C.size e|_=>none
theorem aj {t:TypeId}{x i:Operand}{ob off:Nat}{sp:Option Nat}{len cap n k:Nat}{j:IntKind}{z:Int} (ht:cQ C t=some n) (hx:ae e x=.slice (some ⟨ob,off,sp⟩) len cap) (hi:ae e i=.int j z) (hz:z=(k:Int)) (hk:k<len) :
  aW C eg e ⟨d,.indexAddr t x i,ty,ps,af,g⟩ s (.pointer (some ⟨ob,off+k*n,none⟩)) s:=⟨0,by
 show dN C t (ae e x) (ae e i) s=_
 subst hz
 rw[hx,hi]
 unfold cQ at ht
 unfold dN
 rw[show cZ (.int j (k:Int))=some k from rfl]
 cases hu:C.und t with
 |none=>rw[hu] at ht;cases ht
 |some u =>
  rw[hu] at ht
  cases u<;>first|(cases ht;done)|skip
  simp only at ht ⊢
  rw[ht,show Nat.blt k len=true from eh.2 hk];rfl⟩
theorem sM {x:Operand}{i:Nat}{vs:Array Value}{v:Value} (hx:ae e x=.tuple vs) (hv:cu vs.toList i=some v):aW C eg e ⟨d,.extract x i,ty,ps,af,g⟩ s v s:=⟨0,by
 show io (ae e x) i s=_;rw[hx];exact aw hv⟩
theorem qE {fn:Fn}{a b:Array Operand}{xs ys:List Value} (ha:gO (ae e) a.toList=xs) (hb:gO (ae e) b.toList=ys):aW C eg e ⟨d,.makeFunc fn a b,ty,ps,af,g⟩ s (.func fn ⟨xs⟩ ⟨ys⟩) s:=⟨0,by
 show mQ e fn a b s=_;unfold mQ;rw[ha,hb];rfl⟩
theorem rQ {t:TypeId} (hf:ai h c):aW C eg e ⟨d,.makeMap t none,ty,ps,af,g⟩ ⟨h,c,rl,wl⟩ (.map (some c)) ⟨h.set c (some (.map [] 0)),c+1,rl,wl⟩:=⟨0,by
 show ((newO (ag.map [] 0)).bind fun b=>M.ret (Value.map (some b))) _=_
 rw[ac (y5 hf)];rfl⟩
theorem cY {op:BinOp}{t t2:TypeId}{x y:Operand}{a b v:Value} (hx:ae e x=a) (hy:ae e y=b) (hv:nu C eg op t x y a b=some v):aW C eg e ⟨d,.binOp op t x y t2,ty,ps,af,g⟩ s v s:=⟨0,by
 show GE C eg e op t x y t2 s=_
 unfold GE
 rw[hx,hy];exact aw hv⟩
theorem HY {op:UnOp}{t:TypeId}{x:Operand}{a v:Value} (hx:ae e x=a) (hv:Gz op a=some v):aW C eg e ⟨d,.unOp op t x,ty,ps,af,g⟩ s v s:=⟨0,by
 show Ml e op t x s=_
 unfold Ml
 rw[hx];exact aw hv⟩
noncomputable def yb (C:aS) (a b:TypeId):Option IntKind:=match C.und a,C.und b with|some (.int _),some (.int k)=>some k|_,_=>none
theorem si {a b:TypeId}{x:Operand}{j k:IntKind}{z:Int} (ht:yb C a b=some k) (hx:ae e x=.int j z):aW C eg e ⟨d,.convert a b x,ty,ps,af,g⟩ s (.int k (cf k z)) s:=⟨0,by
 show gm C a b (ae e x) s=_
 rw[hx]
 unfold yb at ht
 unfold gm
 cases hu:C.und a with
 |none=>rw[hu] at ht;cases ht
 |some u =>
  cases hw:C.und b with
  |none=>rw[hu,hw] at ht;cases u<;>cases ht
  |some w =>
   rw[hu,hw] at ht
   cases u<;>first|(cases ht;done)|skip
   cases w<;>first|(cases ht;done)|skip
   simp only[Option.some.injEq] at ht
   subst ht
   rfl⟩
noncomputable def lj (C:aS) (t:TypeId):Option (List (Nat×Nat)×List Value) :=
 match C.und t,C.zero t with
 |some (.struct fields),some z=>(match jg C fields.toList,ba z with|some pl,some zs=>some (pl,zs)|_,_=>none)
 |_,_=>none
theorem za {t:TypeId}{pl:List (Nat×Nat)}{zs:List Value} (h:lj C t=some (pl,zs)):∃fields z,C.und t=some (.struct fields)/\C.zero t=some z/\jg C fields.toList=some pl/\ba z=some zs:=by
 unfold lj at h
 split at h
 ·rename_i f z h1 h2
  split at h
  ·rename_i p q h3 h4
   cases h
   exact⟨f,z,h1,h2,h3,h4⟩
  ·cases h
 ·cases h
theorem xX {t:TypeId}{parts:Array (Nat×Operand)}{pl:List (Nat×Nat)}{zs cs:List Value} (ht:lj C t=some (pl,zs)) (hv:j4 (cu pl) zs (dA e parts)=some cs) :
  aW C eg e ⟨d,.build t parts,ty,ps,af,g⟩ s (.agg ⟨cs⟩) s:=⟨0,by
 obtain⟨fields,z,h1,h2,h3,h4⟩:=za ht
 show g9 C t (dA e parts) s=_
 unfold g9
 rw[h1,h2]
 simp only
 rw[ac (aw h3),ac (aw h4),ac (aw hv)];rfl⟩
theorem nz {t et:TypeId}{k n by_:Nat}{z cs:List Value}{parts:Array (Nat×Operand)} (ht:C.row t=some (et,n,by_,z)) (hk:Nat.ble (k*n) dv=true) (hv:j4 (fun i=>some (i*n,n)) (rep z k) (dA e parts)=some cs) (hf:ai h c) :
  aW C eg e ⟨d,.buildSlice t k parts,ty,ps,af,g⟩ ⟨h,c,rl,wl⟩ (.slice (some ⟨c,0,none⟩) k k) ⟨h.set c (some (.cells cs)),c+1,rl,wl⟩:=⟨0,by
 show ei C t k (dA e parts) _=_
 unfold ei
 rw[ac (aw ht)]
 simp only[hk]
 rw[ac (aw hv),ac (bc hf)];rfl⟩
theorem dM {t et:TypeId}{l m:Operand}{n by_ a b:Nat}{j j':IntKind}{y y':Int}{z:List Value} (ht:C.row t=some (et,n,by_,z)) (hl:ae e l=.int j y) (hm:ae e m=.int j' y') (ha:y=(a:Int)) (hb:y'=(b:Int)) (hab:a<=b) (hbb:b<=dv) (hf:ai h c) :
  aW C eg e ⟨d,.makeSlice t l m,ty,ps,af,g⟩ ⟨h,c,rl,wl⟩ (.slice (some ⟨c,0,none⟩) a b) ⟨h.set c (some (.cells (rep z b))),c+1,rl,wl⟩:=⟨0,by
 show eU C t (ae e l) (ae e m) _=_
 subst ha;subst hb
 rw[hl,hm]
 unfold eU
 rw[show cZ (.int j (a:Int))=some a from rfl,show cZ (.int j' (b:Int))=some b from rfl]
 simp only
 rw[ac (aw ht)]
 simp only[show (Nat.ble a b&&Nat.ble b dv)=true by rw[aH.2 hab,aH.2 hbb];rfl]
 rw[ac (bc hf)];rfl⟩
end ops
section maps
variable {C:aS}{eg:TypeId->Bool}{e:aR}{s:St}{h:T ag}{c:Nat}{rl wl:List Nat}{d:Option Nat}{ty:TypeId}{ps:String}{af:Array Edge}{g:Option (Nat×Bool)}
noncomputable def lE (C:aS) (t:TypeId):Option (IntKind×TypeId):=match C.und t with|some (.map kt et)=>(match C.und kt with|some (.int k)=>some (k,et)|_=>none)|_=>none
noncomputable def dJ (x:Int):List (Value×Value×Nat)->Option (Nat×Value)
 | []=>none
 |(.int _ y,v,_)::es=>if x=y then some (0,v) else(dJ x es).map fun p=>(p.1+1,p.2)
 |_::es=>(dJ x es).map fun p=>(p.1+1,p.2)
def yt (j:IntKind) (es:List (Value×Value×Nat)):Prop:=∀p∈es,∃y,p.1=.int j y
theorem pO {j:IntKind}{x:Int}:∀(es:List (Value×Value×Nat)) (i:Nat),yt j es->lF (.int j x) es i=some ((dJ x es).map fun p=>(p.1+i,p.2)):=by
 intro es
 induction es with
 |nil=>intro i _;rfl
 |cons p es ih =>
  intro i hk
  obtain⟨k,v,b⟩:=p
  obtain⟨y,hy⟩:=hk _ (List.mem_cons_self ..)
  simp only at hy
  subst hy
  have ih':=ih (i+1) fun p hp=>hk p (List.mem_cons_of_mem _ hp)
  show (match ny (.int j x) (.int j y) with|none=>none|some true=>some (some (i,v))|some false=>lF (.int j x) es (i+1))=_
  rw[show ny (.int j x) (.int j y)=some (decide (x=y)) by simp [ny]]
  unfold dJ
  by_cases hxy:x=y
  ·rw[decide_eq_true hxy,if_pos hxy];simp
  ·rw[decide_eq_false hxy,if_neg hxy,ih']
   cases dJ x es with
   |none=>rfl
   |some q=>simp;omega
theorem lY {t:TypeId}{k:IntKind}{et:TypeId} (ht:lE C t=some (k,et)):∃kt,C.und t=some (.map kt et)/\gy C kt=some (.int k):=by
 unfold lE at ht
 cases hu:C.und t with
 |none=>rw[hu] at ht;cases ht
 |some u =>
  rw[hu] at ht
  cases u<;>first|(cases ht;done)|skip
  rename_i kt et'
  simp only at ht
  cases hw:C.und kt with
  |none=>rw[hw] at ht;cases ht
  |some w =>
   rw[hw] at ht
   cases w<;>first|(cases ht;done)|skip
   simp only[Option.some.injEq,Prod.mk.injEq] at ht
   obtain⟨rfl,rfl⟩:=ht
   exact⟨kt,rfl,by unfold gy;rw[hw]⟩
theorem bL {t et:TypeId}{m k:Operand}{j:IntKind}{x:Int}{b n:Nat}{es:List (Value×Value×Nat)}{z v:Value} (ht:lE C t=some (j,et)) (hz:C.zero et=some z) (hm:ae e m=.map (some b)) (hk:ae e k=.int j x) (hb:ay h b (.map es n)) (hc:b<c) (hes:yt j es)
  (hv:(match dJ x es with|some p=>p.2|none=>z)=v):aW C eg e ⟨d,.lookup t m k false,ty,ps,af,g⟩ ⟨h,c,rl,wl⟩ v ⟨h,c,b::rl,wl⟩:=⟨0,by
 obtain⟨kt,h1,h2⟩:=lY ht
 show iy C t (ae e m) (ae e k) false _=_
 rw[hm,hk]
 unfold iy
 rw[h1]
 simp only[h2,pi]
 rw[ac (dk hb hc)]
 simp only[pO es 0 hes]
 cases hf:dJ x es with
 |none =>
  rw[hf] at hv
  simp only at hv
  subst hv
  simp only[Option.map_none]
  rw[ac (aw hz)];rfl
 |some p =>
  rw[hf] at hv
  simp only at hv
  subst hv
  rfl⟩
noncomputable def eH (j:IntKind) (x:Int) (v:Value) (n:Nat) (es:List (Value×Value×Nat)):List (Value×Value×Nat)×Nat :=
 match dJ x es with
 |some p=>(lf (.int j x) v es p.1,n)
 |none=>(es++[(.int j x,v,n)],n+1)
theorem ef {t et:TypeId}{m k y:Operand}{j:IntKind}{x:Int}{b n:Nat}{es:List (Value×Value×Nat)}{v:Value} (ht:lE C t=some (j,et)) (hm:ae e m=.map (some b)) (hk:ae e k=.int j x) (hy:ae e y=v) (hb:ay h b (.map es n)) (hc:b<c) (hes:yt j es) :
  aW C eg e ⟨d,.mapUpdate t m k y,ty,ps,af,g⟩ ⟨h,c,rl,wl⟩ br ⟨h.set b (some (.map (eH j x v n es).1 (eH j x v n es).2)),c,b::rl,b::wl⟩:=⟨0,by
 obtain⟨kt,h1,h2⟩:=lY ht
 show eQ C t (ae e m) (ae e k) (ae e y) _=_
 rw[hm,hk,hy]
 unfold eQ
 rw[h1]
 simp only[h2,pi]
 rw[ac (dk hb hc)]
 simp only[pO es 0 hes]
 unfold eH
 cases hf:dJ x es with
 |none =>
  simp only[Option.map_none]
  rw[b4,ac (gD hb hc),cP];rfl
 |some p =>
  simp only[Option.map_some,Nat.add_zero]
  rw[b4,ac (gD hb hc)];rfl⟩
noncomputable def zO (x:Int) (es:List (Value×Value×Nat)):List (Value×Value×Nat):=match dJ x es with|some p=>rK es p.1|none=>es
end maps
section builtins
variable {C:aS}{eg:TypeId->Bool}{e:aR}{s:St}{h:T ag}{c:Nat}{rl wl:List Nat}{d:Option Nat}{ty:TypeId}{ps:String}{af:Array Edge}{g:Option (Nat×Bool)}
noncomputable def cI (C:aS) (t:TypeId):Bool:=match C.und t with|some (.slice _)=>true|_=>false
theorem BI {t:TypeId}{x:Operand}{a:Option Addr}{n cap:Nat} (ht:cI C t=true) (hx:ae e x=.slice a n cap) :
  aW C eg e ⟨d,.call ⟨.builtin .len,#[x],#[t]⟩,ty,ps,af,g⟩ s (.int .i64 (n:Int)) s:=⟨0,by
 show (M.lift (some t)).bind (fun t=>rP C t (ae e x)) s=_
 rw[hx,ac (aw rfl)]
 unfold cI at ht
 unfold rP
 cases hu:C.und t with
 |none=>rw[hu] at ht;cases ht
 |some u=>rw[hu] at ht;cases u<;>first|(cases ht;done)|rfl⟩
theorem Et {ts:Array TypeId}{x y:Operand}{j k:IntKind}{a b:Int} (hx:ae e x=.int j a) (hy:ae e y=.int k b) :
  aW C eg e ⟨d,.call ⟨.builtin .min,#[x,y],ts⟩,ty,ps,af,g⟩ s (.int j (min a b)) s:=⟨0,by
 show M.lift (o4 sZ (ae e x) [ae e y]) s=_
 rw[hx,hy]
 refine aw ?_
 show (match sZ (.int j a) (.int k b) with|none=>none|some z=>o4 sZ z [])=_
 simp only[sZ]
 show some (Value.int j (match decide (b<a) with|true=>b|false=>a))=_
 by_cases hb:b<a
 ·rw[decide_eq_true hb];simp only;rw[Int.min_eq_right (by omega)]
 ·rw[decide_eq_false hb];simp only;rw[Int.min_eq_left (by omega)]⟩
theorem Fa {ts:Array TypeId}{x y:Operand}{j k:IntKind}{a b:Int} (hx:ae e x=.int j a) (hy:ae e y=.int k b) :
  aW C eg e ⟨d,.call ⟨.builtin .max,#[x,y],ts⟩,ty,ps,af,g⟩ s (.int j (max a b)) s:=⟨0,by
 show M.lift (o4 sn (ae e x) [ae e y]) s=_
 rw[hx,hy]
 refine aw ?_
 show (match sn (.int j a) (.int k b) with|none=>none|some z=>o4 sn z [])=_
 simp only[sn]
 show some (Value.int j (match decide (b>a) with|true=>b|false=>a))=_
 by_cases hb:b>a
 ·rw[decide_eq_true hb];simp only;rw[Int.max_eq_right (by omega)]
 ·rw[decide_eq_false hb];simp only;rw[Int.max_eq_left (by omega)]⟩
theorem Dg {t et t2:TypeId}{m k:Operand}{j:IntKind}{x:Int}{b n:Nat}{es:List (Value×Value×Nat)} (ht:lE C t=some (j,et)) (hm:ae e m=.map (some b)) (hk:ae e k=.int j x) (hb:ay h b (.map es n)) (hc:b<c) (hes:yt j es) :
  aW C eg e ⟨d,.call ⟨.builtin .delete,#[m,k],#[t,t2]⟩,ty,ps,af,g⟩ ⟨h,c,rl,wl⟩ br ⟨h.set b (some (.map (zO x es) n)),c,b::rl,b::wl⟩:=⟨0,by
 obtain⟨kt,h1,h2⟩:=lY ht
 show (M.lift (some t)).bind (fun t=>iC C t (ae e m) (ae e k)) _=_
 rw[hm,hk,ac (aw rfl)]
 unfold iC
 rw[h1]
 simp only[h2,pi]
 rw[ac (dk hb hc)]
 simp only[pO es 0 hes]
 unfold zO
 cases hf:dJ x es with
 |none =>
  simp only[Option.map_none]
  rw[ac (gD hb hc)];rfl
 |some p =>
  simp only[Option.map_some,Nat.add_zero]
  rw[b4,ac (gD hb hc)];rfl⟩
end builtins
end Go.Ab
end
section
namespace Go.Ab
theorem dX (loc kept:L) (t:Nat):ae (.mk loc kept) (.tmp t)=loc.look (kept.look fun _=>top) t:=rfl
theorem bY (e:aR) (v:Value):ae e (.const v)=v:=rfl
theorem bK (e:aR) (g:Nat):ae e (.global g)=.pointer (some ⟨g,0,none⟩):=rfl
theorem cL (e:aR) (f:Nat):ae e (.func f)=.func (.func f) #[] #[]:=rfl
theorem dW (d:Nat->Value) (t:Nat):L.nil.look d t=d t:=rfl
theorem bH (k:Nat) (v:Value) (l:L) (d:Nat->Value) (t:Nat):(L.cons k v l).look d t=if k=t then v else l.look d t:=by
 show Bool.rec (motive:=fun _=>Value) (l.look d t) v (Nat.beq k t)=_
 by_cases h:k=t
 ·subst h;rw[show Nat.beq k k=true from Nat.beq_refl k,if_pos rfl]
 ·rw[show Nat.beq k t=false from bh.2 h,if_neg h]
theorem jy (km:Nat) (loc kept:L):ju km (.mk loc kept)=.mk .nil (d6 km loc kept):=rfl
theorem pg (km:Nat) (kept:L):d6 km .nil kept=kept:=rfl
theorem iK (km k:Nat) (v:Value) (l kept:L):d6 km (.cons k v l) kept=if Nat.testBit km k=true then L.set k v (d6 km l kept) else d6 km l kept:=by
 show Bool.rec (motive:=fun _=>L) (d6 km l kept) (L.set k v (d6 km l kept)) (Nat.testBit km k)=_
 cases Nat.testBit km k<;>rfl
theorem pM (d:Nat) (v:Value):L.set d v .nil=.cons d v .nil:=rfl
theorem mT (d:Nat) (v:Value) (k:Nat) (u:Value) (t:L):L.set d v (.cons k u t)=if k=d then .cons d v t else .cons k u (L.set d v t):=by
 show Bool.rec (motive:=fun _=>L) (.cons k u (L.set d v t)) (.cons d v t) (Nat.beq k d)=_
 by_cases h:k=d
 ·subst h;rw[show Nat.beq k k=true from Nat.beq_refl k,if_pos rfl]
 ·rw[show Nat.beq k d=false from bh.2 h,if_neg h]
theorem fZ (km i:Nat) (l:L):bO km [] i l=l:=rfl
theorem fC (km:Nat) (v:Value) (vs:List Value) (i:Nat) (l:L):bO km (v::vs) i l=if Nat.testBit km i=true then bO km vs (i+1) (.cons i v l) else bO km vs (i+1) l:=by
 show Bool.rec (motive:=fun _=>L) (bO km vs (i+1) l) (bO km vs (i+1) (.cons i v l)) (Nat.testBit km i)=_
 cases Nat.testBit km i<;>rfl
theorem sy {k:IntKind}{z:Int} (h:k.wrap z=z):cf k z=z:=by
 unfold cf
 split
 ·split
  ·rfl
  ·exact h
 ·exact h
theorem cm {z:Int} (h0 : -9223372036854775808<=z) (h1:z<=9223372036854775807):cf .i64 z=z:=sy (by have:=IntWalk.i64_in z ⟨h0,h1⟩;exact this)
theorem jT {z:Int} (h0 : -2147483648<=z) (h1:z<=2147483647):cf .i32 z=z:=sy (by
 simp only[IntKind.wrap,IntKind.signed,IntKind.bits];simp;omega)
section ops
variable {C:aS}{eg:TypeId->Bool}{e:aR}{s:St}{d:Option Nat}{ty:TypeId}{ps:String}{af:Array Edge}{g:Option (Nat×Bool)}{t t2:TypeId}{x y:Operand}{j:IntKind}{a b:Int}
theorem cq {op:BinOp} (h1:op≠.shl) (h2:op≠.shr):nu C eg op t x y (.int j a) (.int j b)=eC op j a b:=by
 unfold nu
 simp only
 cases op<;>first|exact absurd rfl h1|exact absurd rfl h2|(simp only[decide_true])
theorem Ft (hx:ae e x=.int .i64 a) (hy:ae e y=.int .i64 b) (h0 : -9223372036854775808<=a+b) (h1:a+b<=9223372036854775807):aW C eg e ⟨d,.binOp .add t x y t2,ty,ps,af,g⟩ s (.int .i64 (a+b)) s :=
 cY hx hy (by rw[cq (by decide) (by decide)];show some (Value.int .i64 (cf .i64 (a+b)))=_;rw[cm h0 h1])
theorem Fy (hx:ae e x=.int .i64 a) (hy:ae e y=.int .i64 b) (h0 : -9223372036854775808<=a - b) (h1:a - b<=9223372036854775807):aW C eg e ⟨d,.binOp .sub t x y t2,ty,ps,af,g⟩ s (.int .i64 (a - b)) s :=
 cY hx hy (by rw[cq (by decide) (by decide)];show some (Value.int .i64 (cf .i64 (a - b)))=_;rw[cm h0 h1])
theorem FO (hx:ae e x=.int .i64 a) (hy:ae e y=.int .i64 b) (h0 : -9223372036854775808<=a*b) (h1:a*b<=9223372036854775807):aW C eg e ⟨d,.binOp .mul t x y t2,ty,ps,af,g⟩ s (.int .i64 (a*b)) s :=
 cY hx hy (by rw[cq (by decide) (by decide)];show some (Value.int .i64 (cf .i64 (a*b)))=_;rw[cm h0 h1])
theorem wT (hx:ae e x=.int j a) (hy:ae e y=.int j b) (hb:b≠0):aW C eg e ⟨d,.binOp .rem t x y t2,ty,ps,af,g⟩ s (.int j (a.tmod b)) s :=
 cY hx hy (by rw[cq (by decide) (by decide)];show (match decide (b=0) with|true=>none|false=>some (Value.int j (a.tmod b)))=_;rw[decide_eq_false hb])
theorem xi (hx:ae e x=.int j a) (hy:ae e y=.int j b):aW C eg e ⟨d,.binOp .lss t x y t2,ty,ps,af,g⟩ s (.bool (decide (a<b))) s :=
 cY hx hy (by rw[cq (by decide) (by decide)];rfl)
theorem vS (hx:ae e x=.int j a) (hy:ae e y=.int j b):aW C eg e ⟨d,.binOp .leq t x y t2,ty,ps,af,g⟩ s (.bool (decide (a<=b))) s :=
 cY hx hy (by rw[cq (by decide) (by decide)];rfl)
theorem wZ (hx:ae e x=.int j a) (hy:ae e y=.int j b):aW C eg e ⟨d,.binOp .gtr t x y t2,ty,ps,af,g⟩ s (.bool (decide (b<a))) s :=
 cY hx hy (by rw[cq (by decide) (by decide)];rfl)
theorem rY (hx:ae e x=.int j a) (hy:ae e y=.int j b):aW C eg e ⟨d,.binOp .geq t x y t2,ty,ps,af,g⟩ s (.bool (decide (b<=a))) s :=
 cY hx hy (by rw[cq (by decide) (by decide)];rfl)
theorem wO (hx:ae e x=.int j a) (hy:ae e y=.int j b):aW C eg e ⟨d,.binOp .eql t x y t2,ty,ps,af,g⟩ s (.bool (decide (a=b))) s :=
 cY hx hy (by rw[cq (by decide) (by decide)];rfl)
theorem wI (hx:ae e x=.int j a) (hy:ae e y=.int j b):aW C eg e ⟨d,.binOp .neq t x y t2,ty,ps,af,g⟩ s (.bool (!decide (a=b))) s :=
 cY hx hy (by rw[cq (by decide) (by decide)];rfl)
theorem xB {p:Bool} (hx:ae e x=.bool p):aW C eg e ⟨d,.unOp .not t x,ty,ps,af,g⟩ s (.bool (!p)) s:=HY hx rfl
noncomputable def lJ (C:aS) (t:TypeId) (k:Nat):Bool:=match C.und t with|some (.pointer _)=>Nat.beq k 0|some (.slice _)=>Nat.beq k 1|some (.interface _)=>Nat.beq k 2|some .bool=>Nat.beq k 3|some (.map _ _)=>Nat.beq k 4|_=>false
theorem EF {p:Option Addr} (ht:lJ C t 0=true) (hx:ae e x=.pointer p) (hy:ae e y=.pointer none):aW C eg e ⟨d,.binOp .eql t x y t2,ty,ps,af,g⟩ s (.bool p.isNone) s :=
 cY hx hy (by
  unfold lJ at ht
  cases hu:C.und t with
  |none=>rw[hu] at ht;cases ht
  |some u =>
   rw[hu] at ht
   cases u<;>first|(cases ht;done)|skip
   cases p<;>simp [nu,js,xz,hu])
theorem En {p:Option Addr} (ht:lJ C t 0=true) (hx:ae e x=.pointer p) (hy:ae e y=.pointer none):aW C eg e ⟨d,.binOp .neq t x y t2,ty,ps,af,g⟩ s (.bool p.isSome) s :=
 cY hx hy (by
  unfold lJ at ht
  cases hu:C.und t with
  |none=>rw[hu] at ht;cases ht
  |some u =>
   rw[hu] at ht
   cases u<;>first|(cases ht;done)|skip
   cases p<;>simp [nu,js,xz,hu])
theorem FT {p:Option Addr}{n c:Nat}{n' c':Nat} (ht:lJ C t 1=true) (hx:ae e x=.slice p n c) (hy:ae e y=.slice none n' c'):aW C eg e ⟨d,.binOp .eql t x y t2,ty,ps,af,g⟩ s (.bool p.isNone) s :=
 cY hx hy (by
  unfold lJ at ht
  cases hu:C.und t with
  |none=>rw[hu] at ht;cases ht
  |some u =>
   rw[hu] at ht
   cases u<;>first|(cases ht;done)|skip
   cases p<;>simp [nu,js,xz,hu])
theorem Ew (ht:lJ C t 2=true) (hx:ae e x=.nilIface) (hy:y=.const .nilIface):aW C eg e ⟨d,.binOp .neq t x y t2,ty,ps,af,g⟩ s (.bool false) s:=by
 subst hy
 exact cY hx rfl (by
  unfold lJ at ht
  cases hu:C.und t with
  |none=>rw[hu] at ht;cases ht
  |some u =>
   rw[hu] at ht
   cases u<;>first|(cases ht;done)|skip
   simp [nu,js,xz,hu,ka,ae])
end ops
section slices
variable {C:aS}{eg:TypeId->Bool}{e:aR}{s:St}{h:T ag}{c:Nat}{rl wl:List Nat}{d:Option Nat}{ty:TypeId}{ps:String}{af:Array Edge}{g:Option (Nat×Bool)}
theorem eT {t:TypeId}{x lo:Operand}{b o len cap n k:Nat}{sp:Option Nat}{j:IntKind}{z:Int} (ht:cQ C t=some n) (hx:ae e x=.slice (some ⟨b,o,sp⟩) len cap) (hl:ae e lo=.int j z) (hz:z=(k:Int)) (hk:k<=len) (hc:k<cap) (hlc:len<=cap) (hsp:sp=none\/sp=some n) :
  aW C eg e ⟨d,.slice t x (some lo) none none,ty,ps,af,g⟩ s (.slice (some ⟨b,o+k*n,sp⟩) (len - k) (cap - k)) s:=⟨0,by
 show cV C t (ae e x) ((some lo).map (ae e)) ((none:Option Operand).map (ae e)) ((none:Option Operand).map (ae e)) s=_
 subst hz
 simp only[Option.map_some,Option.map_none]
 rw[hx,hl]
 unfold cQ at ht
 unfold cV
 cases hu:C.und t with
 |none=>rw[hu] at ht;cases ht
 |some u =>
  rw[hu] at ht
  cases u<;>first|(cases ht;done)|skip
  simp only at ht ⊢
  rw[ac (aw ht)]
  have hb:dL len cap (some (.int j (k:Int))) none none=some (k,len,cap):=by
   unfold dL
   simp only
   show (match dr none cap cap with|none=>none|some m=>_)=_
   simp only[dr]
   rw[show cZ (.int j (k:Int))=some k from rfl]
   simp only[aH.2 hk]
  rw[ac (aw hb)]
  have hne:Nat.beq cap k=false:=bh.2 (by omega)
  rcases hsp with rfl|rfl
  ·simp only[hne];rfl
  ·simp only[show (Nat.beq n n&&Nat.ble len cap)=true by rw[aH.2 hlc,Nat.beq_refl];rfl];rfl⟩
theorem iu {by_ m:Nat} (h:m<=dv):jl by_ m=true:=by
 unfold jl
 rw[aH.2 h];rfl
theorem xO {by_ m:Nat} (h1:1<=by_) (h:m*by_<=140737488355328):jl by_ m=true:=by
 unfold jl
 rw[aH.2 h1,aH.2 h]
 cases Nat.ble m dv<;>rfl
theorem cy {t et xt:TypeId}{a x:Operand}{n by_ k cap:Nat}{z cs r:List Value}{sp:Option Nat}{ob off:Nat} (ht:C.row t=some (et,n,by_,z)) (hu:cI C xt=true) (ha:ae e a=.slice none 0 0) (hx:ae e x=.slice (some ⟨ob,off,sp⟩) (k+1) cap)
  (hb:gX h ob cs) (hc:ob<c) (hs:aP off ((k+1)*n) cs=some r) (hbig:k+1<=dv) (hf:ai h c) :
  aW C eg e ⟨d,.call ⟨.builtin .append,#[a,x],#[t,xt]⟩,ty,ps,af,g⟩ ⟨h,c,rl,wl⟩ (.slice (some ⟨c,0,some n⟩) (k+1) (k+1)) ⟨h.set c (some (.cells r)),c+1,ob::rl,wl⟩:=⟨0,by
 show bQ C #[t,xt] (ae e a) (ae e x) _=_
 rw[ha,hx]
 unfold bQ
 rw[show cu (#[t,xt]:Array TypeId).toList 0=some t from rfl]
 simp only
 rw[ac (aw ht)]
 simp only
 have happ:bI C n z (cu #[t,xt].toList 1) (.slice (some ⟨ob,off,sp⟩) (k+1) cap) ⟨h,c,rl,wl⟩=some ((k+1,r),⟨h,c,ob::rl,wl⟩):=by
  show bI C n z (some xt) _ _=_
  unfold bI
  unfold cI at hu
  cases hw:C.und xt with
  |none=>rw[hw] at hu;cases hu
  |some w =>
   rw[hw] at hu
   cases w<;>first|(cases hu;done)|skip
   simp only[hw]
   rw[ac (aw (show ou (.slice (some ⟨ob,off,sp⟩) (k+1) cap)=some (k+1) from rfl))]
   have hfirst:cR n (k+1) (.slice (some ⟨ob,off,sp⟩) (k+1) cap) ⟨h,c,rl,wl⟩=some (r,⟨h,c,ob::rl,wl⟩):=by
    unfold cR
    simp only[aH.2 (Nat.le_refl (k+1))]
    exact db hb hc hs
   rw[ac hfirst];rfl
 rw[ac happ]
 simp only[show Nat.ble (0+(k+1)) 0=false from cC.2 (by omega),show jl by_ (0+(k+1))=true from iu (by omega)]
 rw[ac (bc hf)];rfl⟩
theorem dg {t et xt:TypeId}{a x:Operand}{n by_ k cap ln cp b0:Nat}{z cs r cs0:List Value}{sp:Option Nat}{ob off:Nat} (ht:C.row t=some (et,n,by_,z)) (hu:cI C xt=true) (ha:ae e a=.slice (some ⟨b0,0,some n⟩) ln cp) (hx:ae e x=.slice (some ⟨ob,off,sp⟩) (k+1) cap)
  (hb:gX h ob cs) (hc:ob<c) (hs:aP off ((k+1)*n) cs=some r) (hroom:cp<ln+(k+1)) (hbig:ln+(k+1)<=dv) (h0:ay h b0 (.cells cs0)) (hc0:b0<c) (hs0:aP 0 (ln*n) cs0=some cs0) (hat:∀v∈r,atom v=true) (hf:ai h c) :
  aW C eg e ⟨d,.call ⟨.builtin .append,#[a,x],#[t,xt]⟩,ty,ps,af,g⟩ ⟨h,c,rl,wl⟩ (.slice (some ⟨c,0,some n⟩) (ln+(k+1)) (ln+(k+1))) ⟨(h.set b0 none).set c (some (.cells (cs0++r))),c+1,b0::ob::rl,b0::wl⟩:=⟨0,by
 show bQ C #[t,xt] (ae e a) (ae e x) _=_
 rw[ha,hx]
 unfold bQ
 rw[show cu (#[t,xt]:Array TypeId).toList 0=some t from rfl]
 simp only
 rw[ac (aw ht)]
 simp only
 have happ:bI C n z (cu #[t,xt].toList 1) (.slice (some ⟨ob,off,sp⟩) (k+1) cap) ⟨h,c,rl,wl⟩=some ((k+1,r),⟨h,c,ob::rl,wl⟩):=by
  show bI C n z (some xt) _ _=_
  unfold bI
  unfold cI at hu
  cases hw:C.und xt with
  |none=>rw[hw] at hu;cases hu
  |some w =>
   rw[hw] at hu
   cases w<;>first|(cases hu;done)|skip
   simp only[hw]
   rw[ac (aw (show ou (.slice (some ⟨ob,off,sp⟩) (k+1) cap)=some (k+1) from rfl))]
   have hfirst:cR n (k+1) (.slice (some ⟨ob,off,sp⟩) (k+1) cap) ⟨h,c,rl,wl⟩=some (r,⟨h,c,ob::rl,wl⟩):=by
    unfold cR
    simp only[aH.2 (Nat.le_refl (k+1))]
    exact db hb hc hs
   rw[ac hfirst];rfl
 rw[ac happ]
 have hall:(Nat.beq n n&&ee atom r)=true:=by rw[Nat.beq_refl,bT,List.all_eq_true.2 hat];rfl
 simp only[show Nat.ble (ln+(k+1)) cp=false from cC.2 (by omega),show jl by_ (ln+(k+1))=true from iu (by omega),hall]
 rw[ac (bz h0 hc0),ac (aw hs0),ac (gD h0 hc0),cP,ac (bc (ai.put hc0 hf))];rfl⟩
end slices
structure bA (s s':St) (R W:Nat->Prop):Prop where
 c:s.c<=s'.c
 fresh:ai s'.h s'.c
 h:∀b,b<s.c->¬W b->s'.h.get b=s.h.get b
 rl:∀b∈s'.rl,b∈s.rl\/(b<s.c/\R b)
 wl:∀b∈s'.wl,b∈s.wl\/(b<s.c/\W b)
theorem mu (km:Nat) (args:List Value):uv km args=.mk .nil (bO km args 0 .nil):=rfl
theorem Fn.go {C:aS}{eg:TypeId->Bool}{f km:Nat}{fn:Func}{body:Code}{args:List Value}{h:T ag}{c:Nat}{rl wl:List Nat}{Q:Value->St->Prop} (hsm:C.sm f=none) (hex:C.ex f=none) (hf:C.fn.get f=some fn) (hk:C.km.get f=some km) (hb:fn.body=some body) (hl:Nat.ble (len args) fn.ntmps=true)
  (hh:∀e,uv km args=e->Wx C eg km body e ⟨h,c,[],[]⟩
   fun x e' s'=>(x=.normal\/x=.ret)/\aG C e' fn.results.toList s' fun v s2=>Q v ⟨s2.h,s2.c,s2.rl.filter (fun b=>decide (b<c))++rl,s2.wl.filter (fun b=>decide (b<c))++wl⟩) :
  ∃v s',aE C eg f args ⟨h,c,rl,wl⟩ v s'/\Q v s':=by
 refine Fn.enter hsm hex hf hb hl ?_
 rw[hk]
 exact hh _ rfl
theorem Wx.reg {C:aS}{eg:TypeId->Bool}{km id:Nat}{l:List Oper}{e:aR}{s:St}{Q:Ex->aR->St->Prop} (h:ax C eg l l e s fun e' s'=>∀e2,ju km e'=e2->Q .normal e2 s'):Wx C eg km (.region id l.toArray false) e s Q:=by
 refine Wx.region ?_
 obtain⟨n,e',s',h1,h2⟩:=h
 exact⟨n,e',s',h1,h2 _ rfl⟩
theorem Wx.dreg {C:aS}{eg:TypeId->Bool}{km id:Nat}{l:List Oper}{bef:List Nat}{e:aR}{s:St}{Q:Ex->aR->St->Prop} (hb:(Region.before l.toArray).toList=bef) (h:bN C eg l bef [] 0 l e s fun e' s'=>∀e2,ju km e'=e2->Q .normal e2 s'):Wx C eg km (.region id l.toArray true) e s Q:=by
 refine Wx.draw ?_
 rw[hb]
 obtain⟨n,e',fps,s',h1,h2,h3⟩:=h
 exact⟨n,e',fps,s',h1,h2,h3 _ rfl⟩
section nav
variable {C:aS}{eg:TypeId->Bool}{km id j:Nat}{b:Code}{e:aR}{s:St}{Q:Ex->aR->St->Prop}
theorem kh.go (h:Wx C eg km b e s Q):kh C eg km b Q .normal e s:=h
theorem kh.ex (h:Q (.exit j) e s):kh C eg km b Q (.exit j) e s:=h
theorem kh.rt (h:Q .ret e s):kh C eg km b Q .ret e s:=h
theorem ug.go (h:Q .normal e s):ug id Q .normal e s:=h
theorem ug.rt (h:Q .ret e s):ug id Q .ret e s:=h
theorem ug.hit (h:Q .normal e s):ug id Q (.exit id) e s:=by simpa [ug] using h
theorem rO.go {I:Nat->aR->St->Prop}{m:Nat} (m':Nat) (h1:m'<m) (h2:I m' e s):rO I m Q .normal e s:=⟨m',h1,h2⟩
theorem rO.ex {I:Nat->aR->St->Prop}{m:Nat} (h:Q (.exit j) e s):rO I m Q (.exit j) e s:=h
theorem rO.rt {I:Nat->aR->St->Prop}{m:Nat} (h:Q .ret e s):rO I m Q .ret e s:=h
end nav
section step
variable {C:aS}{eg:TypeId->Bool}{all os:List Oper}{loc kept:L}{s:St}{Q:aR->St->Prop}{d:Nat}{op:Op}{ty:TypeId}{ps:String}{af:Array Edge}
theorem ax.st {v:Value}{s1:St} (ho:aW C eg (.mk loc kept) ⟨some d,op,ty,ps,af,none⟩ s v s1) (k:ax C eg all os (.mk (.cons d v loc) kept) s1 Q):ax C eg all (⟨some d,op,ty,ps,af,none⟩::os) (.mk loc kept) s Q:=ax.op rfl ho k
theorem ax.st0 {v:Value}{s1:St} (ho:aW C eg (.mk loc kept) ⟨none,op,ty,ps,af,none⟩ s v s1) (k:ax C eg all os (.mk loc kept) s1 Q):ax C eg all (⟨none,op,ty,ps,af,none⟩::os) (.mk loc kept) s Q:=ax.op rfl ho k
theorem ax.stg {g:Option (Nat×Bool)}{v:Value}{s1:St} (hw:aJ all (.mk loc kept) ⟨some d,op,ty,ps,af,g⟩=some true) (ho:aW C eg (.mk loc kept) ⟨some d,op,ty,ps,af,g⟩ s v s1) (k:ax C eg all os (.mk (.cons d v loc) kept) s1 Q):ax C eg all (⟨some d,op,ty,ps,af,g⟩::os) (.mk loc kept) s Q:=ax.op hw ho k
theorem ax.no {g:Option (Nat×Bool)} (hw:aJ all (.mk loc kept) ⟨some d,op,ty,ps,af,g⟩=some false) (k:ax C eg all os (.mk (.cons d br loc) kept) s Q):ax C eg all (⟨some d,op,ty,ps,af,g⟩::os) (.mk loc kept) s Q:=ax.not hw k
end step
section mv
variable {C:aS}{eg:TypeId->Bool}{e:aR}{s:St}{d:Option Nat}{ty:TypeId}{ps:String}{af:Array Edge}{g:Option (Nat×Bool)}{x:Operand}
end mv
theorem aG.one {C:aS}{e:aR}{t:Nat}{s:St}{Q:Value->St->Prop}{v:Value} (hv:rd e t=v) (h:Q v s):aG C e [.tmp t] s Q:=⟨v,s,by
 show (cU C e [.tmp t]).bind _ s=_
 have:cU C e [.tmp t] s=some ([v],s):=by
  show ((M.ret (rd e t)).bind fun v=>(M.ret []).bind fun vs=>M.ret (v::vs)) s=_
  rw[hv];rfl
 rw[ac this];rfl,h⟩
end Go.Ab
end
