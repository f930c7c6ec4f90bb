import Derived.Test.YtofikbfljjjgeaaGreatDoorE42
set_option linter.unusedVariables false
set_option linter.unusedSimpArgs false
namespace Go.Ab
def vV:Nat:=35184372088832
theorem FC:∀(n:Nat) (cs:List Value),n<=cs.length->sK n cs=some (cs.take n):=by
 intro n
 induction n with
 |zero=>intro cs _;rw[List.take_zero];rfl
 |succ n ih =>
  intro cs h
  cases cs with
  |nil=>simp at h
  |cons x cs =>
   show Option.rec (motive:=fun _=>Option (List Value)) none (fun r=>some (x::r)) (sK n cs)=_
   rw[ih cs (by simpa using h)];rfl
theorem fj:∀(o n:Nat) (cs:List Value),o+n<=cs.length->aP o n cs=some ((cs.drop o).take n):=by
 intro o
 induction o with
 |zero=>intro n cs h;rw[List.drop_zero];exact FC n cs (by omega)
 |succ o ih =>
  intro n cs h
  cases cs with
  |nil=>simp at h
  |cons x cs =>
   show aP o n cs=_
   rw[ih n cs (by simp at h;omega)];rfl
theorem aA (cs:List Value) (n:Nat) (h:n=cs.length):aP 0 n cs=some cs:=by
 subst h
 rw[fj 0 _ cs (by omega)];simp
theorem dP {o a b:Nat}{cs x y:List Value} (h:aP o (a+b) cs=some (x++y)) (hx:x.length=a):aP o a cs=some x/\aP (o+a) b cs=some y:=by
 obtain⟨h1,h2,_⟩:=aN _ _ _ _ h
 rw[fj o (a+b) cs h2] at h
 have h:=Option.some.inj h
 constructor
 ·rw[fj o a cs (by omega)]
  have:((cs.drop o).take (a+b)).take a=x:=by rw[h,<- hx];simp
  rw[<- this,List.take_take,Nat.min_eq_left (by omega)]
 ·rw[fj (o+a) b cs (by omega)]
  have:((cs.drop o).take (a+b)).drop a=y:=by rw[h,<- hx];simp
  rw[<- this,List.drop_take,List.drop_drop,Nat.add_sub_cancel_left]
theorem AU:∀(xs cs:List Value),xs.length<=cs.length->(∀x∈xs,atom x=true)->jh xs cs=some (xs++cs.drop xs.length):=by
 intro xs
 induction xs with
 |nil=>intro cs _ _;rfl
 |cons x xs ih =>
  intro cs h ha
  cases cs with
  |nil=>simp at h
  |cons y cs =>
   show Bool.rec (motive:=fun _=>Option (List Value)) none (Option.rec (motive:=fun _=>Option (List Value)) none (fun r=>some (x::r)) (jh xs cs)) (atom x)=_
   rw[ha x (List.mem_cons_self ..),ih cs (by simpa using h) fun z hz=>ha z (List.mem_cons_of_mem _ hz)]
   simp
theorem cz:∀(cs:List Value) (o:Nat) (xs:List Value),o+xs.length<=cs.length->(∀x∈xs,atom x=true)->bw xs cs o=some (cs.take o++xs++cs.drop (o+xs.length)):=by
 intro cs
 induction cs with
 |nil =>
  intro o xs h ha
  simp at h
  obtain⟨rfl,rfl⟩:=h
  rfl
 |cons c cs ih =>
  intro o xs h ha
  cases o with
  |zero =>
   show jh xs (c::cs)=_
   rw[AU xs _ (by omega) ha]
   simp
  |succ o =>
   show Option.rec (motive:=fun _=>Option (List Value)) none (fun r=>some (c::r)) (bw xs cs o)=_
   rw[ih o xs (by simp at h;omega) ha]
   simp [show o+1+xs.length=o+xs.length+1 by omega]
section cond
variable {C:aS}{eg:TypeId->Bool}{km:Nat}{e:aR}{s:St}{Q:Ex->aR->St->Prop}{x:Operand}{a b:Code}{p:Bool}
theorem Wx.condT (hc:ae e x=.bool p) (hp:p=true) (h:Wx C eg km a e s Q):Wx C eg km (.cond x a b) e s Q:=Wx.cond hc (fun _=>h) (fun hf=>by rw[hp] at hf;cases hf)
theorem Wx.condF (hc:ae e x=.bool p) (hp:p=false) (h:Wx C eg km b e s Q):Wx C eg km (.cond x a b) e s Q:=Wx.cond hc (fun hf=>by rw[hp] at hf;cases hf) (fun _=>h)
end cond
section res
variable {C:aS}{e:aR}{s:St}{Q:Value->St->Prop}{h:T ag}{c:Nat}{rl wl:List Nat}
theorem aG.nil (hq:Q (.tuple #[]) s):aG C e [] s Q:=⟨_,s,rfl,hq⟩
theorem yy {t:TypeId}{b o n:Nat}{cs r:List Value} (ht:tI C t=some n) (hb:gX h b cs) (hc:b<c) (hv:aP o n cs=some r):fG C t (.pointer (some ⟨b,o,none⟩)) ⟨h,c,rl,wl⟩=some (.agg ⟨r⟩,⟨h,c,b::rl,wl⟩):=by
 unfold tI at ht
 unfold fG
 simp only[eM]
 cases hu:C.und t with
 |none=>rw[hu] at ht;cases ht
 |some u =>
  rw[hu] at ht
  cases u<;>first|(cases ht;done)|(simp only at ht ⊢;rw[ht];simp only;rw[ac (db hb hc hv)];rfl)
theorem aG.cell {a t b o n:Nat}{cs r:List Value} (hx:rd e a=.pointer (some ⟨b,o,none⟩)) (ht:tI C t=some n) (hb:gX h b cs) (hc:b<c) (hv:aP o n cs=some r) (hq:Q (.agg ⟨r⟩) ⟨h,c,b::rl,wl⟩):aG C e [.cell a t] ⟨h,c,rl,wl⟩ Q:=by
 refine⟨_,_,?_,hq⟩
 show (cU C e [.cell a t]).bind _ _=_
 have:cU C e [.cell a t] ⟨h,c,rl,wl⟩=some ([.agg ⟨r⟩],⟨h,c,b::rl,wl⟩):=by
  show ((fG C t (rd e a)).bind fun v=>(M.ret []).bind fun vs=>M.ret (v::vs)) _=_
  rw[hx,ac (yy ht hb hc hv)];rfl
 rw[ac this];rfl
theorem aG.two {t u:Nat}{v w:Value} (hv:rd e t=v) (hw:rd e u=w) (hq:Q (.tuple #[v,w]) s):aG C e [.tmp t,.tmp u] s Q:=by
 refine⟨_,s,?_,hq⟩
 show (cU C e [.tmp t,.tmp u]).bind _ s=_
 have:cU C e [.tmp t,.tmp u] s=some ([v,w],s):=by
  show ((M.ret (rd e t)).bind fun v=>((M.ret (rd e u)).bind fun v=>(M.ret []).bind fun vs=>M.ret (v::vs)).bind fun vs=>M.ret (v::vs)) s=_
  rw[hv,hw];rfl
 rw[ac this];rfl
end res
theorem bA.frame {h h2:T ag}{c c2:Nat}{rl wl rl2 wl2:List Nat}{R W:Nat->Prop} (hc:c<=c2) (hf:ai h2 c2) (hh:∀b,b<c->¬W b->h2.get b=h.get b) (hr:∀b∈rl2,c<=b\/R b) (hw:∀b∈wl2,c<=b\/W b) :
  bA ⟨h,c,rl,wl⟩ ⟨h2,c2,rl2.filter (fun b=>decide (b<c))++rl,wl2.filter (fun b=>decide (b<c))++wl⟩ R W:=by
 refine⟨hc,hf,hh,?_,?_⟩
 ·intro b hb
  rcases List.mem_append.1 hb with hb|hb
  ·obtain⟨h1,h2⟩:=List.mem_filter.1 hb
   have h2:=of_decide_eq_true h2
   rcases hr b h1 with h3|h3
   ·omega
   ·exact .inr ⟨h2,h3⟩
  ·exact .inl hb
 ·intro b hb
  rcases List.mem_append.1 hb with hb|hb
  ·obtain⟨h1,h2⟩:=List.mem_filter.1 hb
   have h2:=of_decide_eq_true h2
   rcases hw b h1 with h3|h3
   ·omega
   ·exact .inr ⟨h2,h3⟩
  ·exact .inl hb
theorem bA.refl {h:T ag}{c:Nat}{rl wl:List Nat}{R W:Nat->Prop} (hf:ai h c):bA ⟨h,c,rl,wl⟩ ⟨h,c,rl,wl⟩ R W:=⟨Nat.le_refl _,hf,fun _ _ _=>rfl,fun _ h=>.inl h,fun _ h=>.inl h⟩
theorem bA.mono {s s':St}{R W R' W':Nat->Prop} (x:bA s s' R W) (hr:∀b,b<s.c->R b->R' b) (hw:∀b,b<s.c->W b->W' b):bA s s' R' W' :=
 ⟨x.c,x.fresh,fun b hb k=>x.h b hb fun q=>k (hw b hb q),fun b hb=>(x.rl b hb).imp id fun⟨p,q⟩=>⟨p,hr b p q⟩,fun b hb=>(x.wl b hb).imp id fun⟨p,q⟩=>⟨p,hw b p q⟩⟩
theorem bA.get {h h':T ag}{c c':Nat}{rl wl rl' wl':List Nat}{R W:Nat->Prop}{b:Nat} (x:bA ⟨h,c,rl,wl⟩ ⟨h',c',rl',wl'⟩ R W) (hb:b<c) (hw:¬W b):h'.get b=h.get b:=x.h b hb hw
theorem bA.hs {h h':T ag}{c c':Nat}{rl wl rl' wl':List Nat}{R W:Nat->Prop}{b:Nat}{o:ag} (x:bA ⟨h,c,rl,wl⟩ ⟨h',c',rl',wl'⟩ R W) (k:ay h b o) (hb:b<c) (hw:¬W b):ay h' b o:=(x.h b hb hw).trans k
theorem bA.cl {h h':T ag}{c c':Nat}{rl wl rl' wl':List Nat}{R W:Nat->Prop}{b:Nat}{cs:List Value} (x:bA ⟨h,c,rl,wl⟩ ⟨h',c',rl',wl'⟩ R W) (k:gX h b cs) (hb:b<c) (hw:¬W b):gX h' b cs:=k.imp (fun q=>x.hs q hb hw) (Or.imp (fun q=>x.hs q hb hw) (fun q=>x.hs q hb hw))
theorem ai.up {h:T ag}{c c':Nat} (k:ai h c) (hc:c<=c'):ai h c':=fun b hb=>k b (by omega)
def Kp (h h':T ag) (c:Nat) (W:Nat->Prop):Prop:=∀b,b<c->¬W b->h'.get b=h.get b
def Lg (c:Nat) (R:Nat->Prop) (l:List Nat):Prop:=∀b∈l,c<=b\/R b
theorem Kp.refl {h:T ag}{c:Nat}{W:Nat->Prop}:Kp h h c W:=fun _ _ _=>rfl
theorem Kp.set {h h':T ag}{c b:Nat}{W:Nat->Prop}{x:Option ag} (hb:c<=b\/W b) (k:Kp h h' c W):Kp h (h'.set b x) c W:=fun a ha hw=>by
 rw[T.get_set,if_neg,k a ha hw]
 rintro rfl
 rcases hb with hb|hb
 ·omega
 ·exact hw hb
theorem Kp.ext {h h1 h2:T ag}{c c1 c2:Nat}{rl wl rl' wl':List Nat}{R W W':Nat->Prop} (k:Kp h h1 c W) (x:bA ⟨h1,c1,rl,wl⟩ ⟨h2,c2,rl',wl'⟩ R W') (hc:c<=c1) (hw:∀b,b<c->W' b->W b):Kp h h2 c W :=
 fun b hb hn=>(x.get (by omega) fun q=>hn (hw b hb q)).trans (k b hb hn)
theorem Lg.nil {c:Nat}{R:Nat->Prop}:Lg c R []:=fun _ h=>absurd h List.not_mem_nil
theorem Lg.cons {c b:Nat}{R:Nat->Prop}{l:List Nat} (hb:c<=b\/R b) (k:Lg c R l):Lg c R (b::l):=fun a ha=>by
 rcases List.mem_cons.1 ha with rfl|ha
 ·exact hb
 ·exact k a ha
theorem Lg.app {c:Nat}{R:Nat->Prop}{l l':List Nat} (k:Lg c R l) (k':Lg c R l'):Lg c R (l++l'):=fun a ha=>(List.mem_append.1 ha).elim (k a) (k' a)
theorem Lg.extR {h1 h2:T ag}{c c1 c2:Nat}{rl wl rl' wl':List Nat}{R R' W':Nat->Prop} (k:Lg c R rl) (x:bA ⟨h1,c1,rl,wl⟩ ⟨h2,c2,rl',wl'⟩ R' W') (hr:∀b,b<c->R' b->R b):Lg c R rl':=fun b hb=>by
 rcases x.rl b hb with q|q
 ·exact k b q
 ·rcases Nat.lt_or_ge b c with hc|hc
  ·exact .inr (hr b hc q.2)
  ·exact .inl hc
theorem Lg.extW {h1 h2:T ag}{c c1 c2:Nat}{rl wl rl' wl':List Nat}{W R' W':Nat->Prop} (k:Lg c W wl) (x:bA ⟨h1,c1,rl,wl⟩ ⟨h2,c2,rl',wl'⟩ R' W') (hr:∀b,b<c->W' b->W b):Lg c W wl':=fun b hb=>by
 rcases x.wl b hb with q|q
 ·exact k b q
 ·rcases Nat.lt_or_ge b c with hc|hc
  ·exact .inr (hr b hc q.2)
  ·exact .inl hc
theorem bA.of {h h2:T ag}{c c2:Nat}{rl wl rl2 wl2:List Nat}{R W:Nat->Prop} (hc:c<=c2) (hf:ai h2 c2) (hh:Kp h h2 c W) (hr:Lg c R rl2) (hw:Lg c W wl2) :
  bA ⟨h,c,rl,wl⟩ ⟨h2,c2,rl2.filter (fun b=>decide (b<c))++rl,wl2.filter (fun b=>decide (b<c))++wl⟩ R W:=bA.frame hc hf hh hr hw
theorem am {h:T ag}{b b':Nat}{x:Option ag} (k:b≠b'):(h.set b' x).get b=h.get b:=by rw[T.get_set,if_neg k]
def bj (h:T ag) (v:Value) (n:Nat) (k:Nat) (xs:List Value):Prop :=
 (n=0/\xs=[]/\∃a cap,v=.slice a 0 cap)\/∃b o sp cap cs,v=.slice (some ⟨b,o,sp⟩) n cap/\gX h b cs/\aP o (n*k) cs=some xs
def kc (h:T ag) (c0:Nat) (v:Value) (n:Nat) (xs:List Value):Prop :=
 (v=.slice none 0 0/\n=0/\xs=[])\/∃b sp cap,v=.slice (some ⟨b,0,sp⟩) n cap/\n<=cap/\c0<=b/\ay h b (.cells xs)
theorem kc.val {h:T ag}{c:Nat}{v:Value}{n:Nat}{xs:List Value} (o:kc h c v n xs):∃a k,v=.slice a n k:=by
 rcases o with⟨rfl,rfl,_⟩|⟨b,sp,cap,rfl,_⟩
 ·exact⟨_,_,rfl⟩
 ·exact⟨_,_,rfl⟩
theorem bj.set {h:T ag}{v:Value}{n k b':Nat}{xs:List Value}{x:Option ag} (hr:bj h v n k xs) (hne:∀b o sp m cap,v=.slice (some ⟨b,o,sp⟩) m cap->0<m->b≠b'):bj (h.set b' x) v n k xs:=by
 rcases hr with hr|⟨b,o,sp,cap,cs,rfl,h2,h3⟩
 ·exact .inl hr
 ·cases n with
  |zero =>
   refine .inl ⟨rfl,?_,_,_,rfl⟩
   have:=(aN _ _ _ _ h3).1
   simpa using this
  |succ n=>exact .inr ⟨b,o,sp,cap,cs,rfl,h2.other (hne _ _ _ _ _ rfl (by omega)),h3⟩
theorem bj.new {h:T ag}{c:Nat}{v:Value}{n k:Nat}{xs:List Value}{x:Option ag} (hf:ai h c) (hr:bj h v n k xs):bj (h.set c x) v n k xs:=by
 rcases hr with hr|⟨b,o,sp,cap,cs,rfl,h2,h3⟩
 ·exact .inl hr
 ·exact .inr ⟨b,o,sp,cap,cs,rfl,h2.other (by have:=h2.lt hf;omega),h3⟩
theorem kc.new {h:T ag}{c c0:Nat}{v:Value}{n:Nat}{xs:List Value}{x:Option ag} (hf:ai h c) (hr:kc h c0 v n xs):kc (h.set c x) c0 v n xs:=by
 rcases hr with hr|⟨b,sp,cap,rfl,h1,h2,h3⟩
 ·exact .inl hr
 ·exact .inr ⟨b,sp,cap,rfl,h1,h2,h3.other (by have:=h3.lt hf;omega)⟩
theorem kc.set {h:T ag}{c0 b':Nat}{v:Value}{n:Nat}{xs:List Value}{x:Option ag} (hr:kc h c0 v n xs) (hb:b'<c0):kc (h.set b' x) c0 v n xs:=by
 rcases hr with hr|⟨b,sp,cap,rfl,h1,h2,h3⟩
 ·exact .inl hr
 ·exact .inr ⟨b,sp,cap,rfl,h1,h2,h3.other (by omega)⟩
theorem kc.low {h:T ag}{c0 c1:Nat}{v:Value}{n:Nat}{xs:List Value} (hr:kc h c0 v n xs) (hb:c1<=c0):kc h c1 v n xs:=by
 rcases hr with hr|⟨b,sp,cap,rfl,h1,h2,h3⟩
 ·exact .inl hr
 ·exact .inr ⟨b,sp,cap,rfl,h1,by omega,h3⟩
theorem kc.row {h:T ag}{c0:Nat}{v:Value}{n:Nat}{xs:List Value} (hr:kc h c0 v n xs) (hn:xs.length=n):bj h v n 1 xs:=by
 rcases hr with⟨rfl,rfl,rfl⟩|⟨b,sp,cap,rfl,h1,h2,h3⟩
 ·exact .inl ⟨rfl,rfl,_,_,rfl⟩
 ·exact .inr ⟨b,0,sp,cap,xs,rfl,h3.cel,aA xs _ (by omega)⟩
def au:Value->Option Nat
 |.slice (some a) _ _=>some a.block
 |_=>none
theorem kc.blk {h:T ag}{c0 b:Nat}{v:Value}{n:Nat}{xs:List Value} (o:kc h c0 v n xs) (hb:au v=some b):c0<=b/\ay h b (.cells xs):=by
 rcases o with⟨rfl,_⟩|⟨b',sp,cap,rfl,_,h2,h3⟩
 ·cases hb
 ·cases hb;exact⟨h2,h3⟩
theorem kc.keep {h h':T ag}{c:Nat}{v:Value}{n:Nat}{xs:List Value} (o:kc h c v n xs) (k:∀b,au v=some b->h'.get b=h.get b):kc h' c v n xs:=by
 rcases o with o|⟨b,sp,cap,rfl,h1,h2,h3⟩
 ·exact .inl o
 ·exact .inr ⟨b,sp,cap,rfl,h1,h2,(k b rfl).trans h3⟩
section app
variable {C:aS}{eg:TypeId->Bool}{e:aR}{s:St}{h:T ag}{c:Nat}{rl wl:List Nat}{d:Option Nat}{ty:TypeId}{ps:String}{af:Array Edge}{g:Option (Nat×Bool)}
theorem ig {n k cap ob off:Nat}{z cs r:List Value}{xt:TypeId}{sp:Option Nat} (hu:cI C xt=true) (hb:gX h ob cs) (hc:ob<c) (hs:aP off ((k+1)*n) cs=some r) :
  bI C n z (some xt) (.slice (some ⟨ob,off,sp⟩) (k+1) cap) ⟨h,c,rl,wl⟩=some ((k+1,r),⟨h,c,ob::rl,wl⟩):=by
 unfold bI
 unfold cI at hu
 cases hw:C.und xt with
 |none=>rw[hw] at hu;cases hu
 |some w =>
  rw[hw] at hu
  cases w<;>first|(cases hu;done)|skip
  simp only[hw]
  rw[ac (aw (show ou (.slice (some ⟨ob,off,sp⟩) (k+1) cap)=some (k+1) from rfl))]
  have hfirst:cR n (k+1) (.slice (some ⟨ob,off,sp⟩) (k+1) cap) ⟨h,c,rl,wl⟩=some (r,⟨h,c,ob::rl,wl⟩):=by
   unfold cR
   simp only[aH.2 (Nat.le_refl (k+1))]
   exact db hb hc hs
  rw[ac hfirst];rfl
theorem nJ {t et xt:TypeId}{a x:Operand}{n by_ cap ln cp:Nat}{z:List Value}{oa ob:Option Addr} (ht:C.row t=some (et,n,by_,z)) (hu:cI C xt=true) (ha:ae e a=.slice oa ln cp) (hx:ae e x=.slice ob 0 cap) (hl:ln<=cp) :
  aW C eg e ⟨d,.call ⟨.builtin .append,#[a,x],#[t,xt]⟩,ty,ps,af,g⟩ s (.slice oa ln cp) s:=⟨0,by
 show bQ C #[t,xt] (ae e a) (ae e x) _=_
 rw[ha,hx]
 unfold bQ
 rw[show cu (#[t,xt]:Array TypeId).toList 0=some t from rfl]
 simp only
 rw[ac (aw ht)]
 simp only
 have happ:bI C n z (cu #[t,xt].toList 1) (.slice ob 0 cap) s=some ((0,[]),s):=by
  show bI C n z (some xt) _ _=_
  unfold bI
  unfold cI at hu
  cases hw:C.und xt with
  |none=>rw[hw] at hu;cases hu
  |some w =>
   rw[hw] at hu
   cases w<;>first|(cases hu;done)|(simp only[hw];rfl)
 rw[ac happ]
 simp only[show Nat.ble (ln+0) cp=true from aH.2 (by omega)]
 rfl⟩
theorem l9 {t et xt:TypeId}{a x:Operand}{n by_ k cap b0 o0:Nat}{z cs r:List Value}{sp:Option Nat}{ob off:Nat} (ht:C.row t=some (et,n,by_,z)) (hu:cI C xt=true) (ha:ae e a=.slice (some ⟨b0,o0,none⟩) 0 0) (hx:ae e x=.slice (some ⟨ob,off,sp⟩) (k+1) cap)
  (hb:gX h ob cs) (hc:ob<c) (hs:aP off ((k+1)*n) cs=some r) (hbig:k+1<=dv) (hf:ai h c) :
  aW C eg e ⟨d,.call ⟨.builtin .append,#[a,x],#[t,xt]⟩,ty,ps,af,g⟩ ⟨h,c,rl,wl⟩ (.slice (some ⟨c,0,some n⟩) (k+1) (k+1)) ⟨h.set c (some (.cells r)),c+1,ob::rl,wl⟩:=⟨0,by
 show bQ C #[t,xt] (ae e a) (ae e x) _=_
 rw[ha,hx]
 unfold bQ
 rw[show cu (#[t,xt]:Array TypeId).toList 0=some t from rfl]
 simp only
 rw[ac (aw ht)]
 simp only
 have happ:bI C n z (cu #[t,xt].toList 1) (.slice (some ⟨ob,off,sp⟩) (k+1) cap) ⟨h,c,rl,wl⟩=_:=ig (z:=z) hu hb hc hs
 rw[ac happ]
 simp only[show Nat.ble (0+(k+1)) 0=false from cC.2 (by omega),show jl by_ (0+(k+1))=true from iu (by omega)]
 rw[ac (show cR n 0 (.slice (some ⟨b0,o0,none⟩) 0 0) ⟨h,c,ob::rl,wl⟩=some ([],_) from rfl)]
 rw[cP,List.nil_append,ac (bc hf)]
 simp only[Nat.zero_add];rfl⟩
theorem Cg {t et xt:TypeId}{a x:Operand}{n by_ k cap b0 o0:Nat}{z cs r:List Value}{sp:Option Nat}{ob off:Nat} (ht:C.row t=some (et,n,by_,z)) (hu:cI C xt=true) (ha:ae e a=.slice (some ⟨b0,o0,none⟩) 0 0) (hx:ae e x=.slice (some ⟨ob,off,sp⟩) (k+1) cap)
  (hb:gX h ob cs) (hc:ob<c) (hs:aP off ((k+1)*n) cs=some r) (hb1:1<=by_) (hbig:(k+1)*by_<=140737488355328) (hf:ai h c) :
  aW C eg e ⟨d,.call ⟨.builtin .append,#[a,x],#[t,xt]⟩,ty,ps,af,g⟩ ⟨h,c,rl,wl⟩ (.slice (some ⟨c,0,some n⟩) (k+1) (k+1)) ⟨h.set c (some (.cells r)),c+1,ob::rl,wl⟩:=⟨0,by
 show bQ C #[t,xt] (ae e a) (ae e x) _=_
 rw[ha,hx]
 unfold bQ
 rw[show cu (#[t,xt]:Array TypeId).toList 0=some t from rfl]
 simp only
 rw[ac (aw ht)]
 simp only
 have happ:bI C n z (cu #[t,xt].toList 1) (.slice (some ⟨ob,off,sp⟩) (k+1) cap) ⟨h,c,rl,wl⟩=_:=ig (z:=z) hu hb hc hs
 rw[ac happ]
 simp only[show Nat.ble (0+(k+1)) 0=false from cC.2 (by omega),show jl by_ (0+(k+1))=true from xO hb1 (by rw[Nat.zero_add];exact hbig)]
 rw[ac (show cR n 0 (.slice (some ⟨b0,o0,none⟩) 0 0) ⟨h,c,ob::rl,wl⟩=some ([],_) from rfl)]
 rw[cP,List.nil_append,ac (bc hf)]
 simp only[Nat.zero_add];rfl⟩
theorem aZ {t:TypeId}{x lo:Operand}{b o len cap n k:Nat}{j:IntKind}{z:Int} (ht:cQ C t=some n) (hx:ae e x=.slice (some ⟨b,o,some n⟩) len cap) (hl:ae e lo=.int j z) (hz:z=(k:Int)) (hk:k<=len) (hlc:len<=cap) :
  aW C eg e ⟨d,.slice t x (some lo) none none,ty,ps,af,g⟩ s (.slice (some ⟨b,o+k*n,some n⟩) (len - k) (cap - k)) s:=⟨0,by
 show cV C t (ae e x) ((some lo).map (ae e)) ((none:Option Operand).map (ae e)) ((none:Option Operand).map (ae e)) s=_
 subst hz
 simp only[Option.map_some,Option.map_none]
 rw[hx,hl]
 unfold cQ at ht
 unfold cV
 cases hu:C.und t with
 |none=>rw[hu] at ht;cases ht
 |some u =>
  rw[hu] at ht
  cases u<;>first|(cases ht;done)|skip
  simp only at ht ⊢
  rw[ac (aw ht)]
  have hb:dL len cap (some (.int j (k:Int))) none none=some (k,len,cap):=by
   unfold dL
   simp only
   show (match dr none cap cap with|none=>none|some m=>_)=_
   simp only[dr]
   rw[show cZ (.int j (k:Int))=some k from rfl]
   simp only[aH.2 hk]
  rw[ac (aw hb)]
  simp only[show (Nat.beq n n&&Nat.ble len cap)=true by rw[aH.2 hlc,Nat.beq_refl];rfl];rfl⟩
end app
theorem a8 (l:List Value):ba (.agg ⟨l⟩)=some l:=rfl
theorem bf (e:aR) (l:List (Nat×Operand)):dA e l.toArray=l.map fun p=>(p.1,ae e p.2):=by
 unfold dA
 simp only
 induction l with
 |nil=>rfl
 |cons x l ih=>show (x.1,ae e x.2)::gO _ l=_;rw[ih];rfl
section step2
variable {C:aS}{eg:TypeId->Bool}{all os:List Oper}{loc kept:L}{s:St}{Q:aR->St->Prop}{d:Nat}{ty:TypeId}{ps:String}{af:Array Edge}{g:Option (Nat×Bool)}{h:T ag}{c:Nat}{rl wl:List Nat}
theorem ax.mv {x:Operand} (hw:aJ all (.mk loc kept) ⟨some d,.move x,ty,ps,af,g⟩=some true) (k:∀v,ae (.mk loc kept) x=v->ax C eg all os (.mk (.cons d v loc) kept) s Q):ax C eg all (⟨some d,.move x,ty,ps,af,g⟩::os) (.mk loc kept) s Q:=ax.op hw (Cc rfl) (k _ rfl)
theorem ax.as {x:Operand} (hw:aJ all (.mk loc kept) ⟨some d,.assign x,ty,ps,af,g⟩=some true) (k:∀v,ae (.mk loc kept) x=v->ax C eg all os (.mk (.cons d v loc) kept) s Q):ax C eg all (⟨some d,.assign x,ty,ps,af,g⟩::os) (.mk loc kept) s Q:=ax.op hw (uR rfl) (k _ rfl)
theorem ax.pkT {x a b:Operand} (hw:aJ all (.mk loc kept) ⟨some d,.pick x a b,ty,ps,af,g⟩=some true) (hc:ae (.mk loc kept) x=.bool true) (k:∀v,ae (.mk loc kept) a=v->ax C eg all os (.mk (.cons d v loc) kept) s Q):ax C eg all (⟨some d,.pick x a b,ty,ps,af,g⟩::os) (.mk loc kept) s Q:=ax.op hw (zo hc rfl) (k _ rfl)
theorem ax.pkF {x a b:Operand} (hw:aJ all (.mk loc kept) ⟨some d,.pick x a b,ty,ps,af,g⟩=some true) (hc:ae (.mk loc kept) x=.bool false) (k:∀v,ae (.mk loc kept) b=v->ax C eg all os (.mk (.cons d v loc) kept) s Q):ax C eg all (⟨some d,.pick x a b,ty,ps,af,g⟩::os) (.mk loc kept) s Q:=ax.op hw (xK hc rfl) (k _ rfl)
theorem ax.bx {t:TypeId}{x:Operand} (hw:aJ all (.mk loc kept) ⟨some d,.box t x,ty,ps,af,g⟩=some true) (hf:ai h c) (k:∀v,ae (.mk loc kept) x=v->∃cs,ba v=some cs/\ax C eg all os (.mk (.cons d (.pointer (some ⟨c,0,none⟩)) loc) kept) ⟨h.set c (some (.cells cs)),c+1,rl,wl⟩ Q):ax C eg all (⟨some d,.box t x,ty,ps,af,g⟩::os) (.mk loc kept) ⟨h,c,rl,wl⟩ Q:=by
 obtain⟨cs,h1,h2⟩:=k _ rfl
 exact ax.op hw (Ip rfl h1 hf) h2
theorem ax.bd {t:TypeId}{parts:Array (Nat×Operand)}{pl:List (Nat×Nat)}{zs:List Value} (hw:aJ all (.mk loc kept) ⟨some d,.build t parts,ty,ps,af,g⟩=some true) (ht:lj C t=some (pl,zs)) (k:∀vs,dA (.mk loc kept) parts=vs->∃cs,j4 (cu pl) zs vs=some cs/\ax C eg all os (.mk (.cons d (.agg ⟨cs⟩) loc) kept) s Q):ax C eg all (⟨some d,.build t parts,ty,ps,af,g⟩::os) (.mk loc kept) s Q:=by
 obtain⟨cs,h1,h2⟩:=k _ rfl
 exact ax.op hw (xX ht h1) h2
theorem ax.bs {t et:TypeId}{m n by_:Nat}{z:List Value}{parts:Array (Nat×Operand)} (hw:aJ all (.mk loc kept) ⟨some d,.buildSlice t m parts,ty,ps,af,g⟩=some true) (ht:C.row t=some (et,n,by_,z)) (hm:Nat.ble (m*n) dv=true) (hf:ai h c) (k:∀vs,dA (.mk loc kept) parts=vs->∃cs,j4 (fun i=>some (i*n,n)) (rep z m) vs=some cs/\ax C eg all os (.mk (.cons d (.slice (some ⟨c,0,none⟩) m m) loc) kept) ⟨h.set c (some (.cells cs)),c+1,rl,wl⟩ Q):ax C eg all (⟨some d,.buildSlice t m parts,ty,ps,af,g⟩::os) (.mk loc kept) ⟨h,c,rl,wl⟩ Q:=by
 obtain⟨cs,h1,h2⟩:=k _ rfl
 exact ax.op hw (nz ht hm h1 hf) h2
theorem ax.so {t:TypeId}{a x:Operand}{b o n:Nat}{cs:List Value} (hw:aJ all (.mk loc kept) ⟨none,.store t a x,ty,ps,af,g⟩=some true) (ht:C.size t=some n) (ha:ae (.mk loc kept) a=.pointer (some ⟨b,o,none⟩)) (hb:ay h b (.cells cs)) (hc:b<c) (k:∀v,ae (.mk loc kept) x=v->∃xs r,ba v=some xs/\Nat.beq (len xs) n=true/\bw xs cs o=some r/\ax C eg all os (.mk loc kept) ⟨h.set b (some (.cells r)),c,b::rl,b::wl⟩ Q):ax C eg all (⟨none,.store t a x,ty,ps,af,g⟩::os) (.mk loc kept) ⟨h,c,rl,wl⟩ Q:=by
 obtain⟨xs,r,h1,h2,h3,h4⟩:=k _ rfl
 exact ax.op hw (zl ht ha rfl h1 h2 hb hc h3) h4
theorem ax.call {f:Nat}{ar:Array Operand}{ts:Array TypeId}{args:List Value}{P:Value->St->Prop} (hw:aJ all (.mk loc kept) ⟨some d,.call ⟨.value (.func f),ar,ts⟩,ty,ps,af,g⟩=some true) (ha:gO (ae (.mk loc kept)) ar.toList=args)
  (hc:∃v s',aE C eg f args s v s'/\P v s') (k:∀v h' c' rl' wl',P v ⟨h',c',rl',wl'⟩->ax C eg all os (.mk (.cons d v loc) kept) ⟨h',c',rl',wl'⟩ Q):ax C eg all (⟨some d,.call ⟨.value (.func f),ar,ts⟩,ty,ps,af,g⟩::os) (.mk loc kept) s Q:=by
 obtain⟨v,⟨h',c',rl',wl'⟩,h1,h2⟩:=hc
 exact ax.op hw (aW.ofCall h1 ha) (k v h' c' rl' wl' h2)
end step2
theorem a7 {α:Type}{P:α->Prop}:∀p∈([]:List α),P p:=fun _ h=>absurd h List.not_mem_nil
theorem all_cons {α:Type}{P:α->Prop}{a:α}{l:List α} (h:P a) (k:∀p∈l,P p):∀p∈a::l,P p:=fun p hp=>by
 rcases List.mem_cons.1 hp with rfl|hp
 ·exact h
 ·exact k p hp
theorem bt.rr {r r':List Nat}{a b b':Nat}:bt ⟨r,[],a,a⟩ ⟨r',[],b,b'⟩ :=
 ⟨fun _ h=>absurd h List.not_mem_nil,fun _ h=>absurd h List.not_mem_nil,fun _ h=>absurd h List.not_mem_nil,fun _ _ h=>by simp at h;omega,fun _ h=>absurd h List.not_mem_nil⟩
theorem bt.rn {r w:List Nat}{a a' b b':Nat}:bt ⟨r,w,a,a'⟩ ⟨[],[],b,b'⟩ :=
 ⟨fun _ _ h=>absurd h List.not_mem_nil,fun _ _ h=>absurd h List.not_mem_nil,fun _ h=>absurd h List.not_mem_nil,fun _ h=>absurd h List.not_mem_nil,fun _ h=>absurd h List.not_mem_nil⟩
theorem bt.rc {r r' w:List Nat}{a b b':Nat} (hw:∀x∈w,False):bt ⟨r,[],a,a⟩ ⟨r',w,b,b'⟩ :=
 ⟨fun _ h=>absurd h List.not_mem_nil,fun _ h=>absurd h List.not_mem_nil,fun x h=>(hw x h).elim,fun _ _ h=>by simp at h;omega,fun x h=>(hw x h).elim⟩
theorem bA.quiet {h h':T ag}{c c':Nat}{r w:List Nat}{R W:Nat->Prop} (x:bA ⟨h,c,[],[]⟩ ⟨h',c',r,w⟩ R W) (hw:∀b,b<c->¬W b):∀b∈w,False:=fun b hb=>by
 rcases x.wl b hb with q|q
 ·exact absurd q List.not_mem_nil
 ·exact hw b q.1 q.2
section trk
variable {C:aS}{eg:TypeId->Bool}{all os:List Oper}{loc kept:L}{Q:aR->St->Prop}{d:Nat}{op:Op}{ty:TypeId}{ps:String}{af:Array Edge}{g:Option (Nat×Bool)}{h:T ag}{c:Nat}{rl wl:List Nat}{bef:List Nat}{done:List (Nat×Fp)}{j:Nat}
theorem bN.stq {v:Value} (hw:aJ all (.mk loc kept) ⟨some d,op,ty,ps,af,g⟩=some true) (ho:aW C eg (.mk loc kept) ⟨some d,op,ty,ps,af,g⟩ ⟨h,c,[],[]⟩ v ⟨h,c,[],[]⟩)
  (k:bN C eg all bef done (j+1) os (.mk (.cons d v loc) kept) ⟨h,c,rl,wl⟩ Q):bN C eg all bef done j (⟨some d,op,ty,ps,af,g⟩::os) (.mk loc kept) ⟨h,c,rl,wl⟩ Q:=bN.quiet hw ho k
theorem bN.stx {v:Value}{h1:T ag}{c1:Nat}{r1 w1:List Nat} (hw:aJ all (.mk loc kept) ⟨some d,op,ty,ps,af,g⟩=some true) (ho:aW C eg (.mk loc kept) ⟨some d,op,ty,ps,af,g⟩ ⟨h,c,[],[]⟩ v ⟨h1,c1,r1,w1⟩)
  (ha:∀p∈done,Ap bef j p.1=true\/bt p.2 ⟨r1,w1,c,c1⟩)
  (k:bN C eg all bef ((j,⟨r1,w1,c,c1⟩)::done) (j+1) os (.mk (.cons d v loc) kept) ⟨h1,c1,r1++rl,w1++wl⟩ Q):bN C eg all bef done j (⟨some d,op,ty,ps,af,g⟩::os) (.mk loc kept) ⟨h,c,rl,wl⟩ Q:=bN.op hw ho ha k
theorem bN.no (hw:aJ all (.mk loc kept) ⟨some d,op,ty,ps,af,g⟩=some false)
  (k:bN C eg all bef done (j+1) os (.mk (.cons d br loc) kept) ⟨h,c,rl,wl⟩ Q):bN C eg all bef done j (⟨some d,op,ty,ps,af,g⟩::os) (.mk loc kept) ⟨h,c,rl,wl⟩ Q:=bN.not hw k
theorem bN.mv {x:Operand} (hw:aJ all (.mk loc kept) ⟨some d,.move x,ty,ps,af,g⟩=some true) (k:∀v,ae (.mk loc kept) x=v->bN C eg all bef done (j+1) os (.mk (.cons d v loc) kept) ⟨h,c,rl,wl⟩ Q):bN C eg all bef done j (⟨some d,.move x,ty,ps,af,g⟩::os) (.mk loc kept) ⟨h,c,rl,wl⟩ Q:=bN.quiet hw (Cc rfl) (k _ rfl)
theorem bN.as {x:Operand} (hw:aJ all (.mk loc kept) ⟨some d,.assign x,ty,ps,af,g⟩=some true) (k:∀v,ae (.mk loc kept) x=v->bN C eg all bef done (j+1) os (.mk (.cons d v loc) kept) ⟨h,c,rl,wl⟩ Q):bN C eg all bef done j (⟨some d,.assign x,ty,ps,af,g⟩::os) (.mk loc kept) ⟨h,c,rl,wl⟩ Q:=bN.quiet hw (uR rfl) (k _ rfl)
theorem bN.pkT {x a b:Operand} (hw:aJ all (.mk loc kept) ⟨some d,.pick x a b,ty,ps,af,g⟩=some true) (hc:ae (.mk loc kept) x=.bool true) (k:∀v,ae (.mk loc kept) a=v->bN C eg all bef done (j+1) os (.mk (.cons d v loc) kept) ⟨h,c,rl,wl⟩ Q):bN C eg all bef done j (⟨some d,.pick x a b,ty,ps,af,g⟩::os) (.mk loc kept) ⟨h,c,rl,wl⟩ Q:=bN.quiet hw (zo hc rfl) (k _ rfl)
theorem bN.pkF {x a b:Operand} (hw:aJ all (.mk loc kept) ⟨some d,.pick x a b,ty,ps,af,g⟩=some true) (hc:ae (.mk loc kept) x=.bool false) (k:∀v,ae (.mk loc kept) b=v->bN C eg all bef done (j+1) os (.mk (.cons d v loc) kept) ⟨h,c,rl,wl⟩ Q):bN C eg all bef done j (⟨some d,.pick x a b,ty,ps,af,g⟩::os) (.mk loc kept) ⟨h,c,rl,wl⟩ Q:=bN.quiet hw (xK hc rfl) (k _ rfl)
theorem bN.bd {t:TypeId}{parts:Array (Nat×Operand)}{pl:List (Nat×Nat)}{zs:List Value} (hw:aJ all (.mk loc kept) ⟨some d,.build t parts,ty,ps,af,g⟩=some true) (ht:lj C t=some (pl,zs)) (k:∀vs,dA (.mk loc kept) parts=vs->∃cs,j4 (cu pl) zs vs=some cs/\bN C eg all bef done (j+1) os (.mk (.cons d (.agg ⟨cs⟩) loc) kept) ⟨h,c,rl,wl⟩ Q):bN C eg all bef done j (⟨some d,.build t parts,ty,ps,af,g⟩::os) (.mk loc kept) ⟨h,c,rl,wl⟩ Q:=by
 obtain⟨cs,h1,h2⟩:=k _ rfl
 exact bN.quiet hw (xX ht h1) h2
theorem bN.bs {t et:TypeId}{m n by_:Nat}{z:List Value}{parts:Array (Nat×Operand)} (hw:aJ all (.mk loc kept) ⟨some d,.buildSlice t m parts,ty,ps,af,g⟩=some true) (ht:C.row t=some (et,n,by_,z)) (hm:Nat.ble (m*n) dv=true) (hf:ai h c) (ha:∀p∈done,Ap bef j p.1=true\/bt p.2 ⟨[],[],c,c+1⟩)
  (k:∀vs,dA (.mk loc kept) parts=vs->∃cs,j4 (fun i=>some (i*n,n)) (rep z m) vs=some cs/\bN C eg all bef ((j,⟨[],[],c,c+1⟩)::done) (j+1) os (.mk (.cons d (.slice (some ⟨c,0,none⟩) m m) loc) kept) ⟨h.set c (some (.cells cs)),c+1,rl,wl⟩ Q):bN C eg all bef done j (⟨some d,.buildSlice t m parts,ty,ps,af,g⟩::os) (.mk loc kept) ⟨h,c,rl,wl⟩ Q:=by
 obtain⟨cs,h1,h2⟩:=k _ rfl
 exact bN.op (s1:=⟨h.set c (some (.cells cs)),c+1,[],[]⟩) hw (nz ht hm h1 hf) ha h2
theorem bN.so {t:TypeId}{a x:Operand}{b o n:Nat}{cs:List Value} (hw:aJ all (.mk loc kept) ⟨none,.store t a x,ty,ps,af,g⟩=some true) (ht:C.size t=some n) (ha:ae (.mk loc kept) a=.pointer (some ⟨b,o,none⟩)) (hb:ay h b (.cells cs)) (hc:b<c) (hap:∀p∈done,Ap bef j p.1=true\/bt p.2 ⟨[b],[b],c,c⟩)
  (k:∀v,ae (.mk loc kept) x=v->∃xs r,ba v=some xs/\Nat.beq (len xs) n=true/\bw xs cs o=some r/\bN C eg all bef ((j,⟨[b],[b],c,c⟩)::done) (j+1) os (.mk loc kept) ⟨h.set b (some (.cells r)),c,b::rl,b::wl⟩ Q):bN C eg all bef done j (⟨none,.store t a x,ty,ps,af,g⟩::os) (.mk loc kept) ⟨h,c,rl,wl⟩ Q:=by
 obtain⟨xs,r,h1,h2,h3,h4⟩:=k _ rfl
 exact bN.op (s1:=⟨h.set b (some (.cells r)),c,[b],[b]⟩) hw (zl ht ha rfl h1 h2 hb hc h3) hap h4
theorem bN.call {f:Nat}{ar:Array Operand}{ts:Array TypeId}{args:List Value}{P:Value->St->Prop} (hw:aJ all (.mk loc kept) ⟨some d,.call ⟨.value (.func f),ar,ts⟩,ty,ps,af,g⟩=some true) (ha:gO (ae (.mk loc kept)) ar.toList=args)
  (hc:∃v s',aE C eg f args ⟨h,c,[],[]⟩ v s'/\P v s') (k:∀v h' c' r1 w1,P v ⟨h',c',r1,w1⟩->(∀p∈done,Ap bef j p.1=true\/bt p.2 ⟨r1,w1,c,c'⟩)/\bN C eg all bef ((j,⟨r1,w1,c,c'⟩)::done) (j+1) os (.mk (.cons d v loc) kept) ⟨h',c',r1++rl,w1++wl⟩ Q) :
  bN C eg all bef done j (⟨some d,.call ⟨.value (.func f),ar,ts⟩,ty,ps,af,g⟩::os) (.mk loc kept) ⟨h,c,rl,wl⟩ Q:=by
 obtain⟨v,⟨h',c',r1,w1⟩,h1,h2⟩:=hc
 obtain⟨k1,k2⟩:=k v h' c' r1 w1 h2
 exact bN.op hw (aW.ofCall h1 ha) k1 k2
end trk
theorem fW {κ β:Type}[BEq κ] [LawfulBEq κ] {l:List (κ×β)}{P:κ->β->Prop} (h:∀p∈l,P p.1 p.2) {k:κ}{v:β} (hk:l.lookup k=some v):P k v:=by
 induction l with
 |nil=>cases hk
 |cons p l ih =>
  obtain⟨a,b⟩:=p
  rw[List.lookup_cons] at hk
  cases hb:k==a with
  |true =>
   rw[hb] at hk
   obtain rfl:=eq_of_beq hb
   cases hk
   exact h _ (List.mem_cons_self ..)
  |false =>
   rw[hb] at hk
   exact ih (fun q hq=>h q (List.mem_cons_of_mem _ hq)) hk
section dec
variable {C:aS}{eg:TypeId->Bool}{e:aR}{s:St}{d:Option Nat}{ty:TypeId}{ps:String}{af:Array Edge}{g:Option (Nat×Bool)}{t t2:TypeId}{x y:Operand}{j:IntKind}{a b:Int}
theorem By (hx:ae e x=.int j a) (hy:ae e y=.int j b) (h:a<b):aW C eg e ⟨d,.binOp .lss t x y t2,ty,ps,af,g⟩ s (.bool true) s:=by have:=xi (C:=C) (eg:=eg) (s:=s) (d:=d) (ty:=ty) (ps:=ps) (af:=af) (g:=g) (t:=t) (t2:=t2) hx hy;rwa [decide_eq_true h] at this
theorem B4 (hx:ae e x=.int j a) (hy:ae e y=.int j b) (h:¬(a<b)):aW C eg e ⟨d,.binOp .lss t x y t2,ty,ps,af,g⟩ s (.bool false) s:=by have:=xi (C:=C) (eg:=eg) (s:=s) (d:=d) (ty:=ty) (ps:=ps) (af:=af) (g:=g) (t:=t) (t2:=t2) hx hy;rwa [decide_eq_false h] at this
theorem B7 (hx:ae e x=.int j a) (hy:ae e y=.int j b) (h:a<=b):aW C eg e ⟨d,.binOp .leq t x y t2,ty,ps,af,g⟩ s (.bool true) s:=by have:=vS (C:=C) (eg:=eg) (s:=s) (d:=d) (ty:=ty) (ps:=ps) (af:=af) (g:=g) (t:=t) (t2:=t2) hx hy;rwa [decide_eq_true h] at this
theorem Bx (hx:ae e x=.int j a) (hy:ae e y=.int j b) (h:¬(a<=b)):aW C eg e ⟨d,.binOp .leq t x y t2,ty,ps,af,g⟩ s (.bool false) s:=by have:=vS (C:=C) (eg:=eg) (s:=s) (d:=d) (ty:=ty) (ps:=ps) (af:=af) (g:=g) (t:=t) (t2:=t2) hx hy;rwa [decide_eq_false h] at this
theorem BD (hx:ae e x=.int j a) (hy:ae e y=.int j b) (h:b<a):aW C eg e ⟨d,.binOp .gtr t x y t2,ty,ps,af,g⟩ s (.bool true) s:=by have:=wZ (C:=C) (eg:=eg) (s:=s) (d:=d) (ty:=ty) (ps:=ps) (af:=af) (g:=g) (t:=t) (t2:=t2) hx hy;rwa [decide_eq_true h] at this
theorem BJ (hx:ae e x=.int j a) (hy:ae e y=.int j b) (h:¬(b<a)):aW C eg e ⟨d,.binOp .gtr t x y t2,ty,ps,af,g⟩ s (.bool false) s:=by have:=wZ (C:=C) (eg:=eg) (s:=s) (d:=d) (ty:=ty) (ps:=ps) (af:=af) (g:=g) (t:=t) (t2:=t2) hx hy;rwa [decide_eq_false h] at this
theorem BU (hx:ae e x=.int j a) (hy:ae e y=.int j b) (h:b<=a):aW C eg e ⟨d,.binOp .geq t x y t2,ty,ps,af,g⟩ s (.bool true) s:=by have:=rY (C:=C) (eg:=eg) (s:=s) (d:=d) (ty:=ty) (ps:=ps) (af:=af) (g:=g) (t:=t) (t2:=t2) hx hy;rwa [decide_eq_true h] at this
theorem BL (hx:ae e x=.int j a) (hy:ae e y=.int j b) (h:¬(b<=a)):aW C eg e ⟨d,.binOp .geq t x y t2,ty,ps,af,g⟩ s (.bool false) s:=by have:=rY (C:=C) (eg:=eg) (s:=s) (d:=d) (ty:=ty) (ps:=ps) (af:=af) (g:=g) (t:=t) (t2:=t2) hx hy;rwa [decide_eq_false h] at this
theorem BH (hx:ae e x=.int j a) (hy:ae e y=.int j b) (h:a=b):aW C eg e ⟨d,.binOp .eql t x y t2,ty,ps,af,g⟩ s (.bool true) s:=by have:=wO (C:=C) (eg:=eg) (s:=s) (d:=d) (ty:=ty) (ps:=ps) (af:=af) (g:=g) (t:=t) (t2:=t2) hx hy;rwa [decide_eq_true h] at this
theorem B9 (hx:ae e x=.int j a) (hy:ae e y=.int j b) (h:¬(a=b)):aW C eg e ⟨d,.binOp .eql t x y t2,ty,ps,af,g⟩ s (.bool false) s:=by have:=wO (C:=C) (eg:=eg) (s:=s) (d:=d) (ty:=ty) (ps:=ps) (af:=af) (g:=g) (t:=t) (t2:=t2) hx hy;rwa [decide_eq_false h] at this
theorem wq (hx:ae e x=.int j a) (hy:ae e y=.int j b) (h:¬(a=b)):aW C eg e ⟨d,.binOp .neq t x y t2,ty,ps,af,g⟩ s (.bool true) s:=by have:=wI (C:=C) (eg:=eg) (s:=s) (d:=d) (ty:=ty) (ps:=ps) (af:=af) (g:=g) (t:=t) (t2:=t2) hx hy;rwa [decide_eq_false h] at this
theorem vZ (hx:ae e x=.int j a) (hy:ae e y=.int j b) (h:a=b):aW C eg e ⟨d,.binOp .neq t x y t2,ty,ps,af,g⟩ s (.bool false) s:=by have:=wI (C:=C) (eg:=eg) (s:=s) (d:=d) (ty:=ty) (ps:=ps) (af:=af) (g:=g) (t:=t) (t2:=t2) hx hy;rwa [decide_eq_true h] at this
theorem BE (hx:ae e x=.bool true):aW C eg e ⟨d,.unOp .not t x,ty,ps,af,g⟩ s (.bool false) s:=xB hx
theorem BC (hx:ae e x=.bool false):aW C eg e ⟨d,.unOp .not t x,ty,ps,af,g⟩ s (.bool true) s:=xB hx
end dec
theorem kv:type_of% (And.intro @dX (And.intro @bY (And.intro @bK (And.intro @cL (And.intro @bH (And.intro @dW @bf)))))):=And.intro @dX (And.intro @bY (And.intro @bK (And.intro @cL (And.intro @bH (And.intro @dW @bf)))))
theorem ke:type_of% (And.intro @mu (And.intro @fC (And.intro @fZ (And.intro @jy (And.intro @iK (And.intro @pg (And.intro @mT @pM))))))):=And.intro @mu (And.intro @fC (And.intro @fZ (And.intro @jy (And.intro @iK (And.intro @pg (And.intro @mT @pM))))))
end Go.Ab
