import Derived.Test.YtofikbfljjjgeaaGreatDoorDJ3
set_option linter.unusedVariables false
set_option linter.unusedSimpArgs false
section
namespace Go.Ab.Seat
open Go.Extern Go.Proofs
set_option maxRecDepth 4000
def D7:List Nat:=[0,1,4,5,7,8,9,16]
theorem CJ {h:T ag}{c:Nat}{rl wl:List Nat} (hf:ai h c) {x:Int} (hx : -1048576<=x/\x<=1048576) :
  ∃r s',aE (Cs bD) eg 160 [.int .i32 x] ⟨h,c,rl,wl⟩ r s'/\(r=.bool false/\s'=⟨h,c,rl,wl⟩):=by
 refine Fn.go (aU 160 rfl) H5 H3 HG rfl rfl ?_
 refine cg ?_
 refine aq ?_
 exact⟨.inr rfl,aG.one rfl ⟨rfl,rfl⟩⟩
theorem Aa {h:T ag}{c:Nat}{rl wl:List Nat} (hf:ai h c) {a:Option Addr}{dim k:Nat}{zs:List Int} (hn:zs.length=dim) (hx:bj h (.slice a dim k) dim 1 (zs.map (Value.int .i32))) (hb:gc zs) (hd:dim<=1000) (R:Nat->Prop) (hR:∀x,au (.slice a dim k)=some x->R x) :
  ∃r s',aE (Cs bD) eg 211 [.slice a dim k,.func (.func 160) #[] #[]] ⟨h,c,rl,wl⟩ r s'/\(r=.int .i64 (-1)/\s'.h=h/\s'.c=c)/\bA ⟨h,c,rl,wl⟩ s' R (fun _=>False):=by
 refine Fn.go (aU 211 rfl) HH H7 H2 rfl rfl ?_
 refine cg ?_
 refine aq ?_
 refine Wx.loopF (fun k1 e s=>∃(g:Nat->Value) (i:Nat) (z:Int) (rl' wl':List Nat),e=fr g [(0,.slice a dim k),(1,.func (.func 160) #[] #[]),(7,.int .i64 (dim:Int)),(8,.int .i64 z)] D7/\z=i/\s=⟨h,c,rl',wl'⟩/\Lg c R rl'/\Lg c (fun _=>False) wl'/\i<=dim/\k1=dim - i) dim D7 [(0,_),(1,_),(7,_),(8,.int .i64 0)] ⟨_,0,0,_,_,rfl,rfl,rfl,az,az,by omega,rfl⟩ ?_
 rintro k1 e s ⟨g,i,z,rl',wl',rfl,hz,rfl,hlr,hlw,hin,rfl⟩
 (refine Wx.sw (by simp only[D7,i5,i6,dC,dB,Nat.reduceEqDiff,↓reduceIte];rfl) ?_)
 by_cases hi:i<dim
 ·obtain⟨b1,o1,sp1,cs1,rfl,hc1,hn1⟩:=bp hx (j:=i*1) (by omega) (rj (by omega))
  have l1:=hc1.lt hf
  have r1:=hR b1 rfl
  refine aq ?_
  refine Zu (aj (k:=i) lh rfl rfl hz hi) ?_
  refine Zu (aB (dV rfl) rfl hc1 (by omega) hn1) ?_
  refine ax.callV rfl rfl rfl (CJ aO (hb i)) ?_
  rintro v2 h1 c1 r1 w1 ⟨rfl,e1⟩
  cases e1
  refine aq ?_
  exact aC.goF (dim - (i+1)) D7 [(0,_),(1,_),(7,_),(8,.int .i64 (z+1))] (by omega) ⟨_,i+1,z+1,_,_,rfl,by omega,rfl,az,az,by omega,rfl⟩
 ·refine aq ?_
  refine⟨.inr rfl,aG.one rfl ⟨⟨rfl,rfl,rfl⟩,?_⟩⟩
  exact bM
theorem Au {h:T ag}{c:Nat}{rl wl:List Nat} (hf:ai h c) {a:Option Addr}{dim k:Nat}{zs:List Int} (hn:zs.length=dim) (hx:bj h (.slice a dim k) dim 1 (zs.map (Value.int .i32))) (hb:gc zs) (hd:dim<=1000) (R:Nat->Prop) (hR:∀x,au (.slice a dim k)=some x->R x) :
  ∃r s',aE (Cs bD) eg 159 [.slice a dim k,.func (.func 160) #[] #[]] ⟨h,c,rl,wl⟩ r s'/\(r=.bool false/\s'.h=h/\s'.c=c)/\bA ⟨h,c,rl,wl⟩ s' R (fun _=>False):=by
 refine Fn.go (aU 159 rfl) H8 H1 HV rfl rfl ?_
 refine cg ?_
 refine aq ?_
 refine ax.call rfl rfl (Aa aO hn hx hb hd R hR) ?_
 rintro v1 h1 c1 r1 w1 ⟨⟨rfl,e1,e2⟩,hext⟩
 simp only at e1 e2
 subst e1 e2
 have lr:=Lg.extR (R:=R) (c:=c1) az hext (fun _ _ q=>q)
 have lw:=Lg.extW (W:=fun _=>False) (c:=c1) az hext (fun _ _ q=>q)
 refine aq ?_
 refine⟨.inr rfl,aG.one rfl ⟨⟨rfl,rfl,rfl⟩,?_⟩⟩
 exact bM
theorem EZ {h:T ag}{c:Nat}{rl wl:List Nat} (hf:ai h c) {a:Option Addr}{dim k:Nat}{zs:List Int} (hn:zs.length=dim) (hx:bj h (.slice a dim k) dim 1 (zs.map (Value.int .i32))) (hb:gc zs) (hd1:1<=dim) (hd:dim<=8) (R:Nat->Prop) (hR:∀x,au (.slice a dim k)=some x->R x) :
  ∃r s',aE (Cs bD) eg 91 [.slice a dim k,.int .i64 (dim:Int)] ⟨h,c,rl,wl⟩ r s'/\(r=.bool true/\s'.h=h/\s'.c=c)/\bA ⟨h,c,rl,wl⟩ s' R (fun _=>False):=by
 refine Fn.go (aU 91 rfl) I8 JN K9 rfl rfl ?_
 refine cg ?_
 refine aq ?_
 refine ax.call rfl rfl (Au aO hn hx hb (by omega) R hR) ?_
 rintro v1 h1 c1 r1 w1 ⟨⟨rfl,e1,e2⟩,hext⟩
 simp only at e1 e2
 subst e1 e2
 have lr:=Lg.extR (R:=R) (c:=c1) az hext (fun _ _ q=>q)
 have lw:=Lg.extW (W:=fun _=>False) (c:=c1) az hext (fun _ _ q=>q)
 refine aq ?_
 refine⟨.inr rfl,aG.one rfl ⟨⟨rfl,rfl,rfl⟩,?_⟩⟩
 exact bM
theorem FD {h:T ag}{c bb:Nat}{rl wl:List Nat} (hf:ai h c) {a:Option Addr}{dim k:Nat}{zs:List Int} (hn:zs.length=dim) (hx:bj h (.slice a dim k) dim 1 (zs.map (Value.int .i32))) (hb:gc zs) (hd1:1<=dim) (hd:dim<=8) (hbb:ay h bb (.cells [.int .i64 (dim:Int)])) (R:Nat->Prop) (hR:∀x,au (.slice a dim k)=some x->R x) (hRb:R bb) :
  ∃r s',aE (Cs bD) eg 157 [.slice a dim k,.pointer (some ⟨bb,0,none⟩)] ⟨h,c,rl,wl⟩ r s'/\(r=.bool false/\s'.h=h/\s'.c=c)/\bA ⟨h,c,rl,wl⟩ s' R (fun _=>False):=by
 have l1:=hbb.lt hf
 refine Fn.go (aU 157 rfl) JE LE Lt rfl rfl ?_
 refine cg ?_
 refine aq ?_
 refine ax.call rfl rfl (EZ aO hn hx hb hd1 hd R hR) ?_
 rintro v1 h1 c1 r1 w1 ⟨⟨rfl,e1,e2⟩,hext⟩
 simp only at e1 e2
 subst e1 e2
 have lr:=Lg.extR (R:=R) (c:=c1) az hext (fun _ _ q=>q)
 have lw:=Lg.extW (W:=fun _=>False) (c:=c1) az hext (fun _ _ q=>q)
 refine aq ?_
 refine⟨.inr rfl,aG.one rfl ⟨⟨rfl,rfl,rfl⟩,?_⟩⟩
 exact bM
theorem Ao {h:T ag}{c bb:Nat}{rl wl:List Nat} (hf:ai h c) {v:Value}{dim:Nat}{vs:List (List Int)}{U:Nat->Prop} (hm:fe h v dim vs U) (hn:vs.length<=1000) (hd1:1<=dim) (hd:dim<=8) (hbb:ay h bb (.cells [.int .i64 (dim:Int)])) (R:Nat->Prop) (hUR:∀b,U b->R b) (hRb:R bb) :
  ∃r s',aE (Cs bD) eg 210 [v,.func (.func 157) #[] ⟨[.pointer (some ⟨bb,0,none⟩)]⟩] ⟨h,c,rl,wl⟩ r s'/\(r=.int .i64 (-1)/\s'.h=h/\s'.c=c)/\bA ⟨h,c,rl,wl⟩ s' R (fun _=>False):=by
 obtain⟨oa,cap,rfl⟩:=hm.val
 refine Fn.go (aU 210 rfl) HA HE HB rfl rfl ?_
 refine cg ?_
 refine aq ?_
 refine Wx.loopF (fun k1 e s=>∃(g:Nat->Value) (i:Nat) (z:Int) (rl' wl':List Nat),e=fr g [(0,.slice oa vs.length cap),(1,.func (.func 157) #[] ⟨[.pointer (some ⟨bb,0,none⟩)]⟩),(7,.int .i64 (vs.length:Int)),(8,.int .i64 z)] D7/\z=i/\s=⟨h,c,rl',wl'⟩/\Lg c R rl'/\Lg c (fun _=>False) wl'/\i<=vs.length/\k1=vs.length - i) vs.length D7 [(0,_),(1,_),(7,_),(8,.int .i64 0)] ⟨_,0,0,_,_,rfl,rfl,rfl,az,az,by omega,rfl⟩ ?_
 rintro k1 e s ⟨g,i,z,rl',wl',rfl,hz,rfl,hlr,hlw,hin,rfl⟩
 (refine Wx.sw (by simp only[D7,i5,i6,dC,dB,Nat.reduceEqDiff,↓reduceIte];rfl) ?_)
 by_cases hi:i<vs.length
 ·obtain⟨g1,g2,b1,sp,vals,a,k,rfl,g4,g5,g6,g7,g8⟩:=hm.at (List.getElem?_eq_getElem hi)
  have lb:=g5.lt hf
  have rb:=hUR b1 g4
  refine aq ?_
  refine Zu (aj (k:=i) lz rfl rfl hz hi) ?_
  refine Zu (aB (dV rfl) rfl g5.cel (by omega) g6) ?_
  refine ax.callV rfl rfl rfl (FD aO g1 g7 g2 hd1 hd hbb R (fun x u=>hUR x (g8 x u)) hRb) ?_
  rintro v2 h1 c1 r1 w1 ⟨⟨rfl,e1,e2⟩,hext⟩
  simp only at e1 e2
  subst e1 e2
  have lr:=Lg.extR (R:=R) (c:=c1) az hext (fun _ _ q=>q)
  have lw:=Lg.extW (W:=fun _=>False) (c:=c1) az hext (fun _ _ q=>q)
  refine aq ?_
  exact aC.goF (vs.length - (i+1)) D7 [(0,_),(1,_),(7,_),(8,.int .i64 (z+1))] (by omega) ⟨_,i+1,z+1,_,_,rfl,by omega,rfl,az,az,by omega,rfl⟩
 ·refine aq ?_
  refine⟨.inr rfl,aG.one rfl ⟨⟨rfl,rfl,rfl⟩,?_⟩⟩
  exact bM
theorem zn {h:T ag}{c bb:Nat}{rl wl:List Nat} (hf:ai h c) {v:Value}{dim:Nat}{vs:List (List Int)}{U:Nat->Prop} (hm:fe h v dim vs U) (hn:vs.length<=1000) (hd1:1<=dim) (hd:dim<=8) (hbb:ay h bb (.cells [.int .i64 (dim:Int)])) (R:Nat->Prop) (hUR:∀b,U b->R b) (hRb:R bb) :
  ∃r s',aE (Cs bD) eg 155 [v,.func (.func 157) #[] ⟨[.pointer (some ⟨bb,0,none⟩)]⟩] ⟨h,c,rl,wl⟩ r s'/\(r=v/\s'.h=h/\s'.c=c)/\bA ⟨h,c,rl,wl⟩ s' R (fun _=>False):=by
 obtain⟨oa,cap,rfl⟩:=_root_.id hm.val
 refine Fn.go (aU 155 rfl) J8 LG Ku rfl rfl ?_
 refine cg ?_
 refine aq ?_
 refine ax.call rfl rfl (Ao aO hm hn hd1 hd hbb R hUR hRb) ?_
 rintro v2 h1 c1 r1 w1 ⟨⟨rfl,e1,e2⟩,hext⟩
 simp only at e1 e2
 subst e1 e2
 have lr:=Lg.extR (R:=R) (c:=c1) az hext (fun _ _ q=>q)
 have lw:=Lg.extW (W:=fun _=>False) (c:=c1) az hext (fun _ _ q=>q)
 refine aq ?_
 refine⟨.inr rfl,aG.one rfl ⟨⟨rfl,rfl,rfl⟩,?_⟩⟩
 exact bM
theorem uh {h:T ag}{c:Nat}{rl wl:List Nat} (hf:ai h c) {v:Value}{dim:Nat}{vs:List (List Int)}{U:Nat->Prop} (hm:fe h v dim vs U) (hUc:∀b,U b->b<c) (hn:vs.length<=1000) (R:Nat->Prop) (hUR:∀b,U b->R b) :
  ∃r s',aE (Cs bD) eg 156 [v] ⟨h,c,rl,wl⟩ r s'/\fe s'.h r dim vs (fun b=>U b\/c<=b/\b<s'.c)/\bA ⟨h,c,rl,wl⟩ s' R (fun _=>False):=by
 refine Fn.go (aU 156 rfl) Jc Jm Ln rfl rfl ?_
 intro e he
 have hbg:dv=1048576:=rfl
 rcases hm with⟨rfl,rfl⟩|⟨b,sp,cap,vals,rfl,hne,hcap,hU,hb,hG⟩
 ·(simp (decide:=true) only[kz] at he;subst he)
  refine aq ?_
  refine⟨.inr rfl,aG.one rfl ⟨.inl ⟨rfl,rfl⟩,?_⟩⟩
  exact bM
 ·(simp (decide:=true) only[kz] at he;subst he)
  obtain⟨n,hnn⟩:∃n,vs.length=n+1:=⟨vs.length - 1,by have:=List.length_pos_iff.2 hne;omega⟩
  have hvl:=hG.1
  have lb:=hb.lt hf
  have rb:=hUR b hU
  rw[hnn]
  refine aq ?_
  refine Zu (l9 rF sP rfl rfl (hb.other (by omega)).cel (by omega) (aA _ _ (by rw[hvl];omega)) (by omega) aO) ?_
  refine aq ?_
  refine⟨.inr rfl,aG.one rfl ⟨.inr ⟨c+1,some 1,n+1,vals,by rw[hnn];rfl,hne,by omega,.inr ⟨by omega,by dsimp only;omega⟩,ay.same,hG.keep hf (fun b q=>.inl q) (fun b q hc _=>?_)⟩,?_⟩⟩
  ·rw[am (by omega),am (by omega)]
  ·exact bM
end Go.Ab.Seat
end
section
namespace Go.Ab.Seat
open Go.Extern Go.Proofs
def ku (i:Nat):List (List Int)->Int
 | []=>0
 |v::vs=>vs.foldl (fun a w=>min a (w.getD i 0)) (v.getD i 0)
def jq (i:Nat):List (List Int)->Int
 | []=>0
 |v::vs=>vs.foldl (fun a w=>max a (w.getD i 0)) (v.getD i 0)
theorem uD (i:Nat) (v:List Int):∀vs:List (List Int),ku i (vs++[v])=if vs.length=0 then v.getD i 0 else min (ku i vs) (v.getD i 0)
 | []=>rfl
 |w::vs=>by
  rw[if_neg (by simp)]
  show (vs++[v]).foldl _ _=min (vs.foldl _ _) _
  rw[List.foldl_append];rfl
theorem sE (i:Nat) (v:List Int):∀vs:List (List Int),jq i (vs++[v])=if vs.length=0 then v.getD i 0 else max (jq i vs) (v.getD i 0)
 | []=>rfl
 |w::vs=>by
  rw[if_neg (by simp)]
  show (vs++[v]).foldl _ _=max (vs.foldl _ _) _
  rw[List.foldl_append];rfl
theorem oY {i:Nat}{vs:List (List Int)} (h:∀v∈vs,gc v):∀k,k<=vs.length -> -1048576<=ku i (vs.take k)/\ku i (vs.take k)<=jq i (vs.take k)/\jq i (vs.take k)<=1048576
 |0,_=>by simp [ku,jq]
 |k+1,hk=>by
  have ih:=oY (i:=i) h k (by omega)
  have hb:=h _ (List.getElem_mem (show k<vs.length by omega)) i
  rw[List.take_succ_eq_append_getElem (by omega),uD,sE]
  split<;>omega
def nf (i:Nat) (vs:List (List Int)):Int:=max ((jq i vs - ku i vs+254).tdiv 255) 1
theorem Cz {i:Nat}{vs:List (List Int)} (h:∀v∈vs,gc v):1<=nf i vs/\nf i vs<=8226:=by
 have:=oY (i:=i) h vs.length (Nat.le_refl _)
 rw[List.take_length] at this
 unfold nf
 rw[Int.tdiv_eq_ediv_of_nonneg (by omega)]
 omega
end Go.Ab.Seat
end
section
namespace Go.Ab.Seat
open Go.Extern Go.Proofs
set_option maxRecDepth 4000
section
variable {C:aS}{eg:TypeId->Bool}{e:aR}{s:St}{d:Option Nat}{ty:TypeId}{ps:String}{af:Array Edge}{g:Option (Nat×Bool)}{t t2:TypeId}{x y:Operand}{a b:Int}
theorem Gg (hx:ae e x=.int .i32 a) (hy:ae e y=.int .i32 b) (h0 : -2147483648<=a+b) (h1:a+b<=2147483647):aW C eg e ⟨d,.binOp .add t x y t2,ty,ps,af,g⟩ s (.int .i32 (a+b)) s :=
 cY hx hy (by rw[cq (by decide) (by decide)];show some (Value.int .i32 (cf .i32 (a+b)))=_;rw[jT h0 h1])
theorem y8 (hx:ae e x=.int .i32 a) (hy:ae e y=.int .i32 b) (h0 : -2147483648<=a - b) (h1:a - b<=2147483647):aW C eg e ⟨d,.binOp .sub t x y t2,ty,ps,af,g⟩ s (.int .i32 (a - b)) s :=
 cY hx hy (by rw[cq (by decide) (by decide)];show some (Value.int .i32 (cf .i32 (a - b)))=_;rw[jT h0 h1])
theorem Fg (hx:ae e x=.int .i32 a) (hy:ae e y=.int .i32 b) (hb:b≠0) (h0 : -2147483648<=a.tdiv b) (h1:a.tdiv b<=2147483647):aW C eg e ⟨d,.binOp .quo t x y t2,ty,ps,af,g⟩ s (.int .i32 (a.tdiv b)) s :=
 cY hx hy (by rw[cq (by decide) (by decide)];show (match decide (b=0) with|true=>none|false=>some (Value.int .i32 (cf .i32 (a.tdiv b))))=_;rw[decide_eq_false hb,jT h0 h1])
end
def AC:List Nat:=[0,1,2,4,5,6,7,8,9,10,16,27,28,29,31,32,33,34,39]
set_option maxHeartbeats 16000000 in
theorem Da {h:T ag}{c:Nat}{rl wl:List Nat} (hf:ai h c) {v:Value}{dim:Nat}{vs:List (List Int)}{U0:Nat->Prop} (hm0:fe h v dim vs U0) (hn:vs.length<=1000) (hd1:1<=dim) (hd:dim<=8) (R:Nat->Prop) (hUR0:∀b,U0 b->R b) :
  ∃r s',aE (Cs bD) eg 87 [.int .i64 (dim:Int),v] ⟨h,c,rl,wl⟩ r s'/\(∃bl bs,r=.agg ⟨[.slice (some ⟨bl,0,none⟩) dim dim,.slice (some ⟨bs,0,none⟩) dim dim]⟩/\c<=bl/\c<=bs/\bl≠bs/\ay s'.h bl (.cells (lg .i32 (fun i=>ku i vs) (fun _=>0) dim dim))/\ay s'.h bs (.cells (lg .i32 (fun i=>nf i vs) (fun _=>0) dim dim)))/\bA ⟨h,c,rl,wl⟩ s' R (fun _=>False):=by
 have hm:=hm0.bound hf hd1
 have hvok:=hm0.vok
 generalize hU:(fun b=>U0 b/\b<c)=U at hm
 have hUR:∀b,U b->R b:=fun b hb=>by subst hU;exact hUR0 b hb.1
 have hUc:∀b,U b->b<c:=fun b hb=>by subst hU;exact hb.2
 clear hU hm0 hUR0
 obtain⟨oa,cap,rfl⟩:=hm.val
 have hbg:dv=1048576:=rfl
 refine Fn.go (aU 87 rfl) OE NZ MP rfl rfl ?_
 refine cg ?_
 refine aq ?_
 have hmA:=hm.keep (h':=(h.set c (some (.cells [.int .i64 (dim:Int)]))).set (c+1) (some (.cells [.slice none 0 0,.slice none 0 0]))) hf (fun _ q=>q) (fun b hb _ _=>by have:=hUc b hb;rw[am (by omega),am (by omega)])
 refine ax.call rfl rfl (uh aO hmA (fun b hb=>by have:=hUc b hb;omega) hn R hUR) ?_
 rintro v1 h1 c1 r1 w1 ⟨hm1,hext1⟩
 have fr1:=hext1.fresh
 have le1:=hext1.c
 simp only at le1 fr1 hm1
 have kp1:=Kp.ext (W:=fun _=>False) (h:=h) (c:=c) bW hext1 (by omega) (fun _ _ q=>q)
 have lr1:=Lg.extR (R:=R) (c:=c) az hext1 (fun _ _ q=>q)
 have lw1:=Lg.extW (W:=fun _=>False) (c:=c) az hext1 (fun _ _ q=>q)
 have gb1:=hext1.hs (b:=c) (ay.other (by omega) ay.same) (by omega) (fun q=>q)
 have gr1:=hext1.hs (b:=c+1) ay.same (by omega) (fun q=>q)
 refine aq ?_
 refine ax.call rfl rfl (zn aO hm1 hn hd1 hd gb1 (fun b=>R b\/c<=b) (fun b q=>q.elim (fun q=>.inl (hUR b q)) (fun q=>.inr (by omega))) (.inr (Nat.le_refl _))) ?_
 rintro v2 h2 c2 r2 w2 ⟨⟨rfl,e1,e2⟩,hext2⟩
 simp only at e1 e2
 have lr2:=Lg.extR (R:=R) (c:=c) az hext2 (fun b hb q=>q.elim (fun q=>q) (fun q=>by omega))
 have lw2:=Lg.extW (W:=fun _=>False) (c:=c) az hext2 (fun _ _ q=>q)
 subst e1 e2
 obtain⟨ob,capb,rfl⟩:=hm1.val
 refine aq ?_
 refine Zd (dM (a:=dim) (b:=dim) Id rfl rfl rfl rfl (by omega) (by omega) aO) ?_
 refine aq ?_
 refine Zd (dM (a:=dim) (b:=dim) Id rfl rfl rfl rfl (by omega) (by omega) aO) ?_
 refine aq ?_
 have lr9:Lg c (fun x=>R x\/c<=x) r2:=fun b hb=>(lr2 b hb).imp (fun q=>q) .inl
 have hbnd:=fun j k hk=>oY (i:=j) (fun v hv=>(hvok v hv).2) k hk
 refine Wx.cutO (fun e s=>∃(g:Nat->Value) (h':T ag) (rl' wl':List Nat),e=fr g [(4,.pointer (some ⟨c+1,0,none⟩)),(5,.pointer (some ⟨c2+1+1,0,none⟩))] AC/\s=⟨h',c2+1+1+1,rl',wl'⟩/\ai h' (c2+1+1+1)/\Kp h2 h' c2 (fun _=>False)/\ay h' c2 (.cells (lg .i32 (fun i=>ku i vs) (fun _=>0) dim dim))/\ay h' (c2+1) (.cells (lg .i32 (fun i=>nf i vs) (fun _=>0) dim dim))/\ay h' (c2+1+1) (.cells [.slice (some ⟨c2,0,none⟩) dim dim,.slice (some ⟨c2+1,0,none⟩) dim dim])/\Lg c (fun x=>R x\/c<=x) rl'/\Lg c (fun _=>False) wl') iY ?_ ?_
 ·refine Wx.loopF (fun k1 e s=>∃(g:Nat->Value) (i:Nat) (z:Int) (h':T ag) (rl' wl':List Nat),e=fr g [(1,.slice ob vs.length capb),(2,.pointer (some ⟨c,0,none⟩)),(4,.pointer (some ⟨c+1,0,none⟩)),(5,.pointer (some ⟨c2+1+1,0,none⟩)),(27,.int .i64 (dim:Int)),(28,.int .i64 z)] AC/\z=i/\s=⟨h',c2+1+1+1,rl',wl'⟩/\ai h' (c2+1+1+1)/\Kp h2 h' c2 (fun _=>False)/\ay h' c2 (.cells (lg .i32 (fun i=>ku i vs) (fun _=>0) dim i))/\ay h' (c2+1) (.cells (lg .i32 (fun i=>nf i vs) (fun _=>0) dim i))/\ay h' (c2+1+1) (.cells [.slice (some ⟨c2,0,none⟩) dim dim,.slice (some ⟨c2+1,0,none⟩) dim dim])/\Lg c (fun x=>R x\/c<=x) rl'/\Lg c (fun _=>False) wl'/\i<=dim/\k1=dim - i) dim AC [(1,_),(2,_),(4,_),(5,_),(27,_),(28,.int .i64 0)] ⟨_,0,0,_,_,_,rfl,rfl,rfl,aO,bW,by rw[<- nY];exact gL,by rw[<- nY];exact gL,ay.same,az,az,by omega,rfl⟩ ?_
  rintro k1 e s ⟨g,i,z,h',rl',wl',rfl,hz,rfl,hf',hkp,hL,hS,hB,hlr,hlw,hid,rfl⟩
  (refine Wx.sw (by simp only[AC,i5,i6,dC,dB,Nat.reduceEqDiff,↓reduceIte];rfl) ?_)
  by_cases hi:i<dim
  rotate_left
  ·refine aq ?_
   obtain rfl:i=dim:=by omega
   exact di.goF AC [(4,_),(5,_)] ⟨_,_,_,_,rfl,rfl,hf',hkp,hL,hS,hB,hlr,hlw⟩
  have hm':=hm1.keep fr1 (fun _ q=>q) (fun b _ hb _=>hkp b hb (fun q=>q))
  refine aq ?_
  refine Wx.cutO (fun e s=>∃(g:Nat->Value) (rl' wl':List Nat),e=fr g [(1,.slice ob vs.length capb),(2,.pointer (some ⟨c,0,none⟩)),(4,.pointer (some ⟨c+1,0,none⟩)),(5,.pointer (some ⟨c2+1+1,0,none⟩)),(27,.int .i64 (dim:Int)),(28,.int .i64 z),(6,.int .i64 z),(7,.int .i32 (ku i vs)),(8,.int .i32 (jq i vs))] AC/\s=⟨h',c2+1+1+1,rl',wl'⟩/\Lg c (fun x=>R x\/c<=x) rl'/\Lg c (fun _=>False) wl') iY ?_ ?_
  ·refine Wx.loopF (fun k1 e s=>∃(g:Nat->Value) (k:Nat) (z2:Int) (rl' wl':List Nat),e=fr g [(1,.slice ob vs.length capb),(2,.pointer (some ⟨c,0,none⟩)),(4,.pointer (some ⟨c+1,0,none⟩)),(5,.pointer (some ⟨c2+1+1,0,none⟩)),(27,.int .i64 (dim:Int)),(28,.int .i64 z),(6,.int .i64 z),(7,.int .i32 (ku i (vs.take k))),(8,.int .i32 (jq i (vs.take k))),(31,.slice ob vs.length capb),(32,.int .i64 (vs.length:Int)),(33,.int .i64 z2)] AC/\z2=k/\s=⟨h',c2+1+1+1,rl',wl'⟩/\Lg c (fun x=>R x\/c<=x) rl'/\Lg c (fun _=>False) wl'/\k<=vs.length/\k1=vs.length - k) vs.length AC [(1,_),(2,_),(4,_),(5,_),(27,_),(28,_),(6,_),(7,.int .i32 0),(8,.int .i32 0),(31,_),(32,_),(33,.int .i64 0)] ⟨_,0,0,_,_,rfl,rfl,rfl,az,az,by omega,rfl⟩ ?_
   rintro k1 e s ⟨g,k,z2,rl2,wl2,rfl,hz2,rfl,hlr2,hlw2,hkd,rfl⟩
   (refine Wx.sw (by simp only[AC,i5,i6,dC,dB,Nat.reduceEqDiff,↓reduceIte];rfl) ?_)
   by_cases hk:k<vs.length
   rotate_left
   ·refine aq ?_
    have e9:vs.take k=vs:=List.take_of_length_le (by omega)
    rw[e9]
    exact di.goF AC [(1,_),(2,_),(4,_),(5,_),(27,_),(28,_),(6,_),(7,_),(8,_)] ⟨_,_,_,rfl,rfl,az,az⟩
   obtain⟨g1,g2,b,sp,vals,a,kk,rfl,g4,g5,g6,g7,g8⟩:=hm'.at (List.getElem?_eq_getElem hk)
   have lb:=g5.lt hf'
   have rb:R b\/c<=b:=g4.elim (fun q=>.inl (hUR b q)) (fun q=>.inr (by omega))
   obtain⟨b1,o1,sp1,cs1,rfl,hc1,hn1⟩:=bp g7 (j:=i*1) (by omega) (rj (by omega))
   have rb1:R b1\/c<=b1:=(g8 b1 rfl).elim (fun q=>.inl (hUR b1 q)) (fun q=>.inr (by omega))
   have l1:=hc1.lt hf'
   have hlow:=uD i vs[k] (vs.take k)
   have hhigh:=sE i vs[k] (vs.take k)
   rw[<- List.take_succ_eq_append_getElem hk] at hlow hhigh
   have hlt:(vs.take k).length=k:=by rw[List.length_take];omega
   rw[hlt] at hlow hhigh
   by_cases hk0:k=0
   ·rw[if_pos hk0] at hlow hhigh
    refine aq ?_
    refine Zu (aj (k:=k) lz rfl rfl hz2 hk) ?_
    refine Zu (aB (dV rfl) rfl g5.cel (by omega) g6) ?_
    refine aq ?_
    refine Zq (aj (k:=i) lh rfl rfl hz hi) ?_
    refine Zd (aB (dV rfl) rfl hc1 (by omega) hn1) ?_
    refine aq ?_
    refine Zq (aj (k:=i) lh rfl rfl hz hi) ?_
    refine Zd (aB (dV rfl) rfl hc1 (by omega) hn1) ?_
    refine aq ?_
    refine Zq (aj (k:=i) lh rfl rfl hz hi) ?_
    refine Zd (aB (dV rfl) rfl hc1 (by omega) hn1) ?_
    refine aq ?_
    refine Zq (aj (k:=i) lh rfl rfl hz hi) ?_
    refine Zd (aB (dV rfl) rfl hc1 (by omega) hn1) ?_
    refine aq ?_
    rw[show min (vs[k].getD i 0) (vs[k].getD i 0)=ku i (vs.take (k+1)) by rw[hlow];omega,show max (vs[k].getD i 0) (vs[k].getD i 0)=jq i (vs.take (k+1)) by rw[hhigh];omega]
    exact aC.goF (vs.length - (k+1)) AC [(1,_),(2,_),(4,_),(5,_),(27,_),(28,_),(6,_),(7,_),(8,_),(31,_),(32,_),(33,.int .i64 (z2+1))] (by omega) ⟨_,k+1,z2+1,_,_,rfl,by omega,rfl,az,az,by omega,rfl⟩
   ·rw[if_neg hk0] at hlow hhigh
    refine aq ?_
    refine Zu (aj (k:=k) lz rfl rfl hz2 hk) ?_
    refine Zu (aB (dV rfl) rfl g5.cel (by omega) g6) ?_
    refine aq ?_
    refine Zq (aj (k:=i) lh rfl rfl hz hi) ?_
    refine Zd (aB (dV rfl) rfl hc1 (by omega) hn1) ?_
    refine aq ?_
    refine Zq (aj (k:=i) lh rfl rfl hz hi) ?_
    refine Zd (aB (dV rfl) rfl hc1 (by omega) hn1) ?_
    refine aq ?_
    rw[<- hlow,<- hhigh]
    exact aC.goF (vs.length - (k+1)) AC [(1,_),(2,_),(4,_),(5,_),(27,_),(28,_),(6,_),(7,_),(8,_),(31,_),(32,_),(33,.int .i64 (z2+1))] (by omega) ⟨_,k+1,z2+1,_,_,rfl,by omega,rfl,az,az,by omega,rfl⟩
  ·rintro e s ⟨g,rl2,wl2,rfl,rfl,hlr2,hlw2⟩
   (refine Wx.sw (by simp only[AC,i5,i6,dC,dB,Nat.reduceEqDiff,↓reduceIte];rfl) ?_)
   have hb0:=hbnd i vs.length (Nat.le_refl _)
   rw[List.take_length] at hb0
   have hq : -2147483648<=(jq i vs - ku i vs+255 - 1).tdiv 255/\(jq i vs - ku i vs+255 - 1).tdiv 255<=2147483647:=by
    rw[Int.tdiv_eq_ediv_of_nonneg (by omega)];omega
   have hst1:=mN .i32 (fun i=>ku i vs) (fun _=>0) dim i hi
   have hst2:=mN .i32 (fun i=>nf i vs) (fun _=>0) dim i hi
   have e7:max ((jq i vs - ku i vs+255 - 1).tdiv 255) 1=nf i vs:=by
    unfold nf;rw[show jq i vs - ku i vs+255 - 1=jq i vs - ku i vs+254 by omega]
   refine aq ?_
   refine Zq (y8 rfl rfl (by omega) (by omega)) ?_
   refine Zq (Gg rfl rfl (by omega) (by omega)) ?_
   refine Zq (y8 rfl rfl (by omega) (by omega)) ?_
   refine Zq (Fg rfl rfl (by omega) hq.1 hq.2) ?_
   refine aq ?_
   rw[e7]
   refine Zq (aj (k:=i) Ak rfl rfl hz hi) ?_
   ((with_reducible apply bN.so);rfl;exact(uc rfl);rfl;exact hL;omega;exact i7;refine wC ?_;refine⟨_,_,(by(first|exact a8 _|rfl)),rfl,hst1,?_⟩)
   refine Zq (aj (k:=i) Ak rfl rfl hz hi) ?_
   ((with_reducible apply bN.so);rfl;exact(uc rfl);rfl;exact gL;omega;exact i7;refine wC ?_;refine⟨_,_,(by(first|exact a8 _|rfl)),rfl,hst2,?_⟩)
   refine aq ?_
   exact aC.goF (dim - (i+1)) AC [(1,_),(2,_),(4,_),(5,_),(27,_),(28,.int .i64 (z+1))] (by omega) ⟨_,i+1,z+1,_,_,_,rfl,by omega,rfl,aO,bW,gL,ay.same,gL,az,az,by omega,rfl⟩
 ·rintro e s ⟨g,h',rl',wl',rfl,rfl,hf',hkp,hL,hS,hB,hlr,hlw⟩
  (refine Wx.sw (by simp only[AC,i5,i6,dC,dB,Nat.reduceEqDiff,↓reduceIte];rfl) ?_)
  have hlr:Lg c R rl':=fun b hb=>(hlr b hb).elim .inl (fun q=>q.elim .inr .inl)
  have kph:Kp h h' c (fun _=>False):=fun b hb _=>(hkp b (by omega) (fun q=>q)).trans (kp1 b hb (fun q=>q))
  have gr':ay h' (c+1) _:=(hkp (c+1) (by omega) (fun q=>q)).trans gr1
  refine aq ?_
  refine⟨.inr rfl,aG.cell rfl (FU rfl) ay.same.cel (by omega) (by rfl) ⟨⟨c2,c2+1,rfl,by omega,by omega,by omega,gL,gL⟩,?_⟩⟩
  exact bM
end Go.Ab.Seat
end
section
namespace Go.Ab.Seat
open Go.Extern Go.Proofs
set_option maxRecDepth 4000
structure Ay (h:T ag) (bk:Value) (dim:Nat) (lo st:List Int) (U:Nat->Prop):Prop where
 ex:∃al kl at_ ks,bk=.agg ⟨[.slice al dim kl,.slice at_ dim ks]⟩/\bj h (.slice al dim kl) dim 1 (lo.map (Value.int .i32))/\bj h (.slice at_ dim ks) dim 1 (st.map (Value.int .i32))/\(∀b,au (.slice al dim kl)=some b->U b)/\∀b,au (.slice at_ dim ks)=some b->U b
 ll:lo.length=dim
 ls:st.length=dim
 bl:∀i,-1048576<=lo.getD i 0/\lo.getD i 0<=1048576
 bs:∀i,i<dim->1<=st.getD i 0/\st.getD i 0<=8226
theorem Ay.keep {h h':T ag}{c dim:Nat}{bk:Value}{lo st:List Int}{U U':Nat->Prop} (x:Ay h bk dim lo st U) (hf:ai h c) (hU:∀b,U b->U' b) (k:∀b,U b->b<c->h'.get b=h.get b):Ay h' bk dim lo st U':=by
 obtain⟨⟨al,kl,at_,ks,h1,h2,h3,h4,h5⟩,h6,h7,h8,h9⟩:=x
 refine⟨⟨al,kl,at_,ks,h1,?_,?_,fun b hb=>hU b (h4 b hb),fun b hb=>hU b (h5 b hb)⟩,h6,h7,h8,h9⟩
 ·rcases h2 with g|⟨b,o,sp,cap,cs,e,g6,g7⟩
  ·exact .inl g
  ·refine .inr ⟨b,o,sp,cap,cs,e,?_,g7⟩
   have q:=k b (h4 b (by rw[e];rfl)) (g6.lt hf)
   unfold gX ay at g6 ⊢
   rw[q];exact g6
 ·rcases h3 with g|⟨b,o,sp,cap,cs,e,g6,g7⟩
  ·exact .inl g
  ·refine .inr ⟨b,o,sp,cap,cs,e,?_,g7⟩
   have q:=k b (h5 b (by rw[e];rfl)) (g6.lt hf)
   unfold gX ay at g6 ⊢
   rw[q];exact g6
theorem E0 {h:T ag}{c:Nat}{rl wl:List Nat} (hf:ai h c) {x:Int} (hx:1<=x) :
  ∃r s',aE (Cs bD) eg 163 [.int .i32 x] ⟨h,c,rl,wl⟩ r s'/\(r=.bool false/\s'=⟨h,c,rl,wl⟩):=by
 refine Fn.go (aU 163 rfl) I1 L6 I3 rfl rfl ?_
 refine cg ?_
 refine aq ?_
 exact⟨.inr rfl,aG.one rfl ⟨rfl,rfl⟩⟩
theorem AQ {h:T ag}{c:Nat}{rl wl:List Nat} (hf:ai h c) {a:Option Addr}{dim k:Nat}{zs:List Int} (hn:zs.length=dim) (hx:bj h (.slice a dim k) dim 1 (zs.map (Value.int .i32))) (hb:∀i,i<dim->1<=zs.getD i 0) (hd:dim<=1000) (R:Nat->Prop) (hR:∀x,au (.slice a dim k)=some x->R x) :
  ∃r s',aE (Cs bD) eg 212 [.slice a dim k,.func (.func 163) #[] #[]] ⟨h,c,rl,wl⟩ r s'/\(r=.int .i64 (-1)/\s'.h=h/\s'.c=c)/\bA ⟨h,c,rl,wl⟩ s' R (fun _=>False):=by
 refine Fn.go (aU 212 rfl) Jx LZ KJ rfl rfl ?_
 refine cg ?_
 refine aq ?_
 refine Wx.loopF (fun k1 e s=>∃(g:Nat->Value) (i:Nat) (z:Int) (rl' wl':List Nat),e=fr g [(0,.slice a dim k),(1,.func (.func 163) #[] #[]),(7,.int .i64 (dim:Int)),(8,.int .i64 z)] D7/\z=i/\s=⟨h,c,rl',wl'⟩/\Lg c R rl'/\Lg c (fun _=>False) wl'/\i<=dim/\k1=dim - i) dim D7 [(0,_),(1,_),(7,_),(8,.int .i64 0)] ⟨_,0,0,_,_,rfl,rfl,rfl,az,az,by omega,rfl⟩ ?_
 rintro k1 e s ⟨g,i,z,rl',wl',rfl,hz,rfl,hlr,hlw,hin,rfl⟩
 (refine Wx.sw (by simp only[D7,i5,i6,dC,dB,Nat.reduceEqDiff,↓reduceIte];rfl) ?_)
 by_cases hi:i<dim
 ·obtain⟨b1,o1,sp1,cs1,rfl,hc1,hn1⟩:=bp hx (j:=i*1) (by omega) (rj (by omega))
  have l1:=hc1.lt hf
  have r1:=hR b1 rfl
  refine aq ?_
  refine Zu (aj (k:=i) Ak rfl rfl hz hi) ?_
  refine Zu (aB (dV rfl) rfl hc1 (by omega) hn1) ?_
  refine ax.callV rfl rfl rfl (E0 aO (hb i hi)) ?_
  rintro v2 h1 c1 r1 w1 ⟨rfl,e1⟩
  cases e1
  refine aq ?_
  exact aC.goF (dim - (i+1)) D7 [(0,_),(1,_),(7,_),(8,.int .i64 (z+1))] (by omega) ⟨_,i+1,z+1,_,_,rfl,by omega,rfl,az,az,by omega,rfl⟩
 ·refine aq ?_
  refine⟨.inr rfl,aG.one rfl ⟨⟨rfl,rfl,rfl⟩,?_⟩⟩
  exact bM
theorem AI {h:T ag}{c:Nat}{rl wl:List Nat} (hf:ai h c) {a:Option Addr}{dim k:Nat}{zs:List Int} (hn:zs.length=dim) (hx:bj h (.slice a dim k) dim 1 (zs.map (Value.int .i32))) (hb:∀i,i<dim->1<=zs.getD i 0) (hd:dim<=1000) (R:Nat->Prop) (hR:∀x,au (.slice a dim k)=some x->R x) :
  ∃r s',aE (Cs bD) eg 162 [.slice a dim k,.func (.func 163) #[] #[]] ⟨h,c,rl,wl⟩ r s'/\(r=.bool false/\s'.h=h/\s'.c=c)/\bA ⟨h,c,rl,wl⟩ s' R (fun _=>False):=by
 refine Fn.go (aU 162 rfl) LQ JR Ja rfl rfl ?_
 refine cg ?_
 refine aq ?_
 refine ax.call rfl rfl (AQ aO hn hx hb hd R hR) ?_
 rintro v1 h1 c1 r1 w1 ⟨⟨rfl,e1,e2⟩,hext⟩
 simp only at e1 e2
 subst e1 e2
 have lr:=Lg.extR (R:=R) (c:=c1) az hext (fun _ _ q=>q)
 have lw:=Lg.extW (W:=fun _=>False) (c:=c1) az hext (fun _ _ q=>q)
 refine aq ?_
 refine⟨.inr rfl,aG.one rfl ⟨⟨rfl,rfl,rfl⟩,?_⟩⟩
 exact bM
theorem sG {h:T ag}{c:Nat}{rl wl:List Nat} (hf:ai h c) {bk:Value}{dim:Nat}{lo st:List Int}{U:Nat->Prop} (q:Ay h bk dim lo st U) (hd:dim<=1000) (R:Nat->Prop) (hUR:∀b,U b->R b) :
  ∃r s',aE (Cs bD) eg 95 [bk] ⟨h,c,rl,wl⟩ r s'/\r=.bool true/\bA ⟨h,c,rl,wl⟩ s' R (fun _=>False):=by
 obtain⟨⟨al,kl,at_,ks,rfl,h2,h3,h4,h5⟩,h6,h7,h8,h9⟩:=q
 refine Fn.go (aU 95 rfl) NV Ng Ni rfl rfl ?_
 refine cg ?_
 refine aq ?_
 refine ax.call rfl rfl (AI aO h7 (bj.keepF h3 hf (fun b hb=>am (by omega))) (fun i hi=>(h9 i hi).1) hd R (fun b q=>hUR b (h5 b q))) ?_
 rintro v1 h1 c1 r1 w1 ⟨⟨rfl,e1,e2⟩,hext⟩
 simp only at e1 e2
 have lr:=Lg.extR (R:=R) (c:=c) az hext (fun _ _ q=>q)
 have lw:=Lg.extW (W:=fun _=>False) (c:=c) az hext (fun _ _ q=>q)
 subst e1 e2
 refine aq ?_
 refine⟨.inr rfl,aG.one rfl ⟨rfl,?_⟩⟩
 exact bM
end Go.Ab.Seat
end
section
namespace Go.Ab.Seat
open Go.Extern Go.Proofs
set_option maxRecDepth 4000
theorem Gc {z:Int} (h0:0<=z) (h1:z<=255):cf .u8 z=z:=sy (IntWalk.u8_in z ⟨h0,h1⟩)
theorem j3 {k:IntKind}{zs:List Int}{j:Nat} (hj:j<zs.length):(zs.map (Value.int k))[j*1]?=some (.int k (zs.getD j 0)):=by
 rw[Nat.mul_one,List.getElem?_map,List.getD_eq_getElem?_getD,List.getElem?_eq_getElem hj];rfl
theorem zD {h:T ag}{c:Nat}{rl wl:List Nat} (hf:ai h c) {a b:Int} (hb:0<b) (ha : -1000000000000<=a/\a<=1000000000000) :
  ∃r s',aE (Cs bD) eg 96 [.int .i64 a,.int .i64 b] ⟨h,c,rl,wl⟩ r s'/\(r=.int .i64 (tE a b)/\s'=⟨h,c,rl,wl⟩):=by
 have h1:=xY (a:=a) hb
 refine Fn.go (aU 96 rfl) O7 Mr NN rfl rfl ?_
 refine cg ?_
 refine aq ?_
 refine Zu (wY rfl rfl (by omega) (by omega) (by omega)) ?_
 refine aq ?_
 refine Zu (wT rfl rfl (by omega)) ?_
 unfold tE
 by_cases hq:a.tmod b<0
 ·rw[if_pos hq]
  refine aq ?_
  exact⟨.inr rfl,aG.one rfl ⟨rfl,rfl⟩⟩
 ·rw[if_neg hq]
  refine aq ?_
  exact⟨.inr rfl,aG.one rfl ⟨rfl,rfl⟩⟩
def qA (lo st zs:List Int) (i:Nat):Int:=min (max (tE (zs.getD i 0 - lo.getD i 0+(st.getD i 0).tdiv 2) (st.getD i 0)) 0) 255
def ja (lo st zs:List Int):List Int:=(List.range zs.length).map (qA lo st zs)
def np (lo st co:List Int) (i:Nat):Int:=min (max (lo.getD i 0+st.getD i 0*co.getD i 0) (-1048576)) 1048576
def n4 (lo st co:List Int):List Int:=(List.range co.length).map (np lo st co)
theorem uT (lo st zs:List Int) (i:Nat):0<=qA lo st zs i/\qA lo st zs i<=255:=by unfold qA;omega
def Mi:List Nat:=[0,1,2,4,5,6,7,8,11,17,18,19,24]
set_option maxHeartbeats 8000000 in
theorem Bd {h:T ag}{c:Nat}{rl wl:List Nat} (hf:ai h c) {bk:Value}{dim:Nat}{lo st:List Int}{U:Nat->Prop} (q:Ay h bk dim lo st U) (hd:dim<=8) {a:Option Addr}{k:Nat}{zs:List Int} (hn:zs.length=dim) (hx:bj h (.slice a dim k) dim 1 (zs.map (Value.int .i32))) (hb:gc zs) (R:Nat->Prop) (hUR:∀b,U b->R b) (hR:∀x,au (.slice a dim k)=some x->R x) :
  ∃r s',aE (Cs bD) eg 42 [bk,.slice a dim k] ⟨h,c,rl,wl⟩ r s'/\(∃b,r=.slice (some ⟨b,0,none⟩) dim dim/\c<=b/\ay s'.h b (.cells ((ja lo st zs).map (Value.int .u8))))/\bA ⟨h,c,rl,wl⟩ s' R (fun _=>False):=by
 have q0:=q
 obtain⟨⟨al,kl,at_,ks,rfl,h2,h3,h4,h5⟩,h6,h7,h8,h9⟩:=q
 have hbg:dv=1048576:=rfl
 refine Fn.go (aU 42 rfl) Nc Pt OB rfl rfl ?_
 refine cg ?_
 refine aq ?_
 refine ax.call rfl rfl (sG aO (q0.keep hf (fun _ q=>q) (fun b _ hb=>am (by omega))) (by omega) R hUR) ?_
 rintro v1 h1 c1 r1 w1 ⟨rfl,hext⟩
 have fr1:=hext.fresh
 have le1:=hext.c
 simp only at fr1 le1
 have kp:=Kp.ext (W:=fun _=>False) (h:=h) (c:=c) bW hext (by omega) (fun _ _ q=>q)
 have lr:=Lg.extR (R:=R) (c:=c) az hext (fun _ _ q=>q)
 have lw:=Lg.extW (W:=fun _=>False) (c:=c) az hext (fun _ _ q=>q)
 have gb:=hext.hs (b:=c) ay.same (by omega) (fun q=>q)
 refine aq ?_
 refine Zu (dM (a:=dim) (b:=dim) Nk rfl rfl rfl rfl (by omega) (by omega) aO) ?_
 refine aq ?_
 refine Wx.loopF (fun k1 e s=>∃(g:Nat->Value) (i:Nat) (z:Int) (h':T ag) (rl' wl':List Nat),e=fr g [(1,.slice a dim k),(2,.pointer (some ⟨c,0,none⟩)),(5,.slice (some ⟨c1,0,none⟩) dim dim),(17,.int .i64 (dim:Int)),(18,.int .i64 z)] Mi/\z=i/\s=⟨h',c1+1,rl',wl'⟩/\ai h' (c1+1)/\Kp h1 h' c1 (fun _=>False)/\ay h' c1 (.cells (lg .u8 (qA lo st zs) (fun _=>0) dim i))/\Lg c R rl'/\Lg c (fun _=>False) wl'/\i<=dim/\k1=dim - i) dim Mi [(1,_),(2,_),(5,_),(17,_),(18,.int .i64 0)] ⟨_,0,0,_,_,_,rfl,rfl,rfl,aO,bW,by rw[<- nY];exact ay.same,az,az,by omega,rfl⟩ ?_
 rintro k1 e s ⟨g,i,z,h',rl',wl',rfl,hz,rfl,hf',hkp,hC,hlr,hlw,hid,rfl⟩
 (refine Wx.sw (by simp only[Mi,i5,i6,dC,dB,Nat.reduceEqDiff,↓reduceIte];rfl) ?_)
 have kph:Kp h h' c (fun _=>False):=fun b hb _=>(hkp b (by omega) (fun q=>q)).trans (kp b hb (fun q=>q))
 by_cases hi:i<dim
 ·have gb':ay h' c _:=(hkp c (by omega) (fun q=>q)).trans gb
  obtain⟨b1,o1,sp1,cs1,rfl,hc1,hn1⟩:=bp (bj.keepF hx hf (fun b hb=>kph b hb (fun q=>q))) (j:=i*1) (by omega) (j3 (by omega))
  obtain⟨b2,o2,sp2,cs2,rfl,hc2,hn2⟩:=bp (bj.keepF h2 hf (fun b hb=>kph b hb (fun q=>q))) (j:=i*1) (by omega) (j3 (by omega))
  obtain⟨b3,o3,sp3,cs3,rfl,hc3,hn3⟩:=bp (bj.keepF h3 hf (fun b hb=>kph b hb (fun q=>q))) (j:=i*1) (by omega) (j3 (by omega))
  have l1:=hc1.lt hf'
  have l2:=hc2.lt hf'
  have l3:=hc3.lt hf'
  have r1:=hR b1 rfl
  have r2:=hUR b2 (h4 b2 rfl)
  have r3:=hUR b3 (h5 b3 rfl)
  have q1:=hb i
  have q2:=h8 i
  have q3:=h9 i hi
  have q4:0<=(st.getD i 0).tdiv 2/\(st.getD i 0).tdiv 2<=8226:=by rw[Int.tdiv_eq_ediv_of_nonneg (by omega)];omega
  have hstp:=mN .u8 (qA lo st zs) (fun _=>0) dim i hi
  have hcr:=uT lo st zs i
  have hce:qA lo st zs i=min (max (tE (zs.getD i 0 - lo.getD i 0+(st.getD i 0).tdiv 2) (st.getD i 0)) 0) 255:=rfl
  refine aq ?_
  refine Zq (aj (k:=i) Ak rfl rfl hz hi) ?_
  refine Zd (aB (dV rfl) rfl hc2 (by omega) hn2) ?_
  refine aq ?_
  refine Zq (aj (k:=i) Ak rfl rfl hz hi) ?_
  refine Zd (aB (dV rfl) rfl hc3 (by omega) hn3) ?_
  refine aq ?_
  simp only[cm (show (-9223372036854775808:Int)<=lo.getD i 0 by omega) (by omega),cm (show (-9223372036854775808:Int)<=st.getD i 0 by omega) (by omega)]
  refine Zu (aj (k:=i) lh rfl rfl hz hi) ?_
  refine Zu (aB (dV rfl) rfl hc1 (by omega) hn1) ?_
  refine aq ?_
  simp only[cm (show (-9223372036854775808:Int)<=zs.getD i 0 by omega) (by omega)]
  refine aq ?_
  refine Zu (wY rfl rfl (by omega) (by omega) (by omega)) ?_
  refine aq ?_
  refine ax.call rfl rfl (zD aO (by omega) (by omega)) ?_
  rintro v9 h9' c9 r9 w9 ⟨rfl,e9⟩
  cases e9
  refine aq ?_
  rw[<- hce]
  simp only[Gc hcr.1 hcr.2]
  refine Zu (aj (k:=i) LH rfl rfl hz hi) ?_
  ((with_reducible apply ax.so);rfl;exact(uc rfl);rfl;exact hC;omega;refine wC ?_;refine⟨_,_,(by(first|exact a8 _|rfl)),rfl,hstp,?_⟩)
  refine aq ?_
  exact aC.goF (dim - (i+1)) Mi [(1,_),(2,_),(5,_),(17,_),(18,.int .i64 (z+1))] (by omega) ⟨_,i+1,z+1,_,_,_,rfl,by omega,rfl,aO,bW,ay.same,az,az,by omega,rfl⟩
 ·refine aq ?_
  obtain rfl:i=dim:=by omega
  refine⟨.inr rfl,aG.one rfl ⟨⟨c1,rfl,by omega,?_⟩,?_⟩⟩
  ·unfold ja
   rw[hn,<- oU .u8 (qA lo st zs) (fun _=>0) i]
   exact hC
  ·exact bM
end Go.Ab.Seat
end
