import Derived.Test.YtofikbfljjjgeaaGreatDoorDN9
import Derived.Test.YtofikbfljjjgeaaGreatDoorDY9
import Derived.Test.YtofikbfljjjgeaaGreatDoorDF3
import Derived.Test.YtofikbfljjjgeaaGreatDoorDM1
import Derived.Test.YtofikbfljjjgeaaGreatDoorDJ3
set_option linter.unusedVariables false
set_option linter.unusedSimpArgs false
section
namespace Go.Ab.Seat
open Go.Extern Go.Proofs
set_option maxRecDepth 4000
section
variable {h:T ag}{c p dim:Nat}{rl wl:List Nat}{mt:Int}{S:Ix}{U:Nat->Prop}
theorem Ix.put_ok {id:Int}{zs:List Int}{dw:Int} (h:S.ok):(S.put mt id zs dw).ok:=by
 cases S with
 |flat M=>trivial
 |ivf mid M=>exact h
 |gra G=>exact nC.put h id zs dw
 |cod lo st M=>trivial
set_option maxHeartbeats 16000000 in
theorem vh (hf:ai h c) (x:Hn h p mt dim S U) (hg:qN h) (hU0:∀b,U b->2<=b) (hmt:mt=1\/mt=2) (hd1:1<=dim) (hd:dim<=8) (hml:S.mem.length<=700) (id:Int) (hid:1<=id/\id<=1000) {a:Option Addr}{cap:Nat}{zs:List Int} (hv:bj h (.slice a dim cap) dim 1 (zs.map (Value.int .i32))) (hz:zs.length=dim) (hb:gc zs) (hvU:∀b,au (.slice a dim cap)=some b->¬U b) {dw:Int} (hdw:0<=dw/\dw<4294967296) (R:Nat->Prop) (hUR:∀b,U b->R b) (hR0:R 0) (hvR:∀b,au (.slice a dim cap)=some b->R b) :
  ∃r s',aE (Cs bD) eg 33 [.pointer (some ⟨p,0,none⟩),.int .i64 id,.slice a dim cap,.int .u32 dw] ⟨h,c,rl,wl⟩ r s'/\(r=.nilIface/\Hn s'.h p mt dim (S.put mt id zs dw) (fun b=>U b\/c<=b/\b<s'.c))/\bA ⟨h,c,rl,wl⟩ s' R U:=by
 have hbg:dv=1048576:=rfl
 obtain⟨q,U1,hp,hin,hU1⟩:=x.ex
 have rp:=hUR p x.pU
 have lp:=hp.lt hf
 have hmay:=fun(h:T ag) (c:Nat) (rl wl:List Nat) (hf:ai h c) (hv:bj h (.slice a dim cap) dim 1 (zs.map (Value.int .i32)))=>iv (rl:=rl) (wl:=wl) hf hz hv hb hd1 hd R hvR
 refine Fn.go (aU 33 rfl) NP N7 OQ rfl rfl ?_
 refine cg ?_
 have okS:=x.ok
 have pU:=x.pU
 have put_ok:=Ix.put_ok (mt:=mt) (id:=id) (zs:=zs) (dw:=dw) x.ok
 clear x
 cases S with
 |flat M =>
  obtain⟨m,hF⟩:=hin
  replace hp:ay h p (.cells [.int .i64 1,.int .i64 mt,.int .i64 (dim:Int),.pointer (some ⟨q,0,none⟩),.pointer none,.pointer none,.pointer none]):=hp
  refine aq ?_
  refine ax.call rfl rfl (hmay _ _ _ _ aO hv) ?_
  rintro v1 hA cA r1 w1 ⟨⟨rfl,e1,e2⟩,hext⟩
  simp only at e1 e2
  have lr:=Lg.extR (R:=R) (c:=c) az hext (fun _ _ q=>q)
  have lw:=Lg.extW (W:=U) (c:=c) az hext (fun _ _ q=>q.elim)
  subst hA cA
  refine aq ?_
  refine ax.call rfl rfl (ur aO hF id (by omega) hv hz hb hd1 (by omega) (fun b=>au (.slice a dim cap)=some b) (fun b o sp e=>by rw[e];rfl) (fun e=>hvU m e (hU1 m hF.mU).1)) ?_
  rintro v9 hB cB r2 w2 ⟨hF2,hext⟩
  have frB:=hext.fresh
  have leB:=hext.c
  simp only at frB leB hF2
  have kpB:=Kp.ext (W:=U) (h:=h) (c:=c) bW hext (by omega) (fun b _ q=>q▸(hU1 m hF.mU).1)
  have lrB:=Lg.extR (R:=R) (c:=c) az hext (fun b hb q=>q.elim (fun q=>hUR b (hU1 b q).1) (hvR b))
  have lwB:=Lg.extW (W:=U) (c:=c) az hext (fun b _ q=>q▸(hU1 m hF.mU).1)
  have gp:=hext.hs (b:=p) hp (by omega) (fun q=>(hU1 m hF.mU).2 q.symm)
  refine aq ?_
  refine⟨.inr rfl,aG.one rfl ⟨⟨rfl,⟨.inl pU,put_ok,q,_,gp,⟨m,hF2⟩,fun b hb=>hb.elim (fun q=>⟨.inl (hU1 b q).1,(hU1 b q).2⟩) (fun q=>⟨.inr q,by omega⟩)⟩⟩,?_⟩⟩
  exact bM
 |ivf mid M =>
  obtain⟨m,mv,hI⟩:=hin
  replace hp:ay h p (.cells [.int .i64 2,.int .i64 mt,.int .i64 (dim:Int),.pointer none,.pointer (some ⟨q,0,none⟩),.pointer none,.pointer none]):=hp
  refine aq ?_
  refine ax.call rfl rfl (hmay _ _ _ _ aO hv) ?_
  rintro v1 hA cA r1 w1 ⟨⟨rfl,e1,e2⟩,hext⟩
  simp only at e1 e2
  have lr:=Lg.extR (R:=R) (c:=c) az hext (fun _ _ q=>q)
  have lw:=Lg.extW (W:=U) (c:=c) az hext (fun _ _ q=>q.elim)
  subst hA cA
  refine aq ?_
  refine ax.call rfl rfl (D4 aO hI okS id (by omega) hv hz hb hd1 (by omega) (fun b=>au (.slice a dim cap)=some b) (fun b e=>e) (fun e=>hvU m e (hU1 m hI.mU).1)) ?_
  rintro v9 hB cB r2 w2 ⟨hF2,hext⟩
  have frB:=hext.fresh
  have leB:=hext.c
  simp only at frB leB hF2
  have kpB:=Kp.ext (W:=U) (h:=h) (c:=c) bW hext (by omega) (fun b _ q=>q▸(hU1 m hI.mU).1)
  have lrB:=Lg.extR (R:=R) (c:=c) az hext (fun b hb q=>q.elim (fun q=>hUR b (hU1 b q).1) (hvR b))
  have lwB:=Lg.extW (W:=U) (c:=c) az hext (fun b _ q=>q▸(hU1 m hI.mU).1)
  have gp:=hext.hs (b:=p) hp (by omega) (fun q=>(hU1 m hI.mU).2 q.symm)
  refine aq ?_
  refine⟨.inr rfl,aG.one rfl ⟨⟨rfl,⟨.inl pU,put_ok,q,_,gp,⟨m,mv,hF2⟩,fun b hb=>hb.elim (fun q=>⟨.inl (hU1 b q).1,(hU1 b q).2⟩) (fun q=>⟨.inr q,by omega⟩)⟩⟩,?_⟩⟩
  exact bM
 |gra G =>
  obtain⟨m,hG⟩:=hin
  replace hp:ay h p (.cells [.int .i64 3,.int .i64 mt,.int .i64 (dim:Int),.pointer none,.pointer none,.pointer (some ⟨q,0,none⟩),.pointer none]):=hp
  refine aq ?_
  refine ax.call rfl rfl (hmay _ _ _ _ aO hv) ?_
  rintro v1 hA cA r1 w1 ⟨⟨rfl,e1,e2⟩,hext⟩
  simp only at e1 e2
  have lr:=Lg.extR (R:=R) (c:=c) az hext (fun _ _ q=>q)
  have lw:=Lg.extW (W:=U) (c:=c) az hext (fun _ _ q=>q.elim)
  subst hA cA
  refine aq ?_
  refine ax.call rfl rfl (DL aO hG okS hg (fun b hb=>hU0 b (hU1 b hb).1) hmt hd1 (by omega) hml id (by omega) hv hz hb (fun b e q=>hvU b e (hU1 b q).1) hdw R (fun b q=>hUR b (hU1 b q).1) hR0 hvR) ?_
  rintro v9 hB cB r2 w2 ⟨hF2,hext⟩
  have frB:=hext.fresh
  have leB:=hext.c
  simp only at frB leB hF2
  have kpB:=Kp.ext (W:=U) (h:=h) (c:=c) bW hext (by omega) (fun b _ q=>(hU1 b q).1)
  have lrB:=Lg.extR (R:=R) (c:=c) az hext (fun b hb q=>q)
  have lwB:=Lg.extW (W:=U) (c:=c) az hext (fun b _ q=>(hU1 b q).1)
  have gp:=hext.hs (b:=p) hp (by omega) (fun q=>(hU1 p q).2 rfl)
  refine aq ?_
  refine⟨.inr rfl,aG.one rfl ⟨⟨rfl,⟨.inl pU,put_ok,q,_,gp,⟨m,hF2⟩,fun b hb=>hb.elim (fun q=>⟨.inl (hU1 b q).1,(hU1 b q).2⟩) (fun q=>⟨.inr q,by omega⟩)⟩⟩,?_⟩⟩
  exact bM
 |cod lo st M =>
  obtain⟨m,vl,vs,hC⟩:=hin
  replace hp:ay h p (.cells [.int .i64 4,.int .i64 mt,.int .i64 (dim:Int),.pointer none,.pointer none,.pointer none,.pointer (some ⟨q,0,none⟩)]):=hp
  refine aq ?_
  refine ax.call rfl rfl (hmay _ _ _ _ aO hv) ?_
  rintro v1 hA cA r1 w1 ⟨⟨rfl,e1,e2⟩,hext⟩
  simp only at e1 e2
  have lr:=Lg.extR (R:=R) (c:=c) az hext (fun _ _ q=>q)
  have lw:=Lg.extW (W:=U) (c:=c) az hext (fun _ _ q=>q.elim)
  subst hA cA
  refine aq ?_
  refine ax.call rfl rfl (Co aO hC id (by omega) hv hz hb hd1 (by omega) (fun b=>au (.slice a dim cap)=some b) (fun b e=>e) (fun e=>hvU m e (hU1 m hC.mU).1)) ?_
  rintro v9 hB cB r2 w2 ⟨hF2,hext⟩
  have frB:=hext.fresh
  have leB:=hext.c
  simp only at frB leB hF2
  have kpB:=Kp.ext (W:=U) (h:=h) (c:=c) bW hext (by omega) (fun b _ q=>q▸(hU1 m hC.mU).1)
  have lrB:=Lg.extR (R:=R) (c:=c) az hext (fun b hb q=>q.elim (fun q=>hUR b (hU1 b q).1) (hvR b))
  have lwB:=Lg.extW (W:=U) (c:=c) az hext (fun b _ q=>q▸(hU1 m hC.mU).1)
  have gp:=hext.hs (b:=p) hp (by omega) (fun q=>(hU1 m hC.mU).2 q.symm)
  refine aq ?_
  refine⟨.inr rfl,aG.one rfl ⟨⟨rfl,⟨.inl pU,put_ok,q,_,gp,⟨m,vl,vs,hF2⟩,fun b hb=>hb.elim (fun q=>⟨.inl (hU1 b q).1,(hU1 b q).2⟩) (fun q=>⟨.inr q,by omega⟩)⟩⟩,?_⟩⟩
  exact bM
set_option maxHeartbeats 16000000 in
theorem wy (hf:ai h c) (x:Hn h p mt dim S U) (hmt:mt=1\/mt=2) (hd1:1<=dim) (hd:dim<=8) (hml:S.mem.length<=400) {qa:Option Addr}{qc:Nat}{qs:List Int} (hq:bj h (.slice qa dim qc) dim 1 (qs.map (Value.int .i32))) (hqn:qs.length=dim) (hqb:gc qs) {kk:Nat} (hkk:kk<=20) (R:Nat->Prop) (hUR:∀b,U b->R b) (hqR:∀b,au (.slice qa dim qc)=some b->R b) :
  ∃r s',aE (Cs bD) eg 34 [.pointer (some ⟨p,0,none⟩),.slice qa dim qc,.int .i64 (kk:Int)] ⟨h,c,rl,wl⟩ r s'/\(∃w,r=.tuple #[w,.nilIface]/\eG s'.h w (S.hits mt qs kk).length (aF (S.hits mt qs kk))/\∀b,au w=some b->c<=b)/\bA ⟨h,c,rl,wl⟩ s' R (fun _=>False):=by
 have hbg:dv=1048576:=rfl
 obtain⟨q,U1,hp,hin,hU1⟩:=x.ex
 have rp:=hUR p x.pU
 have lp:=hp.lt hf
 have hUR1:∀b,U1 b->R b:=fun b q=>hUR b (hU1 b q).1
 have hkx:max (kk:Int) 0=(kk:Int):=by omega
 refine Fn.go (aU 34 rfl) NL Nl OG rfl rfl ?_
 refine cg ?_
 have okS:=x.ok
 clear x
 cases S with
 |flat M =>
  obtain⟨m,hF⟩:=hin
  replace hp:ay h p (.cells [.int .i64 1,.int .i64 mt,.int .i64 (dim:Int),.pointer (some ⟨q,0,none⟩),.pointer none,.pointer none,.pointer none]):=hp
  refine aq ?_
  refine ax.call rfl rfl (iv aO hqn hq hqb hd1 hd R hqR) ?_
  rintro v1 hA cA r1 w1 ⟨⟨rfl,e1,e2⟩,hext⟩
  simp only at e1 e2
  have lr:=Lg.extR (R:=R) (c:=c) az hext (fun _ _ q=>q)
  have lw:=Lg.extW (W:=fun _=>False) (c:=c) az hext (fun _ _ q=>q)
  subst hA cA
  refine aq ?_
  refine ax.call rfl rfl (vL aO hF hmt hq hqn hqb (by omega) _ hkx (by omega) (Nat.le_trans hml (by omega)) R hUR1 hqR) ?_
  rintro v9 hB cB r2 w2 ⟨⟨g1,g2⟩,hext⟩
  have frB:=hext.fresh
  have leB:=hext.c
  simp only at frB leB g1
  have kpB:=Kp.ext (W:=fun _=>False) (h:=h) (c:=c) bW hext (by omega) (fun b _ q=>q)
  have lrB:=Lg.extR (R:=R) (c:=c) az hext (fun b hb q=>q)
  have lwB:=Lg.extW (W:=fun _=>False) (c:=c) az hext (fun b _ q=>q)
  refine aq ?_
  refine⟨.inr rfl,aG.two rfl rfl ⟨⟨_,rfl,g1,g2⟩,?_⟩⟩
  exact bM
 |ivf mid M =>
  obtain⟨m,mv,hI⟩:=hin
  replace hp:ay h p (.cells [.int .i64 2,.int .i64 mt,.int .i64 (dim:Int),.pointer none,.pointer (some ⟨q,0,none⟩),.pointer none,.pointer none]):=hp
  refine aq ?_
  refine ax.call rfl rfl (iv aO hqn hq hqb hd1 hd R hqR) ?_
  rintro v1 hA cA r1 w1 ⟨⟨rfl,e1,e2⟩,hext⟩
  simp only at e1 e2
  have lr:=Lg.extR (R:=R) (c:=c) az hext (fun _ _ q=>q)
  have lw:=Lg.extW (W:=fun _=>False) (c:=c) az hext (fun _ _ q=>q)
  subst hA cA
  refine aq ?_
  refine ax.call rfl rfl (xo aO hI okS hmt hq hqn hqb (by omega) _ hkx (by omega) (Nat.le_trans hml (by omega)) R hUR1 hqR) ?_
  rintro v9 hB cB r2 w2 ⟨⟨g1,g2⟩,hext⟩
  have frB:=hext.fresh
  have leB:=hext.c
  simp only at frB leB g1
  have kpB:=Kp.ext (W:=fun _=>False) (h:=h) (c:=c) bW hext (by omega) (fun b _ q=>q)
  have lrB:=Lg.extR (R:=R) (c:=c) az hext (fun b hb q=>q)
  have lwB:=Lg.extW (W:=fun _=>False) (c:=c) az hext (fun b _ q=>q)
  refine aq ?_
  refine⟨.inr rfl,aG.two rfl rfl ⟨⟨_,rfl,g1,g2⟩,?_⟩⟩
  exact bM
 |gra G =>
  obtain⟨m,hG⟩:=hin
  replace hp:ay h p (.cells [.int .i64 3,.int .i64 mt,.int .i64 (dim:Int),.pointer none,.pointer none,.pointer (some ⟨q,0,none⟩),.pointer none]):=hp
  refine aq ?_
  refine ax.call rfl rfl (iv aO hqn hq hqb hd1 hd R hqR) ?_
  rintro v1 hA cA r1 w1 ⟨⟨rfl,e1,e2⟩,hext⟩
  simp only at e1 e2
  have lr:=Lg.extR (R:=R) (c:=c) az hext (fun _ _ q=>q)
  have lw:=Lg.extW (W:=fun _=>False) (c:=c) az hext (fun _ _ q=>q)
  subst hA cA
  refine aq ?_
  refine ax.call rfl rfl (wg aO hG okS hmt hd1 (by omega) (Nat.le_trans hml (by omega)) hq hqn hqb _ hkx (by omega) R hUR1 hqR) ?_
  rintro v9 hB cB r2 w2 ⟨⟨g1,g2⟩,hext⟩
  have frB:=hext.fresh
  have leB:=hext.c
  simp only at frB leB g1
  have kpB:=Kp.ext (W:=fun _=>False) (h:=h) (c:=c) bW hext (by omega) (fun b _ q=>q)
  have lrB:=Lg.extR (R:=R) (c:=c) az hext (fun b hb q=>q)
  have lwB:=Lg.extW (W:=fun _=>False) (c:=c) az hext (fun b _ q=>q)
  refine aq ?_
  refine⟨.inr rfl,aG.two rfl rfl ⟨⟨_,rfl,g1,g2⟩,?_⟩⟩
  exact bM
 |cod lo st M =>
  obtain⟨m,vl,vs,hC⟩:=hin
  replace hp:ay h p (.cells [.int .i64 4,.int .i64 mt,.int .i64 (dim:Int),.pointer none,.pointer none,.pointer none,.pointer (some ⟨q,0,none⟩)]):=hp
  refine aq ?_
  refine ax.call rfl rfl (iv aO hqn hq hqb hd1 hd R hqR) ?_
  rintro v1 hA cA r1 w1 ⟨⟨rfl,e1,e2⟩,hext⟩
  simp only at e1 e2
  have lr:=Lg.extR (R:=R) (c:=c) az hext (fun _ _ q=>q)
  have lw:=Lg.extW (W:=fun _=>False) (c:=c) az hext (fun _ _ q=>q)
  subst hA cA
  refine aq ?_
  refine ax.call rfl rfl (wN aO hC hmt hq hqn hqb (by omega) _ hkx (by omega) hml R hUR1 hqR) ?_
  rintro v9 hB cB r2 w2 ⟨⟨g1,g2⟩,hext⟩
  have frB:=hext.fresh
  have leB:=hext.c
  simp only at frB leB g1
  have kpB:=Kp.ext (W:=fun _=>False) (h:=h) (c:=c) bW hext (by omega) (fun b _ q=>q)
  have lrB:=Lg.extR (R:=R) (c:=c) az hext (fun b hb q=>q)
  have lwB:=Lg.extW (W:=fun _=>False) (c:=c) az hext (fun b _ q=>q)
  refine aq ?_
  refine⟨.inr rfl,aG.two rfl rfl ⟨⟨_,rfl,g1,g2⟩,?_⟩⟩
  exact bM
end
end Go.Ab.Seat
end
section
namespace Go.Ab.Seat
open Go.Extern Go.Proofs
set_option maxRecDepth 4000
theorem Dz {mt:Int}{qs lo st:List Int}{kk:Nat}{M:List Rc} (hr:cE M) (hn:M.length<=2*kk+4):sj mt qs lo st kk M=aQ kk (bX mt qs M):=by
 have hids:(M.map Rc.id).Nodup:=hr.ids.imp fun q=>Int.ne_of_lt q
 have e1:(M.map (lT mt qs lo st)).map Ht.id=M.map Rc.id:=by rw[List.map_map];rfl
 obtain⟨p1,_⟩:=cO (k:=2*min kk M.length+4) (l:=M.map (lT mt qs lo st)) (by rw[e1];exact hids) M.length (by rw[List.length_map];omega) (by omega)
 rw[List.take_of_length_le (by rw[List.length_map];omega)] at p1
 have e2:(M.map (lT mt qs lo st)).map (gY mt qs M)=bX mt qs M:=by
  unfold bX
  rw[List.map_map]
  refine List.map_congr_left fun r h=>?_
  show Ht.mk r.id (cX mt qs (jS ((aK r.id M).elim [] Rc.xs)))=_
  rw[dH hr h rfl]
  rfl
 have p2:=p1.map (gY mt qs M)
 rw[e2] at p2
 refine zB ((p2.map Ht.id).nodup_iff.2 ?_) p2
 unfold bX
 rw[List.map_map]
 exact hids
structure II (h:T ag) (c:Nat) (p m:Nat) (vl vs:Value) (pf mf:Nat) (mt:Int) (dim:Nat) (lo st:List Int) (A:List Rc) (B:List Rc):Prop where
 ex:∃Ua Ub:Nat->Prop,jM h p m vl vs mt dim lo st A Ua/\fJ h pf mf mt dim B Ub/\¬Ua mf/\¬Ub m/\m<c/\mf<c
theorem II.putF {h:T ag}{c:Nat}{rl wl:List Nat} (hf:ai h c) {p m pf mf dim:Nat}{vl vs:Value}{mt:Int}{lo st:List Int}{A B:List Rc} (t:II h c p m vl vs pf mf mt dim lo st A B) (id:Int) (hid : -9223372036854775808<=id/\id<=9223372036854775807) {bi:Nat}{zs:List Int} (hv:ay h bi (.cells (zs.map (Value.int .i32)))) (hz:zs.length=dim) (hb:gc zs) (hd:1<=dim) (hd':dim<=8) :
  ∃r s',aE (Cs bD) eg 20 [.pointer (some ⟨pf,0,none⟩),.int .i64 id,.slice (some ⟨bi,0,none⟩) dim dim] ⟨h,c,rl,wl⟩ r s'/\II s'.h s'.c p m vl vs pf mf mt dim lo st A (cJ (Ga id zs) B)/\(∃es n,ay h mf (.map es n))/\bA ⟨h,c,rl,wl⟩ s' (fun _=>True) (fun b=>b=mf):=by
 obtain⟨Ua,Ub,qa,qb,u1,u2,l1,l2⟩:=t.ex
 obtain⟨es,n,hma⟩:=qb.hm
 have hrow:bj h (.slice (some ⟨bi,0,none⟩) dim dim) dim 1 (zs.map (Value.int .i32)):=.inr ⟨bi,0,none,dim,_,rfl,hv.cel,aA _ _ (by rw[List.length_map];omega)⟩
 obtain⟨r,s',e1,e2,e3⟩:=ur (rl:=rl) (wl:=wl) hf qb id hid hrow hz hb hd (by omega) (fun b=>b=bi) (fun b o sp e=>by cases e;rfl) (fun e=>IG hv hma e.symm)
 have hc:=e3.c
 simp only at hc
 refine⟨r,s',e1,⟨Ua,_,qa.keep hf fun b hb hc=>e3.h b hc (fun e=>u1 (e▸hb)),e2,u1,?_,by omega,by omega⟩,⟨es,n,hma⟩,e3.mono (fun _ _ _=>trivial) fun _ _ q=>q⟩
 rintro(q|q)
 ·exact u2 q
 ·omega
end Go.Ab.Seat
end
section
namespace Go.Ab.Seat
open Go.Extern Go.Proofs
theorem Gd {mid:List (List Int)}{qs zs:List Int} (h:mid.length<=2):jC mid zs∈lX mid qs:=by
 have h1:=jL mid qs
 by_cases h0:mid.length=0
 ·have e1:pK mid qs=[]:=List.length_eq_zero_iff.1 (by omega)
  unfold jC lX eN el
  rw[if_pos h0,if_pos h0,e1]
  exact List.mem_cons_self
 ·have h2:=ve (zs:=zs) h0
  have e1:el mid.length=(pK mid qs).length:=by unfold el;rw[if_neg h0];omega
  have e2:jC mid zs=eN mid zs:=by unfold jC;omega
  unfold lX
  rw[e1,List.take_left,e2]
  exact y4.2 h2
theorem y6 {n:Nat}{vs:List (List Int)}:∀t,(jD n vs t).length<=vs.length
 |0=>by
  show (vs.foldl (pI n) []).length<=vs.length
  have gen:∀(vs:List (List Int)) (ms:List (List Int)),(vs.foldl (pI n) ms).length<=ms.length+vs.length:=by
   intro vs
   induction vs with
   |nil=>intro ms;exact Nat.le_refl _
   |cons v vs ih =>
    intro ms
    refine Nat.le_trans (ih _) ?_
    have:(pI n ms v).length<=ms.length+1:=by
     unfold pI
     split
     ·rw[List.length_append];exact Nat.le_refl _
     ·omega
    rw[List.length_cons];omega
  have:=gen vs []
  simpa using this
 |t+1=>by
  show (DG vs (jD n vs t)).length<=vs.length
  unfold DG
  rw[eV]
  exact y6 t
def jU (V:List (List Int)) (i:Nat):List Rc:=(List.range i).map fun(j:Nat)=>Ga ((j:Int)+1) (V.getD j [])
theorem uB {r:Rc}:∀ {A:List Rc},(∀x∈A,x.id<r.id)->cJ r A=A++[r]
 | [],_=>rfl
 |x::A,h=>by
  have h1:=h x (List.mem_cons_self ..)
  unfold cJ
  rw[if_neg (by omega),if_neg (by omega),uB fun y hy=>h y (List.mem_cons_of_mem _ hy)]
  rfl
theorem nV {V:List (List Int)}{i:Nat} (hi:i<V.length):cJ (Ga ((i:Int)+1) V[i]) (jU V i)=jU V (i+1):=by
 rw[uB fun x hx=>?_]
 ·unfold jU
  rw[List.range_succ,List.map_append]
  congr 1
  show [_]=[Ga ((i:Int)+1) (V.getD i [])]
  rw[List.getD_eq_getElem?_getD,List.getElem?_eq_getElem hi]
  rfl
 ·unfold jU at hx
  obtain⟨j,hj,rfl⟩:=List.mem_map.1 hx
  have:=List.mem_range.1 hj
  show (j:Int)+1<(i:Int)+1
  omega
theorem yz (V:List (List Int)) (i:Nat):(jU V i).length=i:=by unfold jU;rw[List.length_map,List.length_range]
theorem GJ {V:List (List Int)}{i:Nat}{x:Rc} (h:x∈jU V i):1<=x.id/\x.id<=i:=by
 unfold jU at h
 obtain⟨j,hj,rfl⟩:=List.mem_map.1 h
 have:=List.mem_range.1 hj
 show 1<=(j:Int)+1/\(j:Int)+1<=i
 omega
theorem rV (V:List (List Int)) (i:Nat):cE (jU V i):=by
 unfold jU cE
 rw[List.pairwise_map]
 refine List.pairwise_lt_range.imp fun {a b} h=>?_
 show (a:Int)+1<(b:Int)+1
 omega
theorem xZ {mt:Int}{q:List Int}{M:List Rc}:bX mt q (M.map fE)=bX mt q M:=by
 unfold bX
 rw[List.map_map]
 rfl
theorem iT (x:Rc):∀B:List Rc,(cJ x B).map fE=cJ (fE x) (B.map fE)
 | []=>rfl
 |y::B=>by
  rw[List.map_cons,cJ,cJ]
  show _=if(fE x).id<(fE y).id then _ else _
  have e1:(fE x).id=x.id:=rfl
  have e2:(fE y).id=y.id:=rfl
  rw[e1,e2]
  split
  ·rfl
  ·split
   ·rfl
   ·rw[List.map_cons,iT x B]
structure Ix.Few (V:List (List Int)) (i:Nat) (S:Ix):Prop where
 mem:S.mem.map fE=jU V i
 kind:match S with
  |.flat _=>True
  |.ivf mid M=>mid.length<=2/\∀r∈M,∃zs,r.seq=jC mid zs
  |.gra G=>nC G/\Gx G.M G.L
  |.cod _ _ _=>True
theorem Ix.Few.len {V:List (List Int)}{i:Nat}{S:Ix} (f:S.Few V i):S.mem.length=i:=by
 have:=congrArg List.length f.mem
 rwa [List.length_map,yz] at this
theorem Ix.Few.ids {V:List (List Int)}{i:Nat}{S:Ix} (f:S.Few V i) {x:Rc} (hx:x∈S.mem):x.id<=i:=by
 have:=GJ (V:=V) (i:=i) (x:=fE x) (by rw[<- f.mem];exact List.mem_map_of_mem hx)
 exact this.2
theorem Ix.few_new {V:List (List Int)}{kd:Int}{dim:Nat}{vs:List (List Int)} (hv:vs.length<=2):(Ix.new kd dim vs).Few V 0:=by
 unfold Ix.new
 split
 ·exact⟨rfl,trivial⟩
 ·split
  ·exact⟨rfl,Nat.le_trans (y6 3) hv,fun r hr=>by cases hr⟩
  ·split
   ·exact⟨rfl,nC.nil,fun a ha=>by cases ha⟩
   ·exact⟨rfl,trivial⟩
theorem Ix.Few.put {V:List (List Int)}{i:Nat}{S:Ix}{mt dw:Int} (f:S.Few V i) (hi:i<V.length) (h4:i<=4):(S.put mt ((i:Int)+1) V[i] dw).Few V (i+1):=by
 have hl:=f.len
 have hids:=@Ix.Few.ids V i S f
 obtain⟨f1,f2⟩:=f
 cases S with
 |flat M =>
  refine⟨?_,trivial⟩
  show (cJ (Ga ((i:Int)+1) V[i]) M).map fE=_
  rw[iT,show M.map fE=jU V i from f1,<- nV hi]
  rfl
 |ivf mid M =>
  refine⟨?_,f2.1,fun r hr=>?_⟩
  ·show (cJ (IR ((i:Int)+1) V[i] (jC mid V[i])) M).map fE=_
   rw[iT,show M.map fE=jU V i from f1,<- nV hi]
   rfl
  ·rcases dQ hr with rfl|hr
   ·exact⟨_,rfl⟩
   ·exact f2.2 r hr
 |gra G =>
  obtain⟨w,fu⟩:=f2
  have hn:aK ((i:Int)+1) G.M=none:=by
   cases hr:aK ((i:Int)+1) G.M with
   |none=>rfl
   |some r =>
    obtain⟨q1,q2⟩:=cF hr
    have:=hids (x:=r) q1
    omega
  have hdel:ga mt G ((i:Int)+1)=G:=by unfold ga;rw[hn]
  refine⟨?_,w.put _ _ _,CP w fu hn (by have:G.M.length=i:=hl;omega)⟩
  show (sx mt G ((i:Int)+1) V[i] dw).M.map fE=_
  rw[(A0 w _ _ _).1,hdel,iT,show G.M.map fE=jU V i from f1,<- nV hi]
  rfl
 |cod lo st M =>
  refine⟨?_,trivial⟩
  show (cJ (Ga ((i:Int)+1) V[i]) M).map fE=_
  rw[iT,show M.map fE=jU V i from f1,<- nV hi]
  rfl
theorem Ix.Few.hits {V:List (List Int)}{i:Nat}{S:Ix}{mt:Int}{qs:List Int}{k:Nat} (f:S.Few V i) (h5:i<=2*k+4) (h8:i<=8):S.hits mt qs k=aQ k (bX mt qs (jU V i)):=by
 have hl:=f.len
 obtain⟨f1,f2⟩:=f
 have hh:bX mt qs (jU V i)=bX mt qs S.mem:=by rw[<- f1,xZ]
 rw[hh]
 cases S with
 |flat M=>rfl
 |ivf mid M =>
  show aQ k (gV mt qs mid M)=aQ k (bX mt qs M)
  unfold gV
  congr 2
  refine List.filter_eq_self.2 fun r hr=>?_
  obtain⟨zs,e⟩:=f2.2 r hr
  rw[e]
  exact decide_eq_true (Gd f2.1)
 |gra G=>exact xk f2.1 f2.2 (by have:G.M.length=i:=hl;omega)
 |cod lo st M =>
  refine Dz ?_ (by have:M.length=i:=hl;omega)
  have h1:cE (M.map fE):=by rw[show M.map fE=jU V i from f1];exact rV V i
  unfold cE at h1 ⊢
  rw[List.pairwise_map] at h1
  exact h1
end Go.Ab.Seat
end
