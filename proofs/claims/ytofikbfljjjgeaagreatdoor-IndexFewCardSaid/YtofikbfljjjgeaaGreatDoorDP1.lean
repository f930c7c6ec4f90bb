import Derived.Test.YtofikbfljjjgeaaGreatDoorDF3
import Derived.Test.YtofikbfljjjgeaaGreatDoorDI2
import Derived.Test.YtofikbfljjjgeaaGreatDoorDZ0
import Derived.Test.YtofikbfljjjgeaaGreatDoorDX1
import Derived.Test.YtofikbfljjjgeaaGreatDoorDM1
import Derived.Test.YtofikbfljjjgeaaGreatDoorDF2
set_option linter.unusedVariables false
set_option linter.unusedSimpArgs false
section
namespace Go.Ab.Seat
open Go.Extern Go.Proofs
set_option maxRecDepth 4000
variable {sm:Nat->Option (List Value->M Value)}
def eG (h:T ag) (v:Value) (n:Nat) (xs:List Value):Prop :=
 (v=.slice none 0 0/\n=0/\xs=[])\/∃b cap cs,v=.slice (some ⟨b,0,some 2⟩) n cap/\1<=n/\n<=cap/\ay h b (.cells cs)/\aP 0 (n*2) cs=some xs
theorem gIns_some (HI:sm 200=some gIns) {h:T ag}{c:Nat}{rl wl:List Nat} (hf:ai h c) {b n cap i vb vc:Nat}{sp:Option Nat}{cs ws vv xs:List Value} (hb:ay h b (.cells cs)) (hs:aP 0 (n*2) cs=some xs) (hn:1<=n) (hc:n<=cap) (hk:n<=1000) (hv:ay h vb (.cells ws)) (hvs:aP 0 2 ws=some vv) (hne:vb≠b) (ha:∀x∈xs,atom x=true) (ha':∀x∈vv,atom x=true) (hi:i<=n) :
  ∃r s',aE (Cs sm) eg 200 [.slice (some ⟨b,0,some 2⟩) n cap,.int .i64 (i:Int),.slice (some ⟨vb,0,sp⟩) 1 vc] ⟨h,c,rl,wl⟩ r s'/\(r=.slice (some ⟨c+1,0,some 2⟩) (n+1) (n+1)/\s'=⟨(h.set b none).set (c+1) (some (.cells (xs.take (i*2)++vv++xs.drop (i*2)))),c+2,vb::b::rl,b::wl⟩):=by
 have l1:=hb.lt hf
 have l2:=hv.lt hf
 refine⟨_,_,aE.of_sm (q:=gIns) HI ?_,rfl,rfl⟩
 show (match CV 2 n cap vb b (i:Int) with|true=>oo b 0 n ((i:Int)).toNat vb 0|false=>M.fail) _=_
 have hok:CV 2 n cap vb b (i:Int)=true:=by
  unfold CV
  rw[aH.2 hn,aH.2 hc,aH.2 hk,bh.2 hne,decide_eq_true (show (0:Int)<=i by omega),decide_eq_true (show (i:Int)<=n by omega)]
  rfl
 rw[hok,Int.toNat_natCast]
 simp only
 unfold oo
 have hat:(ee atom xs&&ee atom vv)=true:=by rw[bT,bT,List.all_eq_true.2 ha,List.all_eq_true.2 ha'];rfl
 rw[ac (bz hb l1),ac (bz hv l2),ac (aw hs),ac (aw hvs),hat]
 simp only
 rw[ac (show zI ⟨h,c,vb::b::rl,wl⟩=some ((),⟨h,c+1,vb::b::rl,wl⟩) from rfl),ac (gD hb (by omega)),ac (bc (ai.put (by omega) (hf.up (by omega))))]
 rfl
theorem gIns_nil (HI:sm 200=some gIns) {h:T ag}{c:Nat}{rl wl:List Nat} (hf:ai h c) {vb vc:Nat}{sp:Option Nat}{ws vv:List Value} (hv:ay h vb (.cells ws)) (hvs:aP 0 2 ws=some vv) :
  ∃r s',aE (Cs sm) eg 200 [.slice none 0 0,.int .i64 0,.slice (some ⟨vb,0,sp⟩) 1 vc] ⟨h,c,rl,wl⟩ r s'/\(r=.slice (some ⟨c,0,some 2⟩) 1 1/\s'=⟨h.set c (some (.cells vv)),c+1,vb::rl,wl⟩):=by
 have l2:=hv.lt hf
 refine⟨_,_,aE.of_sm (q:=gIns) HI ?_,rfl,rfl⟩
 show oy vb 0 _=_
 unfold oy
 rw[ac (bz hv l2),ac (aw hvs),ac (bc hf)]
 rfl
theorem eG.row {h:T ag}{v:Value}{n:Nat}{xs:List Value} (x:eG h v n xs):∃oa cap,v=.slice oa n cap/\n<=cap/\bj h v n 2 xs:=by
 rcases x with⟨rfl,rfl,rfl⟩|⟨b,cap,cs,rfl,h1,h2,h3,h4⟩
 ·exact⟨_,_,rfl,Nat.le_refl _,.inl ⟨rfl,rfl,_,_,rfl⟩⟩
 ·exact⟨_,_,rfl,h2,.inr ⟨b,0,_,_,cs,rfl,h3.cel,h4⟩⟩
theorem eG.keep {h h':T ag}{v:Value}{n:Nat}{xs:List Value} (x:eG h v n xs) (hk:∀b,au v=some b->h'.get b=h.get b):eG h' v n xs:=by
 rcases x with x|⟨b,cap,cs,rfl,h1,h2,h3,h4⟩
 ·exact .inl x
 ·exact .inr ⟨b,cap,cs,rfl,h1,h2,(hk b rfl).trans h3,h4⟩
theorem eG.take {h:T ag}{oa:Option Addr}{n cap m:Nat}{l:List Ht} (x:eG h (.slice oa n cap) n (aF l)) (hl:l.length=n) (hm:1<=m) (hmn:m<=n):eG h (.slice oa m cap) m (aF (l.take m)):=by
 rcases x with⟨_,h2,_⟩|⟨b,cap',cs,e,h1,h2,h3,h4⟩
 ·omega
 ·simp only[Value.slice.injEq] at e
  obtain⟨rfl,_,rfl⟩:=e
  refine .inr ⟨b,cap,cs,rfl,hm,by omega,h3,?_⟩
  rw[show n*2=m*2+(n - m)*2 by omega,show aF l=aF (l.take m)++aF (l.drop m) by rw[<- fg,List.take_append_drop]] at h4
  exact(dP h4 (by rw[cN,List.length_take];omega)).1
theorem Dh (HI:sm 200=some gIns) {h:T ag}{c:Nat}{rl wl:List Nat} (hf:ai h c) {lv:Value}{l:List Ht}{x:Ht}{i vb:Nat}{z:Int} (hl:eG h lv l.length (aF l)) (hv:ay h vb (.cells [.int .i64 x.id,.int .i64 x.sc])) (hne:∀b,au lv=some b->vb≠b) (hn:l.length<=1000) (hz:z=(i:Int)) (hi:i<=l.length) :
  ∃r s',aE (Cs sm) eg 200 [lv,.int .i64 z,.slice (some ⟨vb,0,none⟩) 1 1] ⟨h,c,rl,wl⟩ r s'/\(eG s'.h r (l.length+1) (aF (l.take i++x::l.drop i))/\(∃oa cap,r=.slice oa (l.length+1) cap/\l.length+1<=cap/\∀a,oa=some a->a.spot=none\/a.spot=some 2)/\∀b,au r=some b->c<=b)/\bA ⟨h,c,rl,wl⟩ s' (fun b=>b=vb\/au lv=some b) (fun b=>au lv=some b):=by
 subst hz
 have hvs:aP 0 2 [Value.int .i64 x.id,.int .i64 x.sc]=some [Value.int .i64 x.id,.int .i64 x.sc]:=aA _ _ rfl
 have lvb:=hv.lt hf
 rcases hl with⟨rfl,h1,h2⟩|⟨b,cap,cs,rfl,h1,h2,h3,h4⟩
 ·obtain rfl:l=[]:=List.length_eq_zero_iff.1 h1
  obtain rfl:i=0:=by simpa using hi
  obtain⟨r,s',g1,rfl,rfl⟩:=gIns_nil HI (rl:=rl) (wl:=wl) (sp:=none) (vc:=1) hf hv hvs
  refine⟨_,_,g1,⟨.inr ⟨c,1,_,rfl,Nat.le_refl _,Nat.le_refl _,ay.same,hvs⟩,⟨_,_,rfl,Nat.le_refl _,fun a ha=>by cases ha;exact .inr rfl⟩,fun b hb=>by cases hb;exact Nat.le_refl _⟩,?_⟩
  exact⟨Nat.le_succ _,hf.new,fun b hb _=>by simp only;rw[T.get_set,if_neg (by simp only at hb;omega)],fun b hb=>by
   rcases List.mem_cons.1 hb with rfl|hb
   ·exact .inr ⟨lvb,.inl rfl⟩
   ·exact .inl hb,fun b hb=>.inl hb⟩
 ·have lb:=h3.lt hf
  have hne':=hne b rfl
  obtain⟨r,s',g1,rfl,rfl⟩:=gIns_some HI (rl:=rl) (wl:=wl) (sp:=none) (vc:=1) hf h3 h4 h1 h2 hn hv hvs hne' (A1 l) (fun v hv=>by
   simp only[List.mem_cons,List.not_mem_nil,or_false] at hv
   rcases hv with rfl|rfl<;>rfl) hi
  have hxs:(aF l).take (i*2)++[Value.int .i64 x.id,.int .i64 x.sc]++(aF l).drop (i*2)=aF (l.take i++x::l.drop i):=by
   rw[tn,te,fg,List.append_assoc];rfl
  rw[hxs] at g1
  refine⟨_,_,g1,⟨.inr ⟨c+1,l.length+1,_,rfl,by omega,Nat.le_refl _,ay.same,aA _ _ (by rw[cN];simp;omega)⟩,⟨_,_,rfl,Nat.le_refl _,fun a ha=>by cases ha;exact .inr rfl⟩,fun b hb=>by cases hb;exact Nat.le_succ c⟩,?_⟩
  refine⟨by simp only;omega,ai.new (ai.put (by omega) (hf.up (by omega))),fun b' hb hw=>?_,fun b' hb=>?_,fun b' hb=>?_⟩
  ·simp only at hb hw ⊢
   rw[T.get_set,if_neg (by omega),T.get_set,if_neg]
   rintro rfl
   exact hw rfl
  ·rcases List.mem_cons.1 hb with rfl|hb
   ·exact .inr ⟨lvb,.inl rfl⟩
   ·rcases List.mem_cons.1 hb with rfl|hb
    ·exact .inr ⟨lb,.inr rfl⟩
    ·exact .inl hb
  ·rcases List.mem_cons.1 hb with rfl|hb
   ·exact .inr ⟨lb,rfl⟩
   ·exact .inl hb
def GI (p bx:Nat) (id sc z:Int) (j15 j33 j41:Value):L :=
 .cons 0 (.pointer (some ⟨p,0,none⟩)) (.cons 1 (jw id sc) (.cons 3 (.pointer (some ⟨bx,0,none⟩)) (.cons 4 (.bool false) (.cons 5 (.int .i64 z) (.cons 15 j15 (.cons 33 j33 (.cons 41 j41 .nil)))))))
set_option maxHeartbeats 4000000 in
theorem uF (H:pV sm) (HI:sm 200=some gIns) {h:T ag}{c:Nat}{rl wl:List Nat} (hf:ai h c) {p k:Nat}{l:List Ht}{lv:Value} (x:Ht) (hp:ay h p (.cells [lv,.int .i64 (k:Int)])) (hl:eG h lv l.length (aF l)) (hpl:∀b,au lv=some b->b≠p) (hn:l.length<=900) (hk:k<=1000) :
  ∃r s',aE (Cs sm) eg 138 [.pointer (some ⟨p,0,none⟩),jw x.id x.sc] ⟨h,c,rl,wl⟩ r s'/\(∃lv',ay s'.h p (.cells [lv',.int .i64 (k:Int)])/\eG s'.h lv' (eu k l x).length (aF (eu k l x))/\∀b,au lv'=some b->au lv=some b\/c<=b)/\bA ⟨h,c,rl,wl⟩ s' (fun b=>b=p\/au lv=some b) (fun b=>b=p\/au lv=some b):=by
 obtain⟨oa,cap,rfl,hcap,hrow⟩:=hl.row
 have lp:=hp.lt hf
 have hlt:∀b,au (.slice oa l.length cap)=some b->b<c:=by
  intro b hb
  rcases hl with⟨e,_⟩|⟨b',cap',cs,e,_,_,h3,_⟩
  ·simp only[Value.slice.injEq] at e
   rw[e.1] at hb;cases hb
  ·simp only[Value.slice.injEq] at e
   rw[e.1] at hb;cases hb;exact h3.lt hf
 refine Fn.go (H 138 rfl) L3 Kn Jv rfl rfl ?_
 refine cg ?_
 refine aq ?_
 refine ax.call rfl rfl (tP H aO (y:=x) (R:=fun b=>b=c\/au (.slice oa l.length cap)=some b) (hrow.new hf) ay.same (by omega) (fun b hb=>.inr hb) (.inl rfl)) ?_
 rintro v h1 c1 r1 w1 ⟨rfl,hext⟩
 have kp:=Kp.ext (W:=fun _=>False) (h:=h) (c:=c) bW hext (by omega) (fun _ _ q=>q)
 have lr:=Lg.extR (R:=fun b=>b=p\/au (.slice oa l.length cap)=some b) (c:=c) az hext (fun q hq hb=>hb.elim (fun e=>by omega) .inr)
 have lw:=Lg.extW (W:=fun b=>b=p\/au (.slice oa l.length cap)=some b) (c:=c) az hext (fun _ _ q=>q.elim)
 have fr1:=hext.fresh
 have le1:=hext.c
 simp only at le1 fr1
 have hp1:ay h1 p (.cells [.slice oa l.length cap,.int .i64 (k:Int)]):=(kp p lp (fun q=>q)).trans hp
 have hx1:ay h1 c (.cells [.int .i64 x.id,.int .i64 x.sc]):=hext.hs ay.same (by omega) (fun q=>q)
 have hl1:eG h1 (.slice oa l.length cap) l.length (aF l):=hl.keep fun b hb=>kp b (hlt b hb) (fun q=>q)
 have kpW:Kp h h1 c (fun b=>b=p\/au (.slice oa l.length cap)=some b):=fun b hb hn=>kp b hb (fun q=>q)
 cases hany:l.any (fun y=>decide (y.id=x.id)) with
 |true =>
  refine aq ?_
  refine⟨.inr rfl,aG.one rfl ⟨⟨_,hp1,?_,fun b hb=>.inl hb⟩,?_⟩⟩
  ·unfold eu;rw[hany];exact hl1
  ·exact bM
 |false =>
  refine aq ?_
  refine Wx.cutO (fun e s=>∃(j15 j33 j41:Value) (h':T ag) (c':Nat) (rl' wl':List Nat),e=GI p c x.id x.sc (iH x l:Int) j15 j33 j41/\s=⟨h',c',rl',wl'⟩/\c1<=c'/\ai h' c'/\Kp h1 h' c1 (fun _=>False)/\Lg c (fun b=>b=p\/au (.slice oa l.length cap)=some b) rl'/\Lg c (fun b=>b=p\/au (.slice oa l.length cap)=some b) wl') iY ?_ ?_
  ·refine Wx.loopE (fun k1 e s=>∃(i:Nat) (z:Int) (j15 j33 j41:Value) (h':T ag) (c':Nat) (rl' wl':List Nat),e=GI p c x.id x.sc z j15 j33 j41/\z=i/\s=⟨h',c',rl',wl'⟩/\c1<=c'/\ai h' c'/\Kp h1 h' c1 (fun _=>False)/\Lg c (fun b=>b=p\/au (.slice oa l.length cap)=some b) rl'/\Lg c (fun b=>b=p\/au (.slice oa l.length cap)=some b) wl'/\(∀y∈l.take i,de y x=true)/\i<=l.length/\k1=l.length - i) l.length (GI p c x.id x.sc 0 (.bool false) top top) iY ?_ ?_ ?_
   ·unfold GI
    exact eI
   ·exact⟨0,0,_,_,_,_,_,_,_,rfl,rfl,rfl,Nat.le_refl _,fr1,bW,az,az,(fun y hy=>by simp at hy),by omega,rfl⟩
   ·rintro k1 e s ⟨i,z,j15,j33,j41,h',c',rl',wl',rfl,hz,rfl,hcc,hf',hkp,hlr,hlw,hno,hid,rfl⟩
    unfold GI
    have hp':ay h' p (.cells [.slice oa l.length cap,.int .i64 (k:Int)]):=(hkp p (by omega) (fun q=>q)).trans hp1
    have hx':ay h' c (.cells [.int .i64 x.id,.int .i64 x.sc]):=(hkp c (by omega) (fun q=>q)).trans hx1
    by_cases hi:i<l.length
    ·have hl':eG h' (.slice oa l.length cap) l.length (aF l):=hl1.keep fun b hb=>hkp b (by have:=hlt b hb;omega) (fun q=>q)
     obtain⟨oa',cap',e',_,hrow'⟩:=hl'.row
     obtain⟨b1,o1,sp1,cs1,rfl,hc1,hs1⟩:=Ac hrow' (by omega)
     have l1:=hlt b1 rfl
     have hR1:b1=p\/au (.slice (some ⟨b1,o1,sp1⟩) l.length cap)=some b1:=.inr rfl
     have hg:=gZ hs1 (List.getElem?_eq_getElem hi)
     refine aq ?_
     refine Zq (aj (k:=i) ej rfl rfl hz (by omega)) ?_
     refine Zd (cT Cp rfl hc1 (by omega) hg) ?_
     refine aq ?_
     refine bN.call rfl rfl (uH H aO l[i] x) ?_
     rintro v h2 c2 r2 w2 ⟨rfl,hext2⟩
     have hq:=hext2.quiet (fun _ _ q=>q)
     refine⟨i7,?_⟩
     have kp2:=Kp.ext (W:=fun _=>False) (h:=h1) (c:=c1) hkp hext2 (by omega) (fun _ _ q=>q)
     have lr2:=Lg.extR (R:=fun _=>False) (c:=c) az hext2 (fun q hq hb=>hb.elim)
     have lw2:=Lg.extW (W:=fun _=>False) (c:=c) az hext2 (fun _ _ q=>q.elim)
     have fr2:=hext2.fresh
     have le2:=hext2.c
     simp only at le2 fr2
     have lr2':Lg c (fun b=>b=p\/au (.slice (some ⟨b1,o1,sp1⟩) l.length cap)=some b) r2:=fun b hb=>(lr2 b hb).imp id fun q=>q.elim
     have lw2':Lg c (fun b=>b=p\/au (.slice (some ⟨b1,o1,sp1⟩) l.length cap)=some b) w2:=fun b hb=>(lw2 b hb).imp id fun q=>q.elim
     cases hless:de l[i] x with
     |true =>
      refine aq ?_
      refine aC.go (l.length - (i+1)) (GI p c x.id x.sc (z+1) _ _ _) (by omega) eI ⟨i+1,z+1,_,_,_,_,_,_,_,rfl,by omega,rfl,by omega,fr2,kp2,az,az,?_,by omega,rfl⟩
      intro y hy
      rw[List.take_succ_eq_append_getElem hi] at hy
      rcases List.mem_append.1 hy with hy|hy
      ·exact hno y hy
      ·rw[List.mem_singleton.1 hy];exact hless
     |false =>
      refine aq ?_
      have hI:iH x l=i:=BW hno (fun y hy=>by rw[List.getElem?_eq_getElem hi] at hy;cases hy;exact hless) hid
      refine di.go (GI p c x.id x.sc z _ _ _) eI ⟨_,_,_,_,_,_,_,(by rw[hI,hz];rfl),rfl,by omega,fr2,kp2,az,az⟩
    ·refine aq ?_
     obtain rfl:i=l.length:=by omega
     have hI:iH x l=l.length:=BW hno (fun y hy=>by rw[List.getElem?_eq_none (Nat.le_refl _)] at hy;cases hy) hid
     refine di.go (GI p c x.id x.sc z _ _ _) eI ⟨_,_,_,_,_,_,_,(by rw[hI,hz];rfl),rfl,hcc,hf',hkp,az,az⟩
  ·rintro e s ⟨j15,j33,j41,h',c',rl',wl',rfl,rfl,hcc,hf',hkp,hlr,hlw⟩
   unfold GI
   have hp':ay h' p (.cells [.slice oa l.length cap,.int .i64 (k:Int)]):=(hkp p (by omega) (fun q=>q)).trans hp1
   have hx':ay h' c (.cells [.int .i64 x.id,.int .i64 x.sc]):=(hkp c (by omega) (fun q=>q)).trans hx1
   have hl':eG h' (.slice oa l.length cap) l.length (aF l):=hl1.keep fun b hb=>hkp b (by have:=hlt b hb;omega) (fun q=>q)
   have kpW':Kp h h' c (fun b=>b=p\/au (.slice oa l.length cap)=some b):=fun b hb hn=>(hkp b (by omega) (fun q=>q)).trans (kp b hb (fun q=>q))
   by_cases hik:k<=iH x l
   ·refine aq ?_
    refine⟨.inr rfl,aG.one rfl ⟨⟨_,hp',?_,fun b hb=>.inl hb⟩,?_⟩⟩
    ·unfold eu;rw[hany,if_neg (by decide),if_pos hik];exact hl'
    ·exact bM
   ·refine aq ?_
    refine bN.call rfl rfl (Dh HI (i:=iH x l) aO (hl'.keep fun b hb=>am (by have:=hlt b hb;omega)) ay.same (fun b hb=>by have:=hlt b hb;omega) (by omega) rfl (xL x l)) ?_
    rintro v h2 c2 r2 w2 ⟨⟨g1,⟨ob,cap2,rfl,g3,g4⟩,g5⟩,hext2⟩
    have hnp:¬(au (.slice oa l.length cap)=some p):=fun q=>hpl p q rfl
    have hp2:ay h2 p (.cells [.slice oa l.length cap,.int .i64 (k:Int)]):=hext2.hs (hp'.other (by omega)) (by omega) hnp
    have kp3:=Kp.ext (W:=fun b=>b=p\/au (.slice oa l.length cap)=some b) (h:=h) (c:=c) (Kp.set (b:=c') (.inl (by omega)) kpW') hext2 (by omega) (fun _ _ q=>.inr q)
    have lr3:=Lg.extR (R:=fun b=>b=p\/au (.slice oa l.length cap)=some b) (c:=c) az hext2 (fun q hq hb=>hb.elim (fun e=>by omega) .inr)
    have lw3:=Lg.extW (W:=fun b=>b=p\/au (.slice oa l.length cap)=some b) (c:=c) az hext2 (fun _ _ q=>.inr q)
    have fr3:=hext2.fresh
    have le3:=hext2.c
    simp only at le3 fr3
    refine⟨i7,?_⟩
    have hput:eu k l x=(l.take (iH x l)++x::l.drop (iH x l)).take (min (l.length+1) k):=by
     unfold eu
     rw[hany,if_neg (by decide),if_neg hik]
     have hlen:(l.take (iH x l)++x::l.drop (iH x l)).length=l.length+1:=by
      have:=xL x l
      simp only[List.length_append,List.length_take,List.length_cons,List.length_drop];omega
     rcases Nat.le_total k (l.length+1) with q|q
     ·rw[Nat.min_eq_right q]
     ·rw[Nat.min_eq_left q,List.take_of_length_le (i:=k) (by omega),List.take_of_length_le (i:=l.length+1) (by omega)]
    have hlen:(l.take (iH x l)++x::l.drop (iH x l)).length=l.length+1:=by
     have:=xL x l
     simp only[List.length_append,List.length_take,List.length_cons,List.length_drop];omega
    have hlen2:(eu k l x).length=min (l.length+1) k:=by rw[hput,List.length_take,hlen];omega
    refine aq ?_
    refine Zq (cD ej rfl rfl (k:=min (l.length+1) k) (by omega) (by omega) g4) ?_
    refine aq ?_
    refine⟨.inr rfl,aG.one rfl ⟨⟨_,ay.same,?_,fun b hb=>.inr ?_⟩,?_⟩⟩
    ·rw[hlen2,hput]
     refine(eG.take g1 hlen (by omega) (by omega)).keep fun b hb=>?_
     have:=g5 b (by cases ob<;>exact hb)
     have hbp:b≠p:=by omega
     exact(am hbp).trans (am hbp)
    ·have:=g5 b (by cases ob<;>exact hb)
     omega
    ·exact bM
end Go.Ab.Seat
end
section
namespace Go.Ab.Seat
open Go.Extern Go.Proofs
set_option maxRecDepth 4000
end Go.Ab.Seat
end
section
namespace Go.Ab.Seat
open Go.Extern Go.Proofs
set_option maxRecDepth 4000
theorem yH {k:Nat}{p:List Ht}{x:Ht} (h:Gi p):Gi (eu k p x):=by
 unfold eu
 cases ha:p.any (fun y=>decide (y.id=x.id))
 ·rw[if_neg (by decide)]
  split
  ·exact h
  ·have h2:∀y∈p,y.id≠x.id:=fun y hy=>by
    have:=List.any_eq_false.1 ha y hy
    simpa using this
   exact(tA h h2).sublist (List.take_sublist _ _)
 ·rw[if_pos rfl];exact h
theorem yh {k:Nat}{p:List Ht}{x:Ht} (h:p.length<=k):(eu k p x).length<=k:=by
 unfold eu
 split
 ·exact h
 ·split
  ·exact h
  ·rw[List.length_take];omega
theorem qv (k:Nat) (l:List Ht):∀m,m<=l.length->Gi (aQ k (l.take m))/\(aQ k (l.take m)).length<=k
 |0,_=>by rw[List.take_zero];exact⟨List.Pairwise.nil,Nat.zero_le _⟩
 |m+1,hm=>by
  obtain⟨h1,h2⟩:=qv k l m (by omega)
  rw[eL (by omega)]
  exact⟨yH h1,yh h2⟩
end Go.Ab.Seat
end
section
namespace Go.Ab.Seat
open Go.Extern Go.Proofs
set_option maxRecDepth 4000
end Go.Ab.Seat
end
section
namespace Go.Ab.Seat
open Go.Extern Go.Proofs
set_option maxRecDepth 4000
theorem AZ {h:T ag}{c:Nat}{rl wl:List Nat} (hf:ai h c) {a b:Option Addr}{n k k':Nat}{zs ys:List Int} (hn:zs.length=n) (hn':ys.length=n) (hx:bj h (.slice a n k) n 1 (zs.map (Value.int .i32))) (hy:bj h (.slice b n k') n 1 (ys.map (Value.int .i32))) (hb:n<=1000) (R:Nat->Prop) (hR:∀x,au (.slice a n k)=some x\/au (.slice b n k')=some x->R x) :
  ∃r s',aE (Cs bD) eg 93 [.slice a n k,.slice b n k'] ⟨h,c,rl,wl⟩ r s'/\(r=.bool (decide (zs=ys))/\s'.h=h/\s'.c=c)/\bA ⟨h,c,rl,wl⟩ s' R (fun _=>False):=by
 refine Fn.go (aU 93 rfl) PD O3 Ol rfl rfl ?_
 refine cg ?_
 refine aq ?_
 refine Wx.loopE (fun k1 e s=>∃(i:Nat) (z:Int) (rl':List Nat) (j5 j14 j24:Value),e=EQ a n k b k' z j5 j14 j24/\z=i/\s=⟨h,c,rl',[]⟩/\Lg c R rl'/\(∀j,j<i->zs[j]?=ys[j]?)/\i<=n/\k1=n - i) n (EQ a n k b k' 0 top top top) iY ?_ ?_ ?_
 ·unfold EQ
  exact eI
 ·exact⟨0,0,_,_,_,_,rfl,rfl,rfl,az,fun j hj=>by omega,by omega,rfl⟩
 ·rintro k1 e s ⟨i,z,rl',j5,j14,j24,rfl,hz,rfl,hlr,heq,hin,rfl⟩
  unfold EQ
  by_cases hi:i<n
  ·have hi1:i<zs.length:=by omega
   have hi2:i<ys.length:=by omega
   have hzs:(zs.map (Value.int .i32))[i]?=some (.int .i32 zs[i]):=by simp
   have hys:(ys.map (Value.int .i32))[i]?=some (.int .i32 ys[i]):=by simp
   obtain⟨b1,o1,sp1,cs1,rfl,hc1,hn1⟩:=bp hx (j:=i*1) (by omega) (by rw[Nat.mul_one];exact hzs)
   obtain⟨b2,o2,sp2,cs2,rfl,hc2,hn2⟩:=bp hy (j:=i*1) (by omega) (by rw[Nat.mul_one];exact hys)
   have hR1:=hR b1 (.inl rfl)
   have hR2:=hR b2 (.inr rfl)
   have l1:=hc1.lt hf
   have l2:=hc2.lt hf
   refine aq ?_
   refine Zq (aj (k:=i) lh rfl rfl hz (by omega)) ?_
   refine Zd (aB (dV rfl) rfl hc1 (by omega) hn1) ?_
   refine aq ?_
   refine Zq (aj (k:=i) lh rfl rfl hz (by omega)) ?_
   refine Zd (aB (dV rfl) rfl hc2 (by omega) hn2) ?_
   by_cases hq:zs[i]=ys[i]
   ·refine Zq (vZ rfl rfl hq) ?_
    refine aq ?_
    refine aC.go (n - (i+1)) (EQ _ n k _ k' (z+1) _ _ _) (by omega) eI ⟨i+1,z+1,_,_,_,_,rfl,by omega,rfl,az,fun j hj=>?_,by omega,rfl⟩
    rcases Nat.lt_or_ge j i with q|q
    ·exact heq j q
    ·obtain rfl:j=i:=by omega
     rw[List.getElem?_eq_getElem hi1,List.getElem?_eq_getElem hi2,hq]
   ·refine Zq (wq rfl rfl hq) ?_
    refine aq ?_
    refine⟨.inr rfl,aG.one rfl ⟨⟨?_,rfl,rfl⟩,?_⟩⟩
    ·rw[decide_eq_false (fun e=>hq (by subst e;rfl))];rfl
    ·exact bM
  ·refine aq ?_
   refine⟨.inr rfl,aG.one rfl ⟨⟨?_,rfl,rfl⟩,?_⟩⟩
   ·have e:zs=ys:=by
     refine List.ext_getElem? fun j=>?_
     rcases Nat.lt_or_ge j n with q|q
     ·exact heq j (by omega)
     ·rw[List.getElem?_eq_none (by omega),List.getElem?_eq_none (by omega)]
    rw[decide_eq_true e];rfl
   ·exact bM
theorem FP {h:T ag}{c:Nat}{rl wl:List Nat} (hf:ai h c) {a b:Option Addr}{n k k':Nat}{zs ys:List Int} (hn:zs.length=n) (hn':ys.length=n) (hx:bj h (.slice a n k) n 1 (zs.map (Value.int .i32))) (hy:bj h (.slice b n k') n 1 (ys.map (Value.int .i32))) (hb:n<=1000) (R:Nat->Prop) (hR:∀x,au (.slice a n k)=some x\/au (.slice b n k')=some x->R x) :
  ∃r s',aE (Cs bD) eg 40 [.slice a n k,.slice b n k'] ⟨h,c,rl,wl⟩ r s'/\(r=.bool (decide (zs=ys))/\s'.h=h/\s'.c=c)/\bA ⟨h,c,rl,wl⟩ s' R (fun _=>False):=by
 refine Fn.go (aU 40 rfl) NT Pn Mv rfl rfl ?_
 refine cg ?_
 refine aq ?_
 refine ax.call rfl rfl (AZ aO hn hn' hx hy hb R hR) ?_
 rintro v h1 c1 r1 w1 ⟨⟨rfl,e1,e2⟩,hext⟩
 simp only at e1 e2
 subst e1 e2
 have lr:=Lg.extR (R:=R) (c:=c1) az hext (fun _ _ q=>q)
 have lw:=Lg.extW (W:=fun _=>False) (c:=c1) az hext (fun _ _ q=>q)
 refine aq ?_
 refine⟨.inr rfl,aG.one rfl ⟨⟨rfl,rfl,rfl⟩,?_⟩⟩
 exact bM
theorem AH {h:T ag}{c bb:Nat}{rl wl:List Nat} (hf:ai h c) {a b:Option Addr}{n k k':Nat}{zs ys:List Int} (hn:zs.length=n) (hn':ys.length=n) (hx:bj h (.slice a n k) n 1 (zs.map (Value.int .i32))) (hbb:ay h bb (.cells [.slice b n k'])) (hy:bj h (.slice b n k') n 1 (ys.map (Value.int .i32))) (hb:n<=1000) (R:Nat->Prop) (hR:∀x,au (.slice a n k)=some x\/au (.slice b n k')=some x->R x) (hRb:R bb) :
  ∃r s',aE (Cs bD) eg 183 [.slice a n k,.pointer (some ⟨bb,0,none⟩)] ⟨h,c,rl,wl⟩ r s'/\(r=.bool (decide (zs=ys))/\s'.h=h/\s'.c=c)/\bA ⟨h,c,rl,wl⟩ s' R (fun _=>False):=by
 have l1:=hbb.lt hf
 refine Fn.go (aU 183 rfl) Je JZ Km rfl rfl ?_
 refine cg ?_
 refine aq ?_
 refine ax.call rfl rfl (FP aO hn hn' hx hy hb R hR) ?_
 rintro v h1 c1 r1 w1 ⟨⟨rfl,e1,e2⟩,hext⟩
 simp only at e1 e2
 subst e1 e2
 have lr:=Lg.extR (R:=R) (c:=c1) az hext (fun _ _ q=>q)
 have lw:=Lg.extW (W:=fun _=>False) (c:=c1) az hext (fun _ _ q=>q)
 refine aq ?_
 refine⟨.inr rfl,aG.one rfl ⟨⟨rfl,rfl,rfl⟩,?_⟩⟩
 exact bM
def Ks (v:Value) (n bb:Nat) (z:Int) (j5 j9 j16:Value):L :=
 .cons 1 (.func (.func 183) #[] ⟨[.pointer (some ⟨bb,0,none⟩)]⟩) (.cons 0 v (.cons 4 (.int .i64 0) (.cons 7 (.int .i64 (n:Int)) (.cons 8 (.int .i64 z) (.cons 5 j5 (.cons 9 j9 (.cons 16 j16 .nil)))))))
theorem ue {h:T ag}{c bb:Nat}{rl wl:List Nat} (hf:ai h c) {v:Value}{dim:Nat}{mid:List (List Int)}{U:Nat->Prop} (hm:fe h v dim mid U) (hn:mid.length<=1000) (hd:dim<=1000) {b:Option Addr}{k':Nat}{ys:List Int} (hbb:ay h bb (.cells [.slice b dim k'])) (hy:bj h (.slice b dim k') dim 1 (ys.map (Value.int .i32))) (hn':ys.length=dim) (R:Nat->Prop) (hUR:∀b,U b->R b) (hR:∀x,au (.slice b dim k')=some x->R x) (hRb:R bb) :
  ∃r s',aE (Cs bD) eg 210 [v,.func (.func 183) #[] ⟨[.pointer (some ⟨bb,0,none⟩)]⟩] ⟨h,c,rl,wl⟩ r s'/\((∃z:Int,r=.int .i64 z/\(0<=z↔ys∈mid))/\s'.h=h/\s'.c=c)/\bA ⟨h,c,rl,wl⟩ s' R (fun _=>False):=by
 obtain⟨oa,cap,rfl⟩:=hm.val
 refine Fn.go (aU 210 rfl) HA HE HB rfl rfl ?_
 refine cg ?_
 refine aq ?_
 refine Wx.loopE (fun k1 e s=>∃(i:Nat) (z:Int) (j5 j9 j16:Value) (rl' wl':List Nat),e=Ks (.slice oa mid.length cap) mid.length bb z j5 j9 j16/\z=i/\s=⟨h,c,rl',wl'⟩/\ys∉mid.take i/\Lg c R rl'/\Lg c (fun _=>False) wl'/\i<=mid.length/\k1=mid.length - i) mid.length (Ks (.slice oa mid.length cap) mid.length bb 0 top top top) iY ?_ ?_ ?_
 ·unfold Ks
  exact eI
 ·exact⟨0,0,_,_,_,_,_,rfl,rfl,rfl,List.not_mem_nil,az,az,by omega,rfl⟩
 ·rintro k1 e s ⟨i,z,j5,j9,j16,rl',wl',rfl,hz,rfl,hnm,hlr,hlw,hid,rfl⟩
  unfold Ks
  by_cases hi:i<mid.length
  ·obtain⟨g1,g2,b1,sp,vals,a,k,rfl,g4,g5,g6,g7,g8⟩:=hm.at (List.getElem?_eq_getElem hi)
   have lb:=g5.lt hf
   have rb:=hUR b1 g4
   refine aq ?_
   refine Zu (aj (k:=i) lz rfl rfl hz hi) ?_
   refine Zu (aB (dV rfl) rfl g5.cel (by omega) g6) ?_
   refine ax.callV rfl rfl rfl (AH aO g1 hn' g7 hbb hy hd R (fun x hx=>hx.elim (fun u=>hUR x (g8 x u)) (hR x)) hRb) ?_
   rintro v2 h1 c1 r1 w1 ⟨⟨rfl,e1,e2⟩,hext⟩
   simp only at e1 e2
   subst e1 e2
   have lr:=Lg.extR (R:=R) (c:=c1) az hext (fun _ _ q=>q)
   have lw:=Lg.extW (W:=fun _=>False) (c:=c1) az hext (fun _ _ q=>q)
   by_cases hx:mid[i]=ys
   ·rw[decide_eq_true hx]
    refine aq ?_
    refine⟨.inr rfl,aG.one rfl ⟨⟨⟨z,rfl,?_⟩,rfl,rfl⟩,?_⟩⟩
    ·exact⟨fun _=>hx▸List.getElem_mem hi,fun _=>by omega⟩
    ·exact bM
   ·rw[decide_eq_false hx]
    refine aq ?_
    refine aC.go (mid.length - (i+1)) (Ks _ mid.length bb (z+1) _ _ _) (by omega) eI ⟨i+1,z+1,_,_,_,_,_,rfl,by omega,rfl,?_,az,az,by omega,rfl⟩
    rw[List.take_succ_eq_append_getElem hi]
    intro hm
    rcases List.mem_append.1 hm with hm|hm
    ·exact hnm hm
    ·exact hx (List.mem_singleton.1 hm).symm
  ·refine aq ?_
   refine⟨.inr rfl,aG.one rfl ⟨⟨⟨-1,rfl,?_⟩,rfl,rfl⟩,?_⟩⟩
   ·rw[List.take_of_length_le (by omega)] at hnm
    exact⟨fun h=>by omega,fun h=>absurd h hnm⟩
   ·exact bM
theorem qJ {h:T ag}{c bb:Nat}{rl wl:List Nat} (hf:ai h c) {v:Value}{dim:Nat}{mid:List (List Int)}{U:Nat->Prop} (hm:fe h v dim mid U) (hn:mid.length<=1000) (hd:dim<=1000) {b:Option Addr}{k':Nat}{ys:List Int} (hbb:ay h bb (.cells [.slice b dim k'])) (hy:bj h (.slice b dim k') dim 1 (ys.map (Value.int .i32))) (hn':ys.length=dim) (R:Nat->Prop) (hUR:∀b,U b->R b) (hR:∀x,au (.slice b dim k')=some x->R x) (hRb:R bb) :
  ∃r s',aE (Cs bD) eg 182 [v,.func (.func 183) #[] ⟨[.pointer (some ⟨bb,0,none⟩)]⟩] ⟨h,c,rl,wl⟩ r s'/\(r=.bool (decide (ys∈mid))/\s'.h=h/\s'.c=c)/\bA ⟨h,c,rl,wl⟩ s' R (fun _=>False):=by
 obtain⟨oa,cap,rfl⟩:=hm.val
 refine Fn.go (aU 182 rfl) Jb Lv IX rfl rfl ?_
 refine cg ?_
 refine aq ?_
 refine ax.call rfl rfl (ue aO hm hn hd hbb hy hn' R hUR hR hRb) ?_
 rintro v1 h1 c1 r1 w1 ⟨⟨⟨z,rfl,hz⟩,e1,e2⟩,hext⟩
 simp only at e1 e2
 subst e1 e2
 have lr:=Lg.extR (R:=R) (c:=c1) az hext (fun _ _ q=>q)
 have lw:=Lg.extW (W:=fun _=>False) (c:=c1) az hext (fun _ _ q=>q)
 by_cases h0:0<=z
 ·refine aq ?_
  refine⟨.inr rfl,aG.one rfl ⟨⟨?_,rfl,rfl⟩,?_⟩⟩
  ·rw[decide_eq_true (hz.1 h0)];rfl
  ·exact bM
 ·refine aq ?_
  refine⟨.inr rfl,aG.one rfl ⟨⟨?_,rfl,rfl⟩,?_⟩⟩
  ·rw[decide_eq_false (fun q=>h0 (hz.2 q))];rfl
  ·exact bM
end Go.Ab.Seat
end
