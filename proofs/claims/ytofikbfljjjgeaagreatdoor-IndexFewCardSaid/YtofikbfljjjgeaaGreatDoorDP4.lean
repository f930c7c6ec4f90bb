import Derived.Test.YtofikbfljjjgeaaGreatDoorDP3
set_option linter.unusedVariables false
set_option linter.unusedSimpArgs false
namespace Go.Ab.Seat
open Go.Extern Go.Proofs
set_option maxRecDepth 4000
def FH (N tt:Nat) (v ms:Value) (ln:Nat) (z:Int) (j9 j24 j36:Value):L :=
 .cons 2 v (.cons 6 (.slice none 0 0) (.cons 0 (.int .i64 (N:Int)) (.cons 1 (.int .i64 (tt:Int)) (.cons 7 ms (.cons 21 v (.cons 22 (.int .i64 (ln:Int)) (.cons 23 (.int .i64 z) (.cons 9 j9 (.cons 24 j24 (.cons 36 j36 .nil))))))))))
def uf (N tt:Nat) (v ms:Value) (ln:Nat) (j9 j24 j36:Value) (z:Int) (j46 j10 j50 j51 j52 j12 j13 j53 j60 j73 j74 j14 j75:Value):L :=
 .cons 2 v (.cons 6 (.slice none 0 0) (.cons 0 (.int .i64 (N:Int)) (.cons 1 (.int .i64 (tt:Int)) (.cons 7 ms (.cons 21 v (.cons 22 (.int .i64 (ln:Int)) (.cons 23 (.int .i64 (ln:Int)) (.cons 9 j9 (.cons 24 j24 (.cons 36 j36 (.cons 44 (.int .i64 (tt:Int)) (.cons 45 (.int .i64 z) (.cons 46 j46 (.cons 10 j10 (.cons 50 j50 (.cons 51 j51 (.cons 52 j52 (.cons 12 j12 (.cons 13 j13 (.cons 53 j53 (.cons 60 j60 (.cons 73 j73 (.cons 74 j74 (.cons 14 j14 (.cons 75 j75 .nil)))))))))))))))))))))))))
theorem DY.init {h:T ag}{c0 dim:Nat}{vs ms:List (List Int)}{Uv:Nat->Prop}:DY h c0 (rep [.slice none 0 0] ms.length) dim (AK vs ms 0) Uv:=by
 have e:rep [Value.slice none 0 0] ms.length=List.replicate ms.length (.slice none 0 0):=by
  generalize ms.length=n
  induction n with
  |zero=>rfl
  |succ n ih=>rw[List.replicate_succ,<- ih];rfl
 rw[e]
 refine⟨by rw[List.length_replicate,n9],fun i l hi=>?_,fun i j w w' b e1 _ b1 _=>?_⟩
 ·have h1:=(List.getElem?_eq_some_iff.1 hi).1
  rw[n9] at h1
  rw[pC h1] at hi
  cases hi
  exact⟨_,by rw[List.getElem?_replicate,if_pos h1],.inl ⟨rfl,rfl⟩⟩
 ·have:=List.eq_of_mem_replicate (List.mem_of_getElem? e1)
  subst this;cases b1
theorem xq {ws:List Value}{i:Nat}{w:Value} (hi:i<ws.length) (ha:atom w=true):bw [w] ws (0+i*1)=some (ws.set i w):=by
 rw[cz _ _ _ (by show _+1<=_;omega) (all_cons ha a7),List.set_eq_take_append_cons_drop,if_pos hi,Nat.zero_add,Nat.mul_one,List.append_assoc]
 rfl
set_option maxHeartbeats 16000000 in
theorem wS {h:T ag}{c:Nat}{rl wl:List Nat} (hf:ai h c) {N tt:Nat} (hN1:1<=N) (hN:N<=12) (hT:tt<=10) {v:Value}{dim:Nat}{vs:List (List Int)}{U0:Nat->Prop} (hm0:fe h v dim vs U0) (hn:vs.length<=1000) (hd1:1<=dim) (hd:dim<=1000) (R:Nat->Prop) (hUR0:∀b,U0 b->R b) :
  ∃r s',aE (Cs bD) eg 126 [.int .i64 (N:Int),.int .i64 (tt:Int),v] ⟨h,c,rl,wl⟩ r s'/\pw s'.h r dim (jD N vs tt) (fun b=>c<=b/\b<s'.c)/\bA ⟨h,c,rl,wl⟩ s' R (fun _=>False):=by
 have hm:=hm0.bound hf hd1
 have hvok:=hm0.vok
 generalize hU:(fun b=>U0 b/\b<c)=U at hm
 have hUR:∀b,U b->R b:=fun b hb=>by subst hU;exact hUR0 b hb.1
 have hUc:∀b,U b->b<c:=fun b hb=>by subst hU;exact hb.2
 clear hU hm0 hUR0
 have hNN:min (max (N:Int) 1) 16=N:=by omega
 have hTT:min (max (tt:Int) 0) 10=tt:=by omega
 obtain⟨oa,cap,rfl⟩:=hm.val
 obtain⟨d,rfl⟩:∃d,dim=d+1:=⟨dim - 1,by omega⟩
 have hbg:dv=1048576:=rfl
 refine Fn.go (aU 126 rfl) JO Kc Kd rfl rfl ?_
 refine cg ?_
 refine aq ?_
 rw[hNN,hTT]
 refine Wx.cutO (fun e s=>∃(ms j9 j24 j36:Value) (h':T ag) (c':Nat) (rl' wl':List Nat),e=FH N tt (.slice oa vs.length cap) ms vs.length vs.length j9 j24 j36/\s=⟨h',c',rl',wl'⟩/\c<=c'/\ai h' c'/\Kp h h' c (fun _=>False)/\pw h' ms (d+1) (tO N vs) (fun b=>c<=b/\b<c')/\Lg c R rl'/\Lg c (fun _=>False) wl') iY ?_ ?_
 ·refine Wx.loopE (fun k1 e s=>∃(i:Nat) (z:Int) (ms j9 j24 j36:Value) (h':T ag) (c':Nat) (rl' wl':List Nat),e=FH N tt (.slice oa vs.length cap) ms vs.length z j9 j24 j36/\z=i/\s=⟨h',c',rl',wl'⟩/\c<=c'/\ai h' c'/\Kp h h' c (fun _=>False)/\pw h' ms (d+1) (tO N (vs.take i)) (fun b=>c<=b/\b<c')/\Lg c R rl'/\Lg c (fun _=>False) wl'/\i<=vs.length/\k1=vs.length - i) vs.length (FH N tt (.slice oa vs.length cap) (.slice none 0 0) vs.length 0 top top top) iY ?_ ?_ ?_
  ·unfold FH
   exact eI
  ·exact⟨0,0,_,_,_,_,_,_,_,_,rfl,rfl,rfl,Nat.le_refl _,aO,bW,.inl ⟨rfl,rfl⟩,az,az,by omega,rfl⟩
  ·rintro k1 e s ⟨i,z,ms,j9,j24,j36,h',c',rl',wl',rfl,hz,rfl,hcc,hf',hkp,hG,hlr,hlw,hid,rfl⟩
   unfold FH
   by_cases hi:i<vs.length
   ·have hm':=hm.keep hf (fun _ q=>q) (fun b _ hb _=>hkp b hb (fun q=>q))
    obtain⟨g1,g2,b,sp,vals,a,k,rfl,g4,g5,g6,g7,g8⟩:=hm'.at (List.getElem?_eq_getElem hi)
    have lb:=g5.lt hf'
    have rb:=hUR b g4
    have hfs:=wo (n:=N) hvok i hid
    have hst:=uI (n:=N) hi
    obtain⟨oam,capm,rfl⟩:=hG.mrow.val
    generalize tO N (vs.take i)=mm at hG hfs hst
    generalize hmm1:tO N (vs.take (i+1))=mm1 at hst
    have kA:∀b,b<c'->((h'.set c' (some (.cells [.slice none 0 0]))).set c' (some (.cells [.slice a (d+1) k]))).get b=h'.get b:=fun b hb=>by rw[am (by omega),am (by omega)]
    have fA:ai ((h'.set c' (some (.cells [.slice none 0 0]))).set c' (some (.cells [.slice a (d+1) k]))) (c'+1):=aO
    have hGA:=hG.keep (U':=fun b=>c<=b/\b<c'+5) hf' (fun b q=>⟨q.1,by omega⟩) (fun b _ hb _=>kA b hb)
    have gA7:=bj.keepF g7 hf' kA
    by_cases hlt:mm.length<N
    ·refine aq ?_
     refine Zu (aj (k:=i) lz rfl rfl hz hi) ?_
     refine Zu (aB (dV rfl) rfl g5.cel (by omega) g6) ?_
     refine aq ?_
     refine ax.call rfl rfl (qJ aO hGA.mrow (by omega) (by omega) (bb:=c') ay.same gA7 g1 (fun b=>c<=b\/R b) (fun b q=>.inl q.1) (fun b q=>.inr (hUR b (g8 b q))) (.inl hcc)) ?_
     rintro v5 h5 c5 r5 w5 ⟨⟨rfl,e1,e2⟩,hext5⟩
     simp only at e1 e2
     subst e1 e2
     have lr5:=Lg.extR (R:=R) (c:=c) az hext5 (fun b hb u=>u.elim (fun u=>by omega) (fun u=>u))
     have lw5:=Lg.extW (W:=fun _=>False) (c:=c) az hext5 (fun _ _ q=>q)
     by_cases hin:vs[i]∈mm
     ·rw[decide_eq_true hin]
      refine aq ?_
      have e1:mm1=mm:=by rw[hst];unfold pI;rw[if_neg (fun q=>q.2 hin)]
      subst e1
      refine aC.go (vs.length - (i+1)) (FH N tt _ _ vs.length (z+1) _ _ _) (by omega) eI ⟨i+1,z+1,_,_,_,_,_,_,_,_,rfl,by omega,rfl,by omega,aO,bW,?_,az,az,by omega,rfl⟩
      rw[hmm1]
      exact hG.keep hf' (fun b q=>⟨q.1,by omega⟩) (fun b _ hb _=>kA b hb)
     ·rw[decide_eq_false hin]
      rcases gA7 with⟨q,_⟩|⟨b1,o1,sp1,cap1,cs1,e,hc1,hsub⟩
      ·omega
      simp only[Value.slice.injEq,true_and] at e
      obtain⟨rfl,rfl⟩:=e
      have lb1:b1<c:=hUc b1 (g8 b1 rfl)
      have rb1:=hUR b1 (g8 b1 rfl)
      have e1:mm1=mm++[vs[i]]:=by rw[hst];unfold pI;rw[if_pos ⟨hlt,hin⟩]
      have hl1:(mm++[vs[i]]).length=mm.length+1:=by rw[List.length_append];rfl
      subst e1
      refine aq ?_
      refine Zu (l9 DT IC rfl rfl (hc1.other (by omega)) (by omega) hsub (by omega) aO) ?_
      have hrow:∀h2:T ag,ay h2 (c'+2) (.cells (vs[i].map (Value.int .i32)))->bj h2 (.slice (some ⟨c'+2,0,some 1⟩) (d+1) (d+1)) (d+1) 1 (vs[i].map (Value.int .i32)):=fun h2 q=>.inr ⟨c'+2,0,some 1,_,_,rfl,q.cel,aA _ _ (by rw[List.length_map];omega)⟩
      have hbl:∀b',au (.slice (some ⟨c'+2,0,some 1⟩) (d+1) (d+1))=some b'->c<=b'/\b'<c'+5:=fun b' q=>by cases q;dsimp only;omega
      rcases hGA with⟨e,hnil⟩|⟨bl,vals2,e,hne,hbl1,hbc,hvl⟩
      ·simp only[Value.slice.injEq] at e
       obtain⟨rfl,e2,rfl⟩:=e
       have e2':mm=[]:=hnil
       subst e2'
       refine aq ?_
       refine Zu (cy rF sP rfl rfl (k:=0) ay.same.cel (by omega) (aA _ _ rfl) (by omega) aO) ?_
       refine aq ?_
       refine aC.go (vs.length - (i+1)) (FH N tt _ _ vs.length (z+1) _ _ _) (by omega) eI ⟨i+1,z+1,_,_,_,_,_,_,_,_,rfl,by omega,rfl,by omega,aO,bW,?_,az,az,by omega,rfl⟩
       rw[hmm1]
       exact .inr ⟨c'+4,[.slice (some ⟨c'+2,0,some 1⟩) (d+1) (d+1)],rfl,(fun e=>by cases e),⟨by omega,by omega⟩,ay.same,dY.push .nil g1 g2 (hrow _ gL) hbl⟩
      ·simp only[Value.slice.injEq] at e
       obtain⟨rfl,_,rfl⟩:=e
       have l3:bl<c':=by
        rcases hG with⟨e,_⟩|⟨bl2,vals3,e,_,q,_⟩
        ·simp only[Value.slice.injEq] at e;cases e.1
        ·simp only[Value.slice.injEq,Option.some.injEq,Addr.mk.injEq] at e;rw[e.1.1];exact q.2
       refine aq ?_
       refine Zu (dg rF sP rfl rfl (k:=0) ay.same.cel (by omega) (aA _ _ rfl) (by omega) (by omega) gL (by omega) (aA _ _ (by rw[hvl.1];omega)) (all_cons rfl a7) aO) ?_
       refine aq ?_
       refine aC.go (vs.length - (i+1)) (FH N tt _ _ vs.length (z+1) _ _ _) (by omega) eI ⟨i+1,z+1,_,_,_,_,_,_,_,_,rfl,by omega,rfl,by omega,aO,bW,?_,az,az,by omega,rfl⟩
       rw[hmm1]
       refine .inr ⟨c'+4,vals2++[.slice (some ⟨c'+2,0,some 1⟩) (d+1) (d+1)],by rw[hl1],(fun e=>by have:=congrArg List.length e;rw[hl1] at this;cases this),⟨by omega,by omega⟩,ay.same,dY.push (hvl.keep2 hd1 hbc fA (fun _ q=>q) (fun b q h1 h2=>?_)) g1 g2 (hrow _ gL) hbl⟩
       rw[am (by omega),am (by omega),am (by omega),am (by omega),am (by omega)]
    ·refine aq ?_
     refine Zu (aj (k:=i) lz rfl rfl hz hi) ?_
     refine Zu (aB (dV rfl) rfl g5.cel (by omega) g6) ?_
     refine aq ?_
     have e1:mm1=mm:=by rw[hst];unfold pI;rw[if_neg (fun q=>hlt q.1)]
     subst e1
     refine aC.go (vs.length - (i+1)) (FH N tt _ _ vs.length (z+1) _ _ _) (by omega) eI ⟨i+1,z+1,_,_,_,_,_,_,_,_,rfl,by omega,rfl,by omega,aO,bW,?_,az,az,by omega,rfl⟩
     rw[hmm1]
     exact hG.keep hf' (fun b q=>⟨q.1,by omega⟩) (fun b _ hb _=>kA b hb)
   ·refine aq ?_
    obtain rfl:i=vs.length:=by omega
    subst hz
    rw[List.take_length] at hG
    exact di.go (FH N tt (.slice oa vs.length cap) ms vs.length vs.length _ _ _) eI ⟨_,_,_,_,_,_,_,_,rfl,rfl,hcc,hf',hkp,hG,hlr,hlw⟩
 ·rintro e s ⟨ms,j9,j24,j36,h1,c1,rl1,wl1,rfl,rfl,hcc1,hf1,hkp1,hG1,hlr1,hlw1⟩
  unfold FH
  refine aq ?_
  refine Wx.loopE (fun k1 e s=>∃(t:Nat) (z:Int) (ms j46 j10 j50 j51 j52 j12 j13 j53 j60 j73 j74 j14 j75:Value) (h':T ag) (c':Nat) (rl' wl':List Nat),e=uf N tt (.slice oa vs.length cap) ms vs.length j9 j24 j36 z j46 j10 j50 j51 j52 j12 j13 j53 j60 j73 j74 j14 j75/\z=t/\s=⟨h',c',rl',wl'⟩/\c<=c'/\ai h' c'/\Kp h h' c (fun _=>False)/\pw h' ms (d+1) (jD N vs t) (fun b=>c<=b/\b<c')/\Lg c R rl'/\Lg c (fun _=>False) wl'/\t<=tt/\k1=tt - t) tt (uf N tt (.slice oa vs.length cap) ms vs.length j9 j24 j36 0 top top top top top top top top top top top top top) iY ?_ ?_ ?_
  ·unfold uf
   exact eI
  ·exact⟨0,0,_,_,_,_,_,_,_,_,_,_,_,_,_,_,_,_,_,_,rfl,rfl,rfl,hcc1,hf1,hkp1,hG1,hlr1,hlw1,by omega,rfl⟩
  ·rintro k1 e s ⟨t,z,ms,j46,j10,j50,j51,j52,j12,j13,j53,j60,j73,j74,j14,j75,h',c',rl',wl',rfl,hz,rfl,hcc,hf',hkp,hG,hlr,hlw,htd,rfl⟩
   unfold uf
   by_cases ht:t<tt
   ·have hok:=oO (n:=N) hvok t
    have hrs:jD N vs (t+1)=DG vs (jD N vs t):=rfl
    obtain⟨oam,capm,rfl⟩:=hG.mrow.val
    generalize jD N vs t=mm at hG hok hrs
    refine aq ?_
    refine Zu (dM (a:=mm.length) (b:=mm.length) JQ rfl rfl rfl rfl (by omega) (by unfold dv;omega) aO) ?_
    refine aq ?_
    have hS0:DY (h'.set c' (some (.cells (rep [.slice none 0 0] mm.length)))) (c'+1) (rep [.slice none 0 0] mm.length) (d+1) (AK vs mm 0) U:=DY.init
    have fS:ai (h'.set c' (some (.cells (rep [.slice none 0 0] mm.length)))) (c'+1):=aO
    have kS:∀b,b<c'->(h'.set c' (some (.cells (rep [.slice none 0 0] mm.length)))).get b=h'.get b:=fun b hb=>am (by omega)
    have gS:ay (h'.set c' (some (.cells (rep [.slice none 0 0] mm.length)))) c' (.cells (rep [.slice none 0 0] mm.length)):=ay.same
    generalize (h'.set c' (some (.cells (rep [.slice none 0 0] mm.length))))=hS at hS0 fS kS gS
    generalize rep [Value.slice none 0 0] mm.length=ws0 at hS0 gS
    have hkS:Kp h hS c (fun _=>False):=fun b hb _=>(kS b (by omega)).trans (hkp b hb (fun q=>q))
    have hGS:=hG.keep hf' (fun _ q=>q) (fun b _ hb _=>kS b hb)
    refine Wx.cutO (fun e s=>∃(j12 j13 j53 j60:Value) (h2:T ag) (c2:Nat) (rl2 wl2:List Nat) (ws:List Value),e=uf N tt (.slice oa vs.length cap) (.slice oam mm.length capm) vs.length j9 j24 j36 z (.bool true) (.slice (some ⟨c',0,none⟩) mm.length mm.length) (.slice oa vs.length cap) (.int .i64 (vs.length:Int)) (.int .i64 (vs.length:Int)) j12 j13 j53 j60 j73 j74 j14 j75/\s=⟨h2,c2,rl2,wl2⟩/\c'+1<=c2/\ai h2 c2/\Kp hS h2 c' (fun _=>False)/\ay h2 c' (.cells ws)/\DY h2 (c'+1) ws (d+1) (AK vs mm vs.length) U/\Lg c R rl2/\Lg c (fun _=>False) wl2) iY ?_ ?_
    ·refine Wx.loopE (fun k1 e s=>∃(k:Nat) (z2:Int) (j12 j13 j53 j60:Value) (h2:T ag) (c2:Nat) (rl2 wl2:List Nat) (ws:List Value),e=uf N tt (.slice oa vs.length cap) (.slice oam mm.length capm) vs.length j9 j24 j36 z (.bool true) (.slice (some ⟨c',0,none⟩) mm.length mm.length) (.slice oa vs.length cap) (.int .i64 (vs.length:Int)) (.int .i64 z2) j12 j13 j53 j60 j73 j74 j14 j75/\z2=k/\s=⟨h2,c2,rl2,wl2⟩/\c'+1<=c2/\ai h2 c2/\Kp hS h2 c' (fun _=>False)/\ay h2 c' (.cells ws)/\DY h2 (c'+1) ws (d+1) (AK vs mm k) U/\Lg c R rl2/\Lg c (fun _=>False) wl2/\k<=vs.length/\k1=vs.length - k) vs.length (uf N tt (.slice oa vs.length cap) (.slice oam mm.length capm) vs.length j9 j24 j36 z (.bool true) (.slice (some ⟨c',0,none⟩) mm.length mm.length) (.slice oa vs.length cap) (.int .i64 (vs.length:Int)) (.int .i64 0) j12 j13 j53 j60 j73 j74 j14 j75) iY ?_ ?_ ?_
     ·unfold uf
      exact eI
     ·exact⟨0,0,_,_,_,_,_,_,_,_,ws0,rfl,rfl,rfl,Nat.le_refl _,fS,Kp.refl,gS,hS0,hlr,hlw,by omega,rfl⟩
     ·rintro k1 e s ⟨k,z2,j12,j13,j53,j60,h2,c2,rl2,wl2,ws,rfl,hz2,rfl,hcc2,hf2,hkp2,hB2,hO,hlr2,hlw2,hkd,rfl⟩
      unfold uf
      have kp2:Kp h h2 c (fun _=>False):=fun b hb _=>(hkp2 b (by omega) (fun q=>q)).trans (hkS b hb (fun q=>q))
      by_cases hk:k<vs.length
      ·have hm':=hm.keep hf (fun _ q=>q) (fun b _ hb _=>kp2 b hb (fun q=>q))
       obtain⟨g1,g2,b,sp,vals,a,kk,rfl,g4,g5,g6,g7,g8⟩:=hm'.at (List.getElem?_eq_getElem hk)
       have lb:=g5.lt hf2
       have rb:=hUR b g4
       have hGm:=hGS.keep (U':=fun b=>c<=b/\b<c') fS (fun _ q=>q) (fun b q _ _=>hkp2 b q.2 (fun q=>q))
       refine aq ?_
       refine Zu (aj (k:=k) lz rfl rfl hz2 hk) ?_
       refine Zu (aB (dV rfl) rfl g5.cel (by omega) g6) ?_
       refine aq ?_
       refine ax.call rfl rfl (oK aO hGm.mrow (by omega) (by omega) g7 g1 g2 (fun b=>c<=b\/R b) (fun b q=>.inl q.1) (fun b q=>.inr (hUR b (g8 b q)))) ?_
       rintro v5 h3 c3 r3 w3 ⟨rfl,hext3⟩
       have fr3:=hext3.fresh
       have le3:=hext3.c
       simp only at le3 fr3
       have lr3:=Lg.extR (R:=R) (c:=c) az hext3 (fun b hb u=>u.elim (fun u=>by omega) (fun u=>u))
       have lw3:=Lg.extW (W:=fun _=>False) (c:=c) az hext3 (fun _ _ q=>q)
       have kp3:Kp hS h3 c' (fun _=>False):=fun b hb _=>(hext3.get (by omega) (fun q=>q)).trans (hkp2 b hb (fun q=>q))
       have hB3:=hext3.hs hB2 (by omega) (fun q=>q)
       have hO3:=hO.keep hf2 (fun b hb _=>hext3.get hb (fun q=>q))
       by_cases h0:mm.length=0
       ·have e1:eN mm vs[k] = -1:=by unfold eN;rw[if_pos h0]
        have e2:AK vs mm (k+1)=AK vs mm k:=by unfold AK;rw[h0];rfl
        rw[e1]
        refine aq ?_
        refine aC.go (vs.length - (k+1)) (uf N tt _ _ vs.length j9 j24 j36 z (.bool true) _ _ (.int .i64 (vs.length:Int)) (.int .i64 (z2+1)) _ _ _ _ j73 j74 j14 j75) (by omega) eI ⟨k+1,z2+1,_,_,_,_,_,_,_,_,ws,rfl,by omega,rfl,by omega,fr3,kp3,hB3,by rw[e2];exact hO3,az,az,by omega,rfl⟩
       ·have hnz:=ve (zs:=vs[k]) h0
        obtain⟨i0,hi0⟩:∃i0:Nat,eN mm vs[k]=(i0:Int):=⟨(eN mm vs[k]).toNat,by omega⟩
        have hil:i0<mm.length:=by omega
        have hofs:=Ef hk hi0 hil
        obtain⟨w,hw1,hw2⟩:=hO3.row i0 _ (pC hil)
        have hwn:cu ws (0+i0*1)=some w:=by rw[b8,Nat.zero_add,Nat.mul_one];exact hw1
        have hwl:i0<ws.length:=(List.getElem?_eq_some_iff.1 hw1).1
        rw[hi0]
        have g73:=bj.keepF g7 hf2 (fun b hb=>hext3.get hb (fun q=>q))
        have hll:∀l:List (List Int),(l++[vs[k]]).length=l.length+1:=fun l=>by rw[List.length_append];rfl
        have hbnd:(tV (vs.take k) mm i0).length<=1000:=by
         unfold tV
         have:=List.length_filter_le (fun v=>decide (eN mm v=(i0:Int))) (vs.take k)
         rw[List.length_take] at this
         omega
        generalize tV (vs.take k) mm i0=l0 at hofs hw2 hbnd
        rcases hw2 with⟨rfl,rfl⟩|⟨bl,vals2,rfl,hne,hbl,hbc,hvl⟩
        ·refine aq ?_
         refine Zu (aj (k:=i0) yn rfl rfl rfl hil) ?_
         refine Zu (aB (dV rfl) rfl hB3.cel (by omega) hwn) ?_
         refine aq ?_
         refine Zu (cy rF sP rfl rfl (k:=0) ay.same.cel (by omega) (aA _ _ rfl) (by omega) aO) ?_
         refine aq ?_
         refine Zu (aj (k:=i0) yn rfl rfl rfl hil) ?_
         ((with_reducible apply ax.so);rfl;exact(uc rfl);rfl;exact gL;omega;refine wC ?_;refine⟨_,_,(by(first|exact a8 _|rfl)),rfl,xq hwl rfl,?_⟩)
         refine aq ?_
         refine aC.go (vs.length - (k+1)) (uf N tt _ _ vs.length j9 j24 j36 z (.bool true) _ _ (.int .i64 (vs.length:Int)) (.int .i64 (z2+1)) _ _ _ _ j73 j74 j14 j75) (by omega) eI ⟨k+1,z2+1,_,_,_,_,_,_,_,_,_,rfl,by omega,rfl,by omega,aO,bW,ay.same,?_,az,az,by omega,rfl⟩
         rw[hofs]
         refine hO3.step fr3 hw1 (fun b q=>by have:=hUc b q;omega) (.inr ⟨c3+1,[.slice a (d+1) kk],rfl,(fun e=>by cases e),by omega,gL,dY.push .nil g1 g2 (bj.keepB g73 fun b q=>?_) g8⟩) (fun b q=>by cases q;dsimp only;omega) (fun b q1 _ q2=>?_)
         ·have:=hUc b (g8 b q)
          rw[am (by omega),am (by omega),am (by omega)]
         ·have q3:b≠c':=q2.elim (fun u=>by omega) (fun u=>by have:=hUc b u;omega)
          rw[am q3,am (by omega),am (by omega)]
        ·have l3:=hbc.lt fr3
         refine aq ?_
         refine Zu (aj (k:=i0) yn rfl rfl rfl hil) ?_
         refine Zu (aB (dV rfl) rfl hB3.cel (by omega) hwn) ?_
         refine aq ?_
         refine Zu (dg rF sP rfl rfl (k:=0) ay.same.cel (by omega) (aA _ _ rfl) (by omega) (by omega) gL (by omega) (aA _ _ (by rw[hvl.1];omega)) (all_cons rfl a7) aO) ?_
         refine aq ?_
         refine Zu (aj (k:=i0) yn rfl rfl rfl hil) ?_
         ((with_reducible apply ax.so);rfl;exact(uc rfl);rfl;exact gL;omega;refine wC ?_;refine⟨_,_,(by(first|exact a8 _|rfl)),rfl,xq hwl rfl,?_⟩)
         refine aq ?_
         refine aC.go (vs.length - (k+1)) (uf N tt _ _ vs.length j9 j24 j36 z (.bool true) _ _ (.int .i64 (vs.length:Int)) (.int .i64 (z2+1)) _ _ _ _ j73 j74 j14 j75) (by omega) eI ⟨k+1,z2+1,_,_,_,_,_,_,_,_,_,rfl,by omega,rfl,by omega,aO,bW,ay.same,?_,az,az,by omega,rfl⟩
         rw[hofs]
         refine hO3.step fr3 hw1 (fun b q=>by have:=hUc b q;omega) (.inr ⟨c3+1,vals2++[.slice a (d+1) kk],by rw[hll],(fun e=>by have:=congrArg List.length e;rw[hll] at this;cases this),by omega,gL,dY.push (hvl.keep fr3 (fun _ q=>q) (fun b q1 _ _=>?_)) g1 g2 (bj.keepB g73 fun b q=>?_) g8⟩) (fun b q=>by cases q;dsimp only;omega) (fun b q1 q4 q2=>?_)
         ·have:=hUc b q1
          rw[am (by omega),am (by omega),am (by omega),am (by omega)]
         ·have:=hUc b (g8 b q)
          rw[am (by omega),am (by omega),am (by omega),am (by omega)]
         ·have q3:b≠c':=q2.elim (fun u=>by omega) (fun u=>by have:=hUc b u;omega)
          have q5:b≠bl:=fun e=>q4 (by rw[e];rfl)
          rw[am q3,am (by omega),am q5,am (by omega)]
      ·refine aq ?_
       obtain rfl:k=vs.length:=by omega
       subst hz2
       exact di.go (uf N tt (.slice oa vs.length cap) (.slice oam mm.length capm) vs.length j9 j24 j36 z (.bool true) (.slice (some ⟨c',0,none⟩) mm.length mm.length) (.slice oa vs.length cap) (.int .i64 (vs.length:Int)) (.int .i64 (vs.length:Int)) _ _ _ _ j73 j74 j14 j75) eI ⟨_,_,_,_,_,_,_,_,ws,rfl,rfl,hcc2,hf2,hkp2,hB2,hO,hlr2,hlw2⟩
    ·rintro e s ⟨j12,j13,j53,j60,h2,c2,rl2,wl2,ws,rfl,rfl,hcc2,hf2,hkp2,hB2,hO,hlr2,hlw2⟩
     unfold uf
     have hG2:=hGS.keep (U':=fun b=>c<=b/\b<c2) fS (fun b q=>⟨q.1,by omega⟩) (fun b q _ _=>hkp2 b q.2 (fun q=>q))
     have hkp22:Kp h h2 c (fun _=>False):=fun b hb _=>(hkp2 b (by omega) (fun q=>q)).trans (hkS b hb (fun q=>q))
     have hov:∀i (hi:i<mm.length),(AK vs mm vs.length)[i]?=some (tV vs mm i):=fun i hi=>by rw[pC hi,List.take_length]
     refine aq ?_
     refine Wx.loopE (fun k1 e s=>∃(k:Nat) (z3:Int) (j14 j75:Value) (h3:T ag) (c3:Nat) (rl3 wl3:List Nat),e=uf N tt (.slice oa vs.length cap) (.slice oam mm.length capm) vs.length j9 j24 j36 z (.bool true) (.slice (some ⟨c',0,none⟩) mm.length mm.length) (.slice oa vs.length cap) (.int .i64 (vs.length:Int)) (.int .i64 (vs.length:Int)) j12 j13 j53 j60 (.int .i64 (mm.length:Int)) (.int .i64 z3) j14 j75/\z3=k/\s=⟨h3,c3,rl3,wl3⟩/\c2<=c3/\ai h3 c3/\Kp h h3 c (fun _=>False)/\ay h3 c' (.cells ws)/\DY h3 (c'+1) ws (d+1) (AK vs mm vs.length) U/\pw h3 (.slice oam mm.length capm) (d+1) (pH vs mm k) (fun b=>c<=b/\b<c3)/\(∀b,au (.slice oam mm.length capm)=some b->c<=b/\b<c')/\Lg c R rl3/\Lg c (fun _=>False) wl3/\k<=mm.length/\k1=mm.length - k) mm.length (uf N tt (.slice oa vs.length cap) (.slice oam mm.length capm) vs.length j9 j24 j36 z (.bool true) (.slice (some ⟨c',0,none⟩) mm.length mm.length) (.slice oa vs.length cap) (.int .i64 (vs.length:Int)) (.int .i64 (vs.length:Int)) j12 j13 j53 j60 (.int .i64 (mm.length:Int)) (.int .i64 0) j14 j75) iY ?_ ?_ ?_
     ·unfold uf
      exact eI
     ·refine⟨0,0,_,_,_,_,_,_,rfl,rfl,rfl,Nat.le_refl _,hf2,hkp22,hB2,hO,by rw[Cx];exact hG2,?_,hlr2,hlw2,by omega,rfl⟩
      intro b q
      rcases hG with⟨e,_⟩|⟨bm,vm,e,_,q2,_⟩
      ·rw[e] at q;cases q
      ·rw[e] at q;cases q;exact q2
     ·rintro k1 e s ⟨k,z3,j14,j75,h3,c3,rl3,wl3,rfl,hz3,rfl,hcc3,hf3,hkp3,hB3,hO3,hG3,hbm,hlr3,hlw3,hkd,rfl⟩
      unfold uf
      by_cases hk:k<mm.length
      ·have hwl:(pH vs mm k).length=mm.length:=eV _ _ _
       rcases hG3 with⟨e,q⟩|⟨bm,vm,e,hne,hbm1,hbmc,hvm⟩
       ·rw[q] at hwl;simp at hwl;omega
       simp only[Value.slice.injEq] at e
       obtain⟨rfl,_,hcap⟩:=e
       have hbm2:=hbm bm rfl
       have lbm:=hbmc.lt hf3
       obtain⟨g1,g2,a,kk,g3,g4,g5⟩:=hvm.2 k mm[k] (by rw[mC hk,if_neg (by omega)])
       have hvn:cu vm (0+k*1)=some (.slice a (d+1) kk):=by rw[b8,Nat.zero_add,Nat.mul_one];exact g3
       have hvl:k<vm.length:=(List.getElem?_eq_some_iff.1 g3).1
       obtain⟨w,hw1,hw2⟩:=hO3.row k _ (hov k hk)
       have hwn:cu ws (0+k*1)=some w:=by rw[b8,Nat.zero_add,Nat.mul_one];exact hw1
       have lB3:=hB3.lt hf3
       have hll:(tV vs mm k).length<=1000:=by
        unfold tV
        have:=List.length_filter_le (fun v=>decide (eN mm v=(k:Int))) vs
        omega
       have hko:∀(h5:T ag) (r:Value),(∀b,b<c3->h5.get b=h3.get b)->∀(a':Option Addr) (k':Nat) (ys:List Int),bj h3 (.slice a' (d+1) k') (d+1) 1 (ys.map (Value.int .i32))->ys.length=d+1->(∀b',au (.slice a' (d+1) k')=some b'->c<=b'/\b'<c3)->bj (h5.set bm (some (.cells (vm.set k r)))) (.slice a' (d+1) k') (d+1) 1 (ys.map (Value.int .i32)):=fun h5 r k5 a' k' ys q1 q2 q3=>bj.keepB q1 fun b q=>by
        have q4:=hvm.ne hd1 hbmc q1 q2
        rw[am (fun e=>q4 (by rw[<- e];exact q)),k5 b (q3 b q).2]
       have hrs2:=D1 (vs:=vs) hk
       have hsl:∀x,((pH vs mm k).set k x).length=mm.length:=fun x=>by rw[List.length_set,eV]
       have hsn:∀x,(pH vs mm k).set k x≠[]:=fun x e=>by
        have h9:=congrArg List.length e
        rw[hsl] at h9
        rw[h9] at hk
        exact absurd hk (Nat.not_lt_zero _)
       obtain⟨ow,cw,rfl⟩:=hw2.mrow.val
       refine aq ?_
       refine Zq (aj (k:=k) lz rfl rfl hz3 hk) ?_
       refine Zd (aB (dV rfl) rfl hbmc.cel (by omega) hvn) ?_
       refine aq ?_
       refine Zq (aj (k:=k) yn rfl rfl hz3 hk) ?_
       refine Zd (aB (dV rfl) rfl hB3.cel (by omega) hwn) ?_
       refine bN.call rfl rfl (yR aO g1 (by omega) hw2.mrow hll (Bk hvok) (fun b=>c<=b\/R b) (fun b q=>q.elim (fun u=>.inl (by omega)) (fun u=>.inr (hUR b u)))) ?_
       rintro r h5 c5 r5 w5 ⟨hr,hext5⟩
       have hq5:=hext5.quiet (fun _ _ q=>q)
       have fr5:=hext5.fresh
       have le5:=hext5.c
       simp only at le5 fr5
       have lr5:=Lg.extR (R:=R) (c:=c) az hext5 (fun b hb u=>u.elim (fun u=>by omega) (fun u=>u))
       have lw5:=Lg.extW (W:=fun _=>False) (c:=c) az hext5 (fun _ _ q=>q)
       have k5:∀b,b<c3->h5.get b=h3.get b:=fun b hb=>hext5.get hb (fun q=>q)
       have kp5:Kp h h5 c (fun _=>False):=fun b hb _=>(k5 b (by omega)).trans (hkp3 b hb (fun q=>q))
       have hB5:=hext5.hs hB3 lB3 (fun q=>q)
       have hbm5:=hext5.hs hbmc lbm (fun q=>q)
       refine⟨i7,?_⟩
       by_cases h0:(tV vs mm k).length=0
       ·rw[if_pos h0] at hr
        subst hr
        have e1:oE mm[k] (tV vs mm k)=mm[k]:=by unfold oE;rw[if_pos h0]
        refine aq ?_
        refine Zq (aj (k:=k) lz rfl rfl hz3 hk) ?_
        ((with_reducible apply bN.so);rfl;exact(uc rfl);rfl;exact hbm5;omega;exact i7;refine wC ?_;refine⟨_,_,(by(first|exact a8 _|rfl)),rfl,xq hvl rfl,?_⟩)
        refine aq ?_
        refine aC.go (mm.length - (k+1)) (uf N tt (.slice oa vs.length cap) _ vs.length j9 j24 j36 z (.bool true) _ _ (.int .i64 (vs.length:Int)) (.int .i64 (vs.length:Int)) j12 j13 j53 j60 (.int .i64 (mm.length:Int)) (.int .i64 (z3+1)) _ _) (by omega) eI ⟨k+1,z3+1,_,_,_,_,_,_,rfl,by omega,rfl,by omega,aO,bW,gL,?_,?_,hbm,az,az,by omega,rfl⟩
        ·exact hO3.keep hf3 (fun b hb q=>(am (q.elim (fun u=>by omega) (fun u=>by have:=hUc b u;omega))).trans (k5 b hb))
        ·rw[hrs2,e1]
         refine .inr ⟨bm,vm.set k (.slice a (d+1) kk),by rw[hsl,hcap,eV],hsn _,⟨by omega,by omega⟩,ay.same,hvm.setAt k (hko h5 _ k5) (fun b q=>⟨q.1,by omega⟩) g1 g2 (hko h5 _ k5 _ _ _ g4 g1 g5) (fun b q=>by have:=g5 b q;omega)⟩
       ·rw[if_neg h0] at hr
        obtain⟨rfl,hr2⟩:=hr
        refine aq ?_
        refine Zq (aj (k:=k) lz rfl rfl hz3 hk) ?_
        ((with_reducible apply bN.so);rfl;exact(uc rfl);rfl;exact hbm5;omega;exact i7;refine wC ?_;refine⟨_,_,(by(first|exact a8 _|rfl)),rfl,xq hvl rfl,?_⟩)
        refine aq ?_
        refine aC.go (mm.length - (k+1)) (uf N tt (.slice oa vs.length cap) _ vs.length j9 j24 j36 z (.bool true) _ _ (.int .i64 (vs.length:Int)) (.int .i64 (vs.length:Int)) j12 j13 j53 j60 (.int .i64 (mm.length:Int)) (.int .i64 (z3+1)) _ _) (by omega) eI ⟨k+1,z3+1,_,_,_,_,_,_,rfl,by omega,rfl,by omega,aO,bW,gL,?_,?_,hbm,az,az,by omega,rfl⟩
        ·exact hO3.keep hf3 (fun b hb q=>(am (q.elim (fun u=>by omega) (fun u=>by have:=hUc b u;omega))).trans (k5 b hb))
        ·rw[hrs2]
         have hmo:=BT (m:=mm[k]) (vs:=tV vs mm k) ⟨g1,g2⟩ (Bk hvok)
         have lr5':=hr2.lt fr5
         refine .inr ⟨bm,vm.set k (.slice (some ⟨c3,0,none⟩) (d+1) (d+1)),by rw[hsl,hcap,eV],hsn _,⟨by omega,by omega⟩,ay.same,hvm.setAt k (hko h5 _ k5) (fun b q=>⟨q.1,by omega⟩) hmo.1 hmo.2 (.inr ⟨c3,0,none,_,_,rfl,(hr2.other (by omega)).cel,aA _ _ (by rw[List.length_map];omega)⟩) (fun b q=>by cases q;dsimp only at lr5' ⊢;omega)⟩
      ·refine aq ?_
       obtain rfl:k=mm.length:=by omega
       refine aC.go (tt - (t+1)) (uf N tt _ _ vs.length j9 j24 j36 (z+1) _ _ _ _ _ _ _ _ _ _ _ _ _) (by omega) eI ⟨t+1,z+1,_,_,_,_,_,_,_,_,_,_,_,_,_,_,_,_,_,_,rfl,by omega,rfl,by omega,hf3,hkp3,by rw[hrs];exact hG3,hlr3,hlw3,by omega,rfl⟩
   ·refine aq ?_
    obtain rfl:t=tt:=by omega
    refine⟨.inr rfl,aG.one rfl ⟨hG,?_⟩⟩
    exact bM
end Go.Ab.Seat
