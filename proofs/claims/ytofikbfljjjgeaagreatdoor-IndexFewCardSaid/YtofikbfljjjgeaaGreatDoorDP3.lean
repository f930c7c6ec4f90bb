import Derived.Test.YtofikbfljjjgeaaGreatDoorDP1
import Derived.Test.YtofikbfljjjgeaaGreatDoorDF2
set_option linter.unusedVariables false
set_option linter.unusedSimpArgs false
section
namespace Go.Ab.Seat
open Go.Extern Go.Proofs
set_option maxRecDepth 4000
theorem wY {C:aS}{eg:TypeId->Bool}{e:aR}{s:St}{d:Option Nat}{ty:TypeId}{ps:String}{af:Array Edge}{g:Option (Nat×Bool)}{t t2:TypeId}{x y:Operand}{a b:Int} (hx:ae e x=.int .i64 a) (hy:ae e y=.int .i64 b) (hb:b≠0) (h0 : -9223372036854775808<=a.tdiv b) (h1:a.tdiv b<=9223372036854775807):aW C eg e ⟨d,.binOp .quo t x y t2,ty,ps,af,g⟩ s (.int .i64 (a.tdiv b)) s :=
 cY hx hy (by rw[cq (by decide) (by decide)];show (match decide (b=0) with|true=>none|false=>some (Value.int .i64 (cf .i64 (a.tdiv b))))=_;rw[decide_eq_false hb,cm h0 h1])
theorem xY {a b:Int} (hb:0<b) : -(a.natAbs:Int)<=a.tdiv b/\a.tdiv b<=(a.natAbs:Int):=by
 have h:=Int.natAbs_tdiv_le_natAbs a b
 omega
theorem Bh {h:T ag}{c:Nat}{rl wl:List Nat} (hf:ai h c) {a b:Int} (hb:0<b) (ha : -1000000000000<=a/\a<=1000000000000) :
  ∃r s',aE (Cs bD) eg 218 [.int .i64 a,.int .i64 b] ⟨h,c,rl,wl⟩ r s'/\(r=.int .i64 (tE a b)/\s'=⟨h,c,rl,wl⟩):=by
 have h1:=xY (a:=a) hb
 refine Fn.go (aU 218 rfl) L7 Lx KG rfl rfl ?_
 refine cg ?_
 refine aq ?_
 refine Zu (wY rfl rfl (by omega) (by omega) (by omega)) ?_
 refine aq ?_
 refine Zu (wT rfl rfl (by omega)) ?_
 unfold tE
 by_cases hq:a.tmod b<0
 ·rw[if_pos hq]
  refine aq ?_
  exact⟨.inr rfl,aG.one rfl ⟨rfl,rfl⟩⟩
 ·rw[if_neg hq]
  refine aq ?_
  exact⟨.inr rfl,aG.one rfl ⟨rfl,rfl⟩⟩
def gn (f:Nat->Int) (n i:Nat):List Value:=(List.range n).map fun j=>.int .i32 (if j<i then f j else 0)
theorem kP (f:Nat->Int) (n i:Nat):(gn f n i).length=n:=by simp [gn]
theorem yk (f:Nat->Int) (n:Nat):rep [Value.int .i32 0] n=gn f n 0:=by
 unfold gn
 rw[show (fun j=>Value.int .i32 (if j<0 then f j else 0))=fun _:Nat=>Value.int .i32 0 from funext fun j=>by rw[if_neg (by omega)]]
 rw[List.map_const',List.length_range]
 induction n with
 |zero=>rfl
 |succ n ih=>rw[List.replicate_succ];show _=[Value.int .i32 0]++_;rw[<- ih];rfl
theorem zK (f:Nat->Int) (n i:Nat) (hi:i<n):bw [.int .i32 (f i)] (gn f n i) (0+i*1)=some (gn f n (i+1)):=by
 rw[cz _ _ _ (by rw[kP];show _+1<=n;omega) (by intro v hv;rw[List.mem_singleton.1 hv];rfl)]
 congr 1
 refine List.ext_getElem? fun j=>?_
 have e1:((gn f n i).take (0+i*1)).length=i:=by rw[List.length_take,kP];omega
 have at_:∀i j,j<n->(gn f n i)[j]?=some (.int .i32 (if j<i then f j else 0)):=fun i j hj=>by
  unfold gn
  rw[List.getElem?_map,List.getElem?_eq_getElem (by simpa using hj),List.getElem_range];rfl
 rcases Nat.lt_trichotomy j i with q|q|q
 ·rw[List.append_assoc,List.getElem?_append_left (by omega),List.getElem?_take,if_pos (by omega),at_ i j (by omega),at_ (i+1) j (by omega),if_pos q,if_pos (by omega)]
 ·subst q
  rw[List.append_assoc,List.getElem?_append_right (by omega),e1,Nat.sub_self,at_ (j+1) j hi,if_pos (by omega)];rfl
 ·rw[List.getElem?_append_right (by rw[List.length_append,e1];show i+1<=j;omega),List.length_append,e1,List.getElem?_drop]
  show (gn f n i)[0+i*1+1+(j - (i+1))]?=_
  rw[show 0+i*1+1+(j - (i+1))=j by omega]
  rcases Nat.lt_or_ge j n with r|r
  ·rw[at_ i j r,at_ (i+1) j r,if_neg (by omega),if_neg (by omega)]
  ·rw[List.getElem?_eq_none (by rw[kP];exact r),List.getElem?_eq_none (by rw[kP];exact r)]
def Dp (m v:Value) (n c:Nat) (z:Int) (j6 j7 j20 j22 j23 j24 j9 j25 j31:Value):L :=
 .cons 1 v (.cons 0 m (.cons 4 (.slice none 0 0) (.cons 12 (.bool false) (.cons 5 (.slice (some ⟨c,0,none⟩) n n) (.cons 18 (.int .i64 (n:Int)) (.cons 19 (.int .i64 z) (.cons 6 j6 (.cons 7 j7 (.cons 20 j20 (.cons 22 j22 (.cons 23 j23 (.cons 24 j24 (.cons 9 j9 (.cons 25 j25 (.cons 31 j31 .nil)))))))))))))))
set_option maxHeartbeats 4000000 in
theorem yR {h:T ag}{c:Nat}{rl wl:List Nat} (hf:ai h c) {ma:Option Addr}{dim mk:Nat}{zs:List Int} (hz:zs.length=dim) (hd:dim<=1000) {v:Value}{l:List (List Int)}{U:Nat->Prop} (hm:fe h v dim l U) (hn:l.length<=1000) (hl:zY dim l) (R:Nat->Prop) (hUR:∀b,U b->R b) :
  ∃r s',aE (Cs bD) eg 184 [.slice ma dim mk,v] ⟨h,c,rl,wl⟩ r s'/\(if l.length=0 then r=.slice ma dim mk else r=.slice (some ⟨c,0,none⟩) dim dim/\ay s'.h c (.cells ((oE zs l).map (Value.int .i32))))/\bA ⟨h,c,rl,wl⟩ s' R (fun _=>False):=by
 obtain⟨oa,cap,rfl⟩:=hm.val
 refine Fn.go (aU 184 rfl) IW Kq Lf rfl rfl ?_
 refine cg ?_
 by_cases h0:l.length=0
 ·refine aq ?_
  refine⟨.inr rfl,aG.one rfl ⟨?_,?_⟩⟩
  ·rw[if_pos h0];rfl
  ·exact bM
 ·refine aq ?_
  refine Zu (dM (a:=dim) (b:=dim) DT rfl rfl rfl rfl (by omega) (by unfold dv;omega) aO) ?_
  refine aq ?_
  have f:∀j,-1048576<=tE (jV j l) l.length/\tE (jV j l) l.length<=1048576:=fun j=>B0 hl h0
  refine Wx.loopE (fun k1 e s=>∃(i:Nat) (z:Int) (j6 j7 j20 j22 j23 j24 j9 j25 j31:Value) (h':T ag) (rl' wl':List Nat),e=Dp (.slice ma dim mk) (.slice oa l.length cap) dim c z j6 j7 j20 j22 j23 j24 j9 j25 j31/\z=i/\s=⟨h',c+1,rl',wl'⟩/\ai h' (c+1)/\Kp h h' c (fun _=>False)/\ay h' c (.cells (gn (fun j=>tE (jV j l) l.length) dim i))/\Lg c R rl'/\Lg c (fun _=>False) wl'/\i<=dim/\k1=dim - i) dim (Dp (.slice ma dim mk) (.slice oa l.length cap) dim c 0 top top top top top top top top top) iY ?_ ?_ ?_
  ·unfold Dp
   exact eI
  ·refine⟨0,0,_,_,_,_,_,_,_,_,_,_,_,_,rfl,rfl,rfl,aO,bW,?_,az,az,by omega,rfl⟩
   rw[<- yk];exact ay.same
  ·rintro k1 e s ⟨i,z,j6,j7,j20,j22,j23,j24,j9,j25,j31,h',rl',wl',rfl,hzz,rfl,hf',hkp,hB,hlr,hlw,hid,rfl⟩
   unfold Dp
   by_cases hi:i<dim
   ·refine aq ?_
    refine Wx.cutO (fun e s=>∃(j9 j25 j31:Value) (rl2 wl2:List Nat),e=Dp (.slice ma dim mk) (.slice oa l.length cap) dim c z (.int .i64 z) (.int .i64 (jV i l)) (.bool true) (.slice oa l.length cap) (.int .i64 (l.length:Int)) (.int .i64 (l.length:Int)) j9 j25 j31/\s=⟨h',c+1,rl2,wl2⟩/\Lg c R rl2/\Lg c (fun _=>False) wl2) iY ?_ ?_
    ·refine Wx.loopE (fun k1 e s=>∃(k:Nat) (z2:Int) (j9 j25 j31:Value) (rl2 wl2:List Nat),e=Dp (.slice ma dim mk) (.slice oa l.length cap) dim c z (.int .i64 z) (.int .i64 (jV i (l.take k))) (.bool true) (.slice oa l.length cap) (.int .i64 (l.length:Int)) (.int .i64 z2) j9 j25 j31/\z2=k/\s=⟨h',c+1,rl2,wl2⟩/\Lg c R rl2/\Lg c (fun _=>False) wl2/\k<=l.length/\k1=l.length - k) l.length (Dp (.slice ma dim mk) (.slice oa l.length cap) dim c z (.int .i64 z) (.int .i64 0) (.bool true) (.slice oa l.length cap) (.int .i64 (l.length:Int)) (.int .i64 0) j9 j25 j31) iY ?_ ?_ ?_
     ·unfold Dp
      exact eI
     ·exact⟨0,0,_,_,_,_,_,rfl,rfl,rfl,hlr,hlw,by omega,rfl⟩
     ·rintro k1 e s ⟨k,z2,j9,j25,j31,rl2,wl2,rfl,hz2,rfl,hlr2,hlw2,hkd,rfl⟩
      unfold Dp
      by_cases hk:k<l.length
      ·have hm':=hm.keep hf (fun _ q=>q) (fun b _ hb _=>hkp b hb (fun q=>q))
       obtain⟨g1,g2,b,sp,vals,a,kk,rfl,g4,g5,g6,g7,g8⟩:=hm'.at (List.getElem?_eq_getElem hk)
       have lb:=g5.lt hf'
       have rb:=hUR b g4
       have hls:(l[k].map (Value.int .i32))[i]?=some (.int .i32 (l[k].getD i 0)):=by
        rw[List.getElem?_map,List.getD_eq_getElem?_getD,List.getElem?_eq_getElem (by omega:i<l[k].length)];rfl
       obtain⟨b1,o1,sp1,cs1,rfl,hc1,hn1⟩:=bp g7 (j:=i*1) (by omega) (by rw[Nat.mul_one];exact hls)
       have rb1:=hUR b1 (g8 b1 rfl)
       have l1:=hc1.lt hf'
       have q1:=g2 i
       have q2:=o9 (i:=i) hl k (by omega)
       have q3:=vr (i:=i) hk
       refine aq ?_
       refine Zu (aj (k:=k) lz rfl rfl hz2 hk) ?_
       refine Zu (aB (dV rfl) rfl g5.cel (by omega) g6) ?_
       refine aq ?_
       refine Zu (aj (k:=i) lh rfl rfl hzz (by omega)) ?_
       refine Zu (aB (dV rfl) rfl hc1 (by omega) hn1) ?_
       refine aq ?_
       simp only[cm (show (-9223372036854775808:Int)<=l[k].getD i 0 by omega) (by omega)]
       refine aq ?_
       rw[<- q3]
       refine aC.go (l.length - (k+1)) (Dp (.slice ma dim mk) _ dim c z (.int .i64 z) (.int .i64 (jV i (l.take (k+1)))) (.bool true) _ (.int .i64 (l.length:Int)) (.int .i64 (z2+1)) _ _ _) (by omega) eI ⟨k+1,z2+1,_,_,_,_,_,rfl,by omega,rfl,az,az,by omega,rfl⟩
      ·refine aq ?_
       obtain rfl:k=l.length:=by omega
       subst hz2
       rw[List.take_length]
       exact di.go (Dp (.slice ma dim mk) (.slice oa l.length cap) dim c z (.int .i64 z) (.int .i64 (jV i l)) (.bool true) (.slice oa l.length cap) (.int .i64 (l.length:Int)) (.int .i64 (l.length:Int)) _ _ _) eI ⟨_,_,_,_,_,rfl,rfl,hlr2,hlw2⟩
    ·rintro e s ⟨j9,j25,j31,rl2,wl2,rfl,rfl,hlr2,hlw2⟩
     unfold Dp
     have q2:=o9 (i:=i) hl l.length (Nat.le_refl _)
     rw[List.take_length] at q2
     have q3:=f i
     have hst:=zK (fun j=>tE (jV j l) l.length) dim i hi
     refine aq ?_
     refine ax.call rfl rfl (Bh aO (a:=jV i l) (b:=l.length) (by omega) (by omega)) ?_
     rintro v1 h1 c1 r1 w1 ⟨rfl,e1⟩
     cases e1
     refine aq ?_
     simp only[jT (show (-2147483648:Int)<=tE (jV i l) l.length by omega) (by omega)]
     refine Zu (aj (k:=i) lh rfl rfl hzz hi) ?_
     ((with_reducible apply ax.so);rfl;exact(uc rfl);rfl;exact hB;omega;refine wC ?_;refine⟨_,_,(by(first|exact a8 _|rfl)),rfl,hst,?_⟩)
     refine aq ?_
     refine aC.go (dim - (i+1)) (Dp (.slice ma dim mk) (.slice oa l.length cap) dim c (z+1) _ _ _ _ _ _ _ _ _) (by omega) eI ⟨i+1,z+1,_,_,_,_,_,_,_,_,_,_,_,_,rfl,by omega,rfl,aO,bW,ay.same,az,az,by omega,rfl⟩
   ·refine aq ?_
    obtain rfl:i=dim:=by omega
    refine⟨.inr rfl,aG.one rfl ⟨?_,?_⟩⟩
    ·rw[if_neg h0]
     refine⟨rfl,?_⟩
     have e:(oE zs l).map (Value.int .i32)=gn (fun j=>tE (jV j l) l.length) i i:=by
      unfold oE gn
      rw[if_neg h0,hz,List.map_map]
      refine List.map_congr_left fun j hj=>?_
      rw[if_pos (List.mem_range.1 hj)];rfl
     rw[e];exact hB
    ·exact bM
end Go.Ab.Seat
end
section
namespace Go.Ab.Seat
open Go.Extern Go.Proofs
set_option maxRecDepth 4000
end Go.Ab.Seat
end
section
namespace Go.Ab.Seat
open Go.Extern Go.Proofs
theorem bj.keepB {h h':T ag}{v:Value}{n k:Nat}{xs:List Value} (hr:bj h v n k xs) (hk:∀b,au v=some b->h'.get b=h.get b):bj h' v n k xs:=by
 rcases hr with g|⟨b,o,sp,cap,cs,e,g6,g7⟩
 ·exact .inl g
 ·refine .inr ⟨b,o,sp,cap,cs,e,?_,g7⟩
  have q:=hk b (by rw[e];rfl)
  unfold gX ay at g6 ⊢
  rw[q];exact g6
def AK (vs ms:List (List Int)) (k:Nat):List (List (List Int)):=(List.range ms.length).map fun i=>tV (vs.take k) ms i
theorem n9 (vs ms:List (List Int)) (k:Nat):(AK vs ms k).length=ms.length:=by unfold AK;simp
theorem pC {vs ms:List (List Int)}{k i:Nat} (hi:i<ms.length):(AK vs ms k)[i]?=some (tV (vs.take k) ms i):=by
 unfold AK
 rw[List.getElem?_map,List.getElem?_eq_getElem (by simpa using hi),List.getElem_range];rfl
theorem xE {vs ms:List (List Int)}{k i:Nat} (hk:k<vs.length):tV (vs.take (k+1)) ms i=if eN ms vs[k]=(i:Int) then tV (vs.take k) ms i++[vs[k]] else tV (vs.take k) ms i:=by
 unfold tV
 rw[List.take_succ_eq_append_getElem hk,List.filter_append]
 by_cases h:eN ms vs[k]=(i:Int)
 ·rw[if_pos h,List.filter_cons_of_pos (by simpa using h)];rfl
 ·rw[if_neg h,List.filter_cons_of_neg (by simpa using h)];simp
theorem Ef {vs ms:List (List Int)}{k i:Nat} (hk:k<vs.length) (hi:eN ms vs[k]=(i:Int)) (him:i<ms.length):AK vs ms (k+1)=(AK vs ms k).set i (tV (vs.take k) ms i++[vs[k]]):=by
 refine List.ext_getElem? fun j=>?_
 rw[List.getElem?_set,n9]
 by_cases hij:i=j
 ·subst hij
  rw[if_pos rfl,if_pos him,pC him,xE hk,if_pos hi]
 ·rw[if_neg hij]
  rcases Nat.lt_or_ge j ms.length with h|h
  ·rw[pC h,pC h,xE hk,if_neg (by rw[hi];omega)]
  ·rw[List.getElem?_eq_none (by rw[n9];exact h),List.getElem?_eq_none (by rw[n9];exact h)]
def pS (h:T ag) (c0:Nat) (w:Value) (dim:Nat) (l:List (List Int)) (Uv:Nat->Prop):Prop :=
 (w=.slice none 0 0/\l=[])\/∃b vals,w=.slice (some ⟨b,0,some 1⟩) l.length l.length/\l≠[]/\c0<=b/\ay h b (.cells vals)/\dY h dim l Uv vals
theorem pS.mrow {h:T ag}{c0:Nat}{w:Value}{dim:Nat}{l:List (List Int)}{Uv:Nat->Prop} (x:pS h c0 w dim l Uv):fe h w dim l (fun b=>c0<=b\/Uv b):=by
 rcases x with x|⟨b,vals,h1,h2,h3,h4,h5⟩
 ·exact .inl x
 ·exact .inr ⟨b,some 1,_,vals,h1,h2,Nat.le_refl _,.inl h3,h4,⟨h5.1,fun i zs hi=>by
   obtain⟨g1,g2,a,k,g3,g4,g5⟩:=h5.2 i zs hi
   exact⟨g1,g2,a,k,g3,g4,fun b' hb'=>.inr (g5 b' hb')⟩⟩⟩
theorem pS.keep {h h':T ag}{c c0:Nat}{w:Value}{dim:Nat}{l:List (List Int)}{Uv:Nat->Prop} (x:pS h c0 w dim l Uv) (hf:ai h c) (k:∀b,b<c->(au w=some b\/Uv b)->h'.get b=h.get b):pS h' c0 w dim l Uv:=by
 rcases x with x|⟨b,vals,h1,h2,h3,h4,h5⟩
 ·exact .inl x
 ·exact .inr ⟨b,vals,h1,h2,h3,(k b (h4.lt hf) (.inl (by rw[h1];rfl))).trans h4,h5.keep hf (fun _ q=>q) (fun b hb hc _=>k b hc (.inr hb))⟩
theorem pS.lt {h:T ag}{c c0:Nat}{w:Value}{dim:Nat}{l:List (List Int)}{Uv:Nat->Prop} (x:pS h c0 w dim l Uv) (hf:ai h c) {b:Nat} (hb:au w=some b):c0<=b/\b<c:=by
 rcases x with⟨rfl,_⟩|⟨b',vals,rfl,h2,h3,h4,h5⟩
 ·cases hb
 ·cases hb;exact⟨h3,h4.lt hf⟩
structure DY (h:T ag) (c0:Nat) (ws:List Value) (dim:Nat) (ls:List (List (List Int))) (Uv:Nat->Prop):Prop where
 len:ws.length=ls.length
 row:∀(i:Nat) (l:List (List Int)),ls[i]?=some l->∃w,ws[i]?=some w/\pS h c0 w dim l Uv
 inj:∀(i j:Nat) (w w':Value) (b:Nat),ws[i]?=some w->ws[j]?=some w'->au w=some b->au w'=some b->i=j
theorem DY.keep {h h':T ag}{c c0:Nat}{ws:List Value}{dim:Nat}{ls:List (List (List Int))}{Uv:Nat->Prop} (x:DY h c0 ws dim ls Uv) (hf:ai h c) (k:∀b,b<c->(c0<=b\/Uv b)->h'.get b=h.get b):DY h' c0 ws dim ls Uv :=
 ⟨x.len,fun i l hi=>by
  obtain⟨w,h1,h2⟩:=x.row i l hi
  exact⟨w,h1,h2.keep hf fun b hb hq=>k b hb (hq.imp (fun q=>(h2.lt hf q).1) (fun q=>q))⟩,x.inj⟩
theorem DY.step {h h':T ag}{c c0:Nat}{ws:List Value}{dim:Nat}{ls:List (List (List Int))}{Uv:Nat->Prop} (x:DY h c0 ws dim ls Uv) (hf:ai h c) {i:Nat}{w0 w:Value}{l:List (List Int)} (h0:ws[i]?=some w0) (hUv:∀b,Uv b->b<c0) (hw:pS h' c0 w dim l Uv) (hb:∀b,au w=some b->c<=b)
  (k:∀b,b<c->au w0≠some b->(c0<=b\/Uv b)->h'.get b=h.get b):DY h' c0 (ws.set i w) dim (ls.set i l) Uv:=by
 have hil:i<ws.length:=(List.getElem?_eq_some_iff.1 h0).1
 have hil2:i<ls.length:=by rw[<- x.len];exact hil
 have hold:∀j w1,ws[j]?=some w1->∀b,au w1=some b->b<c:=fun j w1 hj b hb1=>by
  have h2:=(List.getElem?_eq_some_iff.1 hj).1
  rw[x.len] at h2
  obtain⟨w2,h3,h4⟩:=x.row j ls[j] (List.getElem?_eq_getElem h2)
  rw[hj] at h3;cases h3
  exact(h4.lt hf hb1).2
 refine⟨by rw[List.length_set,List.length_set];exact x.len,fun j l1 hj=>?_,fun j j' w1 w1' b e1 e2 b1 b2=>?_⟩
 ·rw[List.getElem?_set] at hj ⊢
  by_cases hij:i=j
  ·subst hij
   rw[if_pos rfl] at hj ⊢
   rw[if_pos (by rw[<- x.len];exact hil)] at hj
   cases hj
   rw[if_pos hil]
   exact⟨w,rfl,hw⟩
  ·rw[if_neg hij] at hj ⊢
   obtain⟨w1,h1,h2⟩:=x.row j l1 hj
   refine⟨w1,h1,h2.keep hf fun b hb hq=>k b hb (fun q=>?_) (hq.imp (fun q=>(h2.lt hf q).1) (fun q=>q))⟩
   rcases hq with hq|hq
   ·exact hij (x.inj i j w0 w1 b h0 h1 q hq)
   ·have h3:=hUv b hq
    obtain⟨w2,h4,h5⟩:=x.row i ls[i] (List.getElem?_eq_getElem hil2)
    rw[h0] at h4;cases h4
    have:=(h5.lt hf q).1
    omega
 ·rw[List.getElem?_set] at e1 e2
  by_cases hij:i=j
  ·by_cases hij':i=j'
   ·omega
   ·rw[if_neg hij'] at e2
    rw[if_pos hij,if_pos hil] at e1
    cases e1
    have h1:=hb b b1
    have h2:=hold j' w1' e2 b b2
    omega
  ·rw[if_neg hij] at e1
   by_cases hij':i=j'
   ·rw[if_pos hij',if_pos hil] at e2
    cases e2
    have h1:=hb b b2
    have h2:=hold j w1 e1 b b1
    omega
   ·rw[if_neg hij'] at e2
    exact x.inj j j' w1 w1' b e1 e2 b1 b2
theorem dY.setAt {h h':T ag}{dim k:Nat}{mid:List (List Int)}{zs:List Int}{U U':Nat->Prop}{vals:List Value}{a:Option Addr} (x:dY h dim mid U vals) (i:Nat) (hk:∀(a':Option Addr) (k':Nat) (ys:List Int),bj h (.slice a' dim k') dim 1 (ys.map (Value.int .i32))->ys.length=dim->(∀b',au (.slice a' dim k')=some b'->U b')->bj h' (.slice a' dim k') dim 1 (ys.map (Value.int .i32))) (hU:∀b,U b->U' b) (h1:zs.length=dim) (h2:gc zs) (h3:bj h' (.slice a dim k) dim 1 (zs.map (Value.int .i32))) (h4:∀b',au (.slice a dim k)=some b'->U' b'):dY h' dim (mid.set i zs) U' (vals.set i (.slice a dim k)):=by
 refine⟨by rw[List.length_set,List.length_set,x.1],fun j ys hj=>?_⟩
 rw[List.getElem?_set] at hj ⊢
 by_cases hij:i=j
 ·subst hij
  rw[if_pos rfl] at hj ⊢
  by_cases hl:i<mid.length
  ·rw[if_pos hl] at hj
   cases hj
   rw[if_pos (by rw[x.1];exact hl)]
   exact⟨h1,h2,a,k,rfl,h3,h4⟩
  ·rw[if_neg hl] at hj;cases hj
 ·rw[if_neg hij] at hj ⊢
  obtain⟨g1,g2,a',k',g3,g4,g5⟩:=x.2 j ys hj
  exact⟨g1,g2,a',k',g3,hk a' k' ys g4 g1 g5,fun b' hb'=>hU b' (g5 b' hb')⟩
theorem fe.bound {h:T ag}{c:Nat}{v:Value}{dim:Nat}{mid:List (List Int)}{U:Nat->Prop} (x:fe h v dim mid U) (hf:ai h c) (hd:1<=dim):fe h v dim mid (fun b=>U b/\b<c):=by
 rcases x with x|⟨b,sp,cap,vals,h1,h2,h3,h4,h5,h6⟩
 ·exact .inl x
 ·refine .inr ⟨b,sp,cap,vals,h1,h2,h3,⟨h4,h5.lt hf⟩,h5,h6.1,fun i zs hi=>?_⟩
  obtain⟨g1,g2,a,k,g3,g4,g5⟩:=h6.2 i zs hi
  refine⟨g1,g2,a,k,g3,g4,fun b' hb'=>⟨g5 b' hb',?_⟩⟩
  rcases g4 with⟨q,_⟩|⟨b2,o,sp2,cap2,cs,e,g6,_⟩
  ·omega
  ·rw[e] at hb'
   have:b2=b':=by simpa [au] using hb'
   exact this▸g6.lt hf
theorem fe.vok {h:T ag}{v:Value}{dim:Nat}{mid:List (List Int)}{U:Nat->Prop} (x:fe h v dim mid U):zY dim mid:=by
 intro zs hz
 obtain⟨i,hi⟩:=List.mem_iff_getElem?.1 hz
 rcases x with⟨_,rfl⟩|⟨b,sp,cap,vals,h1,h2,h3,h4,h5,h6⟩
 ·cases hz
 ·obtain⟨g1,g2,_⟩:=h6.2 i zs hi
  exact⟨g1,g2⟩
end Go.Ab.Seat
end
