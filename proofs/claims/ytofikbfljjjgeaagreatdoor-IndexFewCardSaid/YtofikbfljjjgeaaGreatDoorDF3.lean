import Derived.Test.YtofikbfljjjgeaaGreatDoorDM1
import Derived.Test.YtofikbfljjjgeaaGreatDoorDX1
set_option linter.unusedVariables false
set_option linter.unusedSimpArgs false
section
namespace Go.Ab.Seat
open Go.Extern Go.Proofs
set_option maxRecDepth 4000
variable {sm:Nat->Option (List Value->M Value)}
theorem zw {h:T ag}{c b m n:Nat}{rl wl:List Nat}{es:List (Value×Value×Nat)} (hf:ai h c) (hb:ay h b (.cells [.map (some m)])) (hm:ay h m (.map es n)) (hk:keyInts es n=some []) :
  ∃v s',aE (Cs bD) eg 84 [.func (.func 206) #[] ⟨[.pointer (some ⟨b,0,none⟩)]⟩] ⟨h,c,rl,wl⟩ v s'/\(v=.slice none 0 0/\s'=⟨h,c,m::b::rl,wl⟩):=by
 refine⟨_,_,⟨0,?_⟩,rfl,rfl⟩
 have hs:(Cs bD).sm 84=some (aX ce):=rfl
 unfold cr
 rw[hs]
 show aX ce _ _=_
 unfold aX
 have e1:iE ce [.func (.func 206) #[] ⟨[.pointer (some ⟨b,0,none⟩)]⟩]=some (206,true,b,0):=rfl
 rw[e1,ac (aw (a:=(206,true,b,0)) rfl)]
 dsimp only
 rw[ac (bU hb.cel (hb.lt hf))]
 have e2:cu [Value.map (some m)] 0=some (.map (some m)):=rfl
 rw[e2,ac (aw (a:=Value.map (some m)) rfl)]
 unfold f9
 dsimp only
 rw[ac (show ((M.lift (fT (Value.map (some m)))).bind cW) _=some ([],⟨h,c,m::b::rl,wl⟩) from by
  have e3:fT (Value.map (some m))=some (some m):=rfl
  rw[e3,ac (aw (a:=some m) rfl)]
  unfold cW
  dsimp only
  rw[ac (dk hm (hm.lt hf))]
  exact aw hk)]
 rfl
theorem xQ {h:T ag}{c b m n:Nat}{rl wl:List Nat}{es:List (Value×Value×Nat)}{x:Int}{xs:List Int} (hf:ai h c) (hb:ay h b (.cells [.map (some m)])) (hm:ay h m (.map es n)) (hk:keyInts es n=some (x::xs)) (hl:(x::xs).length<=1000000) :
  ∃v s',aE (Cs bD) eg 84 [.func (.func 206) #[] ⟨[.pointer (some ⟨b,0,none⟩)]⟩] ⟨h,c,rl,wl⟩ v s'/\(v=.slice (some ⟨c,0,some 1⟩) (x::xs).length (x::xs).length/\s'=⟨h.set c (some (.cells ((fx (x::xs)).map fun n=>Value.int .i64 n))),c+1,m::b::rl,wl⟩):=by
 refine⟨_,_,⟨0,?_⟩,rfl,rfl⟩
 have hs:(Cs bD).sm 84=some (aX ce):=rfl
 unfold cr
 rw[hs]
 show aX ce _ _=_
 unfold aX
 have e1:iE ce [.func (.func 206) #[] ⟨[.pointer (some ⟨b,0,none⟩)]⟩]=some (206,true,b,0):=rfl
 rw[e1,ac (aw (a:=(206,true,b,0)) rfl)]
 dsimp only
 rw[ac (bU hb.cel (hb.lt hf))]
 have e2:cu [Value.map (some m)] 0=some (.map (some m)):=rfl
 rw[e2,ac (aw (a:=Value.map (some m)) rfl)]
 unfold f9
 dsimp only
 rw[ac (show ((M.lift (fT (Value.map (some m)))).bind cW) _=some (x::xs,⟨h,c,m::b::rl,wl⟩) from by
  have e3:fT (Value.map (some m))=some (some m):=rfl
  rw[e3,ac (aw (a:=some m) rfl)]
  unfold cW
  dsimp only
  rw[ac (dk hm (hm.lt hf))]
  exact aw hk)]
 unfold iN
 dsimp only
 rw[show Nat.ble (len (x::xs)) 1000000=true from by rw[eD];rw[Nat.ble_eq];exact hl]
 dsimp only
 rw[ac (bc hf),fm,eD]
 rfl
theorem CO (H:pV sm) {h:T ag}{c m:Nat}{rl wl:List Nat} (hf:ai h c) :
  ∃v s',aE (Cs sm) eg 147 [.map (some m)] ⟨h,c,rl,wl⟩ v s'/\(v=.func (.func 206) #[] ⟨[.pointer (some ⟨c,0,none⟩)]⟩/\s'=⟨h.set c (some (.cells [.map (some m)])),c+1,rl,wl⟩):=by
 refine Fn.go (H 147 rfl) LN LV Ll rfl rfl ?_
 refine cg ?_
 refine aq ?_
 exact⟨.inr rfl,aG.one rfl ⟨rfl,rfl⟩⟩
end Go.Ab.Seat
end
section
namespace Go.Ab.Seat
open Go.Extern Go.Proofs
set_option maxRecDepth 4000
variable {sm:Nat->Option (List Value->M Value)}
theorem xf {h:T ag}{c b m n:Nat}{rl wl:List Nat}{es:List (Value×Value×Nat)} (hf:ai h c) (hb:ay h b (.cells [.map (some m)])) (hm:ay h m (.map es n)) (hk:keyInts es n=some []) :
  ∃v s',aE (Cs bD) eg 84 [.func (.func 217) #[] ⟨[.pointer (some ⟨b,0,none⟩)]⟩] ⟨h,c,rl,wl⟩ v s'/\(v=.slice none 0 0/\s'=⟨h,c,m::b::rl,wl⟩):=by
 refine⟨_,_,⟨0,?_⟩,rfl,rfl⟩
 have hs:(Cs bD).sm 84=some (aX ce):=rfl
 unfold cr
 rw[hs]
 show aX ce _ _=_
 unfold aX
 have e1:iE ce [.func (.func 217) #[] ⟨[.pointer (some ⟨b,0,none⟩)]⟩]=some (217,true,b,0):=rfl
 rw[e1,ac (aw (a:=(217,true,b,0)) rfl)]
 dsimp only
 rw[ac (bU hb.cel (hb.lt hf))]
 have e2:cu [Value.map (some m)] 0=some (.map (some m)):=rfl
 rw[e2,ac (aw (a:=Value.map (some m)) rfl)]
 unfold f9
 dsimp only
 rw[ac (show ((M.lift (fT (Value.map (some m)))).bind cW) _=some ([],⟨h,c,m::b::rl,wl⟩) from by
  have e3:fT (Value.map (some m))=some (some m):=rfl
  rw[e3,ac (aw (a:=some m) rfl)]
  unfold cW
  dsimp only
  rw[ac (dk hm (hm.lt hf))]
  exact aw hk)]
 rfl
theorem wV {h:T ag}{c b m n:Nat}{rl wl:List Nat}{es:List (Value×Value×Nat)}{x:Int}{xs:List Int} (hf:ai h c) (hb:ay h b (.cells [.map (some m)])) (hm:ay h m (.map es n)) (hk:keyInts es n=some (x::xs)) (hl:(x::xs).length<=1000000) :
  ∃v s',aE (Cs bD) eg 84 [.func (.func 217) #[] ⟨[.pointer (some ⟨b,0,none⟩)]⟩] ⟨h,c,rl,wl⟩ v s'/\(v=.slice (some ⟨c,0,some 1⟩) (x::xs).length (x::xs).length/\s'=⟨h.set c (some (.cells ((fx (x::xs)).map fun n=>Value.int .i64 n))),c+1,m::b::rl,wl⟩):=by
 refine⟨_,_,⟨0,?_⟩,rfl,rfl⟩
 have hs:(Cs bD).sm 84=some (aX ce):=rfl
 unfold cr
 rw[hs]
 show aX ce _ _=_
 unfold aX
 have e1:iE ce [.func (.func 217) #[] ⟨[.pointer (some ⟨b,0,none⟩)]⟩]=some (217,true,b,0):=rfl
 rw[e1,ac (aw (a:=(217,true,b,0)) rfl)]
 dsimp only
 rw[ac (bU hb.cel (hb.lt hf))]
 have e2:cu [Value.map (some m)] 0=some (.map (some m)):=rfl
 rw[e2,ac (aw (a:=Value.map (some m)) rfl)]
 unfold f9
 dsimp only
 rw[ac (show ((M.lift (fT (Value.map (some m)))).bind cW) _=some (x::xs,⟨h,c,m::b::rl,wl⟩) from by
  have e3:fT (Value.map (some m))=some (some m):=rfl
  rw[e3,ac (aw (a:=some m) rfl)]
  unfold cW
  dsimp only
  rw[ac (dk hm (hm.lt hf))]
  exact aw hk)]
 unfold iN
 dsimp only
 rw[show Nat.ble (len (x::xs)) 1000000=true from by rw[eD];rw[Nat.ble_eq];exact hl]
 dsimp only
 rw[ac (bc hf),fm,eD]
 rfl
theorem At (H:pV sm) {h:T ag}{c m:Nat}{rl wl:List Nat} (hf:ai h c) :
  ∃v s',aE (Cs sm) eg 178 [.map (some m)] ⟨h,c,rl,wl⟩ v s'/\(v=.func (.func 217) #[] ⟨[.pointer (some ⟨c,0,none⟩)]⟩/\s'=⟨h.set c (some (.cells [.map (some m)])),c+1,rl,wl⟩):=by
 refine Fn.go (H 178 rfl) LI LF K5 rfl rfl ?_
 refine cg ?_
 refine aq ?_
 exact⟨.inr rfl,aG.one rfl ⟨rfl,rfl⟩⟩
end Go.Ab.Seat
end
section
namespace Go.Ab.Seat
open Go.Extern Go.Proofs
set_option maxRecDepth 4000
abbrev IR (id:Int) (zs:List Int) (k:Int):Rc:=⟨id,zs.map (Value.int .i32),.empty,k,false⟩
def jC (mid:List (List Int)) (zs:List Int):Int:=max (eN mid zs) 0
def GD (h:T ag) (p m:Nat) (U:Nat->Prop) (r:Rc) (v:Value):Prop:=∃w,v=.agg ⟨[w,.int .i64 r.seq]⟩/\kc h 0 w r.xs.length r.xs/\∀b,au w=some b->U b/\b≠p/\b≠m
def zp (h:T ag) (p m:Nat) (U:Nat->Prop) (o:Option Rc) (w:Option Value):Prop:=(o=none/\w=none)\/∃r v,o=some r/\w=some v/\GD h p m U r v
structure mq (h:T ag) (p m:Nat) (mv:Value) (mt:Int) (dim:Nat) (mid:List (List Int)) (M:List Rc) (U:Nat->Prop):Prop where
 ptr:ay h p (.cells [.int .i64 mt,mv,.map (some m)])
 mids:fe h mv dim mid (fun b=>U b/\b≠p/\b≠m)
 ex:∃es n,ay h m (.map es n)/\(∃ids,dx es n ids)/\∀x,zp h p m U (aK x M) (dU x es)
 pU:U p
 mU:U m
 ne:p≠m
 rises:cE M
 ok:∀r∈M,∃zs:List Int,r=IR r.id zs (jC mid zs)/\zs.length=dim/\gc zs
theorem GD.keep {h h':T ag}{p m c:Nat}{U U':Nat->Prop}{r:Rc}{v:Value} (x:GD h p m U r v) (hf:ai h c) (hU:∀b,U b->U' b) (k:∀b,U b->b<c->b≠p->b≠m->h'.get b=h.get b):GD h' p m U' r v:=by
 obtain⟨w,e,x1,x2⟩:=x
 exact⟨w,e,x1.keep fun b hb=>k b (x2 b hb).1 ((x1.blk hb).2.lt hf) (x2 b hb).2.1 (x2 b hb).2.2,fun b hb=>⟨hU b (x2 b hb).1,(x2 b hb).2⟩⟩
theorem zp.keep {h h':T ag}{p m c:Nat}{U U':Nat->Prop}{o:Option Rc}{w:Option Value} (x:zp h p m U o w) (hf:ai h c) (hU:∀b,U b->U' b) (k:∀b,U b->b<c->b≠p->b≠m->h'.get b=h.get b):zp h' p m U' o w:=by
 rcases x with x|⟨r,v,h1,h2,h3⟩
 ·exact .inl x
 ·exact .inr ⟨r,v,h1,h2,h3.keep hf hU k⟩
theorem mq.keep {h h':T ag}{c p m dim:Nat}{mv:Value}{mt:Int}{mid:List (List Int)}{M:List Rc}{U:Nat->Prop} (q:mq h p m mv mt dim mid M U) (hf:ai h c) (k:∀b,U b->b<c->h'.get b=h.get b):mq h' p m mv mt dim mid M U:=by
 obtain⟨es,n,h1,h2,h3⟩:=q.ex
 exact⟨(k p q.pU (q.ptr.lt hf)).trans q.ptr,q.mids.keep hf (fun _ q=>q) (fun b hb hc _=>k b hb.1 hc),⟨es,n,(k m q.mU (h1.lt hf)).trans h1,h2,fun x=>(h3 x).keep hf (fun _ q=>q) fun b hb hc _ _=>k b hb hc⟩,q.pU,q.mU,q.ne,q.rises,q.ok⟩
theorem mq.lt {h:T ag}{c p m dim:Nat}{mv:Value}{mt:Int}{mid:List (List Int)}{M:List Rc}{U:Nat->Prop} (q:mq h p m mv mt dim mid M U) (hf:ai h c):p<c/\m<c:=by
 obtain⟨es,n,h1,h2,h3⟩:=q.ex
 exact⟨q.ptr.lt hf,h1.lt hf⟩
theorem mq.hm {h:T ag}{p m dim:Nat}{mv:Value}{mt:Int}{mid:List (List Int)}{M:List Rc}{U:Nat->Prop} (q:mq h p m mv mt dim mid M U):∃es n,ay h m (.map es n):=by
 obtain⟨es,n,h1,_⟩:=q.ex
 exact⟨es,n,h1⟩
theorem mq.ids {h:T ag}{p m:Nat}{U:Nat->Prop}{M:List Rc}{n:Nat}{es:List (Value×Value×Nat)}{ids:List Int} (hk:dx es n ids) (hr:cE M) (hv:∀x,zp h p m U (aK x M) (dU x es)):fx ids=M.map Rc.id:=by
 refine im (jd hk.nodup) hr.ids fun x=>?_
 rw[(dy ids).mem_iff]
 constructor
 ·intro hx
  rcases hv x with⟨_,h4⟩|⟨r,v,h4,_,_⟩
  ·exact absurd hx ((bo hk.keys).1 (dh.1 h4))
  ·obtain⟨h5,h6⟩:=cF h4
   exact List.mem_map.2 ⟨r,h5,h6⟩
 ·intro hx
  obtain⟨r,h5,rfl⟩:=List.mem_map.1 hx
  refine Classical.byContradiction fun hn=>?_
  rcases hv r.id with⟨h4,_⟩|⟨r',v,_,h4,_⟩
  ·exact absurd rfl (fk.1 h4 r h5)
  ·rw[dh.2 ((bo hk.keys).2 hn)] at h4
   cases h4
theorem Fo {h:T ag}{c:Nat}{rl wl:List Nat} (hf:ai h c) {mt:Int} (hmt:mt=1\/mt=2) {v:Value}{dim:Nat}{mid:List (List Int)}{U:Nat->Prop} (hm:fe h v dim mid U) (hn:mid.length<=16) (hd:dim<=1000) (hd1:1<=dim) (R:Nat->Prop) (hUR:∀b,U b->R b) :
  ∃r s',aE (Cs bD) eg 125 [.int .i64 mt,v] ⟨h,c,rl,wl⟩ r s'/\(∃p m mv,r=.pointer (some ⟨p,0,none⟩)/\mq s'.h p m mv mt dim mid [] (fun b=>c<=b/\b<s'.c))/\bA ⟨h,c,rl,wl⟩ s' R (fun _=>False):=by
 obtain⟨oa,cap,rfl⟩:=hm.val
 refine Fn.go (aU 125 rfl) JM LJ I7 rfl rfl ?_
 refine cg ?_
 refine aq ?_
 refine ax.call rfl rfl (iU aU aO mt hmt) ?_
 rintro v1 h1 c1 r1 w1 ⟨rfl,e1⟩
 cases e1
 refine aq ?_
 refine ax.call rfl rfl (yK aO hm (by omega) hd hd1 R hUR) ?_
 rintro v1 h1 c1 r1 w1 ⟨hG,hext⟩
 have kp:=Kp.ext (W:=fun _=>False) (h:=h) (c:=c) bW hext (by omega) (fun _ _ q=>q)
 have lr:=Lg.extR (R:=R) (c:=c) az hext (fun _ _ q=>q)
 have lw:=Lg.extW (W:=fun _=>False) (c:=c) az hext (fun _ _ q=>q)
 have fr1:=hext.fresh
 have le1:=hext.c
 simp only at le1 fr1 hG
 obtain⟨oa1,cap1,rfl⟩:=hG.mrow.val
 refine aq ?_
 refine⟨.inr rfl,aG.one rfl ⟨⟨c1+1,c1,.slice oa1 mid.length cap1,rfl,?_⟩,?_⟩⟩
 ·refine⟨ay.same,?_,⟨[],0,ay.other (by omega) ay.same,⟨[],.nil 0⟩,fun x=>.inl ⟨rfl,rfl⟩⟩,⟨by omega,by dsimp only;omega⟩,⟨by omega,by dsimp only;omega⟩,by omega,cE.nil,fun r hr=>by cases hr⟩
  exact hG.mrow.keep fr1 (fun b hb=>⟨⟨hb.1,by dsimp only;omega⟩,by omega,by omega⟩) (fun b hb hc _=>by rw[am (by omega),am (by omega)])
 ·exact bM
end Go.Ab.Seat
end
section
namespace Go.Ab.Seat
open Go.Extern Go.Proofs
set_option maxRecDepth 4000
theorem D4 {h:T ag}{c:Nat}{rl wl:List Nat} (hf:ai h c) {p m dim:Nat}{mv:Value}{mt:Int}{mid:List (List Int)}{M:List Rc}{U:Nat->Prop} (q:mq h p m mv mt dim mid M U) (hn:mid.length<=12) (id:Int) (hid : -9223372036854775808<=id/\id<=9223372036854775807)
  {a:Option Addr}{cap:Nat}{zs:List Int} (hv:bj h (.slice a dim cap) dim 1 (zs.map (Value.int .i32))) (hx:zs.length=dim) (hb:gc zs) (hd:1<=dim) (hd':dim<=1000) (bs:Nat->Prop) (hbs:∀b,au (.slice a dim cap)=some b->bs b) (hbm:¬bs m) :
  ∃r s',aE (Cs bD) eg 69 [.pointer (some ⟨p,0,none⟩),.int .i64 id,.slice a dim cap] ⟨h,c,rl,wl⟩ r s'/\mq s'.h p m mv mt dim mid (cJ (IR id zs (jC mid zs)) M) (fun b=>U b\/c<=b/\b<s'.c)/\bA ⟨h,c,rl,wl⟩ s' (fun b=>U b\/bs b) (fun b=>b=m):=by
 obtain⟨es,n,hm,⟨ids,h2⟩,h3⟩:=q.ex
 have hp:=q.ptr
 obtain⟨lp,lm⟩:=q.lt hf
 have hpU:=q.pU
 have hmU:=q.mU
 obtain⟨oa1,cap1,rfl⟩:=q.mids.val
 refine Fn.go (aU 69 rfl) Ot Pb Na rfl rfl ?_
 refine cg ?_
 refine aq ?_
 refine bN.call rfl rfl (jR aU aO hv (by unfold vV;omega) (fun e=>by omega) bs (fun b o sp n' cap e=>hbs b (by rw[e];rfl))) ?_
 rintro v h1 c1 r1 w1 ⟨hown,hext⟩
 have hq:=hext.quiet (fun _ _ q=>q)
 have kp:=Kp.ext (W:=fun b=>b=m) (h:=h) (c:=c) bW hext (by omega) (fun _ _ q=>q.elim)
 have lr:=Lg.extR (R:=fun b=>U b\/bs b) (c:=c) az hext (fun b _ hb=>.inr hb)
 have lw:=Lg.extW (W:=fun b=>b=m) (c:=c) az hext (fun b _ hb=>hb.elim)
 have fr1:=hext.fresh
 have le1:=hext.c
 simp only at le1 fr1
 have hm1:ay h1 m (.map es n):=hext.hs hm lm (fun q=>q)
 have hp1:=hext.hs hp lp (fun q=>q)
 have hrm:∀b∈r1,b≠m:=fun b hb=>by
  rcases hext.rl b hb with u|u
  ·exact absurd u List.not_mem_nil
  ·exact fun e=>hbm (e▸u.2)
 refine⟨i7,?_⟩
 have hv1:bj h1 (.slice a dim cap) dim 1 (zs.map (Value.int .i32)):=bj.keepF hv hf (fun b hb=>hext.get hb (fun q=>q))
 have hmid1:=q.mids.keep (U':=fun b=>U b/\b≠p/\b≠m) hf (fun _ q=>q) (fun b _ hb _=>hext.get hb (fun q=>q))
 have hap:bt ⟨r1,w1,c,c1⟩ ⟨[p],[],c1,c1⟩:=bt.wr (fun y hy=>(hq y hy).elim) lp
 refine aq ?_
 refine bN.call rfl rfl (oK aO hmid1 hn hd' hv1 hx hb (fun b=>(U b/\b≠m)\/bs b) (fun b u=>.inl ⟨u.1,u.2.2⟩) (fun b hb=>.inr (hbs b hb))) ?_
 rintro v2 h2' c2 r2 w2 ⟨rfl,hext2⟩
 have hq2:=hext2.quiet (fun _ _ q=>q)
 have kp2:=Kp.ext (W:=fun b=>b=m) (h:=h) (c:=c) kp hext2 (by omega) (fun _ _ q=>q.elim)
 have lr2:=Lg.extR (R:=fun b=>U b\/bs b) (c:=c) az hext2 (fun b _ hb=>hb.imp (fun u=>u.1) (fun u=>u))
 have lw2:=Lg.extW (W:=fun b=>b=m) (c:=c) az hext2 (fun b _ hb=>hb.elim)
 have fr2:=hext2.fresh
 have le2:=hext2.c
 simp only at le2 fr2
 have hm2:ay h2' m (.map es n):=hext2.hs hm1 (by omega) (fun q=>q)
 have hp2:=hext2.hs hp1 (by omega) (fun q=>q)
 have hown2:=hown.keep (h':=h2') (fun b hb=>hext2.get ((hown.blk hb).2.lt fr1) (fun q=>q))
 have hrm2:∀b∈r2,b≠m:=fun b hb=>by
  rcases hext2.rl b hb with u|u
  ·exact absurd u List.not_mem_nil
  ·exact fun e=>u.2.elim (fun u=>u.2 e) (fun u=>hbm (e▸u))
 refine⟨i7,?_⟩
 obtain⟨va,vk,rfl⟩:=hown2.val
 refine aq ?_
 refine bN.op (s1:=⟨h2'.set m (some (.map (eH .i64 id (.agg ⟨[.slice va dim vk,.int .i64 (jC mid zs)]⟩) n es).1 (eH .i64 id (.agg ⟨[.slice va dim vk,.int .i64 (jC mid zs)]⟩) n es).2)),c2,[m],[m]⟩) rfl (ef (pk rfl) rfl rfl rfl hm2 (hm2.lt fr2) h2.ks) ?_ ?_
 ·exact i7
 dsimp only[put]
 refine aq ?_
 refine⟨.inl rfl,aG.nil ⟨?_,?_⟩⟩
 ·refine⟨ay.other (fun e=>q.ne e) hp2,hmid1.keep fr1 (fun b hb=>⟨.inl hb.1,hb.2⟩) (fun b hb hc _=>(am hb.2.2).trans (hext2.get hc (fun q=>q))),⟨_,_,ay.same,⟨_,h2.put (by unfold rq;rw[decide_eq_true hid.1,decide_eq_true hid.2];rfl) _⟩,fun x=>?_⟩,.inl hpU,.inl hmU,q.ne,q.rises.put _,fun r hr=>?_⟩
  ·rw[ek,l8 h2]
   by_cases hxi:id=x
   ·rw[if_pos hxi,if_pos hxi.symm]
    refine .inr ⟨_,_,rfl,rfl,_,rfl,?_,fun b hb=>?_⟩
    ·show kc _ 0 _ (zs.map (Value.int .i32)).length _
     rw[List.length_map,hx]
     exact(hown2.low (Nat.zero_le _)).keep fun b hb=>am (by have:=(hown2.blk hb).1;omega)
    ·obtain⟨u1,u2⟩:=hown2.blk hb
     have:=u2.lt fr2
     exact⟨.inr ⟨u1,this⟩,by omega,by omega⟩
   ·rw[if_neg hxi,if_neg fun e=>hxi e.symm]
    exact(h3 x).keep hf (fun b hb=>.inl hb) fun b _ hc _ hm=>(am hm).trans (kp2 b hc hm)
  ·rcases dQ hr with rfl|hr
   ·exact⟨zs,rfl,hx,hb⟩
   ·exact q.ok r hr
 ·exact bM
theorem DB {h:T ag}{c:Nat}{rl wl:List Nat} (hf:ai h c) {p m dim:Nat}{mv:Value}{mt:Int}{mid:List (List Int)}{M:List Rc}{U:Nat->Prop} (q:mq h p m mv mt dim mid M U) (hn:M.length<=1000) :
  ∃r s',aE (Cs bD) eg 118 [.pointer (some ⟨p,0,none⟩)] ⟨h,c,rl,wl⟩ r s'/\kc s'.h c r M.length ((M.map Rc.id).map (Value.int .i64))/\bA ⟨h,c,rl,wl⟩ s' U (fun _=>False):=by
 obtain⟨es,n,hm,⟨ids,h2⟩,h3⟩:=q.ex
 have hp:=q.ptr
 obtain⟨lp,lm⟩:=q.lt hf
 have hpU:=q.pU
 have hmU:=q.mU
 obtain⟨oa1,cap1,rfl⟩:=q.mids.val
 have hs:=mq.ids h2 q.rises h3
 have hlen:ids.length=M.length:=by
  have:=congrArg List.length hs
  rw[(dy ids).length_eq,List.length_map] at this
  exact this
 have hk:=h2.keyInts
 refine Fn.go (aU 118 rfl) Lr I0 Kt rfl rfl ?_
 refine cg ?_
 refine aq ?_
 refine ax.call rfl rfl (At aU aO) ?_
 rintro v1 h1 c1 r1 w1 ⟨rfl,e1⟩
 cases e1
 cases ids with
 |nil =>
  obtain rfl:M=[]:=by cases M with|nil=>rfl|cons _ _=>simp at hlen
  refine ax.call rfl rfl (xf aO gL gL hk) ?_
  rintro v1 h1 c1 r1 w1 ⟨rfl,e1⟩
  cases e1
  refine aq ?_
  refine⟨.inr rfl,aG.one rfl ⟨.inl ⟨rfl,rfl,rfl⟩,?_⟩⟩
  exact bM
 |cons x0 xs0 =>
  refine ax.call rfl rfl (wV aO gL gL hk (by omega)) ?_
  rintro v1 h1 c1 r1 w1 ⟨rfl,e1⟩
  cases e1
  rw[hs,hlen]
  refine aq ?_
  refine⟨.inr rfl,aG.one rfl ⟨.inr ⟨c+1,_,_,rfl,Nat.le_refl _,by omega,ay.same⟩,?_⟩⟩
  exact bM
end Go.Ab.Seat
end
section
namespace Go.Ab.Seat
open Go.Extern Go.Proofs
set_option maxRecDepth 4000
theorem HI.keep {h h':T ag}{c0:Nat}{w:Value}{l:List Int} (x:HI h c0 w l) (k:∀b,au w=some b->h'.get b=h.get b):HI h' c0 w l:=by
 rcases x with x|⟨b,h1,h2,h3,h4⟩
 ·exact .inl x
 ·exact .inr ⟨b,h1,h2,h3,(k b (by rw[h1];rfl)).trans h4⟩
theorem HI.lt {h:T ag}{c c0:Nat}{w:Value}{l:List Int} (x:HI h c0 w l) (hf:ai h c) {b:Nat} (hb:au w=some b):c0<=b/\b<c:=by
 rcases x with⟨rfl,_⟩|⟨b',rfl,_,h3,h4⟩
 ·cases hb
 ·cases hb;exact⟨h3,h4.lt hf⟩
structure DD (h:T ag) (c0:Nat) (ws:List Value) (ls:List (List Int)):Prop where
 len:ws.length=ls.length
 row:∀(i:Nat) (l:List Int),ls[i]?=some l->∃w,ws[i]?=some w/\HI h c0 w l
 inj:∀(i j:Nat) (w w':Value) (b:Nat),ws[i]?=some w->ws[j]?=some w'->au w=some b->au w'=some b->i=j
theorem DD.keep {h h':T ag}{c c0:Nat}{ws:List Value}{ls:List (List Int)} (x:DD h c0 ws ls) (hf:ai h c) (k:∀b,b<c->c0<=b->h'.get b=h.get b):DD h' c0 ws ls :=
 ⟨x.len,fun i l hi=>by
  obtain⟨w,h1,h2⟩:=x.row i l hi
  exact⟨w,h1,h2.keep fun b hb=>k b (h2.lt hf hb).2 (h2.lt hf hb).1⟩,x.inj⟩
theorem DD.step {h h':T ag}{c c0:Nat}{ws:List Value}{ls:List (List Int)} (x:DD h c0 ws ls) (hf:ai h c) {i:Nat}{w0 w:Value}{l:List Int} (h0:ws[i]?=some w0) (hw:HI h' c0 w l) (hb:∀b,au w=some b->c<=b)
  (k:∀b,b<c->au w0≠some b->c0<=b->h'.get b=h.get b):DD h' c0 (ws.set i w) (ls.set i l):=by
 have hil:i<ws.length:=(List.getElem?_eq_some_iff.1 h0).1
 have hold:∀j w1,ws[j]?=some w1->∀b,au w1=some b->b<c:=fun j w1 hj b hb1=>by
  have h2:=(List.getElem?_eq_some_iff.1 hj).1
  rw[x.len] at h2
  obtain⟨w2,h3,h4⟩:=x.row j ls[j] (List.getElem?_eq_getElem h2)
  rw[hj] at h3;cases h3
  exact(h4.lt hf hb1).2
 refine⟨by rw[List.length_set,List.length_set];exact x.len,fun j l1 hj=>?_,fun j j' w1 w1' b e1 e2 b1 b2=>?_⟩
 ·rw[List.getElem?_set] at hj ⊢
  by_cases hij:i=j
  ·subst hij
   rw[if_pos rfl] at hj ⊢
   rw[if_pos (by rw[<- x.len];exact hil)] at hj
   cases hj
   rw[if_pos hil]
   exact⟨w,rfl,hw⟩
  ·rw[if_neg hij] at hj ⊢
   obtain⟨w1,h1,h2⟩:=x.row j l1 hj
   refine⟨w1,h1,h2.keep fun b hb=>k b (h2.lt hf hb).2 (fun q=>?_) (h2.lt hf hb).1⟩
   exact hij (x.inj i j w0 w1 b h0 h1 q hb)
 ·rw[List.getElem?_set] at e1 e2
  by_cases hij:i=j
  ·by_cases hij':i=j'
   ·omega
   ·rw[if_neg hij'] at e2
    rw[if_pos hij,if_pos hil] at e1
    cases e1
    have h1:=hb b b1
    have h2:=hold j' w1' e2 b b2
    omega
  ·rw[if_neg hij] at e1
   by_cases hij':i=j'
   ·rw[if_pos hij',if_pos hil] at e2
    cases e2
    have h1:=hb b b2
    have h2:=hold j w1 e1 b b1
    omega
   ·rw[if_neg hij'] at e2
    exact x.inj j j' w1 w1' b e1 e2 b1 b2
theorem Hm {ws:List Value}{i:Nat}{w:Value} (hi:i<ws.length) (ha:atom w=true):bw [w] ws (0+i*1)=some (ws.set i w):=by
 rw[cz _ _ _ (by show _+1<=_;omega) (all_cons ha a7),List.set_eq_take_append_cons_drop,if_pos hi,Nat.zero_add,Nat.mul_one,List.append_assoc]
 rfl
end Go.Ab.Seat
end
section
namespace Go.Ab.Seat
open Go.Extern Go.Proofs
theorem BA (x:Ht):∀(p:List Ht) (k:Nat),iH x (p.take k)=min (iH x p) k
 | [],k=>by simp [iH]
 |y::p,0=>by simp [iH]
 |y::p,k+1=>by
  have h:=BA x p k
  unfold iH at h ⊢
  rw[List.take_succ_cons,List.takeWhile_cons,List.takeWhile_cons]
  cases de y x
  ·simp
  ·simp only[if_true,List.length_cons];omega
theorem Fr {α:Type} (p:List α) (x:α) {i k:Nat} (hi:i<=p.length) (hk:i<k):((p.take k).take i++x::(p.take k).drop i).take k=(p.take i++x::p.drop i).take k:=by
 have e1:(p.take k).take i=p.take i:=by rw[List.take_take,Nat.min_eq_left (by omega)]
 rw[e1,List.drop_take]
 obtain⟨j,rfl⟩:∃j,k=i+j+1:=⟨k - i - 1,by omega⟩
 have hl:(p.take i).length=i:=by rw[List.length_take];omega
 have e2:((p.drop i).take (j+1)).take j=(p.drop i).take j:=by rw[List.take_take,Nat.min_eq_left (by omega)]
 rw[List.take_append,List.take_append,hl,show i+j+1 - i=j+1 by omega,List.take_succ_cons,List.take_succ_cons,e2]
theorem FA {k:Nat}{p:List Ht}{x:Ht} (hx:∀y∈p,y.id≠x.id):eu k (p.take k) x=(oZ x p).take k:=by
 have h1:(p.take k).any (fun y=>decide (y.id=x.id))=false:=by
  rw[List.any_eq_false]
  intro y hy
  simpa using hx y (List.mem_of_mem_take hy)
 have h2:=xL x p
 unfold eu
 rw[h1,if_neg (by decide),BA]
 by_cases hk:k<=iH x p
 ·rw[if_pos (by omega)]
  unfold oZ
  rw[List.take_append_of_le_length (by rw[List.length_take];omega),List.take_take,Nat.min_eq_left hk]
 ·rw[if_neg (by omega),Nat.min_eq_left (by omega)]
  exact Fr p x h2 (by omega)
theorem iz {k:Nat}{l:List Ht} (hd:(l.map Ht.id).Nodup):∀m,m<=l.length->aQ k (l.take m)=(aQ l.length (l.take m)).take k
 |0,_=>by simp [aQ]
 |m+1,hm=>by
  obtain⟨h1,_⟩:=cO (k:=l.length) hd m (by omega) (by omega)
  have h3:∀y∈aQ l.length (l.take m),y.id≠(l[m]'(by omega)).id:=fun y hy=>wn hd (by omega) y (h1.mem_iff.1 hy)
  have h4:(aQ l.length (l.take m)).length=m:=by rw[h1.length_eq,List.length_take];omega
  rw[eL (by omega),eL (by omega),lU h3 (by omega),iz hd m (by omega),FA h3]
theorem nF:∀ {a b:List Ht},Gi a->Gi b->a.Perm b->a=b
 | [],b,_,_,h=>by rw[List.nil_perm.1 h]
 |x::a,[],_,_,h=>by have:=h.length_eq;simp at this
 |x::a,y::b,h1,h2,h=>by
  obtain⟨p1,p2⟩:=List.pairwise_cons.1 h1
  obtain⟨q1,q2⟩:=List.pairwise_cons.1 h2
  have hxy:x=y:=by
   rcases List.mem_cons.1 (h.mem_iff.1 (List.mem_cons_self ..)) with e|hx
   ·exact e
   ·rcases List.mem_cons.1 (h.mem_iff.2 (List.mem_cons_self ..)) with e|hy
    ·exact e.symm
    ·have h5:=pX (q1 x hx)
     rw[p1 y hy] at h5
     cases h5
  subst hxy
  rw[nF p2 q2 ((List.perm_cons x).1 h)]
theorem zB {k:Nat}{a b:List Ht} (hd:(a.map Ht.id).Nodup) (h:a.Perm b):aQ k a=aQ k b:=by
 have hb:(b.map Ht.id).Nodup:=(h.map Ht.id).nodup_iff.1 hd
 have e1:=iz (k:=k) hd a.length (Nat.le_refl _)
 have e2:=iz (k:=k) hb b.length (Nat.le_refl _)
 obtain⟨p1,p2⟩:=cO (k:=a.length) hd a.length (Nat.le_refl _) (Nat.le_refl _)
 obtain⟨q1,q2⟩:=cO (k:=b.length) hb b.length (Nat.le_refl _) (Nat.le_refl _)
 rw[List.take_length] at e1 e2 p1 p2 q1 q2
 rw[e1,e2,nF p2 q2 ((p1.trans h).trans q1.symm)]
def tT (mid:List (List Int)) (qs:List Int) (i:Nat):Ht:=⟨(i:Int),cX 1 (mid.getD i []) qs⟩
theorem FY {mid:List (List Int)}{qs:List Int}{i:Nat} (hi:i<mid.length):tT mid qs i∈mg qs mid:=List.mem_map.2 ⟨i,List.mem_range.2 hi,rfl⟩
theorem GL {mid:List (List Int)}{qs:List Int}{x:Ht} (h:x∈mg qs mid):∃i,i<mid.length/\x=tT mid qs i:=by
 obtain⟨i,h1,rfl⟩:=List.mem_map.1 h
 exact⟨i,List.mem_range.1 h1,rfl⟩
theorem DP {mid:List (List Int)}{qs:List Int}{j:Nat} (hj:j<mid.length) (h:∀i,i<mid.length->de (tT mid qs i) (tT mid qs j)=false):eN mid qs=(j:Int):=by
 have h0:=nR qs mid
 have hd:=iA qs mid
 obtain⟨p1,p2⟩:=cO (k:=mid.length) hd (mg qs mid).length (Nat.le_refl _) (by omega)
 rw[List.take_length] at p1 p2
 unfold eN pK
 rw[if_neg (by omega)]
 have hl:(aQ mid.length (mg qs mid)).length=mid.length:=by rw[p1.length_eq,h0]
 cases hb:aQ mid.length (mg qs mid) with
 |nil=>rw[hb] at hl;simp at hl;omega
 |cons x l =>
  rw[hb] at p1 p2
  obtain⟨i,hi,rfl⟩:=GL (p1.mem_iff.1 (List.mem_cons_self ..))
  show (i:Int)=j
  rcases List.mem_cons.1 (p1.mem_iff.2 (FY (qs:=qs) hj)) with e|hm
  ·have:=congrArg Ht.id e
   exact this.symm
  ·have h1:=(List.pairwise_cons.1 p2).1 _ hm
   rw[h i hi] at h1
   cases h1
def mc (mid:List (List Int)) (qs:List Int) (i:Nat) (z:Int):Prop:=(i=0/\z = -1)\/∃j:Nat,z=(j:Int)/\j<i/\∀i',i'<i->de (tT mid qs i') (tT mid qs j)=false
theorem mc.end {mid:List (List Int)}{qs:List Int}{z:Int} (h:mc mid qs mid.length z):eN mid qs=z:=by
 rcases h with⟨h1,rfl⟩|⟨j,rfl,h2,h3⟩
 ·unfold eN;rw[if_pos h1]
 ·exact DP h2 h3
theorem mc.take {mid:List (List Int)}{qs:List Int}{i:Nat}:mc mid qs (i+1) (i:Int)↔∀i',i'<i->de (tT mid qs i') (tT mid qs i)=false:=by
 constructor
 ·rintro(⟨h1,_⟩|⟨j,h1,h2,h3⟩) i' hi
  ·cases h1
  ·obtain rfl:j=i:=by omega
   exact h3 i' (by omega)
 ·intro h
  refine .inr ⟨i,rfl,by omega,fun i' hi=>?_⟩
  rcases Nat.lt_or_ge i' i with q|q
  ·exact h i' q
  ·obtain rfl:i'=i:=by omega
   rw[j1];omega
theorem mc.up {mid:List (List Int)}{qs:List Int}{i:Nat}{j:Nat} (h:mc mid qs i (j:Int)):mc mid qs (i+1) (if cX 1 (mid.getD i []) qs<cX 1 (mid.getD j []) qs then(i:Int) else(j:Int)):=by
 rcases h with⟨_,h⟩|⟨j',h1,h2,h3⟩
 ·omega
 obtain rfl:j'=j:=by omega
 split
 ·rename_i q
  rw[mc.take]
  intro i' hi
  have h4:=h3 i' hi
  rw[j1] at h4 ⊢
  unfold tT at h4 ⊢
  dsimp only at h4 ⊢
  omega
 ·rename_i q
  refine .inr ⟨j',rfl,by omega,fun i' hi=>?_⟩
  rcases Nat.lt_or_ge i' i with q2|q2
  ·exact h3 i' q2
  ·obtain rfl:i'=i:=by omega
   rw[j1]
   unfold tT
   dsimp only
   omega
end Go.Ab.Seat
end
section
namespace Go.Ab.Seat
open Go.Extern Go.Proofs
set_option maxRecDepth 4000
structure On where
 id:Int
 vec:Value
 xs:List Value
def On.cells (x:On):List Value:=[.int .i64 x.id,x.vec,.int .i64 0,.slice none 0 0,.slice none 0 0,.slice none 0 0,.slice none 0 0,.slice none 0 0]
def On.rc (x:On):Rc:=⟨x.id,x.xs,.empty,0,false⟩
def Ld (l:List On):List Value:=l.flatMap On.cells
def E2 (h:T ag) (v:Value) (l:List On):Prop:=(v=.slice none 0 0/\l=[])\/∃b,v=.slice (some ⟨b,0,some 8⟩) l.length l.length/\l≠[]/\ay h b (.cells (Ld l))
theorem E2.val {h:T ag}{v:Value}{l:List On} (x:E2 h v l):∃a,v=.slice a l.length l.length:=by
 rcases x with⟨rfl,rfl⟩|⟨b,rfl,_,_⟩
 ·exact⟨_,rfl⟩
 ·exact⟨_,rfl⟩
structure RK where
 kd:Int
 mv:Value
 bl:Value
 bs:Value
def Lc (K:RK) (mt dm:Int) (lv:Value):List Value:=[.int .i64 K.kd,.int .i64 mt,.int .i64 dm,lv,K.mv,K.bl,K.bs]
structure Cv (h:T ag) (p:Nat) (K:RK) (mt dm:Int) (dim:Nat) (M:List Rc) (U:Nat->Prop):Prop where
 ex:∃lv l,ay h p (.cells (Lc K mt dm lv))/\E2 h lv l/\(∀b,au lv=some b->U b/\b≠p)/\(∀x∈l,kc h 0 x.vec x.xs.length x.xs/\∀b,au x.vec=some b->U b/\b≠p/\au lv≠some b)/\l.map On.rc=M
 pU:U p
 rises:cE M
 ok:∀r∈M,∃zs:List Int,r.xs=zs.map (Value.int .i32)/\zs.length=dim/\gc zs
theorem Cv.keep {h h':T ag}{c p dim:Nat}{K:RK}{mt dm:Int}{M:List Rc}{U:Nat->Prop} (q:Cv h p K mt dm dim M U) (hf:ai h c) (k:∀b,U b->b<c->h'.get b=h.get b):Cv h' p K mt dm dim M U:=by
 obtain⟨⟨lv,l,h1,h2,h3,h4,h5⟩,h6,h7,h8⟩:=q
 refine⟨⟨lv,l,(k p h6 (h1.lt hf)).trans h1,?_,h3,fun x hx=>⟨(h4 x hx).1.keep fun b hb=>k b ((h4 x hx).2 b hb).1 (((h4 x hx).1.blk hb).2.lt hf),(h4 x hx).2⟩,h5⟩,h6,h7,h8⟩
 rcases h2 with h2|⟨b,rfl,hne,h2⟩
 ·exact .inl h2
 ·exact .inr ⟨b,rfl,hne,(k b (h3 b rfl).1 (h2.lt hf)).trans h2⟩
theorem Cv.new {h:T ag}{p dim:Nat}{K:RK}{mt dm:Int} (hp:ay h p (.cells (Lc K mt dm (.slice none 0 0)))):Cv h p K mt dm dim [] (fun b=>b=p):=⟨⟨_,[],hp,.inl ⟨rfl,rfl⟩,(fun b hb=>by cases hb),(fun x hx=>by cases hx),rfl⟩,rfl,cE.nil,fun r hr=>by cases hr⟩
end Go.Ab.Seat
end
section
namespace Go.Ab.Seat
open Go.Extern Go.Proofs
set_option maxRecDepth 4000
def HJ (h:T ag) (c0:Nat) (v:Value) (l:List Int):Prop:=(v=.slice none 0 0/\l=[])\/∃b,v=.slice (some ⟨b,0,some 1⟩) l.length l.length/\l≠[]/\c0<=b/\ay h b (.cells (l.map (Value.int .i64)))
theorem HJ.val {h:T ag}{c:Nat}{v:Value}{l:List Int} (x:HJ h c v l):∃oa,v=.slice oa l.length l.length/\bj h v l.length 1 (l.map (Value.int .i64))/\∀b,au v=some b->c<=b:=by
 rcases x with⟨rfl,rfl⟩|⟨b,rfl,_,h1,h2⟩
 ·exact⟨_,rfl,.inl ⟨rfl,rfl,_,_,rfl⟩,fun b hb=>by cases hb⟩
 ·exact⟨_,rfl,.inr ⟨b,0,_,_,_,rfl,h2.cel,aA _ _ (by simp)⟩,fun b hb=>by cases hb;exact h1⟩
theorem HJ.lt {h:T ag}{c c0:Nat}{v:Value}{l:List Int} (x:HJ h c0 v l) (hf:ai h c) {b:Nat} (hb:au v=some b):c0<=b/\b<c:=by
 rcases x with⟨rfl,_⟩|⟨b',rfl,_,h3,h4⟩
 ·cases hb
 ·cases hb;exact⟨h3,h4.lt hf⟩
end Go.Ab.Seat
end
section
namespace Go.Ab.Seat
open Go.Extern Go.Proofs
set_option maxRecDepth 4000
variable {sm:Nat->Option (List Value->M Value)}
theorem Ac {h:T ag}{oa:Option Addr}{n cap k:Nat}{xs:List Value} (hr:bj h (.slice oa n cap) n k xs) (hn:0<n):∃b o sp cs,oa=some ⟨b,o,sp⟩/\gX h b cs/\aP o (n*k) cs=some xs:=by
 rcases hr with⟨rfl,_⟩|⟨b,o,sp,cap',cs,e,hc,hs⟩
 ·omega
 ·cases e
  exact⟨b,o,sp,cs,rfl,hc,hs⟩
abbrev Ik (bx:Nat):Value:=.func (.func 199) ⟨[]⟩ ⟨[.pointer (some ⟨bx,0,none⟩)]⟩
def HZ (oa:Option Addr) (n cap bx:Nat) (z:Int) (j5 j9 j16:Value):L :=
 .cons 0 (.slice oa n cap) (.cons 1 (Ik bx) (.cons 4 (.int .i64 0) (.cons 7 (.int .i64 (n:Int)) (.cons 8 (.int .i64 z) (.cons 5 j5 (.cons 9 j9 (.cons 16 j16 .nil)))))))
set_option maxHeartbeats 4000000 in
theorem Cr (H:pV sm) {h:T ag}{c:Nat}{rl wl:List Nat} (hf:ai h c) {oa:Option Addr}{cap bx:Nat}{l:List Ht}{y:Ht} (hx:bj h (.slice oa l.length cap) l.length 2 (aF l)) (hy:ay h bx (.cells [.int .i64 y.id,.int .i64 y.sc])) (hb:l.length<=100000) (R:Nat->Prop) (hR:∀x,au (.slice oa l.length cap)=some x->R x) (hRy:R bx) :
  ∃r s',aE (Cs sm) eg 226 [.slice oa l.length cap,Ik bx] ⟨h,c,rl,wl⟩ r s'/\(∃z,r=.int .i64 z/\decide (0<=z)=l.any (fun x=>decide (x.id=y.id)))/\bA ⟨h,c,rl,wl⟩ s' R (fun _=>False):=by
 refine Fn.go (H 226 rfl) K4 Jw KC rfl rfl ?_
 refine cg ?_
 have ly:=hy.lt hf
 refine aq ?_
 refine Wx.cutO (fun e s=>∃(j5 j9 j16:Value) (h':T ag) (c':Nat) (rl' wl':List Nat),e=HZ oa l.length cap bx l.length j5 j9 j16/\s=⟨h',c',rl',wl'⟩/\c<=c'/\ai h' c'/\Kp h h' c (fun _=>False)/\Lg c R rl'/\Lg c (fun _=>False) wl'/\l.any (fun x=>decide (x.id=y.id))=false) iY ?_ ?_
 ·refine Wx.loopE (fun k1 e s=>∃(i:Nat) (z:Int) (j5 j9 j16:Value) (h':T ag) (c':Nat) (rl' wl':List Nat),e=HZ oa l.length cap bx z j5 j9 j16/\z=i/\s=⟨h',c',rl',wl'⟩/\c<=c'/\ai h' c'/\Kp h h' c (fun _=>False)/\Lg c R rl'/\Lg c (fun _=>False) wl'/\(∀x∈l.take i,x.id≠y.id)/\i<=l.length/\k1=l.length - i) l.length (HZ oa l.length cap bx 0 top top top) iY ?_ ?_ ?_
  ·unfold HZ
   exact eI
  ·exact⟨0,0,_,_,_,_,_,_,_,rfl,rfl,rfl,Nat.le_refl _,aO,bW,az,az,(fun x hx=>by simp at hx),by omega,rfl⟩
  ·rintro k1 e s ⟨i,z,j5,j9,j16,h',c',rl',wl',rfl,hz,rfl,hcc,hf',hkp,hlr,hlw,hno,hid,rfl⟩
   unfold HZ
   by_cases hi:i<l.length
   ·have hx':=bj.keepF hx hf (fun b hb=>hkp b hb (fun q=>q))
    have hy':ay h' bx (.cells [.int .i64 y.id,.int .i64 y.sc]):=(hkp bx ly (fun q=>q)).trans hy
    obtain⟨b1,o1,sp1,cs1,rfl,hc1,hs1⟩:=Ac hx' (by omega)
    have hR1:=hR b1 rfl
    have l1:=hc1.lt hf'
    have hg:=gZ hs1 (List.getElem?_eq_getElem hi)
    refine aq ?_
    refine Zu (aj (k:=i) ej rfl rfl hz (by omega)) ?_
    refine Zu (cT Cp rfl hc1 (by omega) hg) ?_
    refine ax.callV rfl rfl rfl (E1 H aO l[i] y hy') ?_
    rintro v h1 c1 r1 w1 ⟨rfl,hext⟩
    have kp:=Kp.ext (W:=fun _=>False) (h:=h) (c:=c) hkp hext (by omega) (fun _ _ q=>q)
    have lr:=Lg.extR (R:=R) (c:=c) az hext (fun q _ hq=>by rw[hq];exact hRy)
    have lw:=Lg.extW (W:=fun _=>False) (c:=c) az hext (fun _ _ q=>q)
    have fr1:=hext.fresh
    have le1:=hext.c
    simp only at le1 fr1
    by_cases hid2:l[i].id=y.id
    ·rw[decide_eq_true hid2]
     refine aq ?_
     refine⟨.inr rfl,aG.one rfl ⟨⟨_,rfl,?_⟩,?_⟩⟩
     ·rw[decide_eq_true (show (0:Int)<=z by omega)]
      exact(List.any_eq_true.2 ⟨l[i],List.getElem_mem hi,decide_eq_true hid2⟩).symm
     ·exact bM
    ·rw[decide_eq_false hid2]
     refine aq ?_
     refine aC.go (l.length - (i+1)) (HZ _ l.length cap bx (z+1) _ _ _) (by omega) eI ⟨i+1,z+1,_,_,_,_,_,_,_,rfl,by omega,rfl,by omega,fr1,kp,lr,lw,?_,by omega,rfl⟩
     intro x hx
     rw[List.take_succ_eq_append_getElem hi] at hx
     rcases List.mem_append.1 hx with hx|hx
     ·exact hno x hx
     ·rw[List.mem_singleton.1 hx];exact hid2
   ·refine aq ?_
    obtain rfl:i=l.length:=by omega
    subst hz
    refine di.go (HZ _ l.length cap bx l.length _ _ _) eI ⟨_,_,_,_,_,_,_,rfl,rfl,hcc,hf',hkp,az,az,?_⟩
    rw[List.take_length] at hno
    exact List.any_eq_false.2 fun x hx=>by simpa using hno x hx
 ·rintro e s ⟨j5,j9,j16,h',c',rl',wl',rfl,rfl,hcc,hf',hkp,hlr,hlw,hno⟩
  unfold HZ
  refine aq ?_
  refine⟨.inr rfl,aG.one rfl ⟨⟨_,rfl,by rw[hno];rfl⟩,?_⟩⟩
  exact bM
theorem tP (H:pV sm) {h:T ag}{c:Nat}{rl wl:List Nat} (hf:ai h c) {oa:Option Addr}{cap bx:Nat}{l:List Ht}{y:Ht} (hx:bj h (.slice oa l.length cap) l.length 2 (aF l)) (hy:ay h bx (.cells [.int .i64 y.id,.int .i64 y.sc])) (hb:l.length<=100000) (R:Nat->Prop) (hR:∀x,au (.slice oa l.length cap)=some x->R x) (hRy:R bx) :
  ∃r s',aE (Cs sm) eg 198 [.slice oa l.length cap,Ik bx] ⟨h,c,rl,wl⟩ r s'/\(r=.bool (l.any (fun x=>decide (x.id=y.id))))/\bA ⟨h,c,rl,wl⟩ s' R (fun _=>False):=by
 refine Fn.go (H 198 rfl) KP Mb KE rfl rfl ?_
 refine cg ?_
 refine aq ?_
 refine ax.call rfl rfl (Cr H aO hx hy hb R hR hRy) ?_
 rintro v h1 c1 r1 w1 ⟨⟨z,rfl,hz⟩,hext⟩
 have kp:=Kp.ext (W:=fun _=>False) (h:=h) (c:=c) bW hext (by omega) (fun _ _ q=>q)
 have lr:=Lg.extR (R:=R) (c:=c) az hext (fun _ _ hq=>hq)
 have lw:=Lg.extW (W:=fun _=>False) (c:=c) az hext (fun _ _ q=>q)
 have fr1:=hext.fresh
 have le1:=hext.c
 simp only at le1 fr1
 refine Zu (rY rfl rfl) ?_
 refine aq ?_
 refine⟨.inr rfl,aG.one rfl ⟨?_,?_⟩⟩
 ·rw[<- hz];rfl
 ·exact bM
end Go.Ab.Seat
end
