import Derived.Test.YtofikbfljjjgeaaGreatDoorDJI
import Derived.Test.YtofikbfljjjgeaaGreatDoorDF3
set_option linter.unusedVariables false
set_option linter.unusedSimpArgs false
section
namespace Go.Ab.Seat
open Go.Extern Go.Proofs
structure LW (M:List Rc) (L:Lk):Prop where
 up:∀x l,Up (L x l)
 mem:∀x l y,y∈L x l->∃r,aK y M=some r/\(l:Int)<=r.seq
 sym:∀x l y,y∈L x l->x∈L y l
 irr:∀x l,x∉L x l
structure nC (G:Gr):Prop where
 rises:cE G.M
 lev:∀r∈G.M,0<=r.seq/\r.seq<=4
 lw:LW G.M G.L
 cap:∀x l,(G.L x l).length<=dG l
theorem nC.nil:nC ⟨[],fun _ _=>[]⟩:=⟨cE.nil,(fun r hr=>by cases hr),⟨fun _ _=>List.Pairwise.nil,(fun x l y h=>by cases h),(fun x l y h=>by cases h),fun x l h=>by cases h⟩,fun _ _=>Nat.zero_le _⟩
theorem Up.nodup {l:List Int} (h:Up l):l.Nodup:=h.imp fun h=>by omega
theorem LW.out {M:List Rc}{L:Lk} (w:LW M L) {x:Int} (h:aK x M=none) (l:Nat):L x l=[]:=by
 cases hl:L x l with
 |nil=>rfl
 |cons y ys =>
  obtain⟨r,hr,_⟩:=w.mem y l x (w.sym x l y (by rw[hl];exact List.mem_cons_self ..))
  rw[h] at hr;cases hr
theorem nC.high {G:Gr} (w:nC G) {x y:Int}{l:Nat} (h:y∈G.L x l):l<5:=by
 obtain⟨r,hr,h1⟩:=w.lw.mem x l y h
 have:=(w.lev r (cF hr).1).2
 omega
section
variable {M:List Rc}{L:Lk}{a b x y:Int}{l k:Nat}
theorem Ca:y∈qL l L a b x k↔y∈L x k\/(k=l/\x=a/\y=b):=by
 unfold qL
 by_cases h:x=a/\k=l
 ·rw[h.1,h.2,mz,yq]
  constructor
  ·rintro(e|e)
   ·exact .inr ⟨rfl,rfl,e⟩
   ·exact .inl e
  ·rintro(e|⟨_,_,e⟩)
   ·exact .inr e
   ·exact .inl e
 ·rw[kw h]
  exact⟨.inl,fun e=>e.elim (fun e=>e) fun e=>absurd ⟨e.2.1,e.1⟩ h⟩
theorem B8:y∈qM l L a b x k↔y∈L x k/\¬(k=l/\x=a/\y=b):=by
 unfold qM
 by_cases h:x=a/\k=l
 ·rw[h.1,h.2,mz,tv]
  exact⟨fun e=>⟨e.1,fun q=>e.2 q.2.2⟩,fun e=>⟨e.1,fun q=>e.2 ⟨rfl,rfl,q⟩⟩⟩
 ·rw[kw h]
  exact⟨fun e=>⟨e,fun q=>h ⟨q.2.1,q.1⟩⟩,fun e=>e.1⟩
theorem gG:y∈eJ l L a b x k↔y∈L x k\/(k=l/\((x=a/\y=b)\/(x=b/\y=a))):=by
 unfold eJ
 rw[Ca,Ca]
 constructor
 ·rintro((e|e)|e)
  ·exact .inl e
  ·exact .inr ⟨e.1,.inl e.2⟩
  ·exact .inr ⟨e.1,.inr e.2⟩
 ·rintro(e|⟨e,f|f⟩)
  ·exact .inl (.inl e)
  ·exact .inl (.inr ⟨e,f⟩)
  ·exact .inr ⟨e,f⟩
theorem pj:y∈f0 l L a b x k↔y∈L x k/\¬(k=l/\((x=a/\y=b)\/(x=b/\y=a))):=by
 unfold f0
 rw[B8,B8]
 constructor
 ·rintro⟨⟨e,f⟩,g⟩
  exact⟨e,fun q=>q.2.elim (fun r=>f ⟨q.1,r⟩) (fun r=>g ⟨q.1,r⟩)⟩
 ·rintro⟨e,f⟩
  exact⟨⟨e,fun q=>f ⟨q.1,.inl q.2⟩⟩,fun q=>f ⟨q.1,.inr q.2⟩⟩
theorem wc {xs:List Int} (h:∀x l,Up (L x l)) (hx:Up xs) (u:Int) (l:Nat) (x:Int) (k:Nat):Up (oT L u l xs x k):=by
 by_cases e:x=u/\k=l
 ·rw[e.1,e.2,mz];exact hx
 ·rw[kw e];exact h x k
theorem oH (h:∀x l,Up (L x l)) (x:Int) (k:Nat):Up (eJ l L a b x k):=by
 unfold eJ qL
 have h1:=wc h (vW (v:=b) (h a l)) a l
 exact wc h1 (vW (h1 b l)) b l x k
theorem GR (h:∀x l,Up (L x l)) (x:Int) (k:Nat):Up (f0 l L a b x k):=by
 unfold f0 qM
 have h1:=wc h (rz (v:=b) (h a l)) a l
 exact wc h1 (rz (h1 b l)) b l x k
theorem LW.link (w:LW M L) (hab:a≠b) (ha:∃r,aK a M=some r/\(l:Int)<=r.seq) (hb:∃r,aK b M=some r/\(l:Int)<=r.seq):LW M (eJ l L a b):=by
 refine⟨oH w.up,fun x k y hy=>?_,fun x k y hy=>?_,fun x k hy=>?_⟩
 ·rcases gG.1 hy with e|⟨rfl,⟨_,rfl⟩|⟨_,rfl⟩⟩
  ·exact w.mem x k y e
  ·exact hb
  ·exact ha
 ·rw[gG] at hy ⊢
  rcases hy with e|⟨e,⟨f,g⟩|⟨f,g⟩⟩
  ·exact .inl (w.sym x k y e)
  ·exact .inr ⟨e,.inr ⟨g,f⟩⟩
  ·exact .inr ⟨e,.inl ⟨g,f⟩⟩
 ·rcases gG.1 hy with e|⟨e,⟨f,g⟩|⟨f,g⟩⟩
  ·exact w.irr x k e
  ·exact hab (f.symm.trans g)
  ·exact hab (g.symm.trans f)
theorem LW.part (w:LW M L):LW M (f0 l L a b):=by
 refine⟨GR w.up,fun x k y hy=>w.mem x k y (pj.1 hy).1,fun x k y hy=>?_,fun x k hy=>w.irr x k (pj.1 hy).1⟩
 rw[pj] at hy ⊢
 exact⟨w.sym x k y hy.1,fun q=>hy.2 ⟨q.1,q.2.elim (fun e=>.inr ⟨e.2,e.1⟩) (fun e=>.inl ⟨e.2,e.1⟩)⟩⟩
theorem fR {p q:List Int} (h:Up p) (k:∀x∈p,x∈q):p.length<=q.length:=ix h.nodup k
theorem jz:∀ {ys:List Int}{L:Lk},y∈ys.foldl (fun L y=>f0 l L a y) L x k↔y∈L x k/\¬(k=l/\((x=a/\y∈ys)\/(y=a/\x∈ys)))
 | [],L=>by simp
 |z::ys,L=>by
  rw[List.foldl_cons,jz (ys:=ys),pj]
  constructor
  ·rintro⟨⟨e,f⟩,g⟩
   refine⟨e,?_⟩
   rintro⟨e1,⟨e2,e3⟩|⟨e2,e3⟩⟩
   ·rcases List.mem_cons.1 e3 with e3|e3
    ·exact f ⟨e1,.inl ⟨e2,e3⟩⟩
    ·exact g ⟨e1,.inl ⟨e2,e3⟩⟩
   ·rcases List.mem_cons.1 e3 with e3|e3
    ·exact f ⟨e1,.inr ⟨e3,e2⟩⟩
    ·exact g ⟨e1,.inr ⟨e2,e3⟩⟩
  ·rintro⟨e,f⟩
   refine⟨⟨e,?_⟩,?_⟩
   ·rintro⟨e1,⟨e2,e3⟩|⟨e2,e3⟩⟩
    ·exact f ⟨e1,.inl ⟨e2,by rw[e3];exact List.mem_cons_self ..⟩⟩
    ·exact f ⟨e1,.inr ⟨e3,by rw[e2];exact List.mem_cons_self ..⟩⟩
   ·rintro⟨e1,⟨e2,e3⟩|⟨e2,e3⟩⟩
    ·exact f ⟨e1,.inl ⟨e2,List.mem_cons_of_mem _ e3⟩⟩
    ·exact f ⟨e1,.inr ⟨e2,List.mem_cons_of_mem _ e3⟩⟩
theorem LW.parts:∀ {ys:List Int}{L:Lk},LW M L->LW M (ys.foldl (fun L y=>f0 l L a y) L)
 | [],_,w=>w
 |z::ys,L,w=>LW.parts (ys:=ys) (L:=f0 l L a z) w.part
end
theorem vU {G:Gr}{id x y:Int}{k:Nat}:∀(n:Nat),y∈jJ G id n x k↔y∈G.L x k/\¬(k<n/\((x=id/\y∈G.L id k)\/(y=id/\x∈G.L id k)))
 |0=>by unfold jJ;simp
 |n+1=>by
  have h:=vU (G:=G) (id:=id) (x:=x) (y:=y) (k:=k) n
  unfold jJ at h ⊢
  rw[List.range_succ,List.foldl_append,List.foldl_cons,List.foldl_nil,jz,h]
  constructor
  ·rintro⟨⟨e,f⟩,g⟩
   refine⟨e,fun q=>?_⟩
   rcases Nat.lt_or_ge k n with h1|h1
   ·exact f ⟨h1,q.2⟩
   ·obtain rfl:k=n:=by omega
    exact g ⟨rfl,q.2⟩
  ·rintro⟨e,f⟩
   exact⟨⟨e,fun q=>f ⟨by omega,q.2⟩⟩,fun q=>f ⟨by omega,by rw[q.1];exact q.1▸q.2⟩⟩
theorem LW.cut {G:Gr}{id:Int} (w:LW G.M G.L):∀n,LW G.M (jJ G id n)
 |0=>w
 |n+1=>by
  have h:=LW.cut (id:=id) w n
  unfold jJ at h ⊢
  rw[List.range_succ,List.foldl_append]
  exact h.parts
theorem Eu {G:Gr}{id x:Int}{k:Nat} (w:nC G):id∉jJ G id 5 x k:=fun h=>by
 obtain⟨h1,h2⟩:=(vU 5).1 h
 exact h2 ⟨w.high h1,.inr ⟨rfl,w.lw.sym x k id h1⟩⟩
theorem GZ {G:Gr}{id:Int} (w:nC G):LW (jI id G.M) (jJ G id 5):=by
 have h:=w.lw.cut (id:=id) 5
 refine⟨h.up,fun x l y hy=>?_,h.sym,h.irr⟩
 have hne:y≠id:=fun e=>Eu w (e▸hy)
 rw[iJ,if_neg hne]
 exact h.mem x l y hy
theorem Hv {G:Gr}{id x:Int}{l:Nat} (w:nC G):(jJ G id 5 x l).length<=dG l :=
 Nat.le_trans (fR ((w.lw.cut 5).up x l) fun y hy=>((vU 5).1 hy).1) (w.cap x l)
structure LC (M:List Rc) (L:Lk):Prop where
 lw:LW M L
 cap:∀x l,(L x l).length<=dG l
section
variable {mt:Int}{M:List Rc}{L:Lk}{l:Nat}{xs:List Int}
theorem LC.link {a b:Int} (w:LC M L) (hab:a≠b) (ha:∃r,aK a M=some r/\(l:Int)<=r.seq) (hb:∃r,aK b M=some r/\(l:Int)<=r.seq) (h1:(L a l).length<dG l) (h2:(L b l).length<dG l):LC M (eJ l L a b):=by
 refine⟨w.lw.link hab ha hb,fun x k=>?_⟩
 by_cases hk:k=l
 ·subst hk
  by_cases hxa:x=a
  ·subst hxa
   refine Nat.le_trans (fR (q:=b::L x k) (oH w.lw.up x k) fun y hy=>?_) (by rw[List.length_cons];omega)
   rcases gG.1 hy with e|⟨_,e|e⟩
   ·exact List.mem_cons_of_mem _ e
   ·rw[e.2];exact List.mem_cons_self ..
   ·exact absurd e.1 hab
  ·by_cases hxb:x=b
   ·subst hxb
    refine Nat.le_trans (fR (q:=a::L x k) (oH w.lw.up x k) fun y hy=>?_) (by rw[List.length_cons];omega)
    rcases gG.1 hy with e|⟨_,e|e⟩
    ·exact List.mem_cons_of_mem _ e
    ·exact absurd e.1 hxa
    ·rw[e.2];exact List.mem_cons_self ..
   ·refine Nat.le_trans (fR (oH w.lw.up x k) fun y hy=>?_) (w.cap x k)
    rcases gG.1 hy with e|⟨_,e|e⟩
    ·exact e
    ·exact absurd e.1 hxa
    ·exact absurd e.1 hxb
 ·refine Nat.le_trans (fR (oH w.lw.up x k) fun y hy=>?_) (w.cap x k)
  rcases gG.1 hy with e|e
  ·exact e
  ·exact absurd e.1 hk
theorem Bq {id x:Int} (h:x∈fw l L xs id):x∈xs/\x≠id/\(L x l).length<dG l:=by
 obtain⟨h1,h2⟩:=List.mem_filter.1 h
 refine⟨h1,fun e=>?_,Classical.byContradiction fun e=>?_⟩
 ·rw[decide_eq_true e] at h2;simp at h2
 ·unfold wW at h2;rw[decide_eq_false e] at h2;simp at h2
theorem LC.mend1 {id:Int} (w:LC M L) (hid:∃r,aK id M=some r/\(l:Int)<=r.seq) (hxs:∀x∈xs,∃r,aK x M=some r/\(l:Int)<=r.seq):LC M (mend1 mt M l xs L id):=by
 unfold Go.Ab.Seat.mend1
 split
 ·rename_i hm
  split
  ·exact w
  ·rename_i y ys hr
   have hy:y∈fw l L xs id:=pt (by rw[hr];exact List.mem_cons_self ..)
   obtain⟨h1,h2,h3⟩:=Bq hy
   exact w.link (Ne.symm h2) hid (hxs y h1) (by unfold wW at hm;simpa using hm) h3
 ·exact w
theorem LC.mend:∀ {ys:List Int}{L:Lk},LC M L->(∀x∈xs,∃r,aK x M=some r/\(l:Int)<=r.seq)->(∀x∈ys,x∈xs)->LC M (ys.foldl (Go.Ab.Seat.mend1 mt M l xs) L)
 | [],_,w,_,_=>w
 |y::ys,L,w,h,hs=>LC.mend (ys:=ys) (L:=Go.Ab.Seat.mend1 mt M l xs L y) (w.mend1 (h y (hs y (List.mem_cons_self ..))) h) h fun x hx=>hs x (List.mem_cons_of_mem _ hx)
theorem LC.mendAll {had:Nat->List Int} (w:LC M L) (h:∀l x,x∈had l->∃r,aK x M=some r/\(l:Int)<=r.seq):∀n,LC M (mendAll mt M had L n)
 |0=>w
 |n+1=>by
  have q:=LC.mendAll w h n
  unfold Go.Ab.Seat.mendAll at q ⊢
  rw[List.range_succ,List.foldl_append]
  exact LC.mend q (h n) fun _ hx=>hx
end
theorem BB {G:Gr}{id:Int} (w:nC G) (l:Nat) (x:Int) (hx:x∈G.L id l):∃r,aK x (jI id G.M)=some r/\(l:Int)<=r.seq:=by
 have hne:x≠id:=fun e=>w.lw.irr id l (e▸hx)
 rw[iJ,if_neg hne]
 exact w.lw.mem id l x hx
theorem nC.del {mt:Int}{G:Gr} (w:nC G) (id:Int):nC (ga mt G id):=by
 unfold ga
 split
 ·exact w
 ·have q:=LC.mendAll (mt:=mt) ⟨GZ (id:=id) w,fun x l=>Hv w⟩ (fun l x hx=>BB w l x hx) 5
  exact⟨w.rises.filter _,fun r hr=>w.lev r (List.mem_filter.1 hr).1,q.lw,q.cap⟩
end Go.Ab.Seat
end
section
namespace Go.Ab.Seat
open Go.Extern Go.Proofs
set_option maxRecDepth 4000
variable {sm:Nat->Option (List Value->M Value)}
theorem xC {h:T ag}{c b m n:Nat}{rl wl:List Nat}{es:List (Value×Value×Nat)} (hf:ai h c) (hb:ay h b (.cells [.map (some m)])) (hm:ay h m (.map es n)) (hk:keyInts es n=some []) :
  ∃v s',aE (Cs bD) eg 84 [.func (.func 154) #[] ⟨[.pointer (some ⟨b,0,none⟩)]⟩] ⟨h,c,rl,wl⟩ v s'/\(v=.slice none 0 0/\s'=⟨h,c,m::b::rl,wl⟩):=by
 refine⟨_,_,⟨0,?_⟩,rfl,rfl⟩
 have hs:(Cs bD).sm 84=some (aX ce):=rfl
 unfold cr
 rw[hs]
 show aX ce _ _=_
 unfold aX
 have e1:iE ce [.func (.func 154) #[] ⟨[.pointer (some ⟨b,0,none⟩)]⟩]=some (154,true,b,0):=rfl
 rw[e1,ac (aw (a:=(154,true,b,0)) rfl)]
 dsimp only
 rw[ac (bU hb.cel (hb.lt hf))]
 have e2:cu [Value.map (some m)] 0=some (.map (some m)):=rfl
 rw[e2,ac (aw (a:=Value.map (some m)) rfl)]
 unfold f9
 dsimp only
 rw[ac (show ((M.lift (fT (Value.map (some m)))).bind cW) _=some ([],⟨h,c,m::b::rl,wl⟩) from by
  have e3:fT (Value.map (some m))=some (some m):=rfl
  rw[e3,ac (aw (a:=some m) rfl)]
  unfold cW
  dsimp only
  rw[ac (dk hm (hm.lt hf))]
  exact aw hk)]
 rfl
theorem xj {h:T ag}{c b m n:Nat}{rl wl:List Nat}{es:List (Value×Value×Nat)}{x:Int}{xs:List Int} (hf:ai h c) (hb:ay h b (.cells [.map (some m)])) (hm:ay h m (.map es n)) (hk:keyInts es n=some (x::xs)) (hl:(x::xs).length<=1000000) :
  ∃v s',aE (Cs bD) eg 84 [.func (.func 154) #[] ⟨[.pointer (some ⟨b,0,none⟩)]⟩] ⟨h,c,rl,wl⟩ v s'/\(v=.slice (some ⟨c,0,some 1⟩) (x::xs).length (x::xs).length/\s'=⟨h.set c (some (.cells ((fx (x::xs)).map fun n=>Value.int .i64 n))),c+1,m::b::rl,wl⟩):=by
 refine⟨_,_,⟨0,?_⟩,rfl,rfl⟩
 have hs:(Cs bD).sm 84=some (aX ce):=rfl
 unfold cr
 rw[hs]
 show aX ce _ _=_
 unfold aX
 have e1:iE ce [.func (.func 154) #[] ⟨[.pointer (some ⟨b,0,none⟩)]⟩]=some (154,true,b,0):=rfl
 rw[e1,ac (aw (a:=(154,true,b,0)) rfl)]
 dsimp only
 rw[ac (bU hb.cel (hb.lt hf))]
 have e2:cu [Value.map (some m)] 0=some (.map (some m)):=rfl
 rw[e2,ac (aw (a:=Value.map (some m)) rfl)]
 unfold f9
 dsimp only
 rw[ac (show ((M.lift (fT (Value.map (some m)))).bind cW) _=some (x::xs,⟨h,c,m::b::rl,wl⟩) from by
  have e3:fT (Value.map (some m))=some (some m):=rfl
  rw[e3,ac (aw (a:=some m) rfl)]
  unfold cW
  dsimp only
  rw[ac (dk hm (hm.lt hf))]
  exact aw hk)]
 unfold iN
 dsimp only
 rw[show Nat.ble (len (x::xs)) 1000000=true from by rw[eD];rw[Nat.ble_eq];exact hl]
 dsimp only
 rw[ac (bc hf),fm,eD]
 rfl
theorem A7 (H:pV sm) {h:T ag}{c m:Nat}{rl wl:List Nat} (hf:ai h c) :
  ∃v s',aE (Cs sm) eg 85 [.map (some m)] ⟨h,c,rl,wl⟩ v s'/\(v=.func (.func 154) #[] ⟨[.pointer (some ⟨c,0,none⟩)]⟩/\s'=⟨h.set c (some (.cells [.map (some m)])),c+1,rl,wl⟩):=by
 refine Fn.go (H 85 rfl) Of NM Nz rfl rfl ?_
 refine cg ?_
 refine aq ?_
 exact⟨.inr rfl,aG.one rfl ⟨rfl,rfl⟩⟩
end Go.Ab.Seat
end
section
namespace Go.Ab.Seat
open Go.Extern Go.Proofs
set_option maxRecDepth 4000
section
variable {h:T ag}{c:Nat}{rl wl:List Nat}{p m dim:Nat}{mt:Int}{G:Gr}{U:Nat->Prop}
theorem jk.ids {ow:Ow} (q:jk h p m mt dim G U ow) {es:List (Value×Value×Nat)}{n:Nat}{ids:List Int} (hk:dx es n ids) (hv:∀x,na h ow U dim G.L (aK x G.M) (dU x es)):fx ids=G.M.map Rc.id:=by
 refine im (jd hk.nodup) q.rises.ids fun x=>?_
 rw[(dy ids).mem_iff]
 constructor
 ·intro hx
  rcases hv x with⟨_,h4⟩|⟨r,v,h4,_,_⟩
  ·exact absurd hx ((bo hk.keys).1 (dh.1 h4))
  ·obtain⟨h5,h6⟩:=cF h4
   exact List.mem_map.2 ⟨r,h5,h6⟩
 ·intro hx
  obtain⟨r,h5,rfl⟩:=List.mem_map.1 hx
  refine Classical.byContradiction fun hn=>?_
  rcases hv r.id with⟨h4,_⟩|⟨r',v,_,h4,_⟩
  ·exact absurd rfl (fk.1 h4 r h5)
  ·rw[dh.2 ((bo hk.keys).2 hn)] at h4
   cases h4
theorem Dd (hf:ai h c) (qm:gw h p m mt dim G U) (hn:G.M.length<=1000) :
  ∃r s',aE (Cs bD) eg 28 [.pointer (some ⟨p,0,none⟩)] ⟨h,c,rl,wl⟩ r s'/\kc s'.h c r G.M.length ((G.M.map Rc.id).map (Value.int .i64))/\bA ⟨h,c,rl,wl⟩ s' U (fun _=>False):=by
 obtain⟨ow,q⟩:=qm
 obtain⟨es,n,hm,⟨ids,h2⟩,h3⟩:=q.ex
 have hp:=q.ptr
 obtain⟨lp,lm⟩:=q.lt hf
 have hpU:=q.pU
 have hmU:=q.mU
 have hs:=q.ids h2 h3
 have hlen:ids.length=G.M.length:=by
  have:=congrArg List.length hs
  rw[(dy ids).length_eq,List.length_map] at this
  exact this
 have hk:=h2.keyInts
 refine Fn.go (aU 28 rfl) O6 MW Mx rfl rfl ?_
 refine cg ?_
 refine aq ?_
 refine ax.call rfl rfl (A7 aU aO) ?_
 rintro v1 h1 c1 r1 w1 ⟨rfl,e1⟩
 cases e1
 cases ids with
 |nil =>
  have hM:G.M=[]:=by cases hGM:G.M with|nil=>rfl|cons _ _=>rw[hGM] at hlen;simp at hlen
  refine ax.call rfl rfl (xC aO gL gL hk) ?_
  rintro v1 h1 c1 r1 w1 ⟨rfl,e1⟩
  cases e1
  refine aq ?_
  refine⟨.inr rfl,aG.one rfl ⟨.inl ⟨rfl,by rw[hM];rfl,by rw[hM];rfl⟩,bM⟩⟩
 |cons x0 xs0 =>
  refine ax.call rfl rfl (xj aO gL gL hk (by omega)) ?_
  rintro v1 h1 c1 r1 w1 ⟨rfl,e1⟩
  cases e1
  rw[hs,hlen]
  refine aq ?_
  refine⟨.inr rfl,aG.one rfl ⟨.inr ⟨c+1,_,_,rfl,Nat.le_refl _,by omega,ay.same⟩,bM⟩⟩
def Jl:List Nat:=[0,2,3,5,7,8,9,10,23]
set_option maxHeartbeats 8000000 in
theorem qu (hf:ai h c) (qm:gw h p m mt dim G U) (hn:G.M.length<=1000) :
  ∃r s',aE (Cs bD) eg 26 [.pointer (some ⟨p,0,none⟩)] ⟨h,c,rl,wl⟩ r s'/\r=.tuple #[.int .i64 (bg G.M).1,.int .i64 (bg G.M).2]/\bA ⟨h,c,rl,wl⟩ s' U (fun _=>False):=by
 refine Fn.go (aU 26 rfl) M3 Pf MD rfl rfl ?_
 refine cg ?_
 refine aq ?_
 refine ax.call rfl rfl (Dd aO qm hn) ?_
 rintro v1 h1 c1 r1 w1 ⟨hids,hext⟩
 have fr1:=hext.fresh
 have le1:=hext.c
 simp only at fr1 le1
 have kp1:=Kp.ext (W:=fun _=>False) (h:=h) (c:=c) bW hext (by omega) (fun b hb q=>q)
 have lr1:=Lg.extR (R:=U) (c:=c) az hext (fun b hb q=>q)
 have lw1:=Lg.extW (W:=fun _=>False) (c:=c) az hext (fun b hb q=>q)
 have q1:=qm.keep hf (fun b _ hb=>kp1 b hb (fun q=>q))
 obtain⟨ow,q⟩:=q1
 have hp:=q.ptr
 obtain⟨lp,lm⟩:=q.lt fr1
 have hpU:=q.pU
 have hmU:=q.mU
 obtain⟨oi,ic,rfl⟩:=hids.val
 have hrow1:=hids.row (by rw[List.length_map,List.length_map])
 refine aq ?_
 refine Wx.loopF (fun k1 e s=>∃(g:Nat->Value) (i:Nat) (z:Int) (rl' wl':List Nat),e=fr g [(0,.pointer (some ⟨p,0,none⟩)),(2,.int .i64 (bg (G.M.take i)).1),(3,.int .i64 (bg (G.M.take i)).2),(7,.slice oi G.M.length ic),(8,.int .i64 (G.M.length:Int)),(9,.int .i64 z)] Jl/\z=i/\s=⟨h1,c1,rl',wl'⟩/\Lg c U rl'/\Lg c (fun _=>False) wl'/\i<=G.M.length/\k1=G.M.length - i) G.M.length Jl [(0,_),(2,.int .i64 0),(3,.int .i64 (-1)),(7,_),(8,_),(9,.int .i64 0)] ⟨_,0,0,_,_,rfl,rfl,rfl,az,az,by omega,rfl⟩ ?_
 rintro k1 e s ⟨g,i,z,rl',wl',rfl,hz,rfl,hlr,hlw,hid,rfl⟩
 (refine Wx.sw (by simp only[Jl,i5,i6,dC,dB,Nat.reduceEqDiff,↓reduceIte];rfl) ?_)
 by_cases hi:i<G.M.length
 rotate_left
 ·refine aq ?_
  obtain rfl:i=G.M.length:=by omega
  rw[List.take_length]
  exact⟨.inr rfl,aG.two rfl rfl ⟨rfl,bM⟩⟩
 have hst:bg (G.M.take (i+1))=if(bg (G.M.take i)).2<G.M[i].seq then(G.M[i].id,G.M[i].seq) else bg (G.M.take i):=eX _ _ hi
 have hr0:aK G.M[i].id G.M=some G.M[i]:=dH q.rises (List.getElem_mem hi) rfl
 obtain⟨es,n,vi,nb,vv,ls,hm,⟨ids,hk⟩,hfit,hfi,hn0,hid0⟩:=q.at hr0
 have hnb:=hn0.at_
 unfold gC at hnb
 have lnb:=hnb.lt fr1
 have unb:=hn0.u
 have hg:((G.M.map Rc.id).map (Value.int .i64))[i*1]?=some (.int .i64 G.M[i].id):=by rw[Nat.mul_one,List.getElem?_map,List.getElem?_map,List.getElem?_eq_getElem hi];rfl
 have hib:=fun b hb=>(hids.blk (b:=b) hb).1
 obtain⟨b1,o1,sp1,cs1,rfl,hc1,hn1⟩:=bp hrow1 (j:=i*1) (by omega) hg
 have hb1:=hib b1 rfl
 have l1:=hc1.lt fr1
 refine aq ?_
 refine Zu (aj (k:=i) ct rfl rfl hz (by omega)) ?_
 refine Zu (aB (dV rfl) rfl hc1 (by omega) hn1) ?_
 refine aq ?_
 refine Zu (bL (pk rfl) (tG rfl) rfl rfl hm (by omega) hk.ks (by rw[hfi])) ?_
 refine aq ?_
 by_cases hlt:(bg (G.M.take i)).2<G.M[i].seq
 ·refine aq ?_
  refine Zd (bL (pk rfl) (tG rfl) rfl rfl hm (by omega) hk.ks (by rw[hfi])) ?_
  refine aq ?_
  rw[if_pos hlt] at hst
  exact aC.goF (G.M.length - (i+1)) Jl [(0,_),(2,_),(3,_),(7,_),(8,_),(9,.int .i64 (z+1))] (by omega) ⟨_,i+1,z+1,_,_,by rw[hst],by omega,rfl,az,az,by omega,rfl⟩
 ·refine aq ?_
  rw[if_neg hlt] at hst
  exact aC.goF (G.M.length - (i+1)) Jl [(0,_),(2,_),(3,_),(7,_),(8,_),(9,.int .i64 (z+1))] (by omega) ⟨_,i+1,z+1,_,_,by rw[hst],by omega,rfl,az,az,by omega,rfl⟩
end
end Go.Ab.Seat
end
