import Derived.Test.YtofikbfljjjgeaaGreatDoorDK6
import Derived.Test.YtofikbfljjjgeaaGreatDoorDF3
set_option linter.unusedVariables false
set_option linter.unusedSimpArgs false
namespace Go.Ab.Seat
open Go.Extern Go.Proofs
structure jF (P:List Int) (st:List Ht×List Int):Prop where
 sub:∀x∈st.1,x.id∈P
 had:∀y∈st.2,y∈st.1.map Ht.id
section
variable {mt:Int}{M:List Rc}{q:List Int}{n:Nat}{st:List Ht×List Int}{P:List Int}
theorem Fu {f:List Ht}{x:Ht} (hnd:(f.map Ht.id).Nodup) (hsub:∀y∈f,y.id∈P) (hx:x.id∈P) (hn:P.length<=n):∀z,z∈(eu n f x).map Ht.id↔z=x.id\/z∈f.map Ht.id:=by
 intro z
 by_cases h:x.id∈f.map Ht.id
 ·have e:eu n f x=f:=by
   unfold eu
   rw[if_pos]
   obtain⟨y,hy,e⟩:=List.mem_map.1 h
   exact List.any_eq_true.2 ⟨y,hy,decide_eq_true e⟩
  rw[e]
  exact⟨.inr,fun q=>q.elim (fun q=>q▸h) id⟩
 ·have hlt:f.length<n:=by
   have:=ix (a:=x.id::f.map Ht.id) (b:=P) (List.nodup_cons.2 ⟨h,hnd⟩) fun y hy=>by
    rcases List.mem_cons.1 hy with rfl|hy
    ·exact hx
    ·obtain⟨w,hw,rfl⟩:=List.mem_map.1 hy
     exact hsub w hw
   rw[List.length_cons,List.length_map] at this
   omega
  rw[lU (fun y hy e=>h (List.mem_map.2 ⟨y,hy,e⟩)) hlt,((jN x f).map Ht.id).mem_iff,List.map_cons,List.mem_cons]
theorem jF.from_ (g:dF mt M q n st) (a:jF P st) (hn:P.length<=n) {y:Int} (hy:y∈P):jF P (gT mt M q n st y)/\∀z,z∈(gT mt M q n st y).1.map Ht.id↔z=y\/z∈st.1.map Ht.id:=by
 have h:=Fu (n:=n) (x:=cK mt M q y) g.nd a.sub hy hn
 refine⟨⟨fun x hx=>?_,fun z hz=>?_⟩,h⟩
 ·rcases iW hx with rfl|hx
  ·exact hy
  ·exact a.sub x hx
 ·refine(h z).2 ?_
  rcases List.mem_cons.1 hz with e|hz
  ·exact .inl e
  ·exact .inr (a.had z hz)
theorem jF.see (g:dF mt M q n st) (a:jF P st) (hn:P.length<=n) {y:Int} (hy:y∈P):jF P (i9 mt M q n st y)/\∀z,z∈(i9 mt M q n st y).1.map Ht.id↔z=y\/z∈st.1.map Ht.id:=by
 unfold i9
 by_cases h:y∈st.2
 ·rw[if_pos h]
  exact⟨a,fun z=>⟨.inr,fun e=>e.elim (fun e=>by rw[e];exact a.had y h) id⟩⟩
 ·rw[if_neg h]
  exact a.from_ g hn hy
theorem jF.fromAll (hM:∀y∈P,∃r,aK y M=some r) (hn:P.length<=n):∀ {l:List Int}{st:List Ht×List Int},dF mt M q n st->jF P st->(∀y∈l,y∈P)->jF P (l.foldl (gT mt M q n) st)/\∀z,z∈(l.foldl (gT mt M q n) st).1.map Ht.id↔z∈l\/z∈st.1.map Ht.id
 | [],st,g,a,_=>⟨a,fun z=>by simp⟩
 |y::l,st,g,a,h=>by
  obtain⟨a1,h1⟩:=a.from_ g hn (h y (List.mem_cons_self ..))
  obtain⟨a2,h2⟩:=jF.fromAll hM hn (l:=l) (g.from_ (hM y (h y (List.mem_cons_self ..)))) a1 fun z hz=>h z (List.mem_cons_of_mem _ hz)
  refine⟨a2,fun z=>?_⟩
  rw[List.foldl_cons,h2,h1,List.mem_cons]
  constructor
  ·rintro(e|e|e)
   ·exact .inl (.inr e)
   ·exact .inl (.inl e)
   ·exact .inr e
  ·rintro((e|e)|e)
   ·exact .inr (.inl e)
   ·exact .inl e
   ·exact .inr (.inr e)
theorem jF.seeAll (hM:∀y∈P,∃r,aK y M=some r) (hn:P.length<=n):∀ {l:List Int}{st:List Ht×List Int},dF mt M q n st->jF P st->(∀y∈l,y∈P)->jF P (l.foldl (i9 mt M q n) st)/\∀z,z∈(l.foldl (i9 mt M q n) st).1.map Ht.id↔z∈l\/z∈st.1.map Ht.id
 | [],st,g,a,_=>⟨a,fun z=>by simp⟩
 |y::l,st,g,a,h=>by
  obtain⟨a1,h1⟩:=a.see g hn (h y (List.mem_cons_self ..))
  obtain⟨a2,h2⟩:=jF.seeAll hM hn (l:=l) (g.see (hM y (h y (List.mem_cons_self ..)))) a1 fun z hz=>h z (List.mem_cons_of_mem _ hz)
  refine⟨a2,fun z=>?_⟩
  rw[List.foldl_cons,h2,h1,List.mem_cons]
  constructor
  ·rintro(e|e|e)
   ·exact .inl (.inr e)
   ·exact .inl (.inl e)
   ·exact .inr e
  ·rintro((e|e)|e)
   ·exact .inr (.inl e)
   ·exact .inl e
   ·exact .inr (.inr e)
end
section
variable {mt:Int}{G:Gr}{q:List Int}{n l:Nat}{P:List Int}
theorem DC (hM:∀y∈P,∃r,aK y G.M=some r) (hn:P.length<=n) (hc:∀x∈P,∀y∈G.L x l,y∈P):∀(k:Nat) {st:LS},jn mt G q n st->jF P (st.f,st.s)->(∀y∈P,y∈st.f.map Ht.id)->(∀y∈P,y∈(gU mt G q l n k st).map Ht.id)/\∀x∈gU mt G q l n k st,x.id∈P:=by
 intro k
 induction k with
 |zero=>intro st g a h;exact⟨h,a.sub⟩
 |succ k ih =>
  intro st g a h
  cases hx:gW st with
  |none=>rw[mK hx];exact⟨h,a.sub⟩
  |some x =>
   rw[iS hx]
   obtain⟨h1,h2⟩:=iQ hx
   have hxP:=a.sub x h1
   obtain⟨a1,h3⟩:=jF.seeAll (P:=P) (n:=n) hM hn (l:=G.L x.id l) g.f a (hc x.id hxP)
   exact ih (g.step hx fun y hy=>hM y (hc x.id hxP y hy)) a1 fun y hy=>(h3 y).2 (.inr (h y hy))
theorem sr (hP:P.Nodup) (hM:∀y∈P,∃r,aK y G.M=some r) (hn:P.length<=n) (hc:∀x∈P,∀y∈G.L x l,y∈P) (hl:∀x∈P,∀y∈P,x≠y->y∈G.L x l) {fs:List Int} (hne:fs≠[]) (hfs:∀y∈fs,y∈P):gI mt G q l fs n=aQ n (P.map (cK mt G.M q)):=by
 have g0:=jn.start (mt:=mt) (G:=G) (q:=q) (n:=n) (l:=fs) fun y hy=>hM y (hfs y hy)
 obtain⟨a0,h0⟩:=jF.fromAll (mt:=mt) (q:=q) (n:=n) (M:=G.M) (P:=P) hM hn (l:=fs) (st:=([],[])) dF.nil ⟨(fun x hx=>by cases hx),(fun x hx=>by cases hx)⟩ hfs
 obtain⟨x0,fs',rfl⟩:=List.exists_cons_of_ne_nil hne
 have hx0:x0∈(me mt G.M q n (x0::fs')).f.map Ht.id:=(h0 x0).2 (.inl (List.mem_cons_self ..))
 have hall:(∀y∈P,y∈(gI mt G q l (x0::fs') n).map Ht.id)/\∀x∈gI mt G q l (x0::fs') n,x.id∈P:=by
  unfold gI
  cases hf:(me mt G.M q n (x0::fs')).f.map Ht.id with
  |nil=>rw[hf] at hx0;cases hx0
  |cons z zs =>
   obtain⟨w,hw,e,_⟩:=yU (st:=me mt G.M q n (x0::fs')) (i:=0) (x:=z) (by rw[hf];rfl) (fun q=>by cases q) (fun y hy=>by cases hy)
   obtain⟨h1,h2⟩:=iQ hw
   have hwP:=a0.sub w h1
   rw[iS hw]
   obtain⟨a1,h3⟩:=jF.seeAll (P:=P) (n:=n) hM hn (l:=G.L w.id l) g0.f a0 (hc w.id hwP)
   refine DC hM hn hc _ (g0.step hw fun y hy=>hM y (hc w.id hwP y hy)) a1 fun y hy=>(h3 y).2 ?_
   by_cases e:w.id=y
   ·exact .inr (e▸List.mem_map_of_mem h1)
   ·exact .inl (hl w.id hwP y hy e)
 obtain⟨s,g⟩:∃s,dF mt G.M q n (gI mt G q l (x0::fs') n,s):=by
  -- links of others do not matter: the look stays in P
  have gen:∀(k:Nat) {st:LS},jn mt G q n st->jF P (st.f,st.s)->∃s,dF mt G.M q n (gU mt G q l n k st,s):=by
   intro k
   induction k with
   |zero=>intro st g a;exact⟨st.s,g.f⟩
   |succ k ih =>
    intro st g a
    cases hx:gW st with
    |none=>rw[mK hx];exact⟨st.s,g.f⟩
    |some x =>
     rw[iS hx]
     obtain⟨h1,h2⟩:=iQ hx
     have hxP:=a.sub x h1
     exact ih (g.step hx fun y hy=>hM y (hc x.id hxP y hy)) (jF.seeAll (P:=P) (n:=n) hM hn (l:=G.L x.id l) g.f a (hc x.id hxP)).1
  exact gen _ g0 a0
 generalize gI mt G q l (x0::fs') n=f at hall g
 have e1:f=(f.map Ht.id).map (cK mt G.M q):=by
  rw[List.map_map]
  conv=>lhs;rw[<- List.map_id f]
  exact List.map_congr_left fun x hx=>g.hit x hx
 have p1:(f.map Ht.id).Perm P:=(List.perm_ext_iff_of_nodup g.nd hP).2 fun a=>⟨fun h=>by
  obtain⟨x,hx,rfl⟩:=List.mem_map.1 h
  exact hall.2 x hx,hall.1 a⟩
 have e2:(P.map (cK mt G.M q)).map Ht.id=P:=by rw[List.map_map];exact List.map_id P
 obtain⟨p2,o2⟩:=cO (k:=n) (l:=P.map (cK mt G.M q)) (by rw[e2];exact hP) (P.map (cK mt G.M q)).length (Nat.le_refl _) (by rw[List.length_map];exact hn)
 rw[List.take_length] at p2 o2
 refine nF g.ord o2 (List.Perm.trans ?_ p2.symm)
 rw[e1]
 exact p1.map _
theorem Ek {fs:List Int} (hn:1<=n) (h:fs≠[]):gI mt G q l fs n≠[]:=by
 have froms:∀(ys:List Int) (st:List Ht×List Int),st.1≠[]->(ys.foldl (gT mt G.M q n) st).1≠[]:=by
  intro ys
  induction ys with
  |nil=>intro st h;exact h
  |cons y ys ih=>intro st h;exact ih _ (q8 hn (.inr trivial))
 have sees:∀(ys:List Int) (st:List Ht×List Int),st.1≠[]->(ys.foldl (i9 mt G.M q n) st).1≠[]:=by
  intro ys
  induction ys with
  |nil=>intro st h;exact h
  |cons y ys ih =>
   intro st h
   refine ih _ ?_
   unfold i9
   split
   ·exact h
   ·exact q8 hn (.inr trivial)
 have main:∀(k:Nat) (st:LS),st.f≠[]->gU mt G q l n k st≠[]:=by
  intro k
  induction k with
  |zero=>intro st h;exact h
  |succ k ih =>
   intro st h
   cases hx:gW st with
   |none=>rw[mK hx];exact h
   |some x=>rw[iS hx];exact ih _ (sees _ _ h)
 obtain⟨x0,fs',rfl⟩:=List.exists_cons_of_ne_nil h
 exact main _ _ (froms fs' _ (show eu n [] (cK mt G.M q x0)≠[] from q8 hn (.inr trivial)))
theorem yB {fs:List Int} (hn:1<=n) (h:fs≠[]):b7 mt G q l fs n≠[]:=fun e=>Ek hn h (List.map_eq_nil_iff.1 e)
theorem yx:∀(u:Nat) {at_:List Int},at_≠[]->fy mt G q l u at_≠[]:=by
 intro u
 induction u with
 |zero=>intro at_ h;exact h
 |succ u ih =>
  intro at_ h
  by_cases hl:l<u+1
  ·rw[i4 hl];exact ih (yB (Nat.le_refl 1) h)
  ·rw[kq (by omega)];exact h
theorem Ct {Q:Int->Prop} (hL:∀x k y,y∈G.L x k->Q y):∀(u:Nat) {at_:List Int},(∀y∈at_,Q y)->∀y∈fy mt G q l u at_,Q y:=by
 intro u
 induction u with
 |zero=>intro at_ h;exact h
 |succ u ih =>
  intro at_ h
  by_cases hl:l<u+1
  ·rw[i4 hl];exact ih (nW h fun x y hy=>hL x _ y hy)
  ·rw[kq (by omega)];exact h
end
def Gx (M:List Rc) (L:Lk):Prop:=∀a∈M,∀b∈M,a.id≠b.id->b.id∈L a.id 0
theorem o8 {M:List Rc} (h:cE M):(M.map Rc.id).Nodup:=h.ids.imp fun q=>Int.ne_of_lt q
theorem F8 {mt:Int}{q:List Int}{M:List Rc} (h:cE M):(M.map Rc.id).map (cK mt M q)=bX mt q M:=by
 unfold bX
 rw[List.map_map]
 refine List.map_congr_left fun r hr=>?_
 show Ht.mk r.id (cX mt q (sQ M r.id))=_
 unfold sQ
 rw[dH h hr rfl]
 rfl
theorem xk {mt:Int}{G:Gr}{q:List Int}{k:Nat} (w:nC G) (hf:Gx G.M G.L) (hn:G.M.length<=max 8 k):mF mt G q k=aQ k (bX mt q G.M):=by
 obtain⟨g1,_⟩:=kK w.lev
 unfold mF
 by_cases h:(bg G.M).2<0
 ·rw[if_pos h,g1 h];rfl
 ·rw[if_neg h]
  obtain⟨r,hr,_⟩:=lx w (by omega)
  have hmem:∀ {y},(∃r,aK y G.M=some r)->y∈G.M.map Rc.id:=fun⟨r,hr⟩=>by
   obtain⟨h1,h2⟩:=cF hr
   exact List.mem_map.2 ⟨r,h1,h2⟩
  rw[sr (P:=G.M.map Rc.id) (o8 w.rises) (fun y hy=>by
   obtain⟨r,h1,rfl⟩:=List.mem_map.1 hy
   exact⟨r,dH w.rises h1 rfl⟩) (by rw[List.length_map];exact hn) (fun x _ y hy=>by
   obtain⟨r,h1,_⟩:=w.lw.mem x 0 y hy
   exact hmem ⟨r,h1⟩) (fun x hx y hy hne=>by
   obtain⟨a,ha,rfl⟩:=List.mem_map.1 hx
   obtain⟨b,hb,rfl⟩:=List.mem_map.1 hy
   exact hf a ha b hb hne) (yx (at_:=[(bg G.M).1]) _ (by simp)) (Ct (Q:=fun y=>y∈G.M.map Rc.id) (fun x k y hy=>by
   obtain⟨r,h1,_⟩:=w.lw.mem x k y hy
   exact hmem ⟨r,h1⟩) _ (fun y hy=>by rw[List.mem_singleton.1 hy];exact hmem ⟨r,hr⟩)),F8 w.rises]
  have hd:((bX mt q G.M).map Ht.id).Nodup:=by
   unfold bX
   rw[List.map_map]
   exact(o8 w.rises)
  have c1:=fun k=>iz (k:=k) hd (bX mt q G.M).length (Nat.le_refl _)
  simp only[List.take_length] at c1
  rw[c1,c1 k,List.take_take]
  congr 1
  omega
theorem wF {mt:Int}{M:List Rc}{l k:Nat} (h:k≠l) {L:Lk}{id x y:Int}{near:List Int}:y∈fK mt M l L id near x k↔y∈L x k:=by
 have prs:∀(zs:List Int) (L:Lk),y∈zs.foldl (eb mt M l) L x k↔y∈L x k:=by
  intro zs
  induction zs with
  |nil=>intro L;exact Iff.rfl
  |cons z zs ih =>
   intro L
   rw[List.foldl_cons,ih]
   unfold eb
   rw[jz]
   exact⟨fun e=>e.1,fun e=>⟨e,fun q=>h q.1⟩⟩
 unfold fK
 rw[prs,fa]
 exact⟨fun e=>e.elim (fun e=>e) fun e=>absurd e.1 h,.inl⟩
theorem C3 {mt:Int}{M:List Rc}{l:Nat}{L:Lk}{id:Int} (h:(L id l).length<=dG l) (hu:(L id l).Nodup):eb mt M l L id=L:=by
 unfold eb
 have:(fM mt M id (L id l)).length<=dG l:=by rw[(vj hu).length_eq];exact h
 rw[List.drop_eq_nil_of_le this]
 rfl
theorem rJ {mt:Int}{M:List Rc}{l:Nat}{L:Lk} (h:∀x,(L x l).length<=dG l) (hu:∀x,(L x l).Nodup):∀zs:List Int,zs.foldl (eb mt M l) L=L
 | []=>rfl
 |z::zs=>by rw[List.foldl_cons,C3 (h z) (hu z)];exact rJ h hu zs
theorem Ds {mt id:Int}{q:List Int}{P:List Int} (hP:P.Nodup) (h4:P.length<=4):∀(l:Nat) {G:Gr}{at_:List Int},(∀r∈G.M,0<=r.seq)->LC G.M G.L->(∃r,aK id G.M=some r/\(l:Int)<=r.seq)->(∀k,k<=l->G.L id k=[])->(∀y∈at_,y≠id/\∃r,aK y G.M=some r/\(l:Int)<=r.seq)->at_≠[]->(∀y,y∈P↔y≠id/\∃r,aK y G.M=some r)->(∀x∈P,∀y∈P,x≠y->y∈G.L x 0)->(∀x∈P,∀y∈P,x≠y->y∈(ng mt id q l G at_).L x 0)/\∀x∈P,x∈(ng mt id q l G at_).L id 0/\id∈(ng mt id q l G at_).L x 0:=by
 intro l
 induction l with
 |zero =>
  intro G at_ hlev w hid h0 hat hne hPm hfull
  have hc:∀x∈P,∀y∈G.L x 0,y∈P:=fun x _ y hy=>(hPm y).2 ⟨(fun e=>by
   have:=w.lw.sym x 0 y hy
   rw[e,h0 0 (Nat.le_refl 0)] at this
   cases this),(w.lw.mem x 0 y hy).imp fun _ h=>h.1⟩
  have hnear:∀y,y∈(b7 mt G q 0 at_ 8).take 4↔y∈P:=by
   have e:b7 mt G q 0 at_ 8=(aQ 8 (P.map (cK mt G.M q))).map Ht.id:=by
    unfold b7
    rw[sr hP (fun y hy=>((hPm y).1 hy).2) (by omega) hc hfull hne fun y hy=>(hPm y).2 ⟨(hat y hy).1,(hat y hy).2.imp fun _ h=>h.1⟩]
   have e2:(P.map (cK mt G.M q)).map Ht.id=P:=by rw[List.map_map];exact List.map_id P
   obtain⟨p2,_⟩:=cO (k:=8) (l:=P.map (cK mt G.M q)) (by rw[e2];exact hP) (P.map (cK mt G.M q)).length (Nat.le_refl _) (by rw[List.length_map];omega)
   rw[List.take_length] at p2
   have p3:=p2.map Ht.id
   rw[e2] at p3
   intro y
   rw[e,List.take_of_length_le (by rw[p3.length_eq];exact h4),p3.mem_iff]
  show (∀x∈P,∀y∈P,x≠y->y∈fK mt G.M 0 G.L id ((b7 mt G q 0 at_ 8).take 4) x 0)/\∀x∈P,x∈fK mt G.M 0 G.L id ((b7 mt G q 0 at_ 8).take 4) id 0/\id∈fK mt G.M 0 G.L id ((b7 mt G q 0 at_ 8).take 4) x 0
  generalize (b7 mt G q 0 at_ 8).take 4=near at hnear
  have w1:LW G.M (near.foldl (fun L y=>eJ 0 L id y) G.L):=LW.links (l:=0) w.lw hid fun y hy=>by
   obtain⟨h1,h2⟩:=(hPm y).1 ((hnear y).1 hy)
   exact⟨h1,h2.imp fun r h=>⟨h,hlev r (cF h).1⟩⟩
  have hlen:∀x,(near.foldl (fun L y=>eJ 0 L id y) G.L x 0).length<=dG 0:=fun x=>by
   have h8:dG 0=8:=rfl
   refine Nat.le_trans (fR (q:=id::P) (w1.up x 0) fun y hy=>?_) (by rw[List.length_cons];omega)
   by_cases e:y=id
   ·rw[e];exact List.mem_cons_self ..
   ·obtain⟨r,h1,_⟩:=w1.mem x 0 y hy
    exact List.mem_cons_of_mem _ ((hPm y).2 ⟨e,r,h1⟩)
  have hj:fK mt G.M 0 G.L id near=near.foldl (fun L y=>eJ 0 L id y) G.L:=by
   unfold fK
   exact rJ hlen (fun x=>(w1.up x 0).nodup) _
  rw[hj]
  refine⟨fun x hx y hy hne=>fa.2 (.inl (hfull x hx y hy hne)),fun x hx=>⟨fa.2 (.inr ⟨rfl,.inl ⟨rfl,(hnear x).2 hx⟩⟩),fa.2 (.inr ⟨rfl,.inr ⟨rfl,(hnear x).2 hx⟩⟩)⟩⟩
 |succ l ih =>
  intro G at_ hlev w hid h0 hat hne hPm hfull
  have hP2:∀y∈b7 mt G q (l+1) at_ 8,y≠id/\∃r,aK y G.M=some r/\((l+1:Nat):Int)<=r.seq:=nW hat fun x y hy=>⟨(fun e=>by
   have:=w.lw.sym x (l+1) y hy
   rw[e,h0 (l+1) (Nat.le_refl _)] at this
   cases this),w.lw.mem x (l+1) y hy⟩
  obtain⟨g1,g2⟩:=uy (mt:=mt) w hid (near:=(b7 mt G q (l+1) at_ 8).take 4) (fun y hy=>hP2 y (List.mem_of_mem_take hy)) (by rw[List.length_take];omega) (h0 (l+1) (Nat.le_refl _))
  have hid':∃r,aK id G.M=some r/\(l:Int)<=r.seq:=by
   obtain⟨r,h1,h2⟩:=hid;exact⟨r,h1,by omega⟩
  refine ih (G:=⟨G.M,fK mt G.M (l+1) G.L id ((b7 mt G q (l+1) at_ 8).take 4)⟩) hlev g1 hid' (fun k hk=>?_) (fun y hy=>?_) (yB (by omega) hne) hPm fun x hx y hy hxy=>(wF (by omega)).2 (hfull x hx y hy hxy)
  ·show fK mt G.M (l+1) G.L id ((b7 mt G q (l+1) at_ 8).take 4) id k=[]
   cases hl:fK mt G.M (l+1) G.L id ((b7 mt G q (l+1) at_ 8).take 4) id k with
   |nil=>rfl
   |cons y ys =>
    have:=g2 id k (by omega) y (by rw[hl];exact List.mem_cons_self ..)
    rw[h0 k (by omega)] at this
    cases this
  ·obtain⟨h1,r,h2,h3⟩:=hP2 y hy
   exact⟨h1,r,h2,by omega⟩
theorem CP {mt:Int}{G:Gr}{id:Int}{zs:List Int}{dw:Int} (w:nC G) (hf:Gx G.M G.L) (hn:aK id G.M=none) (h4:G.M.length<=4):Gx (sx mt G id zs dw).M (sx mt G id zs dw).L:=by
 have hM:=(A0 (mt:=mt) w id zs dw).1
 have hdel:ga mt G id=G:=by unfold ga;rw[hn]
 rw[hdel] at hM
 rw[hM]
 have hlv:=pD dw
 have w2:=y0 w hn zs (lv:=(bR dw:Int)) ⟨by omega,by omega⟩
 unfold sx
 rw[hdel]
 by_cases hu:(bg G.M).2<0
 ·have e0:=(kK w.lev).1 hu
  rw[e0]
  intro a ha b hb hab
  rcases dQ ha with rfl|ha
  ·rcases dQ hb with rfl|hb
   ·exact absurd rfl hab
   ·cases hb
  ·cases ha
 ·rw[if_neg hu]
  obtain⟨r,hr,hrs⟩:=lx w (by omega)
  have hne:(bg G.M).1≠id:=fun e=>by rw[e,hn] at hr;cases hr
  have hout:=w.lw.out hn
  have hid:aK id (cJ (qp id zs (bR dw:Int)) G.M)=some (qp id zs (bR dw:Int)):=by rw[ek];exact if_pos rfl
  have hget:∀y,y≠id->aK y (cJ (qp id zs (bR dw:Int)) G.M)=aK y G.M:=fun y hy=>by
   rw[ek,if_neg fun e=>hy e.symm]
  have hd:=uJ (mt:=mt) (id:=id) (q:=zs) (l:=bR dw) (G:=⟨cJ (qp id zs (bR dw:Int)) G.M,G.L⟩) w2.lw hout (bg G.M).2.toNat (at_:=[(bg G.M).1]) fun y hy=>by
   rw[List.mem_singleton.1 hy]
   refine⟨hne,r,?_,by omega⟩
   show aK _ (cJ (qp id zs (bR dw:Int)) G.M)=some r
   rw[hget _ hne]
   exact hr
  obtain⟨f1,f2⟩:=Ds (mt:=mt) (id:=id) (q:=zs) (P:=G.M.map Rc.id) (o8 w.rises) (by rw[List.length_map];exact h4) (min (bR dw) (bg G.M).2.toNat) (G:=⟨cJ (qp id zs (bR dw:Int)) G.M,G.L⟩) (fun r hr=>(w2.lev r hr).1) ⟨w2.lw,w2.cap⟩ ⟨_,hid,by show ((min (bR dw) (bg G.M).2.toNat:Nat):Int)<=(bR dw:Int);omega⟩ (fun k _=>hout k) hd (yx (at_:=[(bg G.M).1]) _ (by simp)) (fun y=>by
   show y∈G.M.map Rc.id↔y≠id/\∃r,aK y (cJ (qp id zs (bR dw:Int)) G.M)=some r
   constructor
   ·intro hy
    obtain⟨a,ha,rfl⟩:=List.mem_map.1 hy
    have hya:a.id≠id:=fun e=>by
     have:=dH w.rises ha e
     rw[hn] at this;cases this
    exact⟨hya,a,by rw[hget _ hya];exact dH w.rises ha rfl⟩
   ·rintro⟨h1,a,h2⟩
    rw[hget _ h1] at h2
    obtain⟨h3,h4⟩:=cF h2
    exact List.mem_map.2 ⟨a,h3,h4⟩) (fun x hx y hy hxy=>by
   obtain⟨a,ha,rfl⟩:=List.mem_map.1 hx
   obtain⟨b,hb,rfl⟩:=List.mem_map.1 hy
   exact hf a ha b hb hxy)
  intro a ha b hb hab
  rcases dQ ha with rfl|ha
  ·rcases dQ hb with rfl|hb
   ·exact absurd rfl hab
   ·exact(f2 b.id (List.mem_map_of_mem hb)).1
  ·rcases dQ hb with rfl|hb
   ·exact(f2 a.id (List.mem_map_of_mem ha)).2
   ·exact f1 a.id (List.mem_map_of_mem ha) b.id (List.mem_map_of_mem hb) hab
end Go.Ab.Seat
