import Derived.Test.YtofikbfljjjgeaaGreatDoorDI1
import Derived.Test.YtofikbfljjjgeaaGreatDoorDI2
set_option linter.unusedVariables false
set_option linter.unusedSimpArgs false
section
namespace Go.Ab.Seat
open Go.Extern Go.Proofs
set_option maxRecDepth 4000
namespace InsI
variable {sm:Nat->Option (List Value->M Value)}
theorem AM:(Cs sm).ex 204=some ez:=by kernel_rfl
theorem pm (H:sm 204=none) {h:T ag}{c:Nat}{rl wl:List Nat}{va vb:Addr}{n m vc cap:Nat}{ws cs:List Value}{y:Value} (hv:ay h va.block (.cells ws)) (hc:va.block<c) (hb:ay h vb.block (.cells cs)) (hcb:vb.block<c) (hne:va.block≠vb.block) (hy:cu cs 0=some y) (hm:m=n+1) :
  ∃r s',aE (Cs sm) eg 204 [.slice (some va) 1 vc,.slice (some vb) m cap] ⟨h,c,rl,wl⟩ r s'/\(r=.bool false/\s'=⟨h,c,vb.block::va.block::rl,wl⟩):=by
 subst hm
 refine⟨_,_,aE.of_ex H AM ?_,rfl,rfl⟩
 show (bif Nat.beq va.block vb.block then M.fail else(bu va.block).bind fun _=>(bu vb.block).bind fun cs=>match cu cs 0 with|some _=>M.ret (Value.bool false)|none=>M.fail) _=_
 rw[bh.2 hne,cond_false,ac (bz hv hc),ac (bz hb hcb),hy]
 rfl
theorem xu {o n:Nat}{cs xs:List Value} (h:aP o (n+1) cs=some xs):∃y,cu cs 0=some y:=by
 cases cs with
 |nil =>
  have:=(aN _ _ _ _ h).2.1
  simp at this
 |cons y cs=>exact⟨y,rfl⟩
set_option maxHeartbeats 4000000 in
theorem sg (H:sm 144=none) (H':sm 204=none) {h:T ag}{c:Nat}{rl wl:List Nat} (hf:ai h c) {b o i m vb vo vc:Nat}{sp:Option Nat}{cs ws vv A B t2:List Value} (hb:ay h b (.cells cs)) (hs:aP o ((i+1+m+1)*1) cs=some (A++B++t2)) (hA:A.length=i*1) (hB:B.length=(m+1)*1)
  (hv:ay h vb (.cells ws)) (hvs:aP vo 1 ws=some vv) (hne:vb≠b) (hat:∀x∈B,atom x=true) (hat':∀x∈vv,atom x=true) (hbig:i+1+m+1<=dv) :
  ∃r s',aE (Cs sm) eg 144 [.slice (some ⟨b,o,some 1⟩) (i+1+m) (i+1+m+1),.int .i64 (i:Int),.slice (some ⟨vb,vo,sp⟩) 1 vc] ⟨h,c,rl,wl⟩ r s'/\(r=.slice (some ⟨b,o,some 1⟩) (i+1+m+1) (i+1+m+1)/\s'.c=c/\∃cs',ay s'.h b (.cells cs')/\aP o ((i+1+m+1)*1) cs'=some (A++vv++B))/\bA ⟨h,c,rl,wl⟩ s' (fun x=>x=b\/x=vb) (fun x=>x=b):=by
 have l1:=hb.lt hf
 have l2:=hv.lt hf
 have hbg:dv=1048576:=rfl
 have lv:vv.length=1:=(aN _ _ _ _ hvs).1
 have lt2:t2.length=1:=by
  have:=(aN _ _ _ _ hs).1
  simp only[List.length_append] at this
  omega
 -- the row, cut elsewhere
 obtain⟨X,Y,hXY,hX,hY⟩:∃X Y:List Value,B++t2=X++Y/\X.length=1/\Y.length=(m+1)*1:=by
  refine⟨(B++t2).take 1,(B++t2).drop 1,(List.take_append_drop 1 _).symm,?_,?_⟩
  ·rw[List.length_take,List.length_append];omega
  ·rw[List.length_drop,List.length_append];omega
 obtain⟨c1,s1,s2⟩:=bG (o:=o) (k:=(i+1)*1) (A:=A++X) (B:=Y) (B':=B) (D:=[]) (cs:=cs) (n:=(i+1+m+1)*1) (by rw[hs,List.append_assoc,hXY];simp) (by rw[List.length_append];omega) (by omega) hat
 obtain⟨c2,s3,s4⟩:=bG (o:=o) (k:=i*1) (A:=A) (B:=X) (B':=vv) (D:=B) (cs:=c1) (n:=(i+1+m+1)*1) (by rw[s2];simp) hA (by omega) hat'
 have hsB:aP (o+i*1) ((m+1)*1) cs=some B:=by
  have e:aP o (i*1+((m+1)*1+1)) cs=some (A++(B++t2)):=by rw[<- List.append_assoc,<- hs];congr 1;omega
  exact(dP (dP e hA).2 hB).1
 have hneB:B≠[]:=by rintro rfl;simp at hB
 have hneV:vv≠[]:=by rintro rfl;simp at lv
 obtain⟨y,hy⟩:=xu (n:=(i+1+m)*1) (o:=o) (cs:=cs) (xs:=A++B++t2) (by rw[show (i+1+m)*1+1=(i+1+m+1)*1 by omega];exact hs)
 refine Fn.go H pc uU uK rfl rfl ?_
 refine cg ?_
 refine aq ?_
 refine Zu (aZ ct rfl rfl rfl (by omega) (by omega)) ?_
 refine aq ?_
 refine Zu (BN m7 rfl) ?_
 refine Zu (qj rfl rfl (m:=i+1+m+1) (by omega) (by omega)) ?_
 refine aq ?_
 refine Zu (cD ct rfl rfl (k:=i+1+m+1) (by omega) (by omega) (fun a ha=>by cases ha;exact .inr rfl)) ?_
 refine aq ?_
 refine Zu (aZ ct rfl rfl (k:=i+1) (by omega) (by omega) (by omega)) ?_
 refine ax.call rfl rfl (pm (n:=m) H' hv (by omega) hb (by omega) hne hy (by omega)) ?_
 rintro v h1 c1' r1 w1 ⟨rfl,e1⟩
 cases e1
 refine aq ?_
 refine Zq (aZ ct rfl rfl (k:=i+1) (by omega) (by omega) (by omega)) ?_
 refine aq ?_
 refine Zq (aZ ct rfl rfl (k:=i) (by omega) (by omega) (by omega)) ?_
 refine Zd (fF ik rfl rfl (j:=m) (by show min _ _=_;omega) hb.cel (by omega) hsB hneB hb (by omega) s1) ?_
 refine aq ?_
 refine Zu (aZ ct rfl rfl (k:=i) (by omega) (by omega) (by omega)) ?_
 refine aq ?_
 refine Zu (fF ik rfl rfl (j:=0) (by show min _ _=_;omega) (hv.other hne).cel (by omega) hvs hneV ay.same (by omega) s3) ?_
 refine aq ?_
 refine⟨.inr rfl,aG.one rfl ⟨⟨rfl,rfl,_,ay.same,s4⟩,?_⟩⟩
 exact bM
theorem pE (H:sm 144=none) {h:T ag}{c:Nat}{rl wl:List Nat} (hf:ai h c) {b o n vb vo vc:Nat}{sp:Option Nat}{cs ws vv A t2:List Value} (hb:ay h b (.cells cs)) (hs:aP o ((n+1)*1) cs=some (A++t2)) (hA:A.length=n*1)
  (hv:ay h vb (.cells ws)) (hvs:aP vo 1 ws=some vv) (hat':∀x∈vv,atom x=true) (hbig:n+1<=dv) :
  ∃r s',aE (Cs sm) eg 144 [.slice (some ⟨b,o,some 1⟩) n (n+1),.int .i64 (n:Int),.slice (some ⟨vb,vo,sp⟩) 1 vc] ⟨h,c,rl,wl⟩ r s'/\(r=.slice (some ⟨b,o,some 1⟩) (n+1) (n+1)/\s'.c=c/\∃cs',ay s'.h b (.cells cs')/\aP o ((n+1)*1) cs'=some (A++vv))/\bA ⟨h,c,rl,wl⟩ s' (fun x=>x=b\/x=vb) (fun x=>x=b):=by
 have l1:=hb.lt hf
 have l2:=hv.lt hf
 have hbg:dv=1048576:=rfl
 have lv:vv.length=1:=(aN _ _ _ _ hvs).1
 have lt2:t2.length=1:=by
  have:=(aN _ _ _ _ hs).1
  simp only[List.length_append] at this
  omega
 obtain⟨c2,s3,s4⟩:=bG (o:=o) (k:=n*1) (A:=A) (B:=t2) (B':=vv) (D:=[]) (cs:=cs) (n:=(n+1)*1) (by rw[hs];simp) hA (by omega) hat'
 have hneV:vv≠[]:=by rintro rfl;simp at lv
 refine Fn.go H pc uU uK rfl rfl ?_
 refine cg ?_
 refine aq ?_
 refine Zu (aZ ct rfl rfl rfl (by omega) (by omega)) ?_
 refine aq ?_
 refine Zu (nA ik m7 rfl rfl (k:=0) hv.cel (by omega) hvs hneV (by omega) hb (by omega) s3) ?_
 refine aq ?_
 refine⟨.inr rfl,aG.one rfl ⟨⟨rfl,rfl,_,ay.same,by rw[s4,List.append_nil]⟩,?_⟩⟩
 exact bM
theorem pQ (H:sm 144=none) {h:T ag}{c:Nat}{rl wl:List Nat} (hf:ai h c) {b o n vb vo vc:Nat}{sp:Option Nat}{cs ws vv A:List Value} (hb:ay h b (.cells cs)) (hs:aP o ((n+1)*1) cs=some A)
  (hv:ay h vb (.cells ws)) (hvs:aP vo 1 ws=some vv) (hbig:n+2<=dv) :
  ∃r s',aE (Cs sm) eg 144 [.slice (some ⟨b,o,none⟩) (n+1) (n+1),.int .i64 ((n+1:Nat):Int),.slice (some ⟨vb,vo,sp⟩) 1 vc] ⟨h,c,rl,wl⟩ r s'/\(r=.slice (some ⟨c,0,some 1⟩) (n+2) (n+2)/\s'.c=c+1/\ay s'.h c (.cells (A++vv)))/\bA ⟨h,c,rl,wl⟩ s' (fun x=>x=b\/x=vb) (fun _=>False):=by
 have l1:=hb.lt hf
 have l2:=hv.lt hf
 have hbg:dv=1048576:=rfl
 refine Fn.go H pc uU uK rfl rfl ?_
 refine cg ?_
 refine aq ?_
 refine Zu (qo ct rfl rfl rfl) ?_
 refine aq ?_
 refine Zu (rZ ik m7 rfl rfl (k:=0) hv.cel (by omega) hvs (by omega) (by omega) hb.cel (by omega) hs aO) ?_
 refine aq ?_
 refine⟨.inr rfl,aG.one rfl ⟨⟨rfl,rfl,ay.same⟩,?_⟩⟩
 exact bM
theorem pp (H:sm 144=none) {h:T ag}{c:Nat}{rl wl:List Nat} (hf:ai h c) {b o m vb vo vc:Nat}{sp:Option Nat}{cs ws vv B:List Value} (hb:ay h b (.cells cs)) (hs:aP o ((m+1)*1) cs=some B)
  (hv:ay h vb (.cells ws)) (hvs:aP vo 1 ws=some vv) (hat:∀x∈B,atom x=true) (hat':∀x∈vv,atom x=true) (hbig:m+2<=dv) :
  ∃r s',aE (Cs sm) eg 144 [.slice (some ⟨b,o,none⟩) (m+1) (m+1),.int .i64 0,.slice (some ⟨vb,vo,sp⟩) 1 vc] ⟨h,c,rl,wl⟩ r s'/\(r=.slice (some ⟨c,0,some 1⟩) (m+2) (m+2)/\s'.c=c+1/\∃cs',ay s'.h c (.cells cs')/\aP 0 ((m+2)*1) cs'=some (vv++B))/\bA ⟨h,c,rl,wl⟩ s' (fun x=>x=b\/x=vb) (fun _=>False):=by
 have l1:=hb.lt hf
 have l2:=hv.lt hf
 have hbg:dv=1048576:=rfl
 have lv:vv.length=1:=(aN _ _ _ _ hvs).1
 have lB:B.length=(m+1)*1:=(aN _ _ _ _ hs).1
 have hneB:B≠[]:=by rintro rfl;simp at lB
 have hneV:vv≠[]:=by rintro rfl;simp at lv
 obtain⟨X,Y,hXY,hX,hY⟩:∃X Y:List Value,[]++rep [Value.int .i64 0] (m+2)=X++Y/\X.length=1/\Y.length=(m+1)*1:=by
  have hr:(rep [Value.int .i64 0] (m+2)).length=(m+2)*1:=by rw[dT];rfl
  refine⟨(rep [Value.int .i64 0] (m+2)).take 1,(rep [Value.int .i64 0] (m+2)).drop 1,?_,?_,?_⟩
  ·rw[List.take_append_drop];rfl
  ·rw[List.length_take,hr];omega
  ·rw[List.length_drop,hr];omega
 have hc0:aP 0 ((m+2)*1) ([]++rep [Value.int .i64 0] (m+2))=some (X++Y):=by
  rw[hXY];exact aA _ _ (by rw[List.length_append];omega)
 obtain⟨c1,s1,s2⟩:=bG (o:=0) (k:=0) (A:=[]) (B:=X) (B':=vv) (D:=Y) hc0 rfl (by omega) hat'
 obtain⟨c2,s3,s4⟩:=bG (o:=0) (k:=1) (A:=vv) (B:=Y) (B':=B) (D:=[]) (cs:=c1) (n:=(m+2)*1) (by rw[s2];simp) lv (by omega) hat
 refine Fn.go H pc uU uK rfl rfl ?_
 refine cg ?_
 refine aq ?_
 refine Zu (eT ct rfl rfl (k:=0) rfl (by omega) (by omega) (by omega) (.inl rfl)) ?_
 refine aq ?_
 refine Zu (rC m7 rfl) ?_
 refine aq ?_
 refine Zu (cD ct rfl rfl (k:=0) rfl (by omega) (fun a ha=>by cases ha;exact .inl rfl)) ?_
 refine aq ?_
 refine Zu (qD ik Mk rfl rfl (m:=m+2) (by omega) (by omega) (by omega) aO) ?_
 refine aq ?_
 refine Zu (aZ ct rfl rfl (k:=0) rfl (by omega) (by omega)) ?_
 refine aq ?_
 refine Zu (fF ik rfl rfl (j:=0) (by show min _ _=_;omega) (hv.other (by omega)).cel (by omega) hvs hneV ay.same (by omega) (by rw[Nat.zero_mul];exact s1)) ?_
 refine aq ?_
 refine Zq (aZ ct rfl rfl (k:=1) (by omega) (by omega) (by omega)) ?_
 refine aq ?_
 refine Zq (eT ct rfl rfl (k:=0) rfl (by omega) (by omega) (by omega) (.inl rfl)) ?_
 refine Zd (fF ik rfl rfl (j:=m) (by show min _ _=_;omega) ((hb.other (by omega)).other (by omega)).cel (by omega) (by rw[Nat.zero_mul];exact hs) hneB ay.same (by omega) s3) ?_
 refine aq ?_
 refine⟨.inr rfl,aG.one rfl ⟨⟨congrArg (fun q=>Value.slice (some ⟨c,0,some 1⟩) q q) (Nat.zero_add (m+2)),rfl,_,ay.same,by rw[s4,List.append_nil]⟩,?_⟩⟩
 exact bM
theorem sW (H:sm 144=none) {h:T ag}{c:Nat}{rl wl:List Nat} (hf:ai h c) {b o i m vb vo vc:Nat}{sp:Option Nat}{cs ws vv A B:List Value} (hb:ay h b (.cells cs)) (hs:aP o ((i+1+m+1)*1) cs=some (A++B)) (hA:A.length=(i+1)*1)
  (hv:ay h vb (.cells ws)) (hvs:aP vo 1 ws=some vv) (hat:∀x∈B,atom x=true) (hat':∀x∈vv,atom x=true) (hbig:i+m+3<=dv) :
  ∃r s',aE (Cs sm) eg 144 [.slice (some ⟨b,o,none⟩) (i+1+m+1) (i+1+m+1),.int .i64 ((i+1:Nat):Int),.slice (some ⟨vb,vo,sp⟩) 1 vc] ⟨h,c,rl,wl⟩ r s'/\(r=.slice (some ⟨c,0,some 1⟩) (i+1+(m+2)) (i+1+(m+2))/\s'.c=c+1/\∃cs',ay s'.h c (.cells cs')/\aP 0 ((i+1+(m+2))*1) cs'=some (A++vv++B))/\bA ⟨h,c,rl,wl⟩ s' (fun x=>x=b\/x=vb) (fun _=>False):=by
 have l1:=hb.lt hf
 have l2:=hv.lt hf
 have hbg:dv=1048576:=rfl
 have lv:vv.length=1:=(aN _ _ _ _ hvs).1
 have lB:B.length=(m+1)*1:=by
  have:=(aN _ _ _ _ hs).1
  simp only[List.length_append] at this
  omega
 have hneB:B≠[]:=by rintro rfl;simp at lB
 have hneV:vv≠[]:=by rintro rfl;simp at lv
 have hsB:aP o ((i+1)*1) cs=some A/\aP (o+(i+1)*1) ((m+1)*1) cs=some B:=dP (by rw[<- hs];congr 1;omega) hA
 obtain⟨X,Y,hXY,hX,hY⟩:∃X Y:List Value,rep [Value.int .i64 0] (m+2)=X++Y/\X.length=1/\Y.length=(m+1)*1:=by
  have hr:(rep [Value.int .i64 0] (m+2)).length=(m+2)*1:=by rw[dT];rfl
  refine⟨(rep [Value.int .i64 0] (m+2)).take 1,(rep [Value.int .i64 0] (m+2)).drop 1,?_,?_,?_⟩
  ·rw[List.take_append_drop]
  ·rw[List.length_take,hr];omega
  ·rw[List.length_drop,hr];omega
 have hc0:aP 0 ((i+1+(m+2))*1) (A++rep [Value.int .i64 0] (m+2))=some (A++X++Y):=by
  rw[hXY,List.append_assoc];exact aA _ _ (by simp only[List.length_append];omega)
 obtain⟨c1,s1,s2⟩:=bG (o:=0) (k:=(i+1)*1) (A:=A) (B:=X) (B':=vv) (D:=Y) hc0 hA (by omega) hat'
 obtain⟨c2,s3,s4⟩:=bG (o:=0) (k:=(i+1+1)*1) (A:=A++vv) (B:=Y) (B':=B) (D:=[]) (cs:=c1) (n:=(i+1+(m+2))*1) (by rw[s2];simp) (by rw[List.length_append];omega) (by omega) hat
 refine Fn.go H pc uU uK rfl rfl ?_
 refine cg ?_
 refine aq ?_
 refine Zu (eT ct rfl rfl (k:=i+1) (by omega) (by omega) (by omega) (by omega) (.inl rfl)) ?_
 refine aq ?_
 refine Zu (rC m7 rfl) ?_
 refine aq ?_
 refine Zu (cD ct rfl rfl (k:=i+1) (by omega) (by omega) (fun a ha=>by cases ha;exact .inl rfl)) ?_
 refine aq ?_
 refine Zu (tk ik Mk rfl rfl (m:=m+2) (by omega) (by omega) (by omega) hb.cel (by omega) hsB.1 aO) ?_
 refine aq ?_
 refine Zu (aZ ct rfl rfl (k:=i+1) (by omega) (by omega) (by omega)) ?_
 refine aq ?_
 refine Zu (fF ik rfl rfl (j:=0) (by show min _ _=_;omega) (hv.other (by omega)).cel (by omega) hvs hneV ay.same (by omega) s1) ?_
 refine aq ?_
 refine Zq (aZ ct rfl rfl (k:=i+1+1) (by omega) (by omega) (by omega)) ?_
 refine aq ?_
 refine Zq (eT ct rfl rfl (k:=i+1) (by omega) (by omega) (by omega) (by omega) (.inl rfl)) ?_
 refine Zd (fF ik rfl rfl (j:=m) (by show min _ _=_;omega) ((hb.other (by omega)).other (by omega)).cel (by omega) hsB.2 hneB ay.same (by omega) s3) ?_
 refine aq ?_
 refine⟨.inr rfl,aG.one rfl ⟨⟨rfl,rfl,_,ay.same,by rw[s4,List.append_nil]⟩,?_⟩⟩
 exact bM
theorem wM (H:sm 144=none) {h:T ag}{c:Nat}{rl wl:List Nat} (hf:ai h c) {vb vo vc:Nat}{sp:Option Nat}{ws vv:List Value}
  (hv:ay h vb (.cells ws)) (hvs:aP vo 1 ws=some vv) :
  ∃r s',aE (Cs sm) eg 144 [.slice none 0 0,.int .i64 0,.slice (some ⟨vb,vo,sp⟩) 1 vc] ⟨h,c,rl,wl⟩ r s'/\(r=.slice (some ⟨c,0,some 1⟩) 1 1/\s'.h=h.set c (some (.cells vv))/\s'.c=c+1/\ay s'.h c (.cells vv))/\bA ⟨h,c,rl,wl⟩ s' (fun x=>x=vb) (fun _=>False):=by
 have l2:=hv.lt hf
 have hbg:dv=1048576:=rfl
 refine Fn.go H pc uU uK rfl rfl ?_
 refine cg ?_
 refine aq ?_
 refine Zu (jr ct rfl rfl rfl) ?_
 refine aq ?_
 refine Zu (cy ik m7 rfl rfl (k:=0) hv.cel (by omega) hvs (by omega) aO) ?_
 refine aq ?_
 refine⟨.inr rfl,aG.one rfl ⟨⟨rfl,rfl,rfl,ay.same⟩,?_⟩⟩
 exact bM
end InsI
end Go.Ab.Seat
end
section
namespace Go.Ab.Seat
open Go.Extern Go.Proofs
namespace InsI
noncomputable def oo (b o n i vb vo:Nat):M Value :=
 (bu b).bind fun cs=>(bu vb).bind fun ws=>(M.lift (aP o (n*1) cs)).bind fun xs=>(M.lift (aP vo 1 ws)).bind fun vv =>
  match ee atom xs&&ee atom vv with
  |true=>zI.bind fun _=>(putO b none).bind fun _=>(bq (xs.take (i*1)++vv++xs.drop (i*1))).bind fun k=>M.ret (.slice (some ⟨k,0,some 1⟩) (n+1) (n+1))
  |false=>M.fail
noncomputable def oy (vb vo:Nat):M Value :=
 (bu vb).bind fun ws=>(M.lift (aP vo 1 ws)).bind fun vv=>(bq vv).bind fun k=>M.ret (.slice (some ⟨k,0,some 1⟩) 1 1)
noncomputable def CV (e n cap vb b:Nat) (z:Int):Bool:=Nat.beq e 1&&Nat.ble 1 cap&&Nat.ble n cap&&Nat.ble n 1000&&decide (0<=z)&&decide (z<=(n:Int))&&!(Nat.beq vb b)
noncomputable def gIns (args:List Value):M Value :=
 match args with
 | [.slice (some ⟨b,o,some e⟩) n cap,.int .i64 z,.slice (some ⟨vb,vo,sp⟩) 1 vc] =>
  match CV e n cap vb b z with
  |true=>oo b o n z.toNat vb vo
  |false=>M.fail
 | [.slice none 0 0,.int .i64 z,.slice (some ⟨vb,vo,sp⟩) 1 vc] =>
  match decide (z=0) with
  |true=>oy vb vo
  |false=>M.fail
 |_=>M.fail
theorem nD (args:List Value):ah (gIns args):=by
 unfold gIns
 split
 ·split
  ·refine ah.bind (bB _) fun cs=>ah.bind (bB _) fun ws=>ah.bind (ah.lift _) fun xs=>ah.bind (ah.lift _) fun vv=>?_
   split
   ·exact ah.bind p6 fun _=>ah.bind (ah.putO _ _) fun _=>ah.bind (cH _) fun _=>ah.ret _
   ·exact ah.fail
  ·exact ah.fail
 ·split
  ·exact ah.bind (bB _) fun ws=>ah.bind (ah.lift _) fun vv=>ah.bind (cH _) fun _=>ah.ret _
  ·exact ah.fail
 ·exact ah.fail
theorem jG {k o n c:Nat}{s:St}{ck l:List Value} (h:s.h.get k=some (.cells ck)) (hk:k<s.c) (hs:aP o (n*1) ck=some l) (hn:n<=c):lC 1 n (.slice (some ⟨k,o,some 1⟩) n c) s=some ((k,l),⟨s.h,s.c,k::s.rl,s.wl⟩):=by
 unfold lC
 simp only[Nat.beq_refl,aH.2 hn,Bool.and_self]
 obtain⟨h0,c0,rl,wl⟩:=s
 rw[ac (bz h hk),ac (aw hs)]
 rfl
theorem sh {s:St}{b o n i vb vo vc:Nat}{sp:Option Nat}{cs ws vv xs t2:List Value} (hb:s.h.get b=some (.cells cs)) (hbc:b<s.c) (hs:aP o ((n+1)*1) cs=some (xs++t2)) (hx:xs.length=n*1) (hv:s.h.get vb=some (.cells ws)) (hvc:vb<s.c) (hvs:aP vo 1 ws=some vv) (hne:vb≠b)
  (ha:∀x∈xs,atom x=true) (ha':∀x∈vv,atom x=true) (hn:n<=1000) (hi:i<=n) :
  ∃k s1 cs',callB C0 (a6 C0 eg k) 144 [.slice (some ⟨b,o,some 1⟩) n (n+1),.int .i64 (i:Int),.slice (some ⟨vb,vo,sp⟩) 1 vc] ⟨s.h,s.c,[],[]⟩=some (.slice (some ⟨b,o,some 1⟩) (n+1) (n+1),s1)/\s1.c=s.c/\s1.h.get b=some (.cells cs')/\aP o ((n+1)*1) cs'=some (xs.take (i*1)++vv++xs.drop (i*1))/\∀x∈s1.wl,x=b\/s.c<=x:=by
 have hf:ai (dE s.h.get s.c) s.c:=fun x hx=>by rw[bF,if_neg (by omega)]
 have hb':ay (dE s.h.get s.c) b (.cells cs):=by unfold ay;rw[bF,if_pos hbc];exact hb
 have hv':ay (dE s.h.get s.c) vb (.cells ws):=by unfold ay;rw[bF,if_pos hvc];exact hv
 have hbg:dv=1048576:=rfl
 have key:∃r s0,aE C0 eg 144 [.slice (some ⟨b,o,some 1⟩) n (n+1),.int .i64 (i:Int),.slice (some ⟨vb,vo,sp⟩) 1 vc] ⟨dE s.h.get s.c,s.c,[],[]⟩ r s0/\(r=.slice (some ⟨b,o,some 1⟩) (n+1) (n+1)/\s0.c=s.c/\∃cs',ay s0.h b (.cells cs')/\aP o ((n+1)*1) cs'=some (xs.take (i*1)++vv++xs.drop (i*1)))/\bA ⟨dE s.h.get s.c,s.c,[],[]⟩ s0 (fun x=>x=b\/x=vb) (fun x=>x=b):=by
  rcases Nat.lt_or_ge i n with h|h
  ·obtain⟨m,rfl⟩:∃m,n=i+1+m:=⟨n - i - 1,by omega⟩
   exact sg (sm:=fun _=>none) rfl rfl hf hb' (A:=xs.take (i*1)) (B:=xs.drop (i*1)) (t2:=t2) (by rw[List.take_append_drop];exact hs) (by rw[List.length_take];omega) (by rw[List.length_drop];omega) hv' hvs hne (fun x hx=>ha x (List.mem_of_mem_drop hx)) ha' (by omega)
  ·obtain rfl:i=n:=by omega
   rw[List.take_of_length_le (by omega),List.drop_of_length_le (by omega),List.append_nil]
   exact pE (sm:=fun _=>none) rfl hf hb' hs hx hv' hvs ha' (by omega)
 obtain⟨r,s0,h1,⟨rfl,h2,cs',h3,h4⟩,h5⟩:=key
 obtain⟨k,h6⟩:=aE.callB rfl pc h1
 obtain⟨_,h',h7,h8,h9⟩:=jX h6 fun x h1 h2=>by omega
 exact⟨k,_,cs',h7,h2,(h8 b (by omega)).trans h3,h4,fun x hx=>by
  rcases h5.wl x hx with q|q
  ·cases q
  ·exact .inl q.2⟩
theorem sC {s:St}{b o n i vb vo vc:Nat}{sp:Option Nat}{cs ws vv xs:List Value} (hb:s.h.get b=some (.cells cs)) (hbc:b<s.c) (hs:aP o (n*1) cs=some xs) (hv:s.h.get vb=some (.cells ws)) (hvc:vb<s.c) (hvs:aP vo 1 ws=some vv)
  (ha:∀x∈xs,atom x=true) (ha':∀x∈vv,atom x=true) (hn:n<=1000) (h0:1<=n) (hi:i<=n) (fr:s.h.get s.c=none) :
  ∃k s1 cs',callB C0 (a6 C0 eg k) 144 [.slice (some ⟨b,o,none⟩) n n,.int .i64 (i:Int),.slice (some ⟨vb,vo,sp⟩) 1 vc] ⟨s.h,s.c,[],[]⟩=some (.slice (some ⟨s.c,0,some 1⟩) (n+1) (n+1),s1)/\s1.c=s.c+1/\s1.h.get s.c=some (.cells cs')/\aP 0 ((n+1)*1) cs'=some (xs.take (i*1)++vv++xs.drop (i*1))/\∀x∈s1.wl,x=b\/s.c<=x:=by
 have hf:ai (dE s.h.get s.c) s.c:=fun x hx=>by rw[bF,if_neg (by omega)]
 have hb':ay (dE s.h.get s.c) b (.cells cs):=by unfold ay;rw[bF,if_pos hbc];exact hb
 have hv':ay (dE s.h.get s.c) vb (.cells ws):=by unfold ay;rw[bF,if_pos hvc];exact hv
 have hbg:dv=1048576:=rfl
 have hx:xs.length=n*1:=(aN _ _ _ _ hs).1
 have key:∃r s0,aE C0 eg 144 [.slice (some ⟨b,o,none⟩) n n,.int .i64 (i:Int),.slice (some ⟨vb,vo,sp⟩) 1 vc] ⟨dE s.h.get s.c,s.c,[],[]⟩ r s0/\(r=.slice (some ⟨s.c,0,some 1⟩) (n+1) (n+1)/\s0.c=s.c+1/\∃cs',ay s0.h s.c (.cells cs')/\aP 0 ((n+1)*1) cs'=some (xs.take (i*1)++vv++xs.drop (i*1)))/\bA ⟨dE s.h.get s.c,s.c,[],[]⟩ s0 (fun x=>x=b\/x=vb) (fun _=>False):=by
  rcases Nat.lt_or_ge i n with h|h
  ·cases i with
   |zero =>
    obtain⟨m,rfl⟩:∃m,n=m+1:=⟨n - 1,by omega⟩
    rw[Nat.zero_mul,List.take_zero,List.drop_zero,List.nil_append]
    exact pp (sm:=fun _=>none) rfl hf hb' hs hv' hvs ha ha' (by omega)
   |succ i =>
    obtain⟨m,rfl⟩:∃m,n=i+1+m+1:=⟨n - i - 2,by omega⟩
    have:=sW (sm:=fun _=>none) (c:=s.c) (rl:=[]) (wl:=[]) (sp:=sp) (vc:=vc) rfl hf hb' (A:=xs.take ((i+1)*1)) (B:=xs.drop ((i+1)*1)) (by rw[List.take_append_drop];exact hs) (by rw[List.length_take];omega) hv' hvs (fun x hx=>ha x (List.mem_of_mem_drop hx)) ha' (by omega)
    rw[show i+1+(m+2)=i+1+m+1+1 by omega] at this
    exact this
  ·obtain rfl:i=n:=by omega
   obtain⟨m,rfl⟩:∃m,i=m+1:=⟨i - 1,by omega⟩
   rw[List.take_of_length_le (by omega),List.drop_of_length_le (by omega),List.append_nil]
   obtain⟨r,s0,h1,⟨h2,h3,h4⟩,h5⟩:=pQ (sm:=fun _=>none) (c:=s.c) (rl:=[]) (wl:=[]) (sp:=sp) (vc:=vc) rfl hf hb' hs hv' hvs (by omega)
   have lv:vv.length=1:=(aN _ _ _ _ hvs).1
   exact⟨r,s0,h1,⟨h2,h3,_,h4,aA _ _ (by rw[List.length_append];omega)⟩,h5⟩
 obtain⟨r,s0,h1,⟨rfl,h2,cs',h3,h4⟩,h5⟩:=key
 obtain⟨k,h6⟩:=aE.callB rfl pc h1
 obtain⟨_,h',h7,h8,h9⟩:=jX h6 fun x h1 h2=>by
  obtain rfl:x=s.c:=by omega
  exact fr
 exact⟨k,_,cs',h7,h2,(h8 s.c (by omega)).trans h3,h4,fun x hx=>by
  rcases h5.wl x hx with q|q
  ·cases q
  ·exact q.2.elim⟩
theorem xn {s:St}{vb vo vc:Nat}{sp:Option Nat}{ws vv:List Value} (hv:s.h.get vb=some (.cells ws)) (hvc:vb<s.c) (hvs:aP vo 1 ws=some vv) (fr:s.h.get s.c=none) :
  ∃k s1,callB C0 (a6 C0 eg k) 144 [.slice none 0 0,.int .i64 0,.slice (some ⟨vb,vo,sp⟩) 1 vc] ⟨s.h,s.c,[],[]⟩=some (.slice (some ⟨s.c,0,some 1⟩) 1 1,s1)/\s1.c=s.c+1/\∀x,s1.h.get x=(s.h.set s.c (some (.cells vv))).get x:=by
 have hf:ai (dE s.h.get s.c) s.c:=fun x hx=>by rw[bF,if_neg (by omega)]
 have hv':ay (dE s.h.get s.c) vb (.cells ws):=by unfold ay;rw[bF,if_pos hvc];exact hv
 obtain⟨r,s0,h1,⟨rfl,h2,h3,_⟩,h5⟩:=wM (sm:=fun _=>none) (c:=s.c) (rl:=[]) (wl:=[]) (sp:=sp) (vc:=vc) rfl hf hv' hvs
 obtain⟨k,h6⟩:=aE.callB rfl pc h1
 obtain⟨_,h',h7,h8,h9⟩:=jX h6 fun x h1 h2=>by
  obtain rfl:x=s.c:=by omega
  exact fr
 refine⟨k,_,h7,h3,fun x=>?_⟩
 rcases Nat.lt_or_ge x s0.c with hx|hx
 ·show h'.get x=_
  rw[h8 x hx,h2,T.get_set,T.get_set]
  by_cases hc:x=s.c
  ·rw[if_pos hc,if_pos hc]
  ·rw[if_neg hc,if_neg hc,bF,if_pos (by omega)]
 ·show h'.get x=_
  rw[h9 x hx,T.get_set,if_neg (by omega)]
theorem smInsG:iM jo gIns:=by
 refine⟨nD,?_⟩
 intro args s s' v ι w args' R hg ha hr fr hR
 unfold gIns at hg
 split at hg
 ·rename_i b o e n cap z vb vo sp vc
  cases hcond:CV e n cap vb b z with
  |false=>rw[hcond] at hg;exact(aa hg).elim
  |true =>
   rw[hcond] at hg
   unfold CV at hcond
   simp only at hg
   simp only[Bool.and_eq_true,decide_eq_true_eq,Bool.not_eq_true'] at hcond
   obtain⟨⟨⟨⟨⟨⟨c1,c2⟩,c3⟩,c4⟩,c5⟩,c6⟩,c7⟩:=hcond
   obtain rfl:=aL.1 c1
   have c2:=aH.1 c2
   have c3:=aH.1 c3
   have c4:=aH.1 c4
   have c7:=bh.1 c7
   obtain⟨i,rfl⟩:∃i:Nat,z=(i:Int):=⟨z.toNat,by omega⟩
   have hi:i<=n:=by omega
   unfold oo at hg
   obtain⟨cs,s1,g1,hg⟩:=bind_some hg
   obtain⟨hb,hbc,rfl⟩:=bC g1
   obtain⟨ws,s2,g2,hg⟩:=bind_some hg
   obtain⟨hv,hvc,rfl⟩:=bC g2
   obtain⟨xs,s3,g3,hg⟩:=bind_some hg
   obtain⟨hs,rfl⟩:=aI g3
   obtain⟨vv,s4,g4,hg⟩:=bind_some hg
   obtain⟨hvs,rfl⟩:=aI g4
   cases hat:(ee atom xs&&ee atom vv) with
   |false=>rw[hat] at hg;exact(aa hg).elim
   |true =>
    rw[hat] at hg
    simp only at hg
    rw[Bool.and_eq_true,bT,bT,List.all_eq_true,List.all_eq_true] at hat
    obtain⟨u,s5,g5,hg⟩:=bind_some hg
    cases g5
    obtain⟨⟨⟩,s6,g6,hg⟩:=bind_some hg
    obtain⟨_,_,rfl⟩:=dI g6
    obtain⟨kk,s7,g7,hg⟩:=bind_some hg
    obtain⟨rfl,rfl⟩:=ak hg
    unfold bq at g7
    rw[b4] at g7
    obtain⟨_,rfl,rfl⟩:=dZ g7
    simp only at hb hbc hv hvc fr hR
    have hx:xs.length=n*1:=(aN _ _ _ _ hs).1
    obtain⟨x',rest',rfl,hx1,hrest⟩:=ha.cons_inv
    cases hx1 with
    |sliceZ=>omega
    |sliceI _ _ _ _ _ c' L hL hc hbd =>
     by_cases hroom:n+1<=c'
     ·have hmul:(n+1)*1<=c'*1:=Nat.mul_le_mul_right _ hroom
      obtain⟨t2,ht2,hsub⟩:=B5 (m:=1) hs
      rw[show n*1+1=(n+1)*1 by omega] at hsub
      have gb:(s.h.set b (some (.cells (qF cs (o+(n+1)*1))))).get b=some (.cells (qF cs (o+(n+1)*1))):=by rw[T.get_set,if_pos rfl]
      have gv:(s.h.set b (some (.cells (qF cs (o+(n+1)*1))))).get vb=some (.cells ws):=by rw[T.get_set,if_neg c7];exact hv
      obtain⟨k,s1,cs',r1,r2,r3,r4,r5⟩:=sh (s:=⟨s.h.set b (some (.cells (qF cs (o+(n+1)*1)))),s.c,[],[]⟩) (sp:=sp) (vc:=vc) gb hbc hsub hx gv hvc hvs c7 hat.1 hat.2 c4 hi
      simp only at r1 r2 r5
      refine ip jv k 144 1 n b (s.c+1) (csX:=qF cs (o+(n+1)*1)) (sX:=⟨s.h.set b (some (.cells (qF cs (o+(n+1)*1)))),s.c,[],[]⟩) (lm:=xs.take (i*1)++vv++xs.drop (i*1)) hr hb hbc (HR.padded hr hb hL (by omega)) gb ?_ (Nat.le_refl _) (fun x hx=>by cases hx) r1 (jG r3 (by rw[r2];exact hbc) r4 (Nat.le_refl _))
       (bS.cons (.sliceI b o 1 n (n+1) c' L hL hroom hbd) hrest) (by omega) (.inl rfl) r5 (fun x h1 h2=>fr x h1 (by omega)) (fun _ _ h=>h) rfl rfl hR
      intro x hx
      show (s.h.set b _).get x=_
      rw[T.get_set,if_neg hx]
     ·obtain rfl:c'=n:=by omega
      have fc:s.h.get s.c=none:=by
       cases hq:s.h.get s.c with
       |none=>rfl
       |some q =>
        obtain⟨L',hL',_⟩:=hr.obj _ _ hq
        rw[fr s.c (Nat.le_refl _) (by omega)] at hL'
        cases hL'
      obtain⟨k,s1,cs',r1,r2,r3,r4,r5⟩:=sC (s:=s) (sp:=sp) (vc:=vc) hb hbc hs hv hvc hvs hat.1 hat.2 c4 (by omega) hi fc
      refine ip jv k 144 1 c' b (s.c+1) (csX:=cs) (sX:=⟨s.h,s.c,[],[]⟩) (lm:=xs.take (i*1)++vv++xs.drop (i*1)) hr hb hbc hr hb (fun _ _=>rfl) (Nat.le_refl _) (fun x hx=>by cases hx) r1 (jG r3 (by omega) r4 (Nat.le_refl _))
       (bS.cons (.sliceX b o c' c' L hL) hrest) (by omega) (.inr (Nat.le_refl _)) r5 (fun x h1 h2=>fr x h1 (by omega)) (fun _ _ h=>h) rfl rfl hR
 ·rename_i z vb vo sp vc
  cases hz:decide (z=0) with
  |false=>rw[hz] at hg;exact(aa hg).elim
  |true =>
   rw[hz] at hg
   simp only at hg
   obtain rfl:=of_decide_eq_true hz
   unfold oy at hg
   obtain⟨ws,s2,g2,hg⟩:=bind_some hg
   obtain⟨hv,hvc,rfl⟩:=bC g2
   obtain⟨vv,s4,g4,hg⟩:=bind_some hg
   obtain⟨hvs,rfl⟩:=aI g4
   obtain⟨kk,s7,g7,hg⟩:=bind_some hg
   obtain⟨rfl,rfl⟩:=ak hg
   unfold bq at g7
   rw[b4] at g7
   obtain⟨fc,rfl,rfl⟩:=dZ g7
   simp only at fc fr hR
   obtain⟨k,s1,r1,r2,r3⟩:=xn (s:=s) (sp:=sp) (vc:=vc) hv hvc hvs fc
   refine fq jv k 144 r1 ha hr (fun x h1 h2=>fr x h1 (by omega)) fun v' w' ι' hv' hp=>hR v' w' ι' hv' ?_
   exact⟨hp.ext,fun b hb h=>hp.new b hb (by simp only at h ⊢;omega),zM hp.hr fun x=>(r3 x).symm,hp.os,hp.tape,hp.output,hp.size,hp.frame,fun k hk ho=>hp.own k hk (qt ho r3),by simp only;omega⟩
 ·exact(aa hg).elim
end InsI
end Go.Ab.Seat
end
