import Derived.Test.YtofikbfljjjgeaaGreatDoorE9
set_option linter.unusedVariables false
set_option linter.unusedSimpArgs false
section
namespace Go.Ab
section ops
variable {G:Nat}{C:aS}{eg:TypeId->Bool}{P:Program}{ι:aD}{s:St}{w:World}
theorem n3 (ok:C.Ok eg P) (hr:HR G ι s.h w.heap) (t:TypeId) {x x':Value} (hx:VR ι x x') :
  d8 G P ι s w (em C t x) (Instr.makeInterface t x'):=by
 intro v s' h _
 unfold em at h
 cases hd:C.und t with
 |none=>rw[hd] at h;exact(aa h).elim
 |some d =>
  rw[hd] at h
  simp only at h
  have hun:=ok.runUnd hd w
  have fin:(∀ms,d≠.interface ms)->M.ret (.iface t x) s=some (v,s')->∃v' w' ι',(Instr.makeInterface t x').run P w=.ok v' w'/\VR ι' v v'/\aM G ι ι' s s' w w':=by
   intro hne hh
   obtain⟨rfl,rfl⟩:=ak hh
   refine⟨.iface t x',w,ι,?_,.iface t _ _ hx,aM.refl hr rfl rfl⟩
   unfold Instr.makeInterface
   simp only[Sem.run_bind,hun,Result.andThen_ok]
   cases d<;>first|rfl|exact absurd rfl (hne _)
  cases d with
  |interface ms=>exact(aa h).elim
  |_=>exact fin (by intro ms hh;cases hh) h
theorem pe (want:Array (String×TypeId)) (got:Array Method):pv want.toList got.toList=((want.toList.filter fun(x:String×TypeId)=>!got.any fun m=>m.name==x.1&&m.sig==x.2).map (·.1)).isEmpty:=by
 unfold pv
 rw[bT]
 simp only[bT,List.isEmpty_map]
 rw[Bool.eq_iff_iff]
 simp only[List.all_eq_true,List.isEmpty_iff,List.filter_eq_nil_iff]
 refine forall_congr' fun x=>forall_congr' fun _=>?_
 rw[<- Array.any_toList]
 simp only[Bool.not_eq_true',Bool.not_eq_true,Bool.not_eq_false]
 rw[Bool.eq_false_iff,ne_eq,List.all_eq_true]
 simp
 constructor
 ·rintro⟨m,hm,h1,h2⟩
  obtain⟨i,hi,rfl⟩:=Array.mem_iff_getElem.1 hm
  exact⟨i,hi,h1,h2⟩
 ·rintro⟨i,hi,h⟩
  exact⟨got[i],Array.getElem_mem hi,h⟩
theorem ww {want:Array (String×TypeId)}{got:Array Method} (h:pv want.toList got.toList=true):Instr.missingMethod want got=none:=by
 rw[pe,List.isEmpty_iff] at h
 unfold Instr.missingMethod
 simp only[h]
 rfl
theorem vM {want:Array (String×TypeId)}{got:Array Method} (h:pv want.toList got.toList=false):∃x,Instr.missingMethod want got=some x:=by
 rw[pe] at h
 have go : ∀ (p : String -> Bool) (l : List String), l.isEmpty = false -> ∃ x, (match l.partition p with | (unexported, exported) => Instr.least exported <|> Instr.least (unexported.map fun id => (id.splitOn ".").getLastD id)) = some x := by
  intro p l hl
  rw[List.partition_eq_filter_filter]
  cases l with
  |nil=>cases hl
  |cons a l =>
   cases he:List.filter (not ∘ p) (a::l) with
   |cons x r=>exact⟨_,rfl⟩
   |nil =>
    rw[List.filter_eq_nil_iff] at he
    have ha:=he a (List.mem_cons_self ..)
    have:p a=true:=by simpa using ha
    rw[List.filter_cons_of_pos this]
    exact⟨_,rfl⟩
 exact go _ _ h
theorem Gm {z z':Value} (b:Bool) (h:VR ι z z'):VR ι (.tuple #[z,.bool b]) (.tuple #[z',.bool b]) :=
 .tuple _ _ rfl (bS.cons h (bS.cons (.bool b) (bS.nil ι))).2
theorem tp (ok:C.Ok eg P) (hr:HR G ι s.h w.heap) {x x':Value} (xt a:TypeId) (cok:Bool) (hx:VR ι x x') :
  d8 G P ι s w (fV C x a cok) (Instr.typeAssert x' xt a cok):=by
 intro v s' h _
 unfold fV at h
 cases hd:C.und a with
 |none=>rw[hd] at h;exact(aa h).elim
 |some d =>
  rw[hd] at h
  simp only at h
  have hun:=ok.runUnd hd w
  have fails:∀(rt:Sem Value),cok=true->(M.lift (C.zero a)).bind (fun z=>M.ret (Value.tuple #[z,.bool false])) s=some (v,s') ->
    (∀z,C.zero a=some z->(Instr.typeAssert x' xt a true).run P w=.ok (.tuple #[z,.bool false]) w) ->
    ∃v' w' ι',(Instr.typeAssert x' xt a cok).run P w=.ok v' w'/\VR ι' v v'/\aM G ι ι' s s' w w':=by
   intro _ hc hh hrun
   obtain⟨z,s1,h1,h2⟩:=bind_some hh
   obtain⟨hz,rfl⟩:=aI h1
   obtain⟨rfl,rfl⟩:=ak h2
   rw[hc]
   exact⟨_,w,ι,hrun z hz,Gm false (ok.zeroFlat hz ι),aM.refl hr rfl rfl⟩
  have conc:(∀ms,d≠.interface ms)->(match(generalizing:=false) x with
    |.nilIface=>(match(generalizing:=false) cok with|true=>(M.lift (C.zero a)).bind fun z=>M.ret (Value.tuple #[z,.bool false])|false=>M.fail)
    |.iface t v=>(match(generalizing:=false) Nat.beq t a with
     |true=>M.ret (match(generalizing:=false) cok with|true=>Value.tuple #[v,.bool true]|false=>v)
     |false=>(match(generalizing:=false) cok with|true=>(M.lift (C.zero a)).bind fun z=>M.ret (Value.tuple #[z,.bool false])|false=>M.fail))
    |_=>M.fail) s=some (v,s')->∃v' w' ι',(Instr.typeAssert x' xt a cok).run P w=.ok v' w'/\VR ι' v v'/\aM G ι ι' s s' w w':=by
   intro hne hh
   split at hh
   ·cases hx
    cases cok with
    |false=>exact(aa hh).elim
    |true =>
     refine fails (pure undef) rfl hh fun z hz=>?_
     unfold Instr.typeAssert
     simp only[Sem.run_bind,hun,Result.andThen_ok,if_true]
     cases d<;>first|exact absurd rfl (hne _)|simp only[Sem.run_bind,ok.zero hz,Result.andThen_ok,Sem.run_pure]
   ·rename_i t y
    cases hx with
    |iface _ _ y' hy =>
     cases hb:Nat.beq t a with
     |true =>
      rw[hb] at hh
      have hta:=aL.1 hb
      obtain⟨rfl,rfl⟩:=ak hh
      refine⟨if cok then .tuple #[y',.bool true] else y',w,ι,?_,zh cok true hy,aM.refl hr rfl rfl⟩
      unfold Instr.typeAssert
      simp only[Sem.run_bind,hun,Result.andThen_ok]
      cases d<;>first|exact absurd rfl (hne _)|(simp only[if_pos hta];rfl)
     |false =>
      rw[hb] at hh
      have hta:=bh.1 hb
      cases cok with
      |false=>exact(aa hh).elim
      |true =>
       refine fails (pure undef) rfl hh fun z hz=>?_
       unfold Instr.typeAssert
       simp only[Sem.run_bind,hun,Result.andThen_ok,if_true]
       cases d<;>first|exact absurd rfl (hne _)|(rw[if_neg hta];simp only[Sem.run_bind,ok.zero hz,Result.andThen_ok,Sem.run_pure])
   ·exact(aa hh).elim
  cases d with
  |interface want =>
   cases x with
   |iface t y =>
    cases hx with
    |iface _ _ y' hy =>
     simp only at h
     cases hi:C.ty.get t with
     |none=>rw[hi] at h;exact(aa h).elim
     |some i =>
      rw[hi] at h
      simp only at h
      cases hm0:pv want.toList i.methods.toList with
      |true =>
       have hm:=ww hm0
       rw[hm0] at h
       obtain⟨rfl,rfl⟩:=ak h
       refine⟨if cok then .tuple #[.iface t y',.bool true] else .iface t y',w,ι,?_,zh cok true (.iface t _ _ hy),aM.refl hr rfl rfl⟩
       unfold Instr.typeAssert
       simp only[Sem.run_bind,hun,Result.andThen_ok,ok.info hi,hm,Sem.run_pure]
      |false =>
       obtain⟨mm,hm⟩:=vM hm0
       rw[hm0] at h
       cases cok with
       |false=>exact(aa h).elim
       |true =>
        refine fails (pure undef) rfl h fun z hz=>?_
        unfold Instr.typeAssert
        simp only[Sem.run_bind,hun,Result.andThen_ok,ok.info hi,hm,if_true,ok.zero hz,Sem.run_pure]
   |nilIface =>
    cases hx
    cases cok with
    |false=>exact(aa h).elim
    |true =>
     refine fails (pure undef) rfl h fun z hz=>?_
     unfold Instr.typeAssert
     simp only[Sem.run_bind,hun,Result.andThen_ok,if_true,ok.zero hz,Sem.run_pure]
   |_=>exact(aa h).elim
  |_=>exact conc (by intro ms hh;cases hh) (by cases x<;>exact h)
theorem yg (hr:HR G ι s.h w.heap) {x x':Value} (i:Nat) (hx:VR ι x x'):d8 G P ι s w (io x i) (Instr.extract x' i):=by
 intro v s' h _
 unfold io at h
 cases x with
 |tuple vs =>
  cases hx with
  |tuple _ vs' ha ra =>
   obtain⟨hn,rfl⟩:=aI h
   rw[b8] at hn
   obtain⟨y,hy,hxy⟩:=bS.get ⟨ha,ra⟩ hn
   rw[Array.getElem?_toList] at hy
   refine⟨y,w,ι,?_,hxy,aM.refl hr rfl rfl⟩
   unfold Instr.extract
   simp only[hy];rfl
 |_=>exact(aa h).elim
theorem qx {t f:Nat}{v r:Value}{name:String} (h:oN C t v name=some (f,r)) :
  r=v/\∃i m p d,C.ty.get t=some i/\i.methods.toList.find? (fun m=>m.name==name)=some m/\m.path.toList=[]/\m.func=some (f,p)/\C.und t=some d/\((∃e,d=.pointer e)↔p=true):=by
 unfold oN at h
 cases hi:C.ty.get t with
 |none=>simp [hi] at h
 |some i =>
  simp only[hi] at h
  cases hm:i.methods.toList.find? (fun m=>m.name==name) with
  |none=>simp [hm] at h
  |some m =>
   simp only[hm] at h
   cases hp:m.path.toList with
   |cons a l=>simp [hp] at h
   |nil =>
    cases hf:m.func with
    |none=>simp [hp,hf] at h
    |some q =>
     obtain⟨ff,p⟩:=q
     simp only[hp,hf] at h
     cases hd:C.und t with
     |none=>simp [hd] at h
     |some d =>
      simp only[hd] at h
      cases p with
      |true =>
       cases d with
       |pointer e =>
        simp only[Option.some.injEq,Prod.mk.injEq] at h
        obtain⟨rfl,rfl⟩:=h
        exact⟨rfl,i,m,true,_,rfl,hm,hp,hf,rfl,by simp⟩
       |_=>simp at h
      |false =>
       cases d with
       |pointer e=>simp at h
       |_ =>
        simp only[Option.some.injEq,Prod.mk.injEq] at h
        obtain⟨rfl,rfl⟩:=h
        exact⟨rfl,i,m,false,_,rfl,hm,hp,hf,rfl,by simp⟩
theorem As (ok:C.Ok eg P) {t f:Nat}{v v' r:Value}{name:String} (h:oN C t v name=some (f,r)) (n:Nat):(method (n+1) t v' name).run P w=.ok (f,v') w:=by
 obtain⟨_,i,m,p,d,hi,hm,hp,hf,hd,hpd⟩:=qx h
 have hm':i.methods.find? (fun m=>m.name==name)=some m:=by rw[<- Array.find?_toList];exact hm
 unfold method
 simp only[Sem.run_bind,ok.info hi,Result.andThen_ok,hm',hp,follow,Sem.run_pure,hf]
 unfold receiverAt
 simp only[Sem.run_bind,ok.runUnd hd,Result.andThen_ok]
 cases p with
 |true =>
  obtain⟨e,rfl⟩:=hpd.2 rfl
  rfl
 |false =>
  have hne:∀e,d≠.pointer e:=fun e he=>by have:=hpd.1 ⟨e,he⟩;cases this
  cases d<;>first|exact absurd rfl (hne _)|rfl
theorem nK (x y:Int):(x==y)=decide (x=y):=by
 by_cases h:x=y
 ·subst h;simp
 ·simp [h]
theorem wG {n D:Nat} (ok:C.Ok eg P) (ih:∀(D:Nat) (t:TypeId) (x y x' y':Value) (b:Bool),n<=D->VR ι x x'->VR ι y y'->xz C eg n t x y=some b->(Op.equalIn D t x' y').run P w=.ok b w) (hD:n<=D)
  {xs ys:List Value}{xs' ys':Array Value} (hx:bS ι xs xs'.toList) (hy:bS ι ys ys'.toList):∀(fs:List Field) (b:Bool),eqFields C (xz C eg n) xs ys fs=some b->(Op.eqFields D xs' ys' fs).run P w=.ok b w:=by
 intro fs
 induction fs with
 |nil=>intro b h;cases h;rfl
 |cons f fs ihf =>
  intro b h
  simp only[eqFields] at h
  unfold Op.eqFields
  by_cases hn : f.name = "_"
  ·rw[decide_eq_true hn] at h
   rw[if_neg (by simp [hn])]
   exact ihf b h
  ·rw[decide_eq_false hn] at h
   rw[if_pos hn]
   simp only at h
   cases ha:nq C f.type xs f.offset with
   |none=>simp [ha] at h
   |some a =>
    cases hb:nq C f.type ys f.offset with
    |none=>simp [ha,hb] at h
    |some c =>
     simp only[ha,hb] at h
     obtain⟨a',a1,a2⟩:=rf (P:=P) (w:=w) ok hx ha
     obtain⟨c',c1,c2⟩:=rf (P:=P) (w:=w) ok hy hb
     cases he:xz C eg n f.type a c with
     |none=>simp [he] at h
     |some q =>
      simp only[he] at h
      have hq:=ih D f.type a c a' c' q hD a2 c2 he
      simp only[Sem.run_bind,a1,c1,Result.andThen_ok,hq]
      cases q with
      |false=>cases h;rfl
      |true =>
       simp only[Bool.not_true,Bool.false_eq_true,if_false]
       exact ihf b h
theorem Ij (ok:C.Ok eg P):∀(n D:Nat) (t:TypeId) (x y x' y':Value) (b:Bool),n<=D->VR ι x x'->VR ι y y'->xz C eg n t x y=some b->(Op.equalIn D t x' y').run P w=.ok b w:=by
 intro n
 induction n with
 |zero=>intro D t x y x' y' b _ _ _ h;cases h
 |succ n ih =>
  intro D t x y x' y' b hD hx hy h
  obtain⟨D,rfl⟩:∃k,D=k+1:=⟨D - 1,by omega⟩
  have hD':n<=D:=by omega
  simp only[xz] at h
  cases hd:C.und t with
  |none=>simp [hd] at h
  |some u =>
   simp only[hd] at h
   have hun:=ok.runUnd hd w
   split at h
   ·cases hx;cases hy
    simp only[Option.some.injEq] at h;subst h
    simp only[Op.equalIn,Sem.run_bind,hun,Result.andThen_ok,Sem.run_pure]
   ·cases hx;cases hy
    rename_i kk j a k c
    by_cases hk:j=k
    ·rw[decide_eq_true hk] at h
     simp only[Option.some.injEq] at h;subst h
     simp only[Op.equalIn,Sem.run_bind,hun,Result.andThen_ok]
     rw[if_pos hk,nK];rfl
    ·rw[decide_eq_false hk] at h;cases h
   ·cases hx;cases hy
    simp only[Option.some.injEq] at h;subst h
    simp only[Op.equalIn,Sem.run_bind,hun,Result.andThen_ok,Sem.run_pure,xv,kT]
   ·cases hx;cases hy
    simp only[Option.some.injEq] at h;subst h
    simp only[Op.equalIn,Sem.run_bind,hun,Result.andThen_ok,Sem.run_pure];rfl
   ·cases hx;cases hy
    simp only[Option.some.injEq] at h;subst h
    simp only[Op.equalIn,Sem.run_bind,hun,Result.andThen_ok,Sem.run_pure];rfl
   ·cases hx;cases hy
    simp only[Option.some.injEq] at h;subst h
    simp only[Op.equalIn,Sem.run_bind,hun,Result.andThen_ok,Sem.run_pure]
   ·rename_i e a i c j
    cases hx with
    |ptr _ _ L hL =>
     cases hy with
     |ptr _ _ L' hL' =>
      cases hs:C.size e with
      |none=>simp [hs] at h
      |some k =>
       cases k with
       |zero=>simp [hs] at h
       |succ k =>
        cases hac:Nat.beq a c with
        |false=>simp [hs,hac] at h
        |true =>
         simp only[hs,hac,Option.some.injEq] at h
         subst h
         have:=aL.1 hac
         subst this
         rw[hL] at hL'
         cases hL'
         simp only[Op.equalIn,Sem.run_bind,hun,Result.andThen_ok,ok.size hs]
         rw[if_pos (by omega)]
         unfold sameAddr
         simp only[beq_self_eq_true,if_true,Sem.run_pure]
         congr 1
         rw[Bool.eq_iff_iff,beq_iff_eq,aL]
         simp
   ·cases hx;cases hy
    simp only[Option.some.injEq] at h;subst h
    simp only[Op.equalIn,Sem.run_bind,hun,Result.andThen_ok,Sem.run_pure]
   ·cases hx;cases hy
    simp only[Option.some.injEq] at h;subst h
    simp only[Op.equalIn,Sem.run_bind,hun,Result.andThen_ok,Sem.run_pure]
   ·cases hx;cases hy
    simp only[Option.some.injEq] at h;subst h
    simp only[Op.equalIn,Sem.run_bind,hun,Result.andThen_ok,Sem.run_pure]
   ·rename_i tx vx ty vy
    cases hx with
    |iface _ _ vx' hvx =>
     cases hy with
     |iface _ _ vy' hvy =>
      cases hb:Nat.beq tx ty with
      |false =>
       simp only[hb,Option.some.injEq] at h;subst h
       simp only[Op.equalIn,Sem.run_bind,hun,Result.andThen_ok]
       rw[if_pos (bh.1 hb)];rfl
      |true =>
       have:=aL.1 hb
       subst this
       simp only[hb] at h
       cases hi:C.ty.get tx with
       |none=>simp [hi] at h
       |some i =>
        simp only[hi] at h
        cases hc:i.comparable with
        |false=>simp [hc] at h
        |true =>
         simp only[hc] at h
         simp only[Op.equalIn,Sem.run_bind,hun,Result.andThen_ok]
         rw[if_neg (by simp)]
         simp only[Sem.run_bind,ok.info hi,Result.andThen_ok,hc,Bool.not_true,Bool.false_eq_true,if_false]
         exact ih D tx vx vy vx' vy' b hD' hvx hvy h
   ·rename_i fields xs ys
    cases hx with
    |agg _ xs' h1 h2 =>
     cases hy with
     |agg _ ys' h3 h4 =>
      cases hg:eg t with
      |true=>simp [hg] at h
      |false =>
       simp only[hg] at h
       have hf:P.fieldsOf t=fields:=by unfold Program.fieldsOf;rw[ok.und hd]
       rw[run_equalIn_struct w D t xs' ys' (by rw[hf];exact ok.und hd) (ok.eg t hg).2,hf]
       exact wG ok ih hD' ⟨h1,h2⟩ ⟨h3,h4⟩ _ b h
   all_goals first|(cases h;done) |
    (cases hx<;>cases hy<;>(simp only[Option.some.injEq] at h;subst h;simp only[Op.equalIn,Sem.run_bind,hun,Result.andThen_ok,Sem.run_pure]<;>try rfl))
end ops
end Go.Ab
end
section
namespace Go.Ab
section ops
variable {G:Nat}{C:aS}{eg:TypeId->Bool}{P:Program}{ι:aD}{s:St}{w:World}
theorem yP {op:BinOp}{k:IntKind}{x y n:Int} (h:uM op k x y=some n):(Op.intBits op k x y).run P w=.ok (.int k n) w:=by
 cases op<;>first
  |(simp only[uM,fB,Option.some.injEq] at h;subst h;rfl)
  |cases h
theorem u9 (op:BinOp) (t:TypeId) (x y:Operand) (j k:IntKind) (m n:Int):(eqGuard op t x y (.int j m) (.int k n)).run P w=.ok () w:=by
 cases op<;>rfl
theorem Dm (op:BinOp) (t:TypeId) (x y:Operand) (a b:ByteArray):(eqGuard op t x y (.string a) (.string b)).run P w=.ok () w:=by
 cases op<;>rfl
theorem un {op:BinOp} (t:TypeId) {k:IntKind}{x y:Int}{v:Value} (h:eC op k x y=some v):(binOp op t (.int k x) (.int k y)).run P w=.ok v w:=by
 have hk:¬ (k≠k):=by simp
 have bits:∀o:BinOp,(match uM o k x y with|some n=>some (Value.int k n)|none=>none)=some v->(Op.intBits o k x y).run P w=.ok v w:=by
  intro o hh
  cases hb:uM o k x y with
  |none=>rw[hb] at hh;cases hh
  |some n =>
   rw[hb] at hh
   simp only[Option.some.injEq] at hh
   subst hh
   exact yP hb
 cases op with
 |add=>simp only[eC,fB,Option.some.injEq] at h;subst h;show Sem.run P (if k≠k then _ else _) w=_;rw[if_neg hk];rfl
 |sub=>simp only[eC,fB,Option.some.injEq] at h;subst h;show Sem.run P (if k≠k then _ else _) w=_;rw[if_neg hk];rfl
 |mul=>simp only[eC,fB,Option.some.injEq] at h;subst h;show Sem.run P (if k≠k then _ else _) w=_;rw[if_neg hk];rfl
 |quo =>
  simp only[eC] at h
  by_cases hy:y=0
  ·rw[decide_eq_true hy] at h;cases h
  ·rw[decide_eq_false hy] at h
   simp only[fB,Option.some.injEq] at h;subst h;show Sem.run P (if k≠k then _ else Op.intDiv _ k x y) w=_;rw[if_neg hk];unfold Op.intDiv;rw[if_neg hy];rfl
 |rem =>
  simp only[eC] at h
  by_cases hy:y=0
  ·rw[decide_eq_true hy] at h;cases h
  ·rw[decide_eq_false hy] at h
   simp only[Option.some.injEq] at h;subst h;show Sem.run P (if k≠k then _ else Op.intDiv _ k x y) w=_;rw[if_neg hk];unfold Op.intDiv;rw[if_neg hy];rfl
 |and=>have:=bits .and h;show Sem.run P (if k≠k then _ else _) w=_;rw[if_neg hk];exact this
 |or=>have:=bits .or h;show Sem.run P (if k≠k then _ else _) w=_;rw[if_neg hk];exact this
 |xor=>have:=bits .xor h;show Sem.run P (if k≠k then _ else _) w=_;rw[if_neg hk];exact this
 |andNot=>have:=bits .andNot h;show Sem.run P (if k≠k then _ else _) w=_;rw[if_neg hk];exact this
 |shl=>cases h
 |shr=>cases h
 |eql=>simp only[eC,Option.some.injEq] at h;subst h;show Sem.run P (if k≠k then _ else _) w=_;rw[if_neg hk,<- nK];rfl
 |neq=>simp only[eC,Option.some.injEq] at h;subst h;show Sem.run P (if k≠k then _ else _) w=_;rw[if_neg hk,<- nK];rfl
 |lss=>simp only[eC,Option.some.injEq] at h;subst h;show Sem.run P (if k≠k then _ else _) w=_;rw[if_neg hk];rfl
 |leq=>simp only[eC,Option.some.injEq] at h;subst h;show Sem.run P (if k≠k then _ else _) w=_;rw[if_neg hk];rfl
 |gtr=>simp only[eC,Option.some.injEq] at h;subst h;show Sem.run P (if k≠k then _ else _) w=_;rw[if_neg hk];rfl
 |geq=>simp only[eC,Option.some.injEq] at h;subst h;show Sem.run P (if k≠k then _ else _) w=_;rw[if_neg hk];rfl
theorem Ff {op:BinOp}{k:IntKind}{x y:Int}{v:Value} (h:eC op k x y=some v):VR ι v v:=by
 cases op<;>simp only[eC] at h<;>(try split at h)<;>first|(cases h;done)|(cases h;first|exact .int _ _|exact .bool _)
theorem zb {op:BinOp}{k:IntKind}{x y:Int}{v:Value} (h:nH op k x y=some v):VR ι v v:=by
 cases y with
 |negSucc m=>cases h
 |ofNat m=>cases op<;>first|(cases h;done)|(cases h;exact .int _ _)
theorem Iu {op:BinOp}{x y:ByteArray}{v:Value} (h:D2 op x y=some v):VR ι v v:=by
 cases op<;>simp only[D2] at h<;>(try split at h)<;>first|(cases h;done)|(cases h;first|exact .string _|exact .bool _)
theorem uN {op:BinOp}{j k:IntKind}{x y:Int}{v:Value} (h:nH op j x y=some v):(Op.shift op j x k y).run P w=.ok v w:=by
 cases y with
 |negSucc m=>cases h
 |ofNat m =>
  have hn:¬ (Int.ofNat m<0):=by have:(0:Int)<=Int.ofNat m:=Int.natCast_nonneg m;omega
  unfold Op.shift
  rw[if_neg hn]
  cases op<;>first
   |(cases h;done)
   |(simp only[nH,fB,Option.some.injEq] at h;subst h;simp only[Int.ofNat_eq_natCast,Int.toNat_natCast,Int.natCast_pow];rfl)
theorem Hl {op:BinOp} (t:TypeId) {x y:ByteArray}{v:Value} (h:D2 op x y=some v):(binOp op t (.string x) (.string y)).run P w=.ok v w:=by
 have e:(binOp op t (.string x) (.string y))=Op.stringOp op x y:=by cases op<;>rfl
 rw[e]
 unfold Op.stringOp
 simp only[ByteArray.toList_eq]
 cases op with
 |add =>
  simp only[D2] at h
  cases hb:Nat.ble (x.size+y.size) dv with
  |false=>rw[hb] at h;cases h
  |true =>
   rw[hb] at h
   simp only[Option.some.injEq] at h
   subst h
   have hle:=aH.1 hb
   have:¬ (((x.size+y.size:Nat):Int)>IntKind.i64.max):=by
    have:IntKind.i64.max=9223372036854775807:=rfl
    rw[this]
    unfold dv at hle
    omega
   simp only
   rw[if_neg this]
   rfl
 |_=>first
  |(cases h;done)
  |(simp only[D2,kT,Option.some.injEq] at h;subst h;rfl)
theorem EP (ok:C.Ok eg P) {t:TypeId}{x y:Operand}{a a' b b':Value}{r:Bool}{n:Nat} (ha:VR ι a a') (hb:VR ι b b') (hg:js eg t x y a b=true) (he:xz C eg (n+1) t a b=some r)
  (hi:∀j m k n,a=.int j m->b=.int k n->False) (hs:∀m n,a=.string m->b=.string n->False) :
  (∀o:BinOp,(eqGuard o t x y a' b').run P w=.ok () w)/\binOp .eql t a' b'=(do pure (.bool (<- Op.equal t a' b')))/\binOp .neq t a' b'=(do pure (.bool (!(<- Op.equal t a' b')))):=by
 simp only[xz] at he
 cases hd:C.und t with
 |none=>simp [hd] at he
 |some u =>
  simp only[hd] at he
  split at he
  case h_2=>exact(hi _ _ _ _ rfl rfl).elim
  case h_3=>exact(hs _ _ rfl rfl).elim
  case h_8 =>
   cases ha;cases hb
   refine⟨fun o=>?_,rfl,rfl⟩
   have hc:(ka x||ka y)=true:=hg
   cases x<;>cases y<;>first
    |(exfalso;simp [ka] at hc;done)
    |(cases o<;>rfl)
  case h_12 =>
   cases ha;cases hb
   refine⟨fun o=>?_,rfl,rfl⟩
   have hc:(!eg t)=true:=hg
   exact run_eqGuard_agg w o t x y _ _ (ok.eg t (by simpa using hc)).1
  all_goals first|(cases he;done)|(cases ha<;>cases hb<;>exact⟨fun o=>by cases o<;>rfl,rfl,rfl⟩)
theorem G5 (ok:C.Ok eg P) (hr:HR G ι s.h w.heap) (op:BinOp) (t:TypeId) (x y:Operand) {a a' b b':Value} (ha:VR ι a a') (hb:VR ι b b') :
  d8 G P ι s w (M.lift (nu C eg op t x y a b)) (do eqGuard op t x y a' b';binOp op t a' b'):=by
 refine d8.lift hr fun v h=>?_
 -- '==' that looks into the values
 have eqs:∀r,js eg t x y a b=true->xz C eg 100 t a b=some r->(∀j m k n,a=.int j m->b=.int k n->False)->(∀m n,a=.string m->b=.string n->False) ->
   (do eqGuard .eql t x y a' b';binOp .eql t a' b').run P w=.ok (.bool r) w/\(do eqGuard .neq t x y a' b';binOp .neq t a' b').run P w=.ok (.bool !r) w:=by
  intro r hg he hi hs
  have hq:(Op.equal t a' b').run P w=.ok r w:=Ij ok 100 Op.maxDepth t a b a' b' r (by decide) ha hb he
  obtain⟨hgu,e1,e2⟩:=EP (P:=P) (w:=w) (n:=99) ok ha hb hg he hi hs
  constructor
  ·simp only[Sem.run_bind,hgu,Result.andThen_ok,e1,hq,Sem.run_pure]
  ·simp only[Sem.run_bind,hgu,Result.andThen_ok,e2,hq,Sem.run_pure]
 unfold nu at h
 split at h
 ·rename_i j m k n
  cases ha;cases hb
  refine⟨v,?_,?_⟩
  ·simp only[Sem.run_bind,u9,Result.andThen_ok]
   split at h
   ·exact uN (k:=k) h
   ·exact uN (k:=k) h
   ·by_cases hjk:j=k
    ·subst hjk
     rw[decide_eq_true rfl] at h
     exact un t h
    ·rw[decide_eq_false hjk] at h;cases h
  ·split at h
   ·exact zb h
   ·exact zb h
   ·split at h
    ·exact Ff h
    ·cases h
 ·cases ha;cases hb
  refine⟨v,?_,Iu h⟩
  simp only[Sem.run_bind,Dm,Result.andThen_ok]
  exact Hl t h
 ·rename_i j m k
  unfold oq at h
  split at h
  ·rename_i x
   cases ha
   cases hb with
   |least _ c hkc =>
    by_cases hj:j=.i64
    ·subst hj
     rw[decide_eq_true rfl,Bool.true_and] at h
     cases hx:Nat.ble x k with
     |false=>rw[hx] at h;cases h
     |true =>
      rw[hx] at h
      simp only[Option.some.injEq] at h
      subst h
      have hle:=aH.1 hx
      refine⟨.bool false,?_,.bool _⟩
      simp only[Sem.run_bind,u9,Result.andThen_ok]
      have:eC .gtr .i64 (Int.ofNat x) (c:Int)=some (.bool false):=by
       simp only[eC,Option.some.injEq,Value.bool.injEq,decide_eq_false_iff_not]
       have:(Int.ofNat x)=(x:Int):=rfl
       omega
      exact un t this
    ·rw[decide_eq_false hj] at h;cases h
  ·cases h
 ·rename_i a b hi hs _
  split at h
  ·split at h
   ·rename_i hg
    split at h
    ·rename_i r he
     simp only[Option.some.injEq] at h
     subst h
     exact⟨_,(eqs r hg he (fun j m k n e f=>hi j m k n e f) (fun m n e f=>hs m n e f)).1,.bool _⟩
    ·cases h
   ·cases h
  ·split at h
   ·rename_i hg
    split at h
    ·rename_i r he
     simp only[Option.some.injEq] at h
     subst h
     exact⟨_,(eqs r hg he (fun j m k n e f=>hi j m k n e f) (fun m n e f=>hs m n e f)).2,.bool _⟩
    ·cases h
   ·cases h
  ·cases h
theorem Ih (hr:HR G ι s.h w.heap) (op:UnOp) {a a':Value} (ha:VR ι a a'):d8 G P ι s w (M.lift (Gz op a)) (Op.unary op a'):=by
 refine d8.lift hr fun v h=>?_
 unfold Gz at h
 split at h
 ·cases ha
  simp only[fB,Option.some.injEq] at h
  subst h
  exact⟨_,rfl,.int _ _⟩
 ·cases ha
  split at h
  ·rename_i r hb
   simp only[Option.some.injEq] at h
   subst h
   exact⟨_,yP (op:=.xor) hb,.int _ _⟩
  ·cases h
 ·cases ha
  simp only[Option.some.injEq] at h
  subst h
  exact⟨_,rfl,.bool _⟩
 ·cases h
end ops
end Go.Ab
end
section
namespace Go.Ab
def fP (r w:List Nat) (lo hi b:Nat):Prop:=b∈r\/b∈w\/(lo<=b/\b<hi)
structure IP {α:Type} (m:M α) (s:St) (a:α) (s':St) (r w:List Nat):Prop where
 rl:s'.rl=r++s.rl
 wl:s'.wl=w++s.wl
 cle:s.c<=s'.c
 rlt:∀b∈r,b<s'.c
 wlt:∀b∈w,b<s'.c
 keep:∀b,b∉w->¬(s.c<=b/\b<s'.c)->s'.h.get b=s.h.get b
 move:∀t:St,t.c=s.c->(∀b,fP r w s.c s'.c b->t.h.get b=s.h.get b) ->
  ∃h',m t=some (a,⟨h',s'.c,r++t.rl,w++t.wl⟩)/\(∀b,fP r w s.c s'.c b->h'.get b=s'.h.get b) /\
   (∀b,b∉w->¬(s.c<=b/\b<s'.c)->h'.get b=t.h.get b)
def ah {α:Type} (m:M α):Prop:=∀s a s',m s=some (a,s')->∃r w,IP m s a s' r w
section loc
variable {α β:Type}
theorem Gp {s:St}{b:Nat}{o:ag} (h:s.h.get b=some o) (hb:b<s.c):getO b s=some (o,⟨s.h,s.c,b::s.rl,s.wl⟩):=by
 obtain⟨h0,c,rl,wl⟩:=s
 show Bool.rec (motive:=fun _=>Option (ag×St)) (Option.rec (motive:=fun _=>Option (ag×St)) none (fun o=>some (o,⟨h0,c,b::rl,wl⟩)) (h0.get b)) none (Nat.ble c b)=_
 rw[cC.2 hb]
 simp only at h
 rw[h]
theorem Ho {s:St}{b:Nat}{o:Option ag}{x:ag} (h:s.h.get b=some x) (hb:b<s.c):putO b o s=some ((),⟨s.h.set b o,s.c,s.rl,b::s.wl⟩):=by
 obtain⟨h0,c,rl,wl⟩:=s
 show Bool.rec (motive:=fun _=>Option (Unit×St)) (Option.rec (motive:=fun _=>Option (Unit×St)) none (fun _=>(h0.set b o).force fun h=>some ((),⟨h,c,rl,b::wl⟩)) (h0.get b)) none (Nat.ble c b)=_
 rw[cC.2 hb]
 simp only at h
 rw[h]
 simp only[T.force_eq]
theorem GX {s:St}{o:ag} (h:s.h.get s.c=none):newO o s=some (s.c,⟨s.h.set s.c (some o),s.c+1,s.rl,s.wl⟩):=by
 obtain⟨h0,c,rl,wl⟩:=s
 show Option.rec (motive:=fun _=>Option (Nat×St)) ((h0.set c (some o)).force fun h=>some (c,⟨h,Nat.add c 1,rl,wl⟩)) (fun _=>none) (h0.get c)=_
 simp only at h
 rw[h]
 simp only[T.force_eq]
theorem ah.ret (a:α):ah (M.ret a):=by
 intro s b s' h
 obtain⟨rfl,rfl⟩:=ak h
 exact⟨[],[],rfl,rfl,Nat.le_refl _,by simp,by simp,fun _ _ _=>rfl,fun t ht hh=>⟨t.h,by rw[<- ht];rfl,hh,fun _ _ _=>rfl⟩⟩
theorem ah.fail:ah (M.fail:M α):=fun _ _ _ h=>(aa h).elim
theorem ah.lift (x:Option α):ah (M.lift x):=by
 cases x with
 |none=>intro s b s' h;cases h
 |some a=>exact ah.ret a
theorem Gk {m:M α}{f:α->M β}{s s1:St}{a:α} (h:m s=some (a,s1)):m.bind f s=f a s1:=by
 show Option.rec (motive:=fun _=>Option (β×St)) none (fun p=>Prod.rec (motive:=fun _=>Option (β×St)) (fun a s=>f a s) p) (m s)=_
 rw[h]
theorem ah.bind {m:M α}{f:α->M β} (hm:ah m) (hf:∀a,ah (f a)):ah (m.bind f):=by
 intro s b s2 h
 obtain⟨a,s1,h1,h2⟩:=bind_some h
 obtain⟨r1,w1,L1⟩:=hm s a s1 h1
 obtain⟨r2,w2,L2⟩:=hf a s1 b s2 h2
 have c1:=L1.cle
 have c2:=L2.cle
 refine⟨r2++r1,w2++w1,?_,?_,by omega,?_,?_,?_,?_⟩
 ·rw[L2.rl,L1.rl,List.append_assoc]
 ·rw[L2.wl,L1.wl,List.append_assoc]
 ·intro b hb
  rcases List.mem_append.1 hb with hb|hb
  ·exact L2.rlt b hb
  ·exact Nat.lt_of_lt_of_le (L1.rlt b hb) c2
 ·intro b hb
  rcases List.mem_append.1 hb with hb|hb
  ·exact L2.wlt b hb
  ·exact Nat.lt_of_lt_of_le (L1.wlt b hb) c2
 ·intro b hb hc
  simp only[List.mem_append,not_or] at hb
  rw[L2.keep b hb.1 (by omega),L1.keep b hb.2 (by omega)]
 ·intro t ht hh
  have up1:∀b,fP r1 w1 s.c s1.c b->fP (r2++r1) (w2++w1) s.c s2.c b:=by
   intro b hb
   rcases hb with hb|hb|hb
   ·exact .inl (List.mem_append_right _ hb)
   ·exact .inr (.inl (List.mem_append_right _ hb))
   ·exact .inr (.inr (by omega))
  have up2:∀b,fP r2 w2 s1.c s2.c b->fP (r2++r1) (w2++w1) s.c s2.c b:=by
   intro b hb
   rcases hb with hb|hb|hb
   ·exact .inl (List.mem_append_left _ hb)
   ·exact .inr (.inl (List.mem_append_left _ hb))
   ·exact .inr (.inr (by omega))
  obtain⟨g1,e1,p1,q1⟩:=L1.move t ht fun b hb=>hh b (up1 b hb)
  obtain⟨g2,e2,p2,q2⟩:=L2.move ⟨g1,s1.c,r1++t.rl,w1++t.wl⟩ rfl fun b hb=>by
   show g1.get b=_
   by_cases hw:b∈w1\/(s.c<=b/\b<s1.c)
   ·exact p1 b (.inr hw)
   ·simp only[not_or] at hw
    rw[q1 b hw.1 hw.2,L1.keep b hw.1 hw.2]
    exact hh b (up2 b hb)
  refine⟨g2,?_,?_,?_⟩
  ·rw[Gk e1,e2]
   simp only[List.append_assoc]
  ·intro b hb
   by_cases h2:fP r2 w2 s1.c s2.c b
   ·exact p2 b h2
   ·simp only[fP,not_or] at h2
    rw[q2 b h2.2.1 h2.2.2,L2.keep b h2.2.1 h2.2.2]
    refine p1 b ?_
    rcases hb with hb|hb|hb
    ·exact .inl ((List.mem_append.1 hb).resolve_left h2.1)
    ·exact .inr (.inl ((List.mem_append.1 hb).resolve_left h2.2.1))
    ·exact .inr (.inr (by omega))
  ·intro b hb hc
   simp only[List.mem_append,not_or] at hb
   rw[q2 b hb.1 (by omega)]
   show g1.get b=_
   exact q1 b hb.2 (by omega)
theorem ah.getO (b:Nat):ah (getO b):=by
 intro s o s' h
 obtain⟨h1,h2,rfl⟩:=jQ h
 refine⟨[b],[],rfl,rfl,Nat.le_refl _,by simpa using h2,by simp,fun _ _ _=>rfl,fun t ht hh=>⟨t.h,?_,hh,fun _ _ _=>rfl⟩⟩
 rw[Gp ((hh b (.inl (by simp))).trans h1) (by rw[ht];exact h2),ht]
 rfl
theorem ah.putO (b:Nat) (o:Option ag):ah (putO b o):=by
 intro s a s' h
 obtain⟨⟨x,h1⟩,h2,rfl⟩:=dI h
 refine⟨[],[b],rfl,rfl,Nat.le_refl _,by simp,by simpa using h2,fun k hk _=>?_,fun t ht hh=>⟨t.h.set b o,?_,?_,?_⟩⟩
 ·show (s.h.set b o).get k=_
  rw[T.get_set,if_neg (by simpa using hk)]
 ·rw[Ho ((hh b (.inr (.inl (by simp)))).trans h1) (by rw[ht];exact h2),ht]
  rfl
 ·intro k hk
  show _=(s.h.set b o).get k
  rw[T.get_set,T.get_set]
  split
  ·rfl
  ·exact hh k hk
 ·intro k hk _
  rw[T.get_set,if_neg (by simpa using hk)]
theorem ah.newO (o:ag):ah (newO o):=by
 intro s a s' h
 obtain⟨h1,rfl,rfl⟩:=dZ h
 refine⟨[],[],rfl,rfl,Nat.le_succ _,by simp,by simp,fun k _ hk=>?_,fun t ht hh=>⟨t.h.set s.c (some o),?_,?_,?_⟩⟩
 ·show (s.h.set s.c (some o)).get k=_
  rw[T.get_set,if_neg (by simp only at hk;omega)]
 ·rw[GX (by rw[ht];exact(hh s.c (.inr (.inr ⟨Nat.le_refl _,Nat.lt_succ_self _⟩))).trans h1),ht]
  rfl
 ·intro k hk
  show _=(s.h.set s.c (some o)).get k
  rw[T.get_set,T.get_set]
  split
  ·rfl
  ·exact hh k hk
 ·intro k _ hk
  rw[T.get_set,if_neg (by simp only at hk;omega)]
theorem mD {m:M α}{s s':St}{p:α×Fp} (h:told m s=some (p,s')) :
  ∃s1,m ⟨s.h,s.c,[],[]⟩=some (p.1,s1)/\p.2=⟨s1.rl,s1.wl,s.c,s1.c⟩/\s'=⟨s1.h,s1.c,s1.rl++s.rl,s1.wl++s.wl⟩:=by
 obtain⟨h0,c,rl,wl⟩:=s
 have h':Option.rec (motive:=fun _=>Option ((α×Fp)×St)) none
   (fun p=>Prod.rec (motive:=fun _=>Option ((α×Fp)×St)) (fun a s1 =>
    St.rec (motive:=fun _=>Option ((α×Fp)×St)) (fun h1 c1 rl1 wl1=>some ((a,⟨rl1,wl1,c,c1⟩),⟨h1,c1,app rl1 rl,app wl1 wl⟩)) s1) p)
   (m ⟨h0,c,[],[]⟩)=some (p,s'):=h
 cases hm:m ⟨h0,c,[],[]⟩ with
 |none=>rw[hm] at h';cases h'
 |some q =>
  rw[hm] at h'
  obtain⟨a,h1,c1,rl1,wl1⟩:=q
  simp only[cP,Option.some.injEq,Prod.mk.injEq] at h'
  obtain⟨rfl,rfl⟩:=h'
  exact⟨_,rfl,rfl,rfl⟩
theorem Ha {m:M α}{s s1:St}{a:α} (h:m ⟨s.h,s.c,[],[]⟩=some (a,s1)):told m s=some ((a,⟨s1.rl,s1.wl,s.c,s1.c⟩),⟨s1.h,s1.c,s1.rl++s.rl,s1.wl++s.wl⟩):=by
 obtain⟨h0,c,rl,wl⟩:=s
 show Option.rec (motive:=fun _=>Option ((α×Fp)×St)) none
   (fun p=>Prod.rec (motive:=fun _=>Option ((α×Fp)×St)) (fun a s1 =>
    St.rec (motive:=fun _=>Option ((α×Fp)×St)) (fun h1 c1 rl1 wl1=>some ((a,⟨rl1,wl1,c,c1⟩),⟨h1,c1,app rl1 rl,app wl1 wl⟩)) s1) p)
   (m ⟨h0,c,[],[]⟩)=_
 simp only at h
 rw[h]
 simp only[cP]
theorem lQ {m:M α}{s s':St}{a:α} (h:framed m s=some (a,s')) :
  ∃s1,m ⟨s.h,s.c,[],[]⟩=some (a,s1)/\s'=⟨s1.h,s1.c,s1.rl.filter (fun b=>decide (b<s.c))++s.rl,s1.wl.filter (fun b=>decide (b<s.c))++s.wl⟩:=by
 obtain⟨h0,c,rl,wl⟩:=s
 have h':Option.rec (motive:=fun _=>Option (α×St)) none
   (fun p=>Prod.rec (motive:=fun _=>Option (α×St)) (fun a s1 =>
    St.rec (motive:=fun _=>Option (α×St)) (fun h1 c1 rl1 wl1=>some (a,⟨h1,c1,below c rl1 rl,below c wl1 wl⟩)) s1) p)
   (m ⟨h0,c,[],[]⟩)=some (a,s'):=h
 cases hm:m ⟨h0,c,[],[]⟩ with
 |none=>rw[hm] at h';cases h'
 |some q =>
  rw[hm] at h'
  obtain⟨a,h1,c1,rl1,wl1⟩:=q
  simp only[jO,Option.some.injEq,Prod.mk.injEq] at h'
  obtain⟨rfl,rfl⟩:=h'
  exact⟨_,rfl,rfl⟩
theorem Ci {m:M α}{s s1:St}{a:α} (h:m ⟨s.h,s.c,[],[]⟩=some (a,s1)) :
  framed m s=some (a,⟨s1.h,s1.c,s1.rl.filter (fun b=>decide (b<s.c))++s.rl,s1.wl.filter (fun b=>decide (b<s.c))++s.wl⟩):=by
 obtain⟨h0,c,rl,wl⟩:=s
 show Option.rec (motive:=fun _=>Option (α×St)) none
   (fun p=>Prod.rec (motive:=fun _=>Option (α×St)) (fun a s1 =>
    St.rec (motive:=fun _=>Option (α×St)) (fun h1 c1 rl1 wl1=>some (a,⟨h1,c1,below c rl1 rl,below c wl1 wl⟩)) s1) p)
   (m ⟨h0,c,[],[]⟩)=_
 simp only at h
 rw[h]
 simp only[jO]
theorem ah.told {m:M α} (hm:ah m):ah (told m):=by
 intro s p s' h
 obtain⟨s1,h1,h2,rfl⟩:=mD h
 obtain⟨r,w,L⟩:=hm _ _ _ h1
 have er:s1.rl=r:=by rw[L.rl];simp
 have ew:s1.wl=w:=by rw[L.wl];simp
 refine⟨r,w,by rw[er],by rw[ew],L.cle,L.rlt,L.wlt,L.keep,fun t ht hh=>?_⟩
 obtain⟨h',e,p1,q1⟩:=L.move ⟨t.h,t.c,[],[]⟩ ht hh
 refine⟨h',?_,p1,q1⟩
 rw[Ha e]
 obtain⟨pa,pf⟩:=p
 simp only at h2
 subst h2
 simp only[List.append_nil,er,ew,ht]
theorem ah.framed {m:M α} (hm:ah m):ah (framed m):=by
 intro s a s' h
 obtain⟨s1,h1,rfl⟩:=lQ h
 obtain⟨r,w,L⟩:=hm _ _ _ h1
 have er:s1.rl=r:=by rw[L.rl];simp
 have ew:s1.wl=w:=by rw[L.wl];simp
 have cle:s.c<=s1.c:=L.cle
 have up:∀b,fP r w s.c s1.c b↔fP (r.filter fun b=>decide (b<s.c)) (w.filter fun b=>decide (b<s.c)) s.c s1.c b:=by
  intro b
  simp only[fP,List.mem_filter,decide_eq_true_eq]
  constructor
  ·rintro(hb|hb|hb)
   ·have:=L.rlt b hb
    by_cases hc:b<s.c
    ·exact .inl ⟨hb,hc⟩
    ·exact .inr (.inr (by omega))
   ·have:=L.wlt b hb
    by_cases hc:b<s.c
    ·exact .inr (.inl ⟨hb,hc⟩)
    ·exact .inr (.inr (by omega))
   ·exact .inr (.inr hb)
  ·rintro(hb|hb|hb)
   ·exact .inl hb.1
   ·exact .inr (.inl hb.1)
   ·exact .inr (.inr hb)
 refine⟨r.filter fun b=>decide (b<s.c),w.filter fun b=>decide (b<s.c),by rw[er],by rw[ew],cle,?_,?_,?_,fun t ht hh=>?_⟩
 ·intro b hb;exact L.rlt b (List.mem_filter.1 hb).1
 ·intro b hb;exact L.wlt b (List.mem_filter.1 hb).1
 ·intro b hb hc
  have hb':b∉w:=fun hw=>by
   have:=L.wlt b hw
   simp only[List.mem_filter,decide_eq_true_eq] at hb
   by_cases hlt:b<s.c
   ·exact hb ⟨hw,hlt⟩
   ·simp only at hc;omega
  exact L.keep b hb' hc
 ·obtain⟨h',e,p1,q1⟩:=L.move ⟨t.h,t.c,[],[]⟩ ht fun b hb=>hh b ((up b).1 hb)
  refine⟨h',?_,fun b hb=>p1 b ((up b).2 hb),?_⟩
  ·rw[Ci e]
   simp only[List.append_nil,ht]
  ·intro b hb hc
   have hb':b∉w:=fun hw=>by
    have:=L.wlt b hw
    simp only[List.mem_filter,decide_eq_true_eq] at hb
    by_cases hlt:b<s.c
    ·exact hb ⟨hw,hlt⟩
    ·simp only at hc;omega
   exact q1 b hb' hc
end loc
end Go.Ab
end
