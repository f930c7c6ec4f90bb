import Derived.Test.YtofikbfljjjgeaaGreatDoorDF2
import Derived.Test.YtofikbfljjjgeaaGreatDoorDJ3
import Derived.Test.YtofikbfljjjgeaaGreatDoorDO3
import Derived.Test.YtofikbfljjjgeaaGreatDoorDP3
import Derived.Test.YtofikbfljjjgeaaGreatDoorDF3
set_option linter.unusedVariables false
set_option linter.unusedSimpArgs false
section
namespace Go.Ab
section
variable {C:aS}{eg:TypeId->Bool}{e:aR}{s:St}{d:Option Nat}{ty:TypeId}{ps:String}{af:Array Edge}{g:Option (Nat×Bool)}{h:T ag}{c:Nat}{rl wl:List Nat}
noncomputable def yO (C:aS) (t:TypeId):Option (Nat×Nat):=match C.und t with|some (.array k e)=>(C.size e).map fun n=>(k,n)|_=>none
theorem aY {t:TypeId}{x i:Operand}{b o m n k:Nat}{j:IntKind}{z:Int} (ht:yO C t=some (m,n)) (hx:ae e x=.pointer (some ⟨b,o,none⟩)) (hi:ae e i=.int j z) (hz:z=(k:Int)) (hk:k<m) :
  aW C eg e ⟨d,.indexAddr t x i,ty,ps,af,g⟩ s (.pointer (some ⟨b,o+k*n,none⟩)) s:=⟨0,by
 show dN C t (ae e x) (ae e i) s=_
 subst hz
 rw[hx,hi]
 unfold yO at ht
 unfold dN
 rw[show cZ (.int j (k:Int))=some k from rfl]
 cases hu:C.und t with
 |none=>rw[hu] at ht;cases ht
 |some u =>
  rw[hu] at ht
  cases u<;>first|(cases ht;done)|skip
  rename_i k' e'
  simp only at ht ⊢
  cases he:C.size e' with
  |none=>rw[he] at ht;cases ht
  |some n' =>
   rw[he] at ht
   simp only[Option.map_some,Option.some.injEq,Prod.mk.injEq] at ht
   obtain⟨rfl,rfl⟩:=ht
   rw[show Nat.blt k k'=true from eh.2 hk];rfl⟩
noncomputable def Io (C:aS) (t:TypeId):Option Nat:=match C.und t with|some (.array k e)=>(match C.size e,jt C e with|some 1,true=>some k|_,_=>none)|_=>none
theorem CT {t:TypeId}{x i:Operand}{m k:Nat}{j:IntKind}{z:Int}{cs:List Value}{v:Value} (ht:Io C t=some m) (hx:ae e x=.agg ⟨cs⟩) (hi:ae e i=.int j z) (hz:z=(k:Int)) (hk:k<m) (hv:cu cs k=some v) :
  aW C eg e ⟨d,.index t x i,ty,ps,af,g⟩ s v s:=⟨0,by
 show kj C t (ae e x) (ae e i) s=_
 subst hz
 rw[hx,hi]
 unfold Io at ht
 unfold kj
 rw[show cZ (.int j (k:Int))=some k from rfl]
 cases hu:C.und t with
 |none=>rw[hu] at ht;cases ht
 |some u =>
  rw[hu] at ht
  cases u<;>first|(cases ht;done)|skip
  rename_i k' e'
  simp only at ht ⊢
  cases he:C.size e' with
  |none=>rw[he] at ht;cases ht
  |some n' =>
   rw[he] at ht
   cases hp:jt C e' with
   |false =>
    rw[hp] at ht
    simp only at ht
    cases ht
   |true =>
    rw[hp] at ht
    by_cases hn:n'=1
    ·subst hn
     simp only[Option.some.injEq] at ht
     subst ht
     rw[show Nat.blt k k'=true from eh.2 hk]
     simp only[Nat.mul_one]
     refine aw ?_
     unfold nq
     unfold jt at hp
     cases hq:C.und e' with
     |none=>rw[hq] at hp;cases hp
     |some w =>
      rw[hq] at hp
      cases w<;>first|(cases hp;done)|exact hv
    ·split at ht
     ·rename_i h2 _;exact absurd (Option.some.inj h2) hn
     ·cases ht⟩
theorem F0 {t t2:TypeId}{x y:Operand}{j j2:IntKind}{a:Int}{k:Nat} (hx:ae e x=.int j a) (hy:ae e y=.int j2 (k:Int)) (hk:k<=j.bits):aW C eg e ⟨d,.binOp .shr t x y t2,ty,ps,af,g⟩ s (.int j (a.fdiv ((2^k:Nat):Int))) s :=
 cY hx hy (by
  show nH .shr j a (k:Int)=_
  unfold nH
  show some (Value.int j (a.fdiv ((2^Nat.min k j.bits:Nat):Int)))=_
  rw[show Nat.min k j.bits=k from Nat.min_eq_left hk])
theorem ID {t t2:TypeId}{x y:Operand}{j:IntKind}{a b:Int} (hx:ae e x=.int j a) (hy:ae e y=.int j b):aW C eg e ⟨d,.binOp .and t x y t2,ty,ps,af,g⟩ s (.int j (cf j (BitVec.ofInt j.bits a &&& BitVec.ofInt j.bits b).toNat)) s :=
 cY hx hy (by rw[cq (by decide) (by decide)];rfl)
theorem G3 {t t2:TypeId}{x y:Operand}{j:IntKind}{a b:Int} (hx:ae e x=.int j a) (hy:ae e y=.int j b):aW C eg e ⟨d,.binOp .mul t x y t2,ty,ps,af,g⟩ s (.int j (cf j (a*b))) s :=
 cY hx hy (by rw[cq (by decide) (by decide)];rfl)
theorem If {t:TypeId}{x:Operand}{j:IntKind}{a:Int} (hx:ae e x=.int j a):aW C eg e ⟨d,.unOp .neg t x,ty,ps,af,g⟩ s (.int j (cf j (0 - a))) s:=HY hx rfl
theorem tm {t et:TypeId}{x:Operand}{n by_ k cap b o:Nat}{sp:Option Nat}{z cs r:List Value} (ht:C.row t=some (et,n,by_,z)) (hx:ae e x=.slice (some ⟨b,o,sp⟩) (k+1) cap) (hb:ay h b (.cells cs)) (hc:b<c) (hr:bw (rep z (k+1)) cs o=some r) :
  aW C eg e ⟨d,.call ⟨.builtin .clear,#[x],#[t]⟩,ty,ps,af,g⟩ ⟨h,c,rl,wl⟩ br ⟨h.set b (some (.cells r)),c,b::rl,b::wl⟩:=⟨0,by
 show mW C #[t] (ae e x) _=_
 rw[hx]
 show ((M.lift (C.row t)).bind fun(_,_,_,z)=>(cx b o (rep z (k+1))).bind fun _=>M.ret br) _=_
 rw[ac (aw ht)]
 simp only
 rw[ac (fY hb hc hr)]
 rfl⟩
theorem Cn {t:TypeId}{x lo hi mx:Operand}{b o len cap n k l m:Nat}{j j' j2:IntKind}{z z' z2:Int} (ht:cQ C t=some n) (hx:ae e x=.slice (some ⟨b,o,some n⟩) len cap) (hl:ae e lo=.int j z) (hz:z=(k:Int)) (hh:ae e hi=.int j' z') (hz':z'=(l:Int)) (hm:ae e mx=.int j2 z2) (hz2:z2=(m:Int)) (h1:k<=l) (h2:l<=m) (h3:m<=cap) (h4:k<m) :
  aW C eg e ⟨d,.slice t x (some lo) (some hi) (some mx),ty,ps,af,g⟩ s (.slice (some ⟨b,o+k*n,none⟩) (l - k) (m - k)) s:=⟨0,by
 show cV C t (ae e x) ((some lo).map (ae e)) ((some hi).map (ae e)) ((some mx).map (ae e)) s=_
 subst hz;subst hz';subst hz2
 simp only[Option.map_some]
 rw[hx,hl,hh,hm]
 unfold cQ at ht
 unfold cV
 cases hu:C.und t with
 |none=>rw[hu] at ht;cases ht
 |some u =>
  rw[hu] at ht
  cases u<;>first|(cases ht;done)|skip
  simp only at ht ⊢
  rw[ac (aw ht)]
  have hb:dL len cap (some (.int j (k:Int))) (some (.int j' (l:Int))) (some (.int j2 (m:Int)))=some (k,l,m):=by
   unfold dL
   simp only[dr]
   rw[show cZ (.int j2 (m:Int))=some m from rfl,show cZ (.int j' (l:Int))=some l from rfl,show cZ (.int j (k:Int))=some k from rfl]
   simp only[aH.2 h3,aH.2 h2,aH.2 h1]
  rw[ac (aw hb)]
  simp only[show (Nat.beq n n&&Nat.ble l m)=true by rw[aH.2 h2,Nat.beq_refl];rfl]
  rw[show Nat.beq m k=false from bh.2 (by omega)];rfl⟩
theorem uQ {t:TypeId}{x lo hi:Operand}{b o len cap n k l:Nat}{j j':IntKind}{z z':Int} (ht:cQ C t=some n) (hx:ae e x=.slice (some ⟨b,o,some n⟩) len cap) (hl:ae e lo=.int j z) (hz:z=(k:Int)) (hh:ae e hi=.int j' z') (hz':z'=(l:Int)) (h1:k<=l) (h3:l<=cap) :
  aW C eg e ⟨d,.slice t x (some lo) (some hi) none,ty,ps,af,g⟩ s (.slice (some ⟨b,o+k*n,some n⟩) (l - k) (cap - k)) s:=⟨0,by
 show cV C t (ae e x) ((some lo).map (ae e)) ((some hi).map (ae e)) ((none:Option Operand).map (ae e)) s=_
 subst hz;subst hz'
 simp only[Option.map_some,Option.map_none]
 rw[hx,hl,hh]
 unfold cQ at ht
 unfold cV
 cases hu:C.und t with
 |none=>rw[hu] at ht;cases ht
 |some u =>
  rw[hu] at ht
  cases u<;>first|(cases ht;done)|skip
  simp only at ht ⊢
  rw[ac (aw ht)]
  have hb:dL len cap (some (.int j (k:Int))) (some (.int j' (l:Int))) none=some (k,l,cap):=by
   unfold dL
   simp only
   show (match dr none cap cap with|none=>none|some m=>_)=_
   simp only[dr]
   rw[show cZ (.int j' (l:Int))=some l from rfl,show cZ (.int j (k:Int))=some k from rfl]
   simp only[aH.2 h3,aH.2 h1]
  rw[ac (aw hb)]
  simp only[show (Nat.beq n n&&Nat.ble l cap)=true by rw[aH.2 h3,Nat.beq_refl];rfl];rfl⟩
noncomputable def xA (C:aS) (t:TypeId):Option (Nat×List Value) :=
 match C.und t,C.zero t with
 |some (.array _ e),some z=>(match C.size e,ba z with|some n,some zs=>some (n,zs)|_,_=>none)
 |_,_=>none
theorem mZ {t:TypeId}{parts:Array (Nat×Operand)}{n:Nat}{zs cs:List Value} (ht:xA C t=some (n,zs)) (hv:j4 (fun i=>some (i*n,n)) zs (dA e parts)=some cs) :
  aW C eg e ⟨d,.build t parts,ty,ps,af,g⟩ s (.agg ⟨cs⟩) s:=⟨0,by
 show g9 C t (dA e parts) s=_
 unfold xA at ht
 unfold g9
 cases hu:C.und t with
 |none=>rw[hu] at ht;cases ht
 |some u =>
  cases hz:C.zero t with
  |none=>rw[hu,hz] at ht;cases u<;>cases ht
  |some z =>
   rw[hu,hz] at ht
   cases u<;>first|(cases ht;done)|skip
   rename_i k e'
   simp only at ht ⊢
   cases he:C.size e' with
   |none=>rw[he] at ht;cases ht
   |some n' =>
    cases hc:ba z with
    |none=>rw[he,hc] at ht;cases ht
    |some zs' =>
     rw[he,hc] at ht
     simp only[Option.some.injEq,Prod.mk.injEq] at ht
     obtain⟨rfl,rfl⟩:=ht
     rw[ac (aw rfl),ac (aw rfl),ac (aw hv)]
     rfl⟩
end
end Go.Ab
end
section
namespace Go.Ab.Seat
open Go.Extern Go.Proofs
set_option maxRecDepth 4000
theorem FZ (m:Nat):(2*m+1).testBit 0=true:=by rw[Nat.testBit_zero];simp
theorem Gl (m:Nat):(2*m).testBit 0=false:=by rw[Nat.testBit_zero];simp
theorem GH (m j:Nat):(2*m+1).testBit (j+1)=m.testBit j:=by rw[Nat.testBit_succ];congr 1;omega
theorem Ia (m j:Nat):(2*m).testBit (j+1)=m.testBit j:=by rw[Nat.testBit_succ];congr 1;omega
theorem Gy {k m n:Nat} (h:2^k*(2*m+1)<2^n):(2^k*(2*m+1)) &&& (2^n - 2^k*(2*m+1))=2^k:=by
 have hk:k<n:=by
  refine Classical.byContradiction fun q=>?_
  have h1:2^n<=2^k:=Nat.pow_le_pow_right (by omega) (by omega)
  have h2:2^k*1<=2^k*(2*m+1):=Nat.mul_le_mul_left _ (by omega)
  omega
 obtain⟨j,rfl⟩:∃j,n=k+j:=⟨n - k,by omega⟩
 have h3:2*m+1<2^j:=by
  rw[Nat.pow_add] at h
  exact Nat.lt_of_mul_lt_mul_left h
 have h4:2^(k+j) - 2^k*(2*m+1)=2^k*(2^j - (2*m+1)):=by rw[Nat.pow_add,Nat.mul_sub]
 rw[h4]
 refine Nat.eq_of_testBit_eq fun i=>?_
 rw[Nat.testBit_and,Nat.testBit_two_pow_mul,Nat.testBit_two_pow_mul,Nat.testBit_two_pow]
 rcases Nat.lt_or_ge i k with q|q
 ·rw[decide_eq_false (by omega),decide_eq_false (by omega)];rfl
 ·rw[decide_eq_true (show i>=k from q),Bool.true_and,Bool.true_and,Nat.testBit_two_pow_sub_succ (by omega)]
  obtain⟨r,rfl⟩:∃r,i=k+r:=⟨i - k,by omega⟩
  rw[show k+r - k=r by omega]
  cases r with
  |zero=>rw[FZ,Gl,decide_eq_true (by omega),decide_eq_true (by omega)];rfl
  |succ r =>
   rw[GH,Ia,decide_eq_false (show ¬k=k+(r+1) by omega)]
   cases m.testBit r<;>simp
theorem oX (n:Int):cf .u32 n=n%4294967296:=by
 rw[fB]
 show IntKind.wrap .u32 n=_
 unfold IntKind.wrap
 simp [IntKind.signed,IntKind.bits]
theorem EB:∀n:Nat,n≠0->∃k m,n=2^k*(2*m+1):=by
 intro n
 induction n using Nat.strongRecOn with
 |ind n ih =>
  intro h
  by_cases h2:n%2=0
  ·obtain⟨k,m,e⟩:=ih (n / 2) (by omega) (by omega)
   refine⟨k+1,m,?_⟩
   rw[Nat.pow_succ,Nat.mul_assoc,Nat.mul_comm 2,<- Nat.mul_assoc,<- e];omega
  ·exact⟨0,n / 2,by rw[Nat.pow_zero,Nat.one_mul];omega⟩
theorem Hq {k m i:Nat}:(2^k*(2*m+1))%2^i=0↔i<=k:=by
 rw[<- Nat.dvd_iff_mod_eq_zero]
 constructor
 ·intro h
  refine Classical.byContradiction fun q=>?_
  have h1:2^(k+1) ∣ 2^k*(2*m+1):=Nat.dvd_trans (Nat.pow_dvd_pow 2 (by omega)) h
  rw[Nat.pow_succ] at h1
  have:=Nat.dvd_of_mul_dvd_mul_left (Nat.pow_pos (by omega)) h1
  omega
 ·exact fun h=>Nat.dvd_trans (Nat.pow_dvd_pow 2 h) (Nat.dvd_mul_right _ _)
theorem qP {p:Nat->Bool}{k:Nat}:∀ {n:Nat},(∀i,i<n->(p i=true↔i<k))->((List.range n).takeWhile p).length=min k n:=by
 have gen:∀(n s:Nat),(∀i,i<n->(p (s+i)=true↔s+i<k))->((List.range' s n).takeWhile p).length=min (k - s) n:=by
  intro n
  induction n with
  |zero=>intro s _;simp
  |succ n ih =>
   intro s h
   rw[List.range'_succ,List.takeWhile_cons]
   have h0:=h 0 (by omega)
   rw[Nat.add_zero] at h0
   by_cases hs:s<k
   ·rw[if_pos (h0.2 hs),List.length_cons,ih (s+1) (fun i hi=>by have:=h (i+1) (by omega);rwa [show s+(i+1)=s+1+i by omega] at this)]
    omega
   ·rw[if_neg (fun q=>hs (h0.1 q))]
    simp;omega
 intro n h
 rw[List.range_eq_range',gen n 0 (fun i hi=>by rw[Nat.zero_add];exact h i hi)]
 simp
theorem IA {k m:Nat}:IB ((2^k*(2*m+1):Nat):Int)=min k 8:=by
 unfold IB
 refine qP fun i hi=>?_
 rw[decide_eq_true_eq,show ((2:Int)^(i+1))=((2^(i+1):Nat):Int) by rw[Int.natCast_pow];rfl,<- Int.natCast_emod]
 rw[show (0:Int)=((0:Nat):Int) from rfl,Int.ofNat_inj,Hq]
 omega
theorem E3:IB 0=8:=by decide
theorem Le {sm:Nat->Option (List Value->M Value)}:yO (Cs sm) 193=some (32,1):=by kernel_rfl
def IQ (k:Nat):Nat:=(2^k*125613361)%4294967296 / 134217728
theorem BP:∀k,k<32->IQ k<32/\([0,1,28,2,29,14,24,3,30,22,20,15,25,17,4,8,31,27,13,23,21,19,16,7,26,12,18,6,11,5,10,9]:List Int)[IQ k]?=some (k:Int):=by decide
theorem Ig {k:Nat} (hk:k<32):cu pP (IQ k)=some (.int .u8 (k:Int)):=by
 have h:=(BP k hk).2
 rw[b8]
 have e:pP=([0,1,28,2,29,14,24,3,30,22,20,15,25,17,4,8,31,27,13,23,21,19,16,7,26,12,18,6,11,5,10,9]:List Int).map fun n=>Value.int .u8 n:=rfl
 rw[e,List.getElem?_map,h];rfl
theorem Hi {h:T ag}{c:Nat}{rl wl:List Nat} (hf:ai h c) (hg:qN h) {x:Int} (h0:0<=x/\x<4294967296) (R:Nat->Prop) (hR:R 0) :
  ∃r s',aE (Cs bD) eg 80 [.int .u32 x] ⟨h,c,rl,wl⟩ r s'/\(∃t:Nat,r=.int .i64 (t:Int)/\t<=32/\min t 8=IB x/\s'.h=h/\s'.c=c)/\bA ⟨h,c,rl,wl⟩ s' R (fun _=>False):=by
 have g0:=hg.g0
 have l0:=g0.lt hf
 refine Fn.go (aU 80 rfl) Pw OK Oy rfl rfl ?_
 refine cg ?_
 by_cases hx:x=0
 ·subst hx
  refine aq ?_
  exact⟨.inr rfl,aG.one rfl ⟨⟨32,rfl,Nat.le_refl _,by rw[E3];rfl,rfl,rfl⟩,bM⟩⟩
 ·refine aq ?_
  obtain⟨k,m,hkm⟩:=EB x.toNat (by omega)
  have hxe:x=((2^k*(2*m+1):Nat):Int):=by rw[<- hkm];omega
  have hlt:2^k*(2*m+1)<2^32:=by rw[<- hkm];show _<4294967296;omega
  have hk:k<32:=by
   refine Classical.byContradiction fun q=>?_
   have h1:2^32<=2^k:=Nat.pow_le_pow_right (by omega) (by omega)
   have h2:2^k*1<=2^k*(2*m+1):=Nat.mul_le_mul_left _ (by omega)
   omega
  have hpos:0<2^k*(2*m+1):=by omega
  refine Zu (If rfl) ?_
  refine aq ?_
  refine Zu (ID rfl rfl) ?_
  refine aq ?_
  have hand:cf .u32 ((BitVec.ofInt 32 x &&& BitVec.ofInt 32 (cf .u32 (0 - x))).toNat:Int)=((2^k:Nat):Int):=by
   have e1:(BitVec.ofInt 32 x).toNat=2^k*(2*m+1):=by
    rw[BitVec.toNat_ofInt,hxe]
    show ((((2^k*(2*m+1):Nat):Int))%((4294967296:Nat):Int)).toNat=_
    rw[<- Int.natCast_emod,Int.toNat_natCast,Nat.mod_eq_of_lt hlt]
   have e2:(BitVec.ofInt 32 (cf .u32 (0 - x))).toNat=2^32 - 2^k*(2*m+1):=by
    rw[BitVec.toNat_ofInt,oX,hxe]
    show (((0 - ((2^k*(2*m+1):Nat):Int))%4294967296)%((4294967296:Nat):Int)).toNat=_
    generalize hy:2^k*(2*m+1)=y at *
    show ((0 - (y:Int))%4294967296%4294967296).toNat=4294967296 - y
    have:y<4294967296:=hlt
    omega
   rw[BitVec.toNat_and,e1,e2,Gy hlt,oX]
   have:2^k<2^32:=Nat.pow_lt_pow_right (by omega) hk
   have h9:2^k<4294967296:=this
   generalize 2^k=y at h9 ⊢
   omega
  rw[show IntKind.bits .u32=32 from rfl,hand]
  refine Zu (G3 rfl rfl) ?_
  refine aq ?_
  refine Zu (F0 (k:=27) rfl rfl (by decide)) ?_
  refine aq ?_
  have hidx:(cf .u32 (((2^k:Nat):Int)*125613361)).fdiv ((2^27:Nat):Int)=((IQ k:Nat):Int):=by
   rw[oX]
   unfold IQ
   generalize 2^k=y
   show ((y:Int)*125613361%4294967296).fdiv 134217728=(((y*125613361)%4294967296 / 134217728:Nat):Int)
   rw[Int.fdiv_eq_ediv_of_nonneg _ (by omega)]
   omega
  rw[hidx]
  refine Zu (aY (k:=IQ k) Le rfl rfl rfl (BP k hk).1) ?_
  refine Zu (aB (dV rfl) rfl g0.celR (by omega) (by rw[Nat.zero_add,Nat.mul_one];exact Ig hk)) ?_
  refine aq ?_
  refine⟨.inr rfl,aG.one rfl ⟨⟨k,?_,by omega,?_,rfl,rfl⟩,bM⟩⟩
  ·rw[cm (by omega) (by omega)];rfl
  ·rw[hxe,IA]
theorem Av {h:T ag}{c:Nat}{rl wl:List Nat} (hf:ai h c) (hg:qN h) {x:Int} (h0:0<=x/\x<4294967296) (R:Nat->Prop) (hR:R 0) :
  ∃r s',aE (Cs bD) eg 25 [.int .u32 x] ⟨h,c,rl,wl⟩ r s'/\(r=.int .i64 (bR x:Int)/\s'.h=h/\s'.c=c)/\bA ⟨h,c,rl,wl⟩ s' R (fun _=>False):=by
 refine Fn.go (aU 25 rfl) Og PB PF rfl rfl ?_
 refine cg ?_
 refine aq ?_
 refine ax.call rfl rfl (Hi aO hg h0 R hR) ?_
 rintro v1 h1 c1 r1 w1 ⟨⟨t,rfl,ht,htz,e1,e2⟩,hext⟩
 simp only at e1 e2
 subst e1 e2
 have lr:=Lg.extR (R:=R) (c:=c1) az hext (fun _ _ q=>q)
 have lw:=Lg.extW (W:=fun _=>False) (c:=c1) az hext (fun _ _ q=>q)
 refine aq ?_
 refine Zu (wY rfl rfl (by omega) (by rw[Int.tdiv_eq_ediv_of_nonneg (by omega)];omega) (by rw[Int.tdiv_eq_ediv_of_nonneg (by omega)];omega)) ?_
 refine aq ?_
 refine⟨.inr rfl,aG.one rfl ⟨⟨?_,rfl,rfl⟩,bM⟩⟩
 show Value.int .i64 (min ((t:Int).tdiv 2) 4)=.int .i64 ((IB x / 2:Nat):Int)
 rw[Int.tdiv_eq_ediv_of_nonneg (by omega),<- htz]
 congr 1
 omega
theorem pD (x:Int):bR x<=4:=by
 unfold bR IB
 have:=(List.takeWhile_sublist (p:=fun i=>decide (x%2^(i+1)=0)) (l:=List.range 8)).length_le
 rw[List.length_range] at this
 omega
end Go.Ab.Seat
end
section
namespace Go.Ab.Seat
open Go.Extern Go.Proofs
set_option maxRecDepth 4000
abbrev qp (id:Int) (zs:List Int) (sq:Int):Rc:=⟨id,zs.map (Value.int .i32),.empty,sq,false⟩
def gC (vv:Value) (lv:Int) (ls:Nat->Value):List Value:=[vv,.int .i64 lv,ls 0,ls 1,ls 2,ls 3,ls 4]
theorem fU {vv:Value}{lv:Int}{ls:Nat->Value}{l:Nat} (h:l<5):cu (gC vv lv ls) (0+2+l*1)=some (ls l):=by
 rcases l with _|_|_|_|_|l
 ·rfl
 ·rfl
 ·rfl
 ·rfl
 ·rfl
 ·omega
theorem xD {vv x:Value}{lv:Int}{ls:Nat->Value}{l:Nat} (h:l<5) (ha:atom x=true):bw [x] (gC vv lv ls) (0+2+l*1)=some (gC vv lv (fun i=>if i=l then x else ls i)):=by
 have hl:(gC vv lv ls).length=7:=rfl
 rw[cz _ _ _ (by rw[hl];simp;omega) (all_cons ha a7)]
 rcases l with _|_|_|_|_|l
 ·rfl
 ·rfl
 ·rfl
 ·rfl
 ·rfl
 ·omega
def gH (h:T ag) (v:Value) (xs:List Int):Prop:=(v=.slice none 0 0/\xs=[])\/∃b cap cs,v=.slice (some ⟨b,0,some 1⟩) xs.length cap/\1<=cap/\xs.length<=cap/\ay h b (.cells cs)/\aP 0 xs.length cs=some (xs.map (Value.int .i64))
theorem gH.keep {h h':T ag}{v:Value}{xs:List Int} (x:gH h v xs) (k:∀b,au v=some b->h'.get b=h.get b):gH h' v xs:=by
 rcases x with x|⟨b,cap,cs,rfl,x1,x2,x3,x4⟩
 ·exact .inl x
 ·exact .inr ⟨b,cap,cs,rfl,x1,x2,(k b rfl).trans x3,x4⟩
theorem gH.val {h:T ag}{v:Value}{xs:List Int} (x:gH h v xs):∃oa cap,v=.slice oa xs.length cap:=by
 rcases x with⟨rfl,rfl⟩|⟨b,cap,cs,rfl,_⟩
 ·exact⟨_,_,rfl⟩
 ·exact⟨_,_,rfl⟩
theorem gH.atom {h:T ag}{v:Value}{xs:List Int} (x:gH h v xs):atom v=true:=by
 obtain⟨_,_,rfl⟩:=x.val;rfl
theorem gH.row {h:T ag}{v:Value}{xs:List Int} (x:gH h v xs):bj h v xs.length 1 (xs.map (Value.int .i64)):=by
 rcases x with⟨rfl,rfl⟩|⟨b,cap,cs,rfl,x1,x2,x3,x4⟩
 ·exact .inl ⟨rfl,rfl,_,_,rfl⟩
 ·exact .inr ⟨b,0,_,_,cs,rfl,x3.cel,by rw[Nat.mul_one];exact x4⟩
theorem gH.lt {h:T ag}{c:Nat}{v:Value}{xs:List Int} (x:gH h v xs) (hf:ai h c):∀b,au v=some b->b<c:=by
 rcases x with⟨rfl,rfl⟩|⟨b,cap,cs,rfl,x1,x2,x3,x4⟩
 ·intro b hb;cases hb
 ·intro b' hb;cases hb;exact x3.lt hf
abbrev Ow:=Nat->Int×Nat
structure H4 (h:T ag) (ow:Ow) (U:Nat->Prop) (dim:Nat) (L:Lk) (r:Rc) (nb:Nat) (vv:Value) (ls:Nat->Value):Prop where
 at_:ay h nb (.cells (gC vv r.seq ls))
 u:U nb
 o:ow nb=(r.id,0)
 own:kc h 0 vv dim r.xs
 ov:∀b,au vv=some b->U b/\ow b=(r.id,1)
 lk:∀l,l<5->gH h (ls l) (L r.id l)
 ol:∀l,l<5->∀b,au (ls l)=some b->U b/\ow b=(r.id,2+l)
def ND (h:T ag) (ow:Ow) (U:Nat->Prop) (dim:Nat) (L:Lk) (r:Rc) (v:Value):Prop:=∃nb vv ls,v=.pointer (some ⟨nb,0,none⟩)/\H4 h ow U dim L r nb vv ls
def na (h:T ag) (ow:Ow) (U:Nat->Prop) (dim:Nat) (L:Lk) (o:Option Rc) (w:Option Value):Prop:=(o=none/\w=none)\/∃r v,o=some r/\w=some v/\ND h ow U dim L r v
structure jk (h:T ag) (p m:Nat) (mt:Int) (dim:Nat) (G:Gr) (U:Nat->Prop) (ow:Ow):Prop where
 ptr:ay h p (.cells [.int .i64 mt,.map (some m)])
 ex:∃es n,ay h m (.map es n)/\(∃ids,dx es n ids)/\∀x,na h ow U dim G.L (aK x G.M) (dU x es)
 pU:U p
 mU:U m
 po:ow p=(0,100)
 mo:ow m=(0,101)
 rises:cE G.M
 ok:∀r∈G.M,∃zs:List Int,r=qp r.id zs r.seq/\zs.length=dim/\gc zs/\0<=r.seq/\r.seq<=4
 up:∀x l,Up (G.L x l)
 mem:∀x l y,y∈G.L x l->∃r,aK y G.M=some r
def gw (h:T ag) (p m:Nat) (mt:Int) (dim:Nat) (G:Gr) (U:Nat->Prop):Prop:=∃ow,jk h p m mt dim G U ow
section
variable {h h':T ag}{p m c:Nat}{mt:Int}{dim:Nat}{G:Gr}{U U':Nat->Prop}{ow ow':Ow}{L L':Lk}{r:Rc}
theorem H4.keep {nb:Nat}{vv:Value}{ls:Nat->Value} (x:H4 h ow U dim L r nb vv ls) (hf:ai h c) (hU:∀b,U b->b<c->U' b) (ho:∀b,U b->b<c->ow' b=ow b) (hL:∀l,l<5->L' r.id l=L r.id l) (k:∀b,U b->b<c->(ow b).1=r.id->(ow b).2<10->h'.get b=h.get b):H4 h' ow' U' dim L' r nb vv ls:=by
 obtain⟨x1,x2,x3,x4,x5,x6,x7⟩:=x
 have l1:=x1.lt hf
 have l4:∀b,au vv=some b->b<c:=fun b hb=>(x4.blk hb).2.lt hf
 refine⟨(k nb x2 l1 (by rw[x3]) (by rw[x3];simp)).trans x1,hU nb x2 l1,(ho nb x2 l1).trans x3,x4.keep fun b hb=>k b (x5 b hb).1 (l4 b hb) (by rw[(x5 b hb).2]) (by rw[(x5 b hb).2];simp),fun b hb=>⟨hU b (x5 b hb).1 (l4 b hb),(ho b (x5 b hb).1 (l4 b hb)).trans (x5 b hb).2⟩,fun l hl=>?_,fun l hl b hb=>?_⟩
 ·rw[hL l hl]
  refine(x6 l hl).keep fun b hb=>?_
  obtain⟨u1,u2⟩:=x7 l hl b hb
  exact k b u1 ((x6 l hl).lt hf b hb) (by rw[u2]) (by rw[u2];show 2+l<10;omega)
 ·obtain⟨u1,u2⟩:=x7 l hl b hb
  have l7:=(x6 l hl).lt hf b hb
  exact⟨hU b u1 l7,(ho b u1 l7).trans u2⟩
theorem na.keep {x:Int}{M:List Rc}{w:Option Value} (y:na h ow U dim L (aK x M) w) (hf:ai h c) (hU:∀b,U b->b<c->U' b) (ho:∀b,U b->b<c->ow' b=ow b) (hL:∀l,l<5->L' x l=L x l) (k:∀b,U b->b<c->(ow b).1=x->(ow b).2<10->h'.get b=h.get b):na h' ow' U' dim L' (aK x M) w:=by
 rcases y with y|⟨r,v,e1,e2,nb,vv,ls,e3,e4⟩
 ·exact .inl y
 ·have hx:=(cF e1).2
  exact .inr ⟨r,v,e1,e2,nb,vv,ls,e3,e4.keep hf hU ho (by rw[hx];exact hL) (by rw[hx];exact k)⟩
theorem jk.keep (q:jk h p m mt dim G U ow) (hf:ai h c) (k:∀b,U b->b<c->h'.get b=h.get b):jk h' p m mt dim G U ow:=by
 obtain⟨es,n,h1,h2,h3⟩:=q.ex
 exact⟨(k p q.pU (q.ptr.lt hf)).trans q.ptr,⟨es,n,(k m q.mU (h1.lt hf)).trans h1,h2,fun x=>(h3 x).keep hf (fun _ q _=>q) (fun _ _ _=>rfl) (fun _ _=>rfl) fun b hb hc _ _=>k b hb hc⟩,q.pU,q.mU,q.po,q.mo,q.rises,q.ok,q.up,q.mem⟩
theorem jk.wide (q:jk h p m mt dim G U ow) (hf:ai h c) (k:∀b,U b->U' b):jk h p m mt dim G U' ow:=by
 obtain⟨es,n,h1,h2,h3⟩:=q.ex
 exact⟨q.ptr,⟨es,n,h1,h2,fun x=>(h3 x).keep hf (fun b q _=>k b q) (fun _ _ _=>rfl) (fun _ _=>rfl) fun b hb hc _ _=>rfl⟩,k _ q.pU,k _ q.mU,q.po,q.mo,q.rises,q.ok,q.up,q.mem⟩
theorem jk.low (q:jk h p m mt dim G U ow) (hf:ai h c):jk h p m mt dim G (fun b=>U b/\b<c) ow:=by
 obtain⟨es,n,h1,h2,h3⟩:=q.ex
 exact⟨q.ptr,⟨es,n,h1,h2,fun x=>(h3 x).keep hf (fun b q hc=>⟨q,hc⟩) (fun _ _ _=>rfl) (fun _ _=>rfl) fun b hb hc _ _=>rfl⟩,⟨q.pU,q.ptr.lt hf⟩,⟨q.mU,h1.lt hf⟩,q.po,q.mo,q.rises,q.ok,q.up,q.mem⟩
theorem gw.low (q:gw h p m mt dim G U) (hf:ai h c):gw h p m mt dim G (fun b=>U b/\b<c):=by
 obtain⟨ow,q⟩:=q;exact⟨ow,q.low hf⟩
theorem gw.keep (q:gw h p m mt dim G U) (hf:ai h c) (k:∀b,U b->b<c->h'.get b=h.get b):gw h' p m mt dim G U:=by
 obtain⟨ow,q⟩:=q;exact⟨ow,q.keep hf k⟩
theorem gw.wide (q:gw h p m mt dim G U) (hf:ai h c) (k:∀b,U b->U' b):gw h p m mt dim G U':=by
 obtain⟨ow,q⟩:=q;exact⟨ow,q.wide hf k⟩
theorem jk.lt (q:jk h p m mt dim G U ow) (hf:ai h c):p<c/\m<c:=by
 obtain⟨es,n,h1,h2,h3⟩:=q.ex
 exact⟨q.ptr.lt hf,h1.lt hf⟩
theorem jk.at (q:jk h p m mt dim G U ow) {id:Int}{r:Rc} (hr:aK id G.M=some r):∃es n vi nb vv ls,ay h m (.map es n)/\(∃ids,dx es n ids)/\(∀x,na h ow U dim G.L (aK x G.M) (dU x es))/\dJ id es=some (vi,.pointer (some ⟨nb,0,none⟩))/\H4 h ow U dim G.L r nb vv ls/\r.id=id:=by
 obtain⟨es,n,h1,h2,h3⟩:=q.ex
 rcases h3 id with⟨e1,_⟩|⟨r',v,e1,e2,nb,vv,ls,rfl,e4⟩
 ·rw[hr] at e1;cases e1
 ·rw[hr] at e1;cases e1
  obtain⟨vi,hv⟩:=iw e2
  exact⟨es,n,vi,nb,vv,ls,h1,h2,h3,hv,e4,(cF hr).2⟩
theorem jk.zs (q:jk h p m mt dim G U ow) {id:Int}{r:Rc} (hr:aK id G.M=some r):r.xs=(sQ G.M id).map (Value.int .i32)/\(sQ G.M id).length=dim/\gc (sQ G.M id)/\0<=r.seq/\r.seq<=4:=by
 obtain⟨zs,e,h1,h2,h3,h4⟩:=q.ok r (cF hr).1
 have e2:r.xs=zs.map (Value.int .i32):=by rw[e]
 have e3:sQ G.M id=zs:=by unfold sQ;rw[hr];show jS r.xs=zs;rw[e2,gj]
 rw[e3]
 exact⟨e2,h1,h2,h3,h4⟩
theorem jk.new (hp:ay h p (.cells [.int .i64 mt,.map (some m)])) (hm:ay h m (.map [] 0)) (hne:p≠m):jk h p m mt dim ⟨[],fun _ _=>[]⟩ (fun b=>b=p\/b=m) (fun b=>if b=p then(0,100) else(0,101)) :=
 ⟨hp,⟨[],0,hm,⟨[],.nil 0⟩,fun x=>.inl ⟨rfl,rfl⟩⟩,.inl rfl,.inr rfl,if_pos rfl,if_neg (Ne.symm hne),cE.nil,(fun r hr=>by cases hr),fun _ _=>List.Pairwise.nil,fun x l y hy=>by cases hy⟩
end
theorem Cl {h:T ag}{c:Nat}{rl wl:List Nat} (hf:ai h c) {dim:Nat} (m:Int) (hm:m=1\/m=2) :
  ∃r s',aE (Cs bD) eg 17 [.int .i64 m] ⟨h,c,rl,wl⟩ r s'/\(r=.pointer (some ⟨c+1,0,none⟩)/\s'.c=c+2/\gw s'.h (c+1) c m dim ⟨[],fun _ _=>[]⟩ (fun b=>b=c+1\/b=c))/\bA ⟨h,c,rl,wl⟩ s' (fun _=>False) (fun _=>False):=by
 refine Fn.go (aU 17 rfl) Nt Nb OV rfl rfl ?_
 refine cg ?_
 refine aq ?_
 refine ax.call rfl rfl (iU aU aO m hm) ?_
 rintro v1 h1 c1 r1 w1 ⟨rfl,e1⟩
 cases e1
 refine aq ?_
 refine⟨.inr rfl,aG.one rfl ⟨⟨rfl,rfl,_,jk.new ay.same (ay.other (by omega) ay.same) (by omega)⟩,bM⟩⟩
theorem mG {h:T ag}{c:Nat}{rl wl:List Nat} (hf:ai h c) {p m dim:Nat}{mt:Int}{G:Gr}{U:Nat->Prop} (qm:gw h p m mt dim G U) (hmt:mt=1\/mt=2) {qa:Option Addr}{qc:Nat}{qs:List Int} (hq:bj h (.slice qa dim qc) dim 1 (qs.map (Value.int .i32))) (hqn:qs.length=dim) (hqb:gc qs) (hd:dim<=1000) {id:Int}{r0:Rc} (hr0:aK id G.M=some r0) (R:Nat->Prop) (hUR:∀b,U b->R b) (hqR:∀b,au (.slice qa dim qc)=some b->R b) :
  ∃r s',aE (Cs bD) eg 77 [.pointer (some ⟨p,0,none⟩),.slice qa dim qc,.int .i64 id] ⟨h,c,rl,wl⟩ r s'/\r=(cK mt G.M qs id).val/\bA ⟨h,c,rl,wl⟩ s' R (fun _=>False):=by
 obtain⟨ow,q⟩:=qm
 have hp:=q.ptr
 obtain⟨lp,lm⟩:=q.lt hf
 have hpR:=hUR p q.pU
 have hmR:=hUR m q.mU
 obtain⟨es,n,vi,nb,vv,ls,hm,⟨ids,hk⟩,hfit,hfi,hn,hid⟩:=q.at hr0
 obtain⟨hzs,hzl,hzb,_,_⟩:=q.zs hr0
 have hnb:=hn.at_
 unfold gC at hnb
 have lnb:=hnb.lt hf
 have rnb:=hUR nb hn.u
 have hown:=hn.own
 have hov:=hn.ov
 obtain⟨va,vk,rfl⟩:=hown.val
 rw[hzs] at hown
 have hvr:=hown.row (by rw[List.length_map];exact hzl)
 have kA:∀b,b<c->(h.set c (some (.cells [.int .i64 0,.int .i64 0]))).get b=h.get b:=fun b hb=>am (by omega)
 refine Fn.go (aU 77 rfl) O8 MU MH rfl rfl ?_
 refine cg ?_
 refine aq ?_
 refine Zd (bL (pk rfl) (tG rfl) rfl rfl (hm.other (by omega)) (by omega) hk.ks (by rw[hfi])) ?_
 refine aq ?_
 refine bN.call rfl rfl (gh aU aO hmt hqn hzl (bj.keepF hq hf kA) (bj.keepF hvr hf kA) hqb hzb hd R (fun b hb=>hb.elim (hqR b) (fun u=>hUR b (hov b u).1))) ?_
 rintro v2 hB c2 r2 w2 ⟨⟨rfl,e1,e2⟩,hext2⟩
 simp only at e1 e2
 have hqt2:=hext2.quiet (fun _ _ q=>q)
 have lr2:=Lg.extR (R:=R) (c:=c) az hext2 (fun _ _ q=>q)
 have lw2:=Lg.extW (W:=fun _=>False) (c:=c) az hext2 (fun _ _ q=>q)
 subst e1 e2
 refine⟨i7,?_⟩
 refine aq ?_
 refine⟨.inr rfl,aG.cell rfl (FU rfl) ay.same.cel (by omega) (by rfl) ⟨rfl,?_⟩⟩
 exact bM
end Go.Ab.Seat
end
