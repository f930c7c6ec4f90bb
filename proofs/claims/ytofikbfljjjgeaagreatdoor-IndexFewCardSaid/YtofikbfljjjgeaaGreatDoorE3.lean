import Derived.Test.YtofikbfljjjgeaaGreatDoorE1
import Derived.Laws.Sem
import Derived.Laws.World
import Derived.Laws.Cells
import Derived.Laws.Append
import Derived.RowKit3
import Derived.Laws.OwnMore
set_option linter.unusedVariables false
set_option linter.unusedSimpArgs false
section
namespace Go.Ab
namespace T
variable {α β:Type}
theorem mY (n:Nat):(T.leaf:T α).getP n=none:=rfl
theorem gf (l:T α) (v:Option α) (r:T α) (n:Nat) :
  (T.node l v r).getP n=bif Nat.beq n 1 then v else bif Nat.beq (n%2) 0 then l.getP (n / 2) else r.getP (n / 2):=by
 show (Bool.rec (motive:=fun _=>Option α) (Bool.rec (motive:=fun _=>Option α) (r.getP (n / 2)) (l.getP (n / 2)) (Nat.beq (n%2) 0)) v (Nat.beq n 1))=_
 cases Nat.beq n 1
 ·cases Nat.beq (n%2) 0<;>rfl
 ·rfl
theorem zQ (x:Option α) (f n:Nat) :
  my x (f+1) n=bif Nat.beq n 1 then .node .leaf x .leaf else bif Nat.beq (n%2) 0 then .node (my x f (n / 2)) none .leaf else .node .leaf none (my x f (n / 2)):=by
 show (Bool.rec (motive:=fun _=>T α) (Bool.rec (motive:=fun _=>T α) (T.node .leaf none (my x f (n / 2))) (T.node (my x f (n / 2)) none .leaf) (Nat.beq (n%2) 0)) (T.node .leaf x .leaf) (Nat.beq n 1))=_
 cases Nat.beq n 1
 ·cases Nat.beq (n%2) 0<;>rfl
 ·rfl
theorem zT (x:Option α):∀(f n m:Nat),1<=n->1<=m->n<=f->(my x f n).getP m=if m=n then x else none:=by
 intro f
 induction f with
 |zero=>intro n m hn _ h;omega
 |succ f ih =>
  intro n m hn hm h
  rw[zQ]
  cases e1:Nat.beq n 1
  ·have hn1:n≠1:=Nat.ne_of_beq_eq_false e1
   cases e2:Nat.beq (n%2) 0
   ·have hp:n%2≠0:=Nat.ne_of_beq_eq_false e2
    simp only[cond_false,gf,mY]
    cases e3:Nat.beq m 1
    ·have hm1:m≠1:=Nat.ne_of_beq_eq_false e3
     cases e4:Nat.beq (m%2) 0
     ·have hq:m%2≠0:=Nat.ne_of_beq_eq_false e4
      simp only[cond_false]
      rw[ih (n / 2) (m / 2) (by omega) (by omega) (by omega)]
      by_cases hh:m=n
      ·rw[if_pos hh,if_pos (by rw[hh])]
      ·rw[if_neg hh,if_neg (by omega)]
     ·have hq:m%2=0:=Nat.eq_of_beq_eq_true e4
      simp only[cond_false,cond_true]
      rw[if_neg (by omega)]
    ·have hm1:m=1:=Nat.eq_of_beq_eq_true e3
     simp only[cond_true]
     rw[if_neg (by omega)]
   ·have hp:n%2=0:=Nat.eq_of_beq_eq_true e2
    simp only[cond_false,cond_true,gf,mY]
    cases e3:Nat.beq m 1
    ·have hm1:m≠1:=Nat.ne_of_beq_eq_false e3
     cases e4:Nat.beq (m%2) 0
     ·have hq:m%2≠0:=Nat.ne_of_beq_eq_false e4
      simp only[cond_false]
      rw[if_neg (by omega)]
     ·have hq:m%2=0:=Nat.eq_of_beq_eq_true e4
      simp only[cond_false,cond_true]
      rw[ih (n / 2) (m / 2) (by omega) (by omega) (by omega)]
      by_cases hh:m=n
      ·rw[if_pos hh,if_pos (by rw[hh])]
      ·rw[if_neg hh,if_neg (by omega)]
    ·have hm1:m=1:=Nat.eq_of_beq_eq_true e3
     simp only[cond_true]
     rw[if_neg (by omega)]
  ·have hn1:n=1:=Nat.eq_of_beq_eq_true e1
   simp only[cond_true,gf,mY]
   cases e3:Nat.beq m 1
   ·have hm1:m≠1:=Nat.ne_of_beq_eq_false e3
    simp only[cond_false]
    rw[if_neg (by omega)]
    simp
   ·have hm1:m=1:=Nat.eq_of_beq_eq_true e3
    simp only[cond_true]
    rw[if_pos (by omega)]
theorem De (x:Option α) (n:Nat):wK x .leaf n=my x n n:=rfl
theorem CM (x:Option α) (l:T α) (v:Option α) (r:T α) (n:Nat) :
  wK x (.node l v r) n=bif Nat.beq n 1 then .node l x r else bif Nat.beq (n%2) 0 then .node (wK x l (n / 2)) v r else .node l v (wK x r (n / 2)):=by
 show (Bool.rec (motive:=fun _=>T α) (Bool.rec (motive:=fun _=>T α) (T.node l v (wK x r (n / 2))) (T.node (wK x l (n / 2)) v r) (Nat.beq (n%2) 0)) (T.node l x r) (Nat.beq n 1))=_
 cases Nat.beq n 1
 ·cases Nat.beq (n%2) 0<;>rfl
 ·rfl
theorem CZ (x:Option α):∀(t:T α) (n m:Nat),1<=n->1<=m->(wK x t n).getP m=if m=n then x else t.getP m:=by
 intro t
 induction t with
 |leaf=>intro n m hn hm;rw[De,zT x n n m hn hm (Nat.le_refl _),mY]
 |node l v r il ir =>
  intro n m hn hm
  rw[CM,gf l v r m]
  cases e1:Nat.beq n 1
  ·have hn1:n≠1:=Nat.ne_of_beq_eq_false e1
   cases e2:Nat.beq (n%2) 0
   ·have hp:n%2≠0:=Nat.ne_of_beq_eq_false e2
    simp only[cond_false,gf]
    cases e3:Nat.beq m 1
    ·have hm1:m≠1:=Nat.ne_of_beq_eq_false e3
     cases e4:Nat.beq (m%2) 0
     ·have hq:m%2≠0:=Nat.ne_of_beq_eq_false e4
      simp only[cond_false]
      rw[ir (n / 2) (m / 2) (by omega) (by omega)]
      by_cases hh:m=n
      ·rw[if_pos hh,if_pos (by rw[hh])]
      ·rw[if_neg hh,if_neg (by omega)]
     ·have hq:m%2=0:=Nat.eq_of_beq_eq_true e4
      simp only[cond_false,cond_true]
      rw[if_neg (by omega)]
    ·have hm1:m=1:=Nat.eq_of_beq_eq_true e3
     simp only[cond_true]
     rw[if_neg (by omega)]
   ·have hp:n%2=0:=Nat.eq_of_beq_eq_true e2
    simp only[cond_false,cond_true,gf]
    cases e3:Nat.beq m 1
    ·have hm1:m≠1:=Nat.ne_of_beq_eq_false e3
     cases e4:Nat.beq (m%2) 0
     ·have hq:m%2≠0:=Nat.ne_of_beq_eq_false e4
      simp only[cond_false]
      rw[if_neg (by omega)]
     ·have hq:m%2=0:=Nat.eq_of_beq_eq_true e4
      simp only[cond_false,cond_true]
      rw[il (n / 2) (m / 2) (by omega) (by omega)]
      by_cases hh:m=n
      ·rw[if_pos hh,if_pos (by rw[hh])]
      ·rw[if_neg hh,if_neg (by omega)]
    ·have hm1:m=1:=Nat.eq_of_beq_eq_true e3
     simp only[cond_true]
     rw[if_neg (by omega)]
  ·have hn1:n=1:=Nat.eq_of_beq_eq_true e1
   simp only[cond_true,gf]
   cases e3:Nat.beq m 1
   ·have hm1:m≠1:=Nat.ne_of_beq_eq_false e3
    simp only[cond_false]
    rw[if_neg (by omega)]
   ·have hm1:m=1:=Nat.eq_of_beq_eq_true e3
    simp only[cond_true]
    rw[if_pos (by omega)]
theorem get_set (t:T α) (n:Nat) (x:Option α) (m:Nat):(t.set n x).get m=if m=n then x else t.get m:=by
 show (wK x t (n+1)).getP (m+1)=if m=n then x else t.getP (m+1)
 rw[CZ x t (n+1) (m+1) (by omega) (by omega)]
 by_cases h:m=n
 ·rw[if_pos h,if_pos (by omega)]
 ·rw[if_neg h,if_neg (by omega)]
theorem force_eq (t:T α) (k:T α->β):t.force k=k t:=by cases t<;>rfl
theorem get_leaf (n:Nat):(T.leaf:T α).get n=none:=rfl
theorem se:∀(l:List α) (i:Nat) (t:T α) (n:Nat),(iI l i t).get n=if i<=n/\n<i+l.length then l[n - i]? else t.get n:=by
 intro l
 induction l with
 |nil=>intro i t n;rw[iI,if_neg (by simp only[List.length_nil];omega)]
 |cons x xs ih =>
  intro i t n
  rw[iI,force_eq,ih,get_set]
  simp only[List.length_cons]
  by_cases h1:i+1<=n/\n<i+1+xs.length
  ·rw[if_pos h1,if_pos (by omega)]
   have e:n - i=(n - (i+1))+1:=by omega
   rw[e,List.getElem?_cons_succ]
  ·rw[if_neg h1]
   by_cases h2:n=i
   ·rw[if_pos h2,if_pos (by omega),h2];simp
   ·rw[if_neg h2,if_neg (by omega)]
theorem get_ofList (l:List α) (n:Nat):(ofList l).get n=l[n]?:=by
 rw[ofList,se]
 by_cases h:n<l.length
 ·rw[if_pos (by omega)];simp
 ·rw[if_neg (by omega),List.getElem?_eq_none (by omega),get_leaf]
end T
theorem b8 {α:Type} (l:List α) (n:Nat):cu l n=l[n]?:=by
 induction l generalizing n with
 |nil=>rfl
 |cons x xs ih=>cases n with
  |zero=>rfl
  |succ n=>exact(ih n).trans (by simp)
theorem eD {α:Type} (l:List α):len l=l.length:=by
 induction l with
 |nil=>rfl
 |cons x xs ih=>exact congrArg (· + 1) ih
theorem cP {α:Type} (l r:List α):app l r=l++r:=by
 induction l with
 |nil=>rfl
 |cons x xs ih=>exact congrArg (x :: ·) ih
theorem fm {α β:Type} (f:α->β) (l:List α):gO f l=l.map f:=by
 induction l with
 |nil=>rfl
 |cons x xs ih=>exact congrArg (f x :: ·) ih
theorem bT {α:Type} (p:α->Bool) (l:List α):ee p l=l.all p:=by
 induction l with
 |nil=>rfl
 |cons x xs ih =>
  show (Bool.rec (motive:=fun _=>Bool) false (ee p xs) (p x))=_
  rw[List.all_cons,ih]
  cases p x<;>rfl
theorem b4 {α β:Type} (l:List α) (k:List α->β):pW l k=k l:=by
 induction l generalizing k with
 |nil=>rfl
 |cons x xs ih=>exact(ih _)
theorem jO (c:Nat) (l r:List Nat):below c l r=l.filter (fun b=>decide (b<c))++r:=by
 induction l with
 |nil=>rfl
 |cons x xs ih =>
  show (Bool.rec (motive:=fun _=>List Nat) (below c xs r) (x::below c xs r) (Nat.blt x c))=_
  rw[ih,List.filter_cons]
  have:Nat.blt x c=decide (x<c):=by
   rw[Bool.eq_iff_iff];simp [Nat.blt,Nat.lt_iff_add_one_le]
  rw[this]
  by_cases h:x<c
  ·rw[decide_eq_true h];rfl
  ·rw[decide_eq_false h];rfl
theorem kT (l r:List UInt8):jj l r=(l==r):=by
 induction l generalizing r with
 |nil=>cases r<;>rfl
 |cons x xs ih =>
  cases r with
  |nil=>rfl
  |cons y ys =>
   show (Bool.rec (motive:=fun _=>Bool) false (jj xs ys) (Nat.beq x.toNat y.toNat))=_
   rw[ih,List.cons_beq_cons]
   have:Nat.beq x.toNat y.toNat=(x==y):=by
    rw[Bool.eq_iff_iff,Nat.beq_eq,beq_iff_eq]
    exact⟨fun h=>UInt8.toNat_inj.1 h,fun h=>by rw[h]⟩
   rw[this]
   cases (x==y)<;>rfl
theorem aH {a b:Nat}:Nat.ble a b=true↔a<=b:=⟨Nat.le_of_ble_eq_true,Nat.ble_eq_true_of_le⟩
theorem cC {a b:Nat}:Nat.ble a b=false↔b<a:=by
 constructor
 ·intro h;exact Nat.lt_of_not_le fun hh=>by rw[aH.2 hh] at h;cases h
 ·intro h;exact Bool.eq_false_iff.2 fun hh=>by have:=aH.1 hh;omega
theorem eh {a b:Nat}:Nat.blt a b=true↔a<b:=aH
theorem Dq {a b:Nat}:Nat.blt a b=false↔b<=a:=cC.trans (by omega)
theorem aL {a b:Nat}:Nat.beq a b=true↔a=b:=⟨Nat.eq_of_beq_eq_true,fun h=>h▸Nat.beq_refl a⟩
theorem bh {a b:Nat}:Nat.beq a b=false↔a≠b:=⟨Nat.ne_of_beq_eq_false,fun h=>Bool.eq_false_iff.2 fun hh=>h (aL.1 hh)⟩
theorem CI (b x:Nat) (xs:List Nat):mem b (x::xs)=bif Nat.beq x b then true else mem b xs:=by
 show (Bool.rec (motive:=fun _=>Bool) (mem b xs) true (Nat.beq x b))=_
 cases Nat.beq x b<;>rfl
theorem vP (b:Nat) (l:List Nat):mem b l=true↔b∈l:=by
 induction l with
 |nil=>simp [mem]
 |cons x xs ih =>
  rw[CI]
  cases h:Nat.beq x b
  ·have:=bh.1 h
   simp only[cond_false,ih,List.mem_cons]
   exact⟨.inr,fun hh=>hh.resolve_left fun e=>this e.symm⟩
  ·have:=aL.1 h
   simp [this]
theorem Ai (x:Nat) (xs ys:List Nat):mj (x::xs) ys=bif mem x ys then true else mj xs ys:=by
 show (Bool.rec (motive:=fun _=>Bool) (mj xs ys) true (mem x ys))=_
 cases mem x ys<;>rfl
theorem EW (l ys:List Nat):mj l ys=false↔∀b,b∈l->b∉ys:=by
 induction l with
 |nil=>simp [mj]
 |cons x xs ih =>
  rw[Ai]
  cases h:mem x ys
  ·have hx:x∉ys:=fun hh=>by rw[(vP x ys).2 hh] at h;cases h
   simp only[cond_false,ih]
   constructor
   ·intro hh b hb
    rcases List.mem_cons.1 hb with rfl|hb
    ·exact hx
    ·exact hh b hb
   ·exact fun hh b hb=>hh b (List.mem_cons_of_mem _ hb)
  ·have hx:=(vP x ys).1 h
   constructor
   ·intro hh;cases hh
   ·intro hh;exact absurd hx (hh x (List.mem_cons_self ..))
theorem zU (lo hi x:Nat) (xs:List Nat):iX lo hi (x::xs)=bif Nat.ble lo x&&Nat.blt x hi then true else iX lo hi xs:=by
 show (Bool.rec (motive:=fun _=>Bool) (iX lo hi xs) (Bool.rec (motive:=fun _=>Bool) (iX lo hi xs) true (Nat.blt x hi)) (Nat.ble lo x))=_
 cases Nat.ble lo x<;>cases Nat.blt x hi<;>rfl
theorem Dn (lo hi:Nat) (l:List Nat):iX lo hi l=false↔∀b,b∈l->¬(lo<=b/\b<hi):=by
 induction l with
 |nil=>simp [iX]
 |cons x xs ih =>
  rw[zU]
  cases h:(Nat.ble lo x&&Nat.blt x hi)
  ·have hx:¬(lo<=x/\x<hi):=fun hh=>by
    rw[aH.2 hh.1,eh.2 hh.2] at h;cases h
   simp only[cond_false,ih]
   constructor
   ·intro hh b hb
    rcases List.mem_cons.1 hb with rfl|hb
    ·exact hx
    ·exact hh b hb
   ·exact fun hh b hb=>hh b (List.mem_cons_of_mem _ hb)
  ·simp only[Bool.and_eq_true] at h
   constructor
   ·intro hh;cases hh
   ·intro hh;exact absurd ⟨aH.1 h.1,eh.1 h.2⟩ (hh x (List.mem_cons_self ..))
theorem rX (n:Nat):∀(cs r:List Value),sK n cs=some r->r.length=n/\n<=cs.length/\∀i,i<n->r[i]?=cs[i]?:=by
 induction n with
 |zero=>intro cs r h;cases h;exact⟨rfl,Nat.zero_le _,fun i hi=>absurd hi (Nat.not_lt_zero _)⟩
 |succ n ih =>
  intro cs r h
  cases cs with
  |nil=>cases h
  |cons c cs =>
   have h':Option.rec (motive:=fun _=>Option (List Value)) none (fun r=>some (c::r)) (sK n cs)=some r:=h
   cases hh:sK n cs with
   |none=>rw[hh] at h';cases h'
   |some q =>
    rw[hh] at h'
    cases h'
    obtain⟨a,b,d⟩:=ih cs q hh
    refine⟨by simp [a],by simp;exact b,fun i hi=>?_⟩
    cases i with
    |zero=>rfl
    |succ i=>simpa using d i (by omega)
theorem aN (o n:Nat):∀(cs r:List Value),aP o n cs=some r->r.length=n/\o+n<=cs.length/\∀i,i<n->r[i]?=cs[o+i]?:=by
 induction o with
 |zero =>
  intro cs r h
  obtain⟨a,b,d⟩:=rX n cs r h
  exact⟨a,by omega,fun i hi=>by rw[Nat.zero_add];exact d i hi⟩
 |succ o ih =>
  intro cs r h
  cases cs with
  |nil=>cases h
  |cons c cs =>
   obtain⟨a,b,d⟩:=ih cs r h
   refine⟨a,by simp;omega,fun i hi=>?_⟩
   rw[d i hi,show o+1+i=(o+i)+1 by omega,List.getElem?_cons_succ]
theorem oG (xs:List Value):∀(cs r:List Value),jh xs cs=some r ->
  r.length=cs.length/\xs.length<=cs.length/\(∀x∈xs,atom x=true)/\∀i:Nat,r[i]?=if i<xs.length then xs[i]? else cs[i]?:=by
 induction xs with
 |nil =>
  intro cs r h
  have h':some cs=some r:=h
  cases h'
  refine⟨rfl,Nat.zero_le _,?_,?_⟩
  ·intro x hx;cases hx
  ·intro i;simp
 |cons x xs ih =>
  intro cs r h
  cases cs with
  |nil=>cases h
  |cons c cs =>
   have h':Bool.rec (motive:=fun _=>Option (List Value)) none (Option.rec (motive:=fun _=>Option (List Value)) none (fun r=>some (x::r)) (jh xs cs)) (atom x)=some r:=h
   cases ha:atom x with
   |false=>rw[ha] at h';cases h'
   |true =>
    rw[ha] at h'
    cases hh:jh xs cs with
    |none=>rw[hh] at h';cases h'
    |some q =>
     rw[hh] at h'
     cases h'
     obtain⟨a,b,d,e⟩:=ih cs q hh
     refine⟨by simp [a],by simp;exact b,fun y hy=>?_,fun i=>?_⟩
     ·rcases List.mem_cons.1 hy with rfl|hy
      ·exact ha
      ·exact d y hy
     ·cases i with
      |zero=>simp
      |succ i=>simpa using e i
theorem oC (xs:List Value):∀(cs:List Value) (o:Nat) (r:List Value),bw xs cs o=some r ->
  r.length=cs.length/\o+xs.length<=cs.length/\(∀x∈xs,atom x=true)/\∀i:Nat,r[i]?=if o<=i/\i<o+xs.length then xs[i - o]? else cs[i]?:=by
 intro cs
 induction cs with
 |nil =>
  intro o r h
  cases o with
  |zero =>
   obtain⟨a,b,d,e⟩:=oG xs [] r h
   exact⟨a,by omega,d,fun i=>by rw[e i];simp⟩
  |succ o=>cases h
 |cons c cs ih =>
  intro o r h
  cases o with
  |zero =>
   obtain⟨a,b,d,e⟩:=oG xs (c::cs) r h
   exact⟨a,by omega,d,fun i=>by rw[e i];simp⟩
  |succ o =>
   have h':Option.rec (motive:=fun _=>Option (List Value)) none (fun r=>some (c::r)) (bw xs cs o)=some r:=h
   cases hh:bw xs cs o with
   |none=>rw[hh] at h';cases h'
   |some q =>
    rw[hh] at h'
    cases h'
    obtain⟨a,b,d,e⟩:=ih o q hh
    refine⟨by simp [a],by simp;omega,d,fun i=>?_⟩
    cases i with
    |zero=>simp
    |succ i =>
     rw[List.getElem?_cons_succ,e i,List.getElem?_cons_succ]
     by_cases hc:o<=i/\i<o+xs.length
     ·rw[if_pos hc,if_pos (by omega)];congr 1;omega
     ·rw[if_neg hc,if_neg (by omega)]
theorem sH (z:List Value):rep z 0=[]:=rfl
theorem rU (z:List Value) (n:Nat):rep z (n+1)=z++rep z n:=cP _ _
theorem BR (z:List Value):∀(n i:Nat),(rep z n)[i]?=if i<n*z.length then z[i%z.length]? else none:=by
 intro n
 induction n with
 |zero=>intro i;rw[sH];simp
 |succ n ih =>
  intro i
  rw[rU]
  by_cases h:i<z.length
  ·rw[List.getElem?_append_left h,if_pos (by rw[Nat.succ_mul];omega),Nat.mod_eq_of_lt h]
  ·rw[List.getElem?_append_right (by omega),ih]
   have e:(i - z.length)%z.length=i%z.length:=by
    conv=>rhs;rw[show i=(i - z.length)+z.length by omega,Nat.add_mod_right]
   rw[e,Nat.succ_mul]
   by_cases h2:i - z.length<n*z.length
   ·rw[if_pos h2,if_pos (by omega)]
   ·rw[if_neg h2,if_neg (by omega)]
theorem dT (z:List Value) (n:Nat):(rep z n).length=n*z.length:=by
 induction n with
 |zero=>simp [sH]
 |succ n ih=>rw[rU,List.length_append,ih,Nat.succ_mul,Nat.add_comm]
end Go.Ab
end
section
namespace Go.Ab
structure Loc where
 blk:Nat
 off:Nat
 size:Nat
abbrev aD:=Nat->Option Loc
inductive VR (ι:aD):Value->Value->Prop
 |top (v:Value):VR ι (.chan none) v
 |least (k c:Nat) (h:k<=c):VR ι (.chan (some k)) (.int .i64 c)
 |bool (b:Bool):VR ι (.bool b) (.bool b)
 |int (k:IntKind) (n:Int):VR ι (.int k n) (.int k n)
 |float (k:FloatKind) (n:Nat):VR ι (.float k n) (.float k n)
 |complex (k:FloatKind) (n m:Nat):VR ι (.complex k n m) (.complex k n m)
 |string (s:ByteArray):VR ι (.string s) (.string s)
 |nilPtr:VR ι (.pointer none) (.pointer none)
 |nilSlice (n c:Nat):VR ι (.slice none n c) (.slice none n c)
 |nilMap:VR ι (.map none) (.map none)
 |nilFunc:VR ι .nilFunc .nilFunc
 |nilIface:VR ι .nilIface .nilIface
 |ptr (b o:Nat) (L:Loc) (h:ι b=some L):VR ι (.pointer (some ⟨b,o,none⟩)) (.pointer (some ⟨L.blk,L.off+o,none⟩))
 |sliceX (b o n c:Nat) (L:Loc) (h:ι b=some L):VR ι (.slice (some ⟨b,o,none⟩) n c) (.slice (some ⟨L.blk,L.off+o,none⟩) n c)
 |sliceI (b o e n c c':Nat) (L:Loc) (h:ι b=some L) (hc:c<=c') (hs:L.off+o+c'*e<=L.size) :
   VR ι (.slice (some ⟨b,o,some e⟩) n c) (.slice (some ⟨L.blk,L.off+o,none⟩) n c')
 |sliceZ (b o e:Nat) (a:Addr):VR ι (.slice (some ⟨b,o,some e⟩) 0 0) (.slice (some a) 0 0)
 |map (b:Nat) (L:Loc) (h:ι b=some L):VR ι (.map (some b)) (.map (some L.blk))
 |func (f:Fn) (a c a' c':Array Value) (ha:a.toList.length=a'.toList.length) (hc:c.toList.length=c'.toList.length)
   (ra:∀(i:Nat) (x y:Value),a.toList[i]?=some x->a'.toList[i]?=some y->VR ι x y)
   (rc:∀(i:Nat) (x y:Value),c.toList[i]?=some x->c'.toList[i]?=some y->VR ι x y):VR ι (.func f a c) (.func f a' c')
 |iface (t:TypeId) (v v':Value) (h:VR ι v v'):VR ι (.iface t v) (.iface t v')
 |agg (a a':Array Value) (ha:a.toList.length=a'.toList.length)
   (ra:∀(i:Nat) (x y:Value),a.toList[i]?=some x->a'.toList[i]?=some y->VR ι x y):VR ι (.agg a) (.agg a')
 |tuple (a a':Array Value) (ha:a.toList.length=a'.toList.length)
   (ra:∀(i:Nat) (x y:Value),a.toList[i]?=some x->a'.toList[i]?=some y->VR ι x y):VR ι (.tuple a) (.tuple a')
def bS (ι:aD) (l l':List Value):Prop:=l.length=l'.length/\∀(i:Nat) (x y:Value),l[i]?=some x->l'[i]?=some y->VR ι x y
def aD.le (ι ι':aD):Prop:=∀b L,ι b=some L->ι' b=some L
theorem aD.le_refl (ι:aD):ι.le ι:=fun _ _ h=>h
theorem aD.le_trans {a b c:aD} (h:a.le b) (k:b.le c):a.le c:=fun x L hx=>k x L (h x L hx)
def aD.upd (ι:aD) (c:Nat) (L:Loc):aD:=fun b=>if b=c then some L else ι b
theorem aD.upd_same (ι:aD) (c:Nat) (L:Loc):ι.upd c L c=some L:=if_pos rfl
theorem aD.upd_ne (ι:aD) {c b:Nat} (L:Loc) (h:b≠c):ι.upd c L b=ι b:=if_neg h
theorem aD.le_upd (ι:aD) {c:Nat} (L:Loc) (h:ι c=none):ι.le (ι.upd c L):=fun b K hb=>by
 rw[aD.upd_ne ι L fun e=>by rw[e,h] at hb;cases hb];exact hb
theorem VR.mono {ι ι':aD} (hi:ι.le ι') {v v':Value} (h:VR ι v v'):VR ι' v v':=by
 induction h with
 |top v=>exact .top v
 |least k c h=>exact .least k c h
 |bool b=>exact .bool b
 |int k n=>exact .int k n
 |float k n=>exact .float k n
 |complex k n m=>exact .complex k n m
 |string s=>exact .string s
 |nilPtr=>exact .nilPtr
 |nilSlice n c=>exact .nilSlice n c
 |nilMap=>exact .nilMap
 |nilFunc=>exact .nilFunc
 |nilIface=>exact .nilIface
 |ptr b o L h=>exact .ptr b o L (hi _ _ h)
 |sliceX b o n c L h=>exact .sliceX b o n c L (hi _ _ h)
 |sliceI b o e n c c' L h hc hs=>exact .sliceI b o e n c c' L (hi _ _ h) hc hs
 |sliceZ b o e a=>exact .sliceZ b o e a
 |map b L h=>exact .map b L (hi _ _ h)
 |func f a c a' c' ha hc _ _ ra rc=>exact .func f a c a' c' ha hc ra rc
 |iface t v v' _ ih=>exact .iface t v v' ih
 |agg a a' ha _ ra=>exact .agg a a' ha ra
 |tuple a a' ha _ ra=>exact .tuple a a' ha ra
theorem bS.mono {ι ι':aD} (hi:ι.le ι') {l l':List Value} (h:bS ι l l'):bS ι' l l':=⟨h.1,fun i x y a b=>(h.2 i x y a b).mono hi⟩
theorem bS.nil (ι:aD):bS ι [] []:=⟨rfl,fun i x y h=>by simp at h⟩
theorem bS.cons {ι:aD}{x y:Value}{l l':List Value} (h:VR ι x y) (t:bS ι l l'):bS ι (x::l) (y::l'):=by
 refine⟨by simp [t.1],fun i a b ha hb=>?_⟩
 cases i with
 |zero=>simp at ha hb;rw[<- ha,<- hb];exact h
 |succ i=>exact t.2 i a b (by simpa using ha) (by simpa using hb)
theorem bS.head {ι:aD}{x y:Value}{l l':List Value} (t:bS ι (x::l) (y::l')):VR ι x y:=t.2 0 x y rfl rfl
theorem bS.tail {ι:aD}{x y:Value}{l l':List Value} (t:bS ι (x::l) (y::l')):bS ι l l' :=
 ⟨by have:=t.1;simpa using this,fun i a b ha hb=>t.2 (i+1) a b (by simpa using ha) (by simpa using hb)⟩
theorem bS.cons_inv {ι:aD}{x:Value}{l m:List Value} (t:bS ι (x::l) m):∃y l',m=y::l'/\VR ι x y/\bS ι l l':=by
 cases m with
 |nil=>exact absurd t.1 (by simp)
 |cons y l'=>exact⟨y,l',rfl,t.head,t.tail⟩
theorem bS.nil_inv {ι:aD}{m:List Value} (t:bS ι [] m):m=[]:=by
 cases m with
 |nil=>rfl
 |cons y l'=>exact absurd t.1 (by simp)
theorem bS.append {ι:aD}{a a' b b':List Value} (h:bS ι a a') (k:bS ι b b'):bS ι (a++b) (a'++b'):=by
 refine⟨by simp [h.1,k.1],fun i x y hx hy=>?_⟩
 by_cases hi:i<a.length
 ·rw[List.getElem?_append_left hi] at hx
  rw[List.getElem?_append_left (by rw[<- h.1];exact hi)] at hy
  exact h.2 i x y hx hy
 ·rw[List.getElem?_append_right (by omega)] at hx
  rw[List.getElem?_append_right (by rw[<- h.1];omega)] at hy
  exact k.2 (i - a.length) x y hx (by rw[h.1];exact hy)
theorem bS.get {ι:aD}{l l':List Value} (h:bS ι l l') {i:Nat}{x:Value} (hx:l[i]?=some x):∃y,l'[i]?=some y/\VR ι x y:=by
 have hi:i<l.length:=by
  rcases Nat.lt_or_ge i l.length with hh|hh
  ·exact hh
  ·rw[List.getElem?_eq_none hh] at hx;cases hx
 have hi':i<l'.length:=by rw[<- h.1];exact hi
 exact⟨l'[i],List.getElem?_eq_getElem hi',h.2 i x _ hx (List.getElem?_eq_getElem hi')⟩
noncomputable def flat:Nat->Value->Bool
 |0,_=>false
 |d+1,v =>
  match v with
  |.bool _=>true
  |.int _ _=>true
  |.float _ _=>true
  |.complex _ _ _=>true
  |.string _=>true
  |.pointer none=>true
  |.slice none _ _=>true
  |.map none=>true
  |.chan none=>true
  |.nilFunc=>true
  |.nilIface=>true
  |.iface _ v=>flat d v
  |.agg cs=>ee (flat d) cs.toList
  |.tuple cs=>ee (flat d) cs.toList
  |.func _ a c=>ee (flat d) a.toList&&ee (flat d) c.toList
  |_=>false
theorem dK (ι:aD):∀(d:Nat) (v:Value),flat d v=true->VR ι v v:=by
 intro d
 induction d with
 |zero=>intro v h;cases h
 |succ d ih =>
  intro v h
  have key:∀(l:List Value),ee (flat d) l=true->∀(i:Nat) (x y:Value),l[i]?=some x->l[i]?=some y->VR ι x y:=by
   intro l hl i x y hx hy
   rw[hx] at hy;cases hy
   rw[bT] at hl
   exact ih x (List.all_eq_true.1 hl x (List.mem_of_getElem? hx))
  cases v with
  |bool b=>exact .bool b
  |int k n=>exact .int k n
  |float k n=>exact .float k n
  |complex k n m=>exact .complex k n m
  |string s=>exact .string s
  |pointer a=>cases a with
   |none=>exact .nilPtr
   |some a=>simp [flat] at h
  |slice a n c=>cases a with
   |none=>exact .nilSlice n c
   |some a=>simp [flat] at h
  |map r=>cases r with
   |none=>exact .nilMap
   |some a=>simp [flat] at h
  |chan r=>cases r with
   |none=>exact .top _
   |some a=>simp [flat] at h
  |func f a c =>
   simp only[flat,Bool.and_eq_true] at h
   exact .func f a c a c rfl rfl (key _ h.1) (key _ h.2)
  |nilFunc=>exact .nilFunc
  |iface t v=>exact .iface t v v (ih v (by simpa [flat] using h))
  |nilIface=>exact .nilIface
  |agg cs=>exact .agg cs cs rfl (key _ (by simpa [flat] using h))
  |tuple cs=>exact .tuple cs cs rfl (key _ (by simpa [flat] using h))
def H0:Value->Bool
 |.int _ _|.string _|.bool _=>true
 |_=>false
def ER (ι:aD) (e:Value×Value×Nat) (e':MapEntry):Prop:=e'.key=e.1/\H0 e.1=true/\VR ι e.2.1 e'.val/\e'.born=e.2.2
def ag.wr:ag->Bool
 |.ro _=>false
 |_=>true
def kU (ι:aD) (L:Loc) (cs:List Value) (c:Array Value):Prop :=
 L.size=c.size/\L.off+cs.length<=c.size/\∀(i:Nat) (x:Value),cs[i]?=some x->∃y,c[L.off+i]?=some y/\VR ι x y
def OR (ι:aD) (L:Loc) (H:Array Obj):ag->Prop
 |.cells cs=>∃c t fr,H[L.blk]?=some (.cells c t fr)/\kU ι L cs c/\fr=(0,0)
 |.bytes cs=>∃c t fr,H[L.blk]?=some (.cells c t fr)/\kU ι L cs c/\(fr=(0,0)\/fr=(c.size,c.size+1))
 |.ro cs=>∃c t fr,H[L.blk]?=some (.cells c t fr)/\kU ι L cs c
 |.map es k=>∃es',H[L.blk]?=some (.map es' k)/\es.length=es'.size/\∀(i:Nat) e e',es[i]?=some e->es'[i]?=some e'->ER ι e e'
theorem kU.mono {ι ι':aD} (hi:ι.le ι') {L:Loc}{cs:List Value}{c:Array Value} (h:kU ι L cs c):kU ι' L cs c :=
 ⟨h.1,h.2.1,fun i x hx=>let ⟨y,a,b⟩:=h.2.2 i x hx;⟨y,a,b.mono hi⟩⟩
theorem OR.mono {ι ι':aD} (hi:ι.le ι') {L:Loc}{H:Array Obj}{o:ag} (h:OR ι L H o):OR ι' L H o:=by
 cases o with
 |cells cs=>obtain⟨c,t,fr,a,b,d⟩:=h;exact⟨c,t,fr,a,b.mono hi,d⟩
 |ro cs=>obtain⟨c,t,fr,a,b⟩:=h;exact⟨c,t,fr,a,b.mono hi⟩
 |bytes cs=>obtain⟨c,t,fr,a,b,d⟩:=h;exact⟨c,t,fr,a,b.mono hi,d⟩
 |map es k=>obtain⟨es',a,b,d⟩:=h;exact⟨es',a,b,fun i e e' x y=>let r:=d i e e' x y;⟨r.1,r.2.1,r.2.2.1.mono hi,r.2.2.2⟩⟩
theorem OR.of_block {ι:aD}{L:Loc}{H H':Array Obj}{o:ag} (h:OR ι L H o) (e:H'[L.blk]?=H[L.blk]?):OR ι L H' o:=by
 cases o with
 |cells cs=>obtain⟨c,t,fr,a,b⟩:=h;exact⟨c,t,fr,e.trans a,b⟩
 |ro cs=>obtain⟨c,t,fr,a,b⟩:=h;exact⟨c,t,fr,e.trans a,b⟩
 |bytes cs=>obtain⟨c,t,fr,a,b⟩:=h;exact⟨c,t,fr,e.trans a,b⟩
 |map es k=>obtain⟨es',a,b⟩:=h;exact⟨es',e.trans a,b⟩
theorem OR.lt {ι:aD}{L:Loc}{H:Array Obj}{o:ag} (h:OR ι L H o):L.blk<H.size:=by
 have:∃x,H[L.blk]?=some x:=by
  cases o with
  |cells cs=>obtain⟨c,t,fr,a,_⟩:=h;exact⟨_,a⟩
  |ro cs=>obtain⟨c,t,fr,a,_⟩:=h;exact⟨_,a⟩
  |bytes cs=>obtain⟨c,t,fr,a,_⟩:=h;exact⟨_,a⟩
  |map es k=>obtain⟨es',a,_⟩:=h;exact⟨_,a⟩
 obtain⟨x,hx⟩:=this
 rcases Nat.lt_or_ge L.blk H.size with hh|hh
 ·exact hh
 ·rw[Array.getElem?_eq_none hh] at hx;cases hx
structure HR (G:Nat) (ι:aD) (h:T ag) (H:Array Obj):Prop where
 obj:∀b o,h.get b=some o->∃L,ι b=some L/\OR ι L H o
 inj:∀b1 b2 o1 o2 L1 L2,h.get b1=some o1->h.get b2=some o2->ι b1=some L1->ι b2=some L2->L1.blk=L2.blk->b1=b2
 lt:∀b L,ι b=some L->L.blk<H.size
 glob:∀g,g<G->∃L,ι g=some L/\L.blk=g/\L.off=0
def k9 (ι:aD) (h:T ag) (k:Nat):Prop:=∃b o L,h.get b=some o/\o.wr=true/\ι b=some L/\L.blk=k
structure aM (G:Nat) (ι ι':aD) (s s':St) (w w':World):Prop where
 ext:ι.le ι'
 new:∀b,ι b=none->(b<s.c\/s'.c<=b)->ι' b=none
 hr:HR G ι' s'.h w'.heap
 os:w'.os=w.os
 tape:w'.tape=w.tape
 output:w'.output=w.output
 size:w.heap.size<=w'.heap.size
 frame:∀k,k<w.heap.size->¬ k9 ι s.h k->w'.heap[k]?=w.heap[k]?
 own:∀k,k<w.heap.size->k9 ι' s'.h k->k9 ι s.h k
 cle:s.c<=s'.c
theorem aM.refl {G:Nat}{ι:aD}{s s':St}{w w':World} (h:HR G ι s.h w.heap) (hh:s'.h=s.h) (hc:s'.c=s.c)
  (e:w'.heap=w.heap:=by rfl) (eo:w'.os=w.os:=by rfl) (et:w'.tape=w.tape:=by rfl) (ep:w'.output=w.output:=by rfl):aM G ι ι s s' w w' :=
 ⟨aD.le_refl _,fun _ a _=>a,by rw[hh,e];exact h,eo,et,ep,by rw[e];exact Nat.le_refl _,fun k _ _=>by rw[e],fun k _ a=>by rw[hh] at a;exact a,by omega⟩
theorem aM.trans {G:Nat}{a b c:aD}{r s t:St}{u v w:World} (h:aM G a b r s u v) (k:aM G b c s t v w):aM G a c r t u w where
 ext:=aD.le_trans h.ext k.ext
 new:=fun x hx hr=>by
  have:=h.cle;have:=k.cle
  exact k.new x (h.new x hx (by omega)) (by omega)
 hr:=k.hr
 os:=k.os.trans h.os
 tape:=k.tape.trans h.tape
 output:=k.output.trans h.output
 size:=Nat.le_trans h.size k.size
 frame:=fun x hx ho=>by
  have hs:=h.size
  rw[k.frame x (by omega) (fun q=>ho (h.own x hx q)),h.frame x hx ho]
 own:=fun x hx ho=>h.own x hx (k.own x (Nat.lt_of_lt_of_le hx h.size) ho)
 cle:=Nat.le_trans h.cle k.cle
theorem aM.log {G:Nat}{ι ι':aD}{s s' t t':St}{w w':World} (h:aM G ι ι' s s' w w') (a:t.h=s.h) (b:t.c=s.c) (c:t'.h=s'.h) (d:t'.c=s'.c):aM G ι ι' t t' w w' where
 ext:=h.ext
 new:=fun x hx hr=>h.new x hx (by rw[b,d] at hr;exact hr)
 hr:=by rw[c];exact h.hr
 os:=h.os
 tape:=h.tape
 output:=h.output
 size:=h.size
 frame:=fun k hk ho=>h.frame k hk (by rw[a] at ho;exact ho)
 own:=fun k hk ho=>by rw[a];rw[c] at ho;exact h.own k hk ho
 cle:=by rw[b,d];exact h.cle
section steps
variable {G:Nat}{ι:aD}{s:St}{w:World}
theorem jQ {b:Nat}{o:ag}{s':St} (h:getO b s=some (o,s')):s.h.get b=some o/\b<s.c/\s'=⟨s.h,s.c,b::s.rl,s.wl⟩:=by
 obtain⟨h0,c,rl,wl⟩:=s
 have h':Bool.rec (motive:=fun _=>Option (ag×St)) (Option.rec (motive:=fun _=>Option (ag×St)) none (fun o=>some (o,⟨h0,c,b::rl,wl⟩)) (h0.get b)) none (Nat.ble c b)=some (o,s'):=h
 cases hb:Nat.ble c b with
 |true=>rw[hb] at h';cases h'
 |false =>
  rw[hb] at h'
  cases hg:h0.get b with
  |none=>rw[hg] at h';cases h'
  |some x =>
   rw[hg] at h'
   cases h'
   exact⟨rfl,cC.1 hb,rfl⟩
theorem dI {b:Nat}{o:Option ag}{s':St} (h:putO b o s=some ((),s')) :
  (∃x,s.h.get b=some x)/\b<s.c/\s'=⟨s.h.set b o,s.c,s.rl,b::s.wl⟩:=by
 obtain⟨h0,c,rl,wl⟩:=s
 have h':Bool.rec (motive:=fun _=>Option (Unit×St)) (Option.rec (motive:=fun _=>Option (Unit×St)) none (fun _=>(h0.set b o).force fun h=>some ((),⟨h,c,rl,b::wl⟩)) (h0.get b)) none (Nat.ble c b)=some ((),s'):=h
 cases hb:Nat.ble c b with
 |true=>rw[hb] at h';cases h'
 |false =>
  rw[hb] at h'
  cases hg:h0.get b with
  |none=>rw[hg] at h';cases h'
  |some x =>
   rw[hg] at h'
   simp only[T.force_eq] at h'
   cases h'
   exact⟨⟨x,rfl⟩,cC.1 hb,rfl⟩
theorem dZ {o:ag}{b:Nat}{s':St} (h:newO o s=some (b,s')):s.h.get s.c=none/\b=s.c/\s'=⟨s.h.set s.c (some o),s.c+1,s.rl,s.wl⟩:=by
 obtain⟨h0,c,rl,wl⟩:=s
 have h':Option.rec (motive:=fun _=>Option (Nat×St)) ((h0.set c (some o)).force fun h=>some (c,⟨h,c+1,rl,wl⟩)) (fun _=>none) (h0.get c)=some (b,s'):=h
 cases hg:h0.get c with
 |some x=>rw[hg] at h';cases h'
 |none =>
  rw[hg] at h'
  simp only[T.force_eq] at h'
  cases h'
  exact⟨rfl,rfl,rfl⟩
theorem bind_some {α β:Type}{m:M α}{f:α->M β}{b:β}{s':St} (h:m.bind f s=some (b,s')):∃a s1,m s=some (a,s1)/\f a s1=some (b,s'):=by
 have h':Option.rec (motive:=fun _=>Option (β×St)) none (fun p=>Prod.rec (motive:=fun _=>Option (β×St)) (fun a s=>f a s) p) (m s)=some (b,s'):=h
 cases hm:m s with
 |none=>rw[hm] at h';cases h'
 |some p=>obtain⟨a,s1⟩:=p;rw[hm] at h';exact⟨a,s1,rfl,h'⟩
theorem ak {α:Type}{a b:α}{s':St} (h:M.ret a s=some (b,s')):b=a/\s'=s:=by
 cases h;exact⟨rfl,rfl⟩
theorem aa {α:Type}{b:α}{s':St} (h:(M.fail:M α) s=some (b,s')):False:=by cases h
theorem aI {α:Type}{x:Option α}{b:α}{s':St} (h:M.lift x s=some (b,s')):x=some b/\s'=s:=by
 cases x with
 |none=>cases h
 |some a=>cases h;exact⟨rfl,rfl⟩
theorem ci {b:Nat}{cs:List Value}{s':St} (h:cj b s=some (cs,s')) :
  (s.h.get b=some (.cells cs)\/s.h.get b=some (.ro cs)\/s.h.get b=some (.bytes cs))/\b<s.c/\s'=⟨s.h,s.c,b::s.rl,s.wl⟩:=by
 obtain⟨o,s1,h1,h2⟩:=bind_some h
 obtain⟨a,b',c⟩:=jQ h1
 cases o with
 |cells l=>obtain⟨rfl,rfl⟩:=ak h2;exact⟨.inl a,b',c⟩
 |ro l=>obtain⟨rfl,rfl⟩:=ak h2;exact⟨.inr (.inl a),b',c⟩
 |bytes l=>obtain⟨rfl,rfl⟩:=ak h2;exact⟨.inr (.inr a),b',c⟩
 |map es k=>exact(aa h2).elim
theorem bC {b:Nat}{cs:List Value}{s':St} (h:bu b s=some (cs,s')) :
  s.h.get b=some (.cells cs)/\b<s.c/\s'=⟨s.h,s.c,b::s.rl,s.wl⟩:=by
 obtain⟨o,s1,h1,h2⟩:=bind_some h
 obtain⟨a,b',c⟩:=jQ h1
 cases o with
 |cells l=>obtain⟨rfl,rfl⟩:=ak h2;exact⟨a,b',c⟩
 |ro l=>exact(aa h2).elim
 |bytes l=>exact(aa h2).elim
 |map es k=>exact(aa h2).elim
theorem tq {b:Nat}{cs:List Value}{s':St} (h:mM b s=some (cs,s')) :
  (s.h.get b=some (.cells cs)\/s.h.get b=some (.bytes cs))/\b<s.c/\s'=⟨s.h,s.c,b::s.rl,s.wl⟩:=by
 obtain⟨o,s1,h1,h2⟩:=bind_some h
 obtain⟨a,b',c⟩:=jQ h1
 cases o with
 |cells l=>obtain⟨rfl,rfl⟩:=ak h2;exact⟨.inl a,b',c⟩
 |ro l=>exact(aa h2).elim
 |bytes l=>obtain⟨rfl,rfl⟩:=ak h2;exact⟨.inr a,b',c⟩
 |map es k=>exact(aa h2).elim
theorem gK {b:Nat}{p:List (Value×Value×Nat)×Nat}{s':St} (h:iL b s=some (p,s')) :
  s.h.get b=some (.map p.1 p.2)/\b<s.c/\s'=⟨s.h,s.c,b::s.rl,s.wl⟩:=by
 obtain⟨o,s1,h1,h2⟩:=bind_some h
 obtain⟨a,b',c⟩:=jQ h1
 cases o with
 |cells l=>exact(aa h2).elim
 |ro l=>exact(aa h2).elim
 |bytes l=>exact(aa h2).elim
 |map es k=>obtain⟨rfl,rfl⟩:=ak h2;exact⟨a,b',c⟩
theorem HR.cells (h:HR G ι s.h w.heap) {b:Nat}{cs:List Value} (hb:s.h.get b=some (.cells cs)\/s.h.get b=some (.ro cs)\/s.h.get b=some (.bytes cs)) :
  ∃L c t fr,ι b=some L/\w.heap[L.blk]?=some (.cells c t fr)/\kU ι L cs c:=by
 rcases hb with hb|hb|hb
 ·obtain⟨L,a,c,t,fr,d,e,_⟩:=h.obj _ _ hb;exact⟨L,c,t,fr,a,d,e⟩
 ·obtain⟨L,a,c,t,fr,d,e⟩:=h.obj _ _ hb;exact⟨L,c,t,fr,a,d,e⟩
 ·obtain⟨L,a,c,t,fr,d,e,_⟩:=h.obj _ _ hb;exact⟨L,c,t,fr,a,d,e⟩
theorem kV {L:Loc}{c:Array Value}{t:TypeId}{fr:Nat×Nat} (h:w.heap[L.blk]?=some (.cells c t fr)) (i:Nat):w.cell? ⟨L.blk,i,none⟩=c[i]?:=by
 simp [World.cell?,h]
theorem aM.alloc (h:HR G ι s.h w.heap) (hc:ι s.c=none) {o:ag}{O:Obj}{n:Nat}{s':St}
  (hs:s'.h=s.h.set s.c (some o)) (hcc:s'.c=s.c+1)
  (hO:∀ι':aD,ι.le ι'->OR ι' ⟨w.heap.size,0,n⟩ (w.heap.push O) o) :
  aM G ι (ι.upd s.c ⟨w.heap.size,0,n⟩) s s' w (w.alloc O):=by
 have hle:=ι.le_upd ⟨w.heap.size,0,n⟩ hc
 refine⟨hle,?_,⟨?_,?_,?_,?_⟩,rfl,rfl,rfl,by simp,?_,?_,by omega⟩
 ·intro b hb hr
  rw[aD.upd_ne ι _ (by omega)];exact hb
 ·intro b o' hb
  rw[hs,T.get_set] at hb
  by_cases e:b=s.c
  ·rw[if_pos e] at hb;cases hb
   exact⟨_,by rw[e];exact aD.upd_same ..,hO _ hle⟩
  ·rw[if_neg e] at hb
   obtain⟨L,a,d⟩:=h.obj b o' hb
   refine⟨L,hle _ _ a,(d.mono hle).of_block ?_⟩
   show (w.heap.push O)[L.blk]?=_
   rw[Array.getElem?_push,if_neg (by have:=d.lt;omega)]
 ·intro b1 b2 o1 o2 L1 L2 h1 h2 e1 e2 e
  rw[hs,T.get_set] at h1 h2
  by_cases c1:b1=s.c<;>by_cases c2:b2=s.c
  ·rw[c1,c2]
  ·rw[c1,aD.upd_same] at e1;rw[aD.upd_ne ι _ c2] at e2;cases e1
   have:=h.lt _ _ e2
   simp only at e;omega
  ·rw[aD.upd_ne ι _ c1] at e1;rw[c2,aD.upd_same] at e2;cases e2
   have:=h.lt _ _ e1
   simp only at e;omega
  ·rw[aD.upd_ne ι _ c1] at e1;rw[aD.upd_ne ι _ c2] at e2;rw[if_neg c1] at h1;rw[if_neg c2] at h2
   exact h.inj b1 b2 o1 o2 L1 L2 h1 h2 e1 e2 e
 ·intro b L hb
  show L.blk<(w.heap.push O).size
  rw[Array.size_push]
  by_cases c1:b=s.c
  ·rw[c1,aD.upd_same] at hb;cases hb;exact Nat.lt_succ_self _
  ·rw[aD.upd_ne ι _ c1] at hb;have:=h.lt _ _ hb;omega
 ·intro g hg
  obtain⟨L,a,d⟩:=h.glob g hg
  exact⟨L,hle _ _ a,d⟩
 ·intro k hk _
  show (w.heap.push O)[k]?=_
  rw[Array.getElem?_push,if_neg (by omega)]
 ·rintro k hk ⟨b,o',L,hb,hw,hl,rfl⟩
  rw[hs,T.get_set] at hb
  by_cases c1:b=s.c
  ·rw[c1,aD.upd_same] at hl;cases hl;exact absurd hk (Nat.lt_irrefl _)
  ·rw[if_neg c1] at hb;rw[aD.upd_ne ι _ c1] at hl
   exact⟨b,o',L,hb,hw,hl,rfl⟩
theorem aM.put (h:HR G ι s.h w.heap) {b:Nat}{o o':ag}{L:Loc}{s':St}{w':World} (hb:s.h.get b=some o) (hw:o.wr=true) (hl:ι b=some L)
  (hs:s'.h=s.h.set b (some o')) (hcc:s'.c=s.c) (hO:OR ι L w'.heap o') (hother:∀k,k≠L.blk->w'.heap[k]?=w.heap[k]?) (hsz:w'.heap.size=w.heap.size)
  (eo:w'.os=w.os) (et:w'.tape=w.tape) (ep:w'.output=w.output):aM G ι ι s s' w w':=by
 refine⟨aD.le_refl _,fun _ a _=>a,⟨?_,?_,?_,h.glob⟩,eo,et,ep,by omega,?_,?_,by omega⟩
 ·intro b1 o1 h1
  rw[hs,T.get_set] at h1
  by_cases e:b1=b
  ·rw[if_pos e] at h1;cases h1;rw[e];exact⟨L,hl,hO⟩
  ·rw[if_neg e] at h1
   obtain⟨L1,a,d⟩:=h.obj b1 o1 h1
   exact⟨L1,a,d.of_block (hother _ fun q=>e (h.inj b1 b o1 o L1 L h1 hb a hl q))⟩
 ·intro b1 b2 o1 o2 L1 L2 h1 h2 e1 e2 e
  have key:∀b1 o1,s'.h.get b1=some o1->∃x,s.h.get b1=some x:=by
   intro b1 o1 h1
   rw[hs,T.get_set] at h1
   by_cases e:b1=b
   ·rw[e];exact⟨o,hb⟩
   ·rw[if_neg e] at h1;exact⟨o1,h1⟩
  obtain⟨x1,k1⟩:=key b1 o1 h1
  obtain⟨x2,k2⟩:=key b2 o2 h2
  exact h.inj b1 b2 x1 x2 L1 L2 k1 k2 e1 e2 e
 ·intro b1 L1 h1;rw[hsz];exact h.lt _ _ h1
 ·intro k _ ho
  exact hother k fun q=>ho ⟨b,o,L,hb,hw,hl,q.symm⟩
 ·rintro k hk ⟨b1,o1,L1,h1,hw1,hl1,rfl⟩
  rw[hs,T.get_set] at h1
  by_cases e:b1=b
  ·exact⟨b,o,L,hb,hw,hl,by rw[e,hl] at hl1;cases hl1;rfl⟩
  ·rw[if_neg e] at h1;exact⟨b1,o1,L1,h1,hw1,hl1,rfl⟩
theorem aM.kill (h:HR G ι s.h w.heap) {b:Nat}{s':St} (hs:s'.h=s.h.set b none) (hcc:s'.c=s.c):aM G ι ι s s' w w:=by
 have key:∀b1 o1,s'.h.get b1=some o1->s.h.get b1=some o1:=by
  intro b1 o1 h1
  rw[hs,T.get_set] at h1
  by_cases e:b1=b
  ·rw[if_pos e] at h1;cases h1
  ·rw[if_neg e] at h1;exact h1
 exact⟨aD.le_refl _,fun _ a _=>a,⟨fun b1 o1 h1=>h.obj b1 o1 (key _ _ h1),fun b1 b2 o1 o2 L1 L2 h1 h2=>h.inj b1 b2 o1 o2 L1 L2 (key _ _ h1) (key _ _ h2),h.lt,h.glob⟩,rfl,rfl,rfl,
  Nat.le_refl _,fun _ _ _=>rfl,fun k _ ⟨b1,o1,L1,h1,r⟩=>⟨b1,o1,L1,key _ _ h1,r⟩,by omega⟩
theorem aM.moved (h:HR G ι s.h w.heap) {b:Nat}{cs:List Value}{L L':Loc}{o':ag}{s':St}{w':World} (hb:s.h.get b=some (.cells cs)) (hl:ι b=some L)
  (hc:ι s.c=none) (hlb:L'.blk=L.blk)
  (hs:s'.h=(s.h.set b none).set s.c (some o')) (hcc:s'.c=s.c+1)
  (hO:∀ι':aD,ι.le ι'->OR ι' L' w'.heap o') (hother:∀k,k≠L.blk->w'.heap[k]?=w.heap[k]?) (hsz:w'.heap.size=w.heap.size)
  (eo:w'.os=w.os) (et:w'.tape=w.tape) (ep:w'.output=w.output):aM G ι (ι.upd s.c L') s s' w w':=by
 have hle:=ι.le_upd L' hc
 have key:∀b1 o1,b1≠s.c->s'.h.get b1=some o1->s.h.get b1=some o1/\b1≠b:=by
  intro b1 o1 e h1
  rw[hs,T.get_set,if_neg e,T.get_set] at h1
  by_cases e:b1=b
  ·rw[if_pos e] at h1;cases h1
  ·rw[if_neg e] at h1;exact⟨h1,e⟩
 refine⟨hle,?_,⟨?_,?_,?_,?_⟩,eo,et,ep,by omega,?_,?_,by omega⟩
 ·intro x hx hr
  rw[aD.upd_ne ι _ (by omega)];exact hx
 ·intro b1 o1 h1
  by_cases e:b1=s.c
  ·rw[hs,T.get_set,if_pos e] at h1;cases h1
   exact⟨L',by rw[e];exact aD.upd_same ..,hO _ hle⟩
  ·obtain⟨k1,k2⟩:=key b1 o1 e h1
   obtain⟨L1,a,d⟩:=h.obj b1 o1 k1
   exact⟨L1,hle _ _ a,(d.mono hle).of_block (hother _ fun q=>k2 (h.inj b1 b o1 _ L1 L k1 hb a hl q))⟩
 ·intro b1 b2 o1 o2 L1 L2 h1 h2 e1 e2 e
  by_cases c1:b1=s.c<;>by_cases c2:b2=s.c
  ·rw[c1,c2]
  ·rw[c1,aD.upd_same] at e1;rw[aD.upd_ne ι _ c2] at e2;cases e1
   obtain⟨k1,k2⟩:=key b2 o2 c2 h2
   exact absurd (h.inj b2 b o2 _ L2 L k1 hb e2 hl (by rw[<- e,hlb])) k2
  ·rw[aD.upd_ne ι _ c1] at e1;rw[c2,aD.upd_same] at e2;cases e2
   obtain⟨k1,k2⟩:=key b1 o1 c1 h1
   exact absurd (h.inj b1 b o1 _ L1 L k1 hb e1 hl (by rw[e,hlb])) k2
  ·rw[aD.upd_ne ι _ c1] at e1;rw[aD.upd_ne ι _ c2] at e2
   exact h.inj b1 b2 o1 o2 L1 L2 (key b1 o1 c1 h1).1 (key b2 o2 c2 h2).1 e1 e2 e
 ·intro x K hx
  rw[hsz]
  by_cases c1:x=s.c
  ·rw[c1,aD.upd_same] at hx;cases hx;rw[hlb];exact h.lt _ _ hl
  ·rw[aD.upd_ne ι _ c1] at hx;exact h.lt _ _ hx
 ·intro g hg
  obtain⟨K,a,d⟩:=h.glob g hg
  exact⟨K,hle _ _ a,d⟩
 ·intro k _ ho
  exact hother k fun q=>ho ⟨b,_,L,hb,rfl,hl,q.symm⟩
 ·rintro k hk ⟨b1,o1,L1,h1,hw1,hl1,rfl⟩
  by_cases c1:b1=s.c
  ·rw[c1,aD.upd_same] at hl1;cases hl1
   exact⟨b,_,L,hb,rfl,hl,hlb.symm⟩
  ·rw[aD.upd_ne ι _ c1] at hl1
   exact⟨b1,o1,L1,(key b1 o1 c1 h1).1,hw1,hl1,rfl⟩
end steps
end Go.Ab
end
