import Derived.Test.YtofikbfljjjgeaaGreatDoorDS9
import Derived.Test.YtofikbfljjjgeaaGreatDoorE31
import Derived.Test.YtofikbfljjjgeaaGreatDoorRows
import Derived.Test.YtofikbfljjjgeaaGreatDoorE22
import Derived.Test.YtofikbfljjjgeaaGreatDoorDI2
import Derived.Test.YtofikbfljjjgeaaGreatDoorDJ2
import Derived.Test.YtofikbfljjjgeaaGreatDoorDI1
import Derived.Test.YtofikbfljjjgeaaGreatDoorDX1
import Derived.Test.YtofikbfljjjgeaaGreatDoorDF2
set_option linter.unusedVariables false
set_option linter.unusedSimpArgs false
section
namespace Go.Ab.Seat
open Go.Proofs Go.RowKit Go.Shelf
attribute [local go_sem] Oper.semAt_some
set_option maxRecDepth 100000 in
set_option maxHeartbeats 1000000 in
theorem zL (F:Fence) (n:Nat) (h7:F.fn 250) (hro:F.round=none) (l Bs os:Nat) (J:List Int->World->Prop) (W:World) (hBs:W.cell? ⟨Bs,os,none⟩=some (.slice none 0 0)) (h0:J [] W) :
  CallsIn F n Tryz.prog 250 #[.func (.yield l) #[] #[],.pointer (some ⟨Bs,os,none⟩)] W fun e W'=>(∃v,e=.returned v)/\J [] W':=by
 refine callsIn_of_wp Tryz.func250 rfl h7 ?_ hro
 simp only[Tryz.ntmps250,List.size_toArray,List.length_cons,List.length_nil,Nat.reduceAdd,Nat.reduceSub,Array.replicate_succ,Array.replicate_zero,List.push_toArray,List.append_toArray,List.nil_append,List.cons_append]
 gi_wp2
 gi_loopw [7] (fun i wr=>i=.int .i64 0/\J [] wr) (fun _ _=>0)
 case atStart=>exact⟨rfl,h0⟩
 case round =>
  obtain⟨rfl,hJs⟩:=hrel
  gi_wp2
  go_end0
  exact⟨⟨_,rfl⟩,hJs⟩
theorem Gw (n:Nat) (hn:1<=n) {w:World}{b o:Nat}{v:Value}{l:List Int} (hv:w.cell? ⟨b,o,none⟩=some v) (hb:b<w.heap.size) (hs:jH false w v l) (hl:l.length<=1000000) :
  CN Tryz.prog Fence.wide n 250 #[.pointer (some ⟨b,o,none⟩)] (fun ss=>ss.Perm l) l.length w:=by
 intro l0 J W hW _ hJB hY h0
 have hc:W.cell? ⟨b,o,none⟩=some v:=(hW.cell (p:=⟨b,o,none⟩) hb).trans hv
 rcases hs with⟨rfl,rfl⟩|⟨sb,so,c,rfl,hsb,hcs⟩
 ·refine(zL Fence.wide n trivial rfl l0 b o J W hc h0).mono ?_
  rintro e W' ⟨he,hj⟩
  exact⟨he,[],.refl _,hj⟩
 ·refine(Tryz.values1 Fence.wide n trivial rfl hn l0 b o sb so c l (by omega) J w.heap.size w hsb hJB (fun pre x W1 hj hlt=>hY pre x W1 hj hlt) W hc hcs h0).mono ?_
  rintro e W' ⟨he,ys,rfl,hj⟩
  exact⟨he,_,.refl _,hj⟩
abbrev pr (g:Nat) (keys:Bool):Prop :=
 ∀(w:World) (b o:Nat) (v:Value) (l:List Int),w.cell? ⟨b,o,none⟩=some v->b<w.heap.size->jH keys w v l->(∀n∈l,rq n=true)->l.length<=1000000 ->
  Calls Tryz.prog 84 #[.func (.func g) #[] #[.pointer (some ⟨b,o,none⟩)]] w fun e w'=>∃v,e=.returned v/\w'.ownsRow w.heap.size 3 1 v l.length ((fx l).map fun n=>Value.int .i64 n)/\(v=.slice none 0 0↔l=[])/\Below w.heap.size w w'
theorem Du:du Tryz.prog 84 3 (fun _=>none):=fun g keys h=>by cases h
theorem jA {k:Nat}{keys:Bool}{rest:Nat->Option Bool} (h:pr k keys) (r:du Tryz.prog 84 3 rest):du Tryz.prog 84 3 (fun g=>bif Nat.beq g k then some keys else rest g):=by
 intro g keys' hk0
 have hk:(bif Nat.beq g k then some keys else rest g)=some keys':=hk0
 cases h1:Nat.beq g k with
 |false=>rw[h1] at hk;exact r g keys' hk
 |true =>
  rw[h1] at hk
  cases hk
  obtain rfl:=aL.1 h1
  exact h
theorem xN:∀args w,(callFunc 153 args).run Tryz.prog w=.ok (.enter 153 args) w:=enters_of Tryz.func153 (by kernel_rfl) rfl
theorem JT:pr 206 true:=fun w b o v l hv hb hs hw hl=>iD Tryz.sortedA (Tryz.sortsA _) xN (enters_of Tryz.func206 (by kernel_rfl) rfl) hl (keysB (ρ':=Tryz.keysA_ren) {Tryz.keysA with} 7 (by omega) hv hb hs hw hl)
theorem Ly:pr 154 true:=fun w b o v l hv hb hs hw hl=>iD Tryz.sortedA (Tryz.sortsA _) xN (enters_of Tryz.func154 (by kernel_rfl) rfl) hl (keysB (ρ':=Tryz.keysB_ren) {Tryz.keysB with} 7 (by omega) hv hb hs hw hl)
theorem JU:pr 217 true:=fun w b o v l hv hb hs hw hl=>iD Tryz.sortedA (Tryz.sortsA _) xN (enters_of Tryz.func217 (by kernel_rfl) rfl) hl (keysB (ρ':=Tryz.keysC_ren) {Tryz.keysC with} 7 (by omega) hv hb hs hw hl)
theorem Kw:pr 164 true:=fun w b o v l hv hb hs hw hl=>iD Tryz.sortedA (Tryz.sortsA _) xN (enters_of Tryz.func164 (by kernel_rfl) rfl) hl (keysB (ρ':=Tryz.keysD_ren) {Tryz.keysD with} 7 (by omega) hv hb hs hw hl)
theorem I5:pr 250 false:=fun w b o v l hv hb hs hw hl=>iD Tryz.sortedA (Tryz.sortsA _) xN (enters_of Tryz.func250 (by kernel_rfl) rfl) hl (Gw 7 (by omega) hv hb hs hl)
noncomputable def Hx:Nat->Option Bool:=fun g=>bif Nat.beq g 250 then some false else none
theorem Aq:du Tryz.prog 84 3 Hx:=jA I5 Du
noncomputable def HO:Nat->Option Bool:=fun g=>bif Nat.beq g 206 then some true else Hx g
theorem Ax:du Tryz.prog 84 3 HO:=jA JT Aq
noncomputable def H6:Nat->Option Bool:=fun g=>bif Nat.beq g 154 then some true else HO g
theorem AA:du Tryz.prog 84 3 H6:=jA Ly Ax
noncomputable def Hw:Nat->Option Bool:=fun g=>bif Nat.beq g 217 then some true else H6 g
theorem AX:du Tryz.prog 84 3 Hw:=jA JU AA
noncomputable def Hz:Nat->Option Bool:=fun g=>bif Nat.beq g 164 then some true else Hw g
theorem AB:du Tryz.prog 84 3 Hz:=jA Kw AX
noncomputable def HC:Nat->Option Bool:=Hz
theorem AW:du Tryz.prog 84 3 HC:=AB
noncomputable def ce:Nat->Option Bool:=HC
theorem Bf:du Tryz.prog 84 3 ce:=AW
def nX:Nat:=84
theorem oL:iM nX (aX ce) :=
 ⟨qR ce,fun args s s' v ι w args' R h1 h2 h3 h4 h5=>xy ⟨Tryz.f84,_,Tryz.func84,rfl,by kernel_rfl⟩ Bf args s s' v ι w args' R h1 h2 h3 h4 h5⟩
#print axioms oL
end Go.Ab.Seat
end
section
namespace Go.Ab.Seat
open Go.Extern Go.Proofs
set_option maxRecDepth 1000000
def oD:Nat:=71
noncomputable def QE:Nat->Option (List Value->M Value):=qi fun f=>bif Nat.beq f nX then some (aX ce) else bif Nat.beq f mJ then some fQ else bif Nat.beq f kL then some fQ else none
noncomputable def C7:aS:=Cs QE
theorem Im:C7.Whole eg Tryz.prog 3:=qd _ (FE _ (mE (dj oL (dj vN (dj we fun f g hg=>by cases hg)))))
theorem Py:pu (callB C7 (a6 C7 eg 10000) oD [] s0)=true:=by kernel_rfl
theorem A5:iM oD fQ:=kO fun _ hw=>ji Im Py hw
#print axioms A5
end Go.Ab.Seat
end
section
namespace Go.Ab.Seat
open Go.Extern Go.Proofs
set_option maxRecDepth 1000000
def jK:Nat:=15
noncomputable def Mp:Nat->Option (List Value->M Value):=qi fun f=>bif Nat.beq f nX then some (aX ce) else bif Nat.beq f oD then some fQ else bif Nat.beq f mJ then some fQ else bif Nat.beq f kL then some fQ else none
noncomputable def OZ:aS:=Cs Mp
theorem GG:OZ.Whole eg Tryz.prog 3:=qd _ (FE _ (mE (dj oL (dj A5 (dj vN (dj we fun f g hg=>by cases hg))))))
theorem Jo:pu (callB OZ (a6 OZ eg 10000) jK [] s0)=true:=by kernel_rfl
theorem ua {w:World} (hw:Laid w):dO Tryz.prog jK/\Calls Tryz.prog jK #[] w fun e w'=>e=.returned (.bool true)/\Left w w':=ji GG Jo hw
theorem Bz:iM jK fQ:=kO fun _ hw=>ua hw
#print axioms Bz
end Go.Ab.Seat
end
section
namespace Go.Proofs.YtofikbfljjjgeaaGreatDoor
open Go.ChangeShapes Go.WideShapes Go.RowKit Go.Ab Go.Ab.Seat
def laidVars : List (String × DataW Unit) := [("math/bits.deBruijn32tab", Rows.laid_math_bits_deBruijn32tab), ("errors.errorType", Rows.laid_errors_errorType)]
theorem own:ownKnob Tryz.prog.godebug=none:=by kernel_rfl
theorem laidOut:laidOutB Tryz.prog=true:=by kernel_rfl
theorem K0 : Tryz.prog.globalNamed "math/bits.deBruijn32tab" = some 0 := by kernel_rfl
theorem PT : Tryz.prog.globalNamed "errors.errorType" = some 1 := by kernel_rfl
theorem LM : (Tryz.prog.cutTypes.find? (·.1 == "internal/reflectlite.rtype")).map (·.2) = some nO := by kernel_rfl
theorem HD:Tryz.prog.types.size=391:=by kernel_rfl
theorem EA:((List.range 391).filter fun t=>Tryz.prog.rowNamed t [101,114,114,111,114])=[iZ]:=by kernel_rfl
theorem HN:(Tryz.prog.globals[0]?).map (·.type)=some 193:=by kernel_rfl
theorem L4:Tryz.prog.underlying 193=some (.array 32 5):=by kernel_rfl
theorem Qv:Tryz.prog.underlying 5=some (.int .u8):=by kernel_rfl
theorem QF:Tryz.prog.cellsOf 5=1:=by kernel_rfl
theorem Hk:2<(begin Tryz.prog (fun _ _=>0) default).world.heap.size:=by
 have h:decide (2<(begin Tryz.prog (fun _ _=>0) default).world.heap.size)=true:=by kernel_rfl
 exact of_decide_eq_true h
theorem Eh:Tryz.prog.globals.size=2:=by kernel_rfl
theorem laid_of {W:World} (h:laidMetH Tryz.prog laidVars W) (hs:W.ShapedOpen Tryz.prog):Laid W:=by
 have h' : laidMet Tryz.prog [("math/bits.deBruijn32tab", Rows.laid_math_bits_deBruijn32tab)] W /\ handlesMet Tryz.prog [("errors.errorType", Rows.laid_errors_errorType)] W := h
 refine⟨?_,?_,?_⟩
 ·obtain⟨ps,⟨g,t,cs,fuel,p,q,hg,ht,hvar,hd,_,_⟩,_⟩:=h'.1
  obtain rfl:=Option.some.inj (K0.symm.trans hg)
  obtain rfl:=Option.some.inj (HN.symm.trans ht)
  obtain⟨h1,h2⟩:=yj L4 Qv QF hd
  have hcell:∀(i:Nat) (x:Value),pP[i]?=some x->cs[i]?=some x:=by
   intro i x hx
   have hx':([0,1,28,2,29,14,24,3,30,22,20,15,25,17,4,8,31,27,13,23,21,19,16,7,26,12,18,6,11,5,10,9].map fun n:Int=>Value.int .u8 n)[i]?=some x:=hx
   rw[List.getElem?_map,Option.map_eq_some_iff] at hx'
   obtain⟨m,hm,rfl⟩:=hx'
   have:=h2 i m (by
    have e:([0,1,28,2,29,14,24,3,30,22,20,15,25,17,4,8,31,27,13,23,21,19,16,7,26,12,18,6,11,5,10,9].map fun n:Int=>(DataW.lit (.int .u8 n):DataW Unit))[i]?=some (.lit (.int .u8 m)):=by rw[List.getElem?_map,hm];rfl
    exact e)
   rw[Array.getElem?_toList] at this
   exact this
  have hv:=hvar
  unfold World.var? at hv
  rw[hg] at hv
  simp only[Option.bind_some] at hv
  split at hv
  ·rename_i c t fr hH
   obtain rfl:=Option.some.inj hv
   refine⟨_,t,fr,hH,?_,hcell⟩
   have h31:=(Array.getElem?_eq_some_iff.1 (hcell 31 (.int .u8 9) rfl)).1
   show 32<=_
   omega
  ·cases hv
 ·obtain⟨name,u,ty,e1,e2,e3,e4,e5⟩:=h'.2 _ (List.mem_singleton.2 rfl)
  have en:name=[101,114,114,111,114]:=(Option.some.inj e1).symm
  subst en
  obtain rfl:=Option.some.inj (LM.symm.trans e2)
  have hm:ty∈(List.range 391).filter fun t=>Tryz.prog.rowNamed t [101,114,114,111,114]:=List.mem_filter.2 ⟨List.mem_range.2 (by rw[<- HD];exact e3),e4⟩
  rw[EA] at hm
  obtain rfl:=List.mem_singleton.1 hm
  have hv:=e5
  unfold World.var? at hv
  rw[PT] at hv
  simp only[Option.bind_some] at hv
  split at hv
  ·rename_i c t fr hH
   obtain rfl:=Option.some.inj hv
   refine⟨_,t,fr,hH,?_⟩
   have hh:typeHandle Tryz.prog iZ=hd iZ:=by unfold typeHandle;rw[Eh];rfl
   rw[hh]
   rfl
  ·cases hv
 ·obtain⟨o,_,h1,_⟩:=hs.2 2 (by rw[Eh];exact Nat.le_refl _) Hk
  exact(Array.getElem?_eq_some_iff.1 h1).1
theorem _root_.Go.Ab.Seat.Laid.left {w w':World} (h:Laid w) (hl:Go.Ab.Seat.Left w w'):Laid w':=by
 obtain⟨⟨c,t,fr,h1,h2,h3⟩,⟨c1,t1,fr1,h4,h5⟩,h6⟩:=h
 exact⟨⟨c,t,fr,(hl.heap 0 (by omega)).trans h1,h2,h3⟩,⟨c1,t1,fr1,(hl.heap 1 (by omega)).trans h4,h5⟩,Nat.lt_of_lt_of_le h6 hl.size⟩
noncomputable def laidWorld (os:Os):World :=
 let w0:=World.holding Tryz.prog os ⟨#[],#[],[]⟩
 {w0 with heap:=(w0.heap.modify 0 fun
   |.cells _ t frozen=>.cells pP.toArray t frozen
   |o=>o).modify 1 fun
   |.cells _ t frozen=>.cells #[rt iZ] t frozen
   |o=>o}
theorem laidWorld_met (os:Os) (args:Array Value):laidMetH Tryz.prog laidVars ((laidWorld os).forCall (fun _ _=>0) ⟨#[],args,[]⟩).memory :=
 laidMetH_of_parts (laidMet_of_run (ps:=(List.range 32).map fun i=>.cell 0 i) 8 (by kernel_rfl) (by kernel_rfl) (by kernel_rfl)) (by kernel_rfl)
#print axioms laidWorld_met
#print axioms laid_of
end Go.Proofs.YtofikbfljjjgeaaGreatDoor
end
section
namespace Go.Ab.Seat
open Go.Extern Go.Proofs
set_option maxRecDepth 1000000
end Go.Ab.Seat
end
section
namespace Go.Ab
open Go.RowKit (Below)
section
variable {C:aS}{eg:TypeId->Bool}{P:Program}{G:Nat}
end
def Code.l:Code->Code|.seq a _=>a|c=>c
def Code.r:Code->Code|.seq _ b=>b|c=>c
end Go.Ab
end
section
namespace Go.Ab
noncomputable def exact:Nat->Value->Bool
 |0,_=>false
 |d+1,v =>
  match v with
  |.bool _=>true
  |.int _ _=>true
  |.string _=>true
  |.pointer none=>true
  |.slice none _ _=>true
  |.map none=>true
  |.nilIface=>true
  |.agg cs=>ee (exact d) cs.toList
  |.tuple cs=>ee (exact d) cs.toList
  |_=>false
end Go.Ab
end
section
namespace Go.Ab.Seat
open Go.Extern Go.Proofs Go.RowKit
end Go.Ab.Seat
end
section
namespace Go.Ab.Seat
open Go.Extern Go.Proofs
set_option maxRecDepth 1000000
noncomputable def bD:Nat->Option (List Value->M Value):=fun f=>bif Nat.beq f jf then some gIns else bif Nat.beq f jo then some InsI.gIns else qi (fun f=>bif Nat.beq f nX then some (aX ce) else bif Nat.beq f jK then some fQ else bif Nat.beq f oD then some fQ else bif Nat.beq f mJ then some fQ else bif Nat.beq f kL then some fQ else none) f
noncomputable def CQ:aS:=Cs bD
theorem Ib:CQ.Whole eg Tryz.prog 3:=qd _ (FE _ (dj smInsG (dj InsI.smInsG (mE (dj oL (dj Bz (dj A5 (dj vN (dj we fun f g hg=>by cases hg)))))))))
theorem aU:pV bD:=by
 intro f hf
 have h:∀k∈[15,71,195,262,84,144,200],Nat.beq f k=false:=by
  intro k hk
  refine bh.2 fun e=>?_
  subst e
  unfold B3 at hf
  rw[List.contains_eq_mem] at hf
  simp [hk] at hf
 simp only[List.mem_cons,List.not_mem_nil,or_false,forall_eq_or_imp,forall_eq] at h
 obtain⟨h2,h3,h4,h5,h6,h7,h8⟩:=h
 show (bif Nat.beq f jf then some gIns else bif Nat.beq f jo then some InsI.gIns else qi _ f)=none
 unfold qi
 simp only[show Nat.beq f jf=false from h8,show Nat.beq f jo=false from h7,show Nat.beq f nX=false from h6,show Nat.beq f jK=false from h2,show Nat.beq f oD=false from h3,show Nat.beq f mJ=false from h4,show Nat.beq f kL=false from h5,cond_false]
theorem DV:xT pP pP=true:=by kernel_rfl
structure qN (h:T ag):Prop where
 g0:ay h 0 (.ro pP)
 g1:ay h 1 (.ro [rt iZ])
theorem Ae {h:T ag}{c:Nat}{rl wl:List Nat} (hf:ai h c) (hg:qN h):px ⟨h,c,rl,wl⟩=some ((),⟨h,c,1::0::rl,wl⟩):=by
 unfold px
 rw[ac (bU hg.g0.celR (hg.g0.lt hf)),ac (bU hg.g1.celR (hg.g1.lt hf))]
 rw[DV]
 rfl
theorem Ic {h:T ag}{c:Nat}{rl wl:List Nat} (hf:ai h c) (hg:qN h):∃v s',aE (Cs bD) eg 15 [] ⟨h,c,rl,wl⟩ v s'/\(v=.bool true/\s'=⟨h,c,1::0::rl,wl⟩):=by
 refine⟨_,_,aE.of_sm (q:=fQ) rfl ?_,rfl,rfl⟩
 show (px.bind fun _=>M.ret (Value.bool true)) _=_
 rw[ac (Ae hf hg)];rfl
theorem GW (n:Int) (c:Int) (hc:0<c) : -c<n.tmod c/\n.tmod c<c:=by
 have h1:n.tmod c<c:=Int.tmod_lt_of_pos n hc
 have h3:=Int.tmod_lt_of_pos (-n) hc
 rw[Int.neg_tmod] at h3
 omega
end Go.Ab.Seat
end
section
namespace Go.Ab.Seat
open Go.Extern Go.Proofs
set_option maxRecDepth 4000
theorem KW (s:St):cr (Cs bD) (a6 (Cs bD) eg 60) 209 [.int .u64 0] s=some (.int .i64 0,s):=by kernel_rfl
theorem LU (s:St):cr (Cs bD) (a6 (Cs bD) eg 60) 209 [.int .u64 1] s=some (.int .i64 1,s):=by kernel_rfl
theorem JH (s:St):cr (Cs bD) (a6 (Cs bD) eg 60) 209 [.int .u64 2] s=some (.int .i64 2,s):=by kernel_rfl
theorem Jd (s:St):cr (Cs bD) (a6 (Cs bD) eg 60) 209 [.int .u64 3] s=some (.int .i64 2,s):=by kernel_rfl
theorem Jp (s:St):cr (Cs bD) (a6 (Cs bD) eg 60) 209 [.int .u64 4] s=some (.int .i64 3,s):=by kernel_rfl
theorem Ma (s:St):cr (Cs bD) (a6 (Cs bD) eg 60) 209 [.int .u64 5] s=some (.int .i64 3,s):=by kernel_rfl
theorem JV (s:St):cr (Cs bD) (a6 (Cs bD) eg 60) 209 [.int .u64 6] s=some (.int .i64 3,s):=by kernel_rfl
theorem Me (s:St):cr (Cs bD) (a6 (Cs bD) eg 60) 209 [.int .u64 7] s=some (.int .i64 3,s):=by kernel_rfl
theorem K2 (s:St):cr (Cs bD) (a6 (Cs bD) eg 60) 209 [.int .u64 8] s=some (.int .i64 4,s):=by kernel_rfl
theorem KL (s:St):cr (Cs bD) (a6 (Cs bD) eg 60) 209 [.int .u64 9] s=some (.int .i64 4,s):=by kernel_rfl
theorem Ii (s:St):cr (Cs bD) (a6 (Cs bD) eg 60) 209 [.int .u64 10] s=some (.int .i64 4,s):=by kernel_rfl
theorem Iq (s:St):cr (Cs bD) (a6 (Cs bD) eg 60) 209 [.int .u64 11] s=some (.int .i64 4,s):=by kernel_rfl
theorem Iy (s:St):cr (Cs bD) (a6 (Cs bD) eg 60) 209 [.int .u64 12] s=some (.int .i64 4,s):=by kernel_rfl
theorem DN (s:St) {n:Nat} (hn:n<=12):∃r s',aE (Cs bD) eg 209 [.int .u64 (cf .u64 (n:Int))] s r s'/\(∃z,r=.int .i64 z)/\s'=s:=by
 have h3:n=0\/n=1\/n=2\/n=3\/n=4\/n=5\/n=6\/n=7\/n=8\/n=9\/n=10\/n=11\/n=12:=by omega
 rcases h3 with rfl|rfl|rfl|rfl|rfl|rfl|rfl|rfl|rfl|rfl|rfl|rfl|rfl
 ·exact⟨_,_,⟨60,KW s⟩,⟨_,rfl⟩,rfl⟩
 ·exact⟨_,_,⟨60,LU s⟩,⟨_,rfl⟩,rfl⟩
 ·exact⟨_,_,⟨60,JH s⟩,⟨_,rfl⟩,rfl⟩
 ·exact⟨_,_,⟨60,Jd s⟩,⟨_,rfl⟩,rfl⟩
 ·exact⟨_,_,⟨60,Jp s⟩,⟨_,rfl⟩,rfl⟩
 ·exact⟨_,_,⟨60,Ma s⟩,⟨_,rfl⟩,rfl⟩
 ·exact⟨_,_,⟨60,JV s⟩,⟨_,rfl⟩,rfl⟩
 ·exact⟨_,_,⟨60,Me s⟩,⟨_,rfl⟩,rfl⟩
 ·exact⟨_,_,⟨60,K2 s⟩,⟨_,rfl⟩,rfl⟩
 ·exact⟨_,_,⟨60,KL s⟩,⟨_,rfl⟩,rfl⟩
 ·exact⟨_,_,⟨60,Ii s⟩,⟨_,rfl⟩,rfl⟩
 ·exact⟨_,_,⟨60,Iq s⟩,⟨_,rfl⟩,rfl⟩
 ·exact⟨_,_,⟨60,Iy s⟩,⟨_,rfl⟩,rfl⟩
theorem Fq {h:T ag}{c:Nat}{rl wl:List Nat} (hf:ai h c) {b n:Nat}{l:List Ht} (hb:ay h b (.cells (aF l))) (hn:l.length=n) (hn':n<=12) (hd:(l.map Ht.id).Nodup) (lim:Int) :
  ∃r s',aE (Cs bD) eg 219 [.slice (some ⟨b,0,none⟩) n n,.int .i64 0,.int .i64 (n:Int),.int .i64 lim,.func (.func 186) #[] #[]] ⟨h,c,rl,wl⟩ r s'/\ay s'.h b (.cells (aF (aQ n l)))/\bA ⟨h,c,rl,wl⟩ s' (fun x=>x=b) (fun x=>x=b):=by
 have lb:=hb.lt hf
 refine Fn.go (aU 219 rfl) I4 Kl Mc rfl rfl ?_
 refine cg ?_
 refine aq ?_
 refine Wx.loop1 ?_
 refine aq ?_
 refine ax.call rfl rfl (Ba aU aO hb hn (by omega) hd) ?_
 rintro v h1 c1 r1 w1 ⟨hb1,hext⟩
 have kp:=Kp.ext (W:=fun x=>x=b) (h:=h) (c:=c) bW hext (by omega) (fun _ _ q=>q)
 have lr:=Lg.extR (R:=fun x=>x=b) (c:=c) az hext (fun _ _ q=>q)
 have lw:=Lg.extW (W:=fun x=>x=b) (c:=c) az hext (fun _ _ q=>q)
 have fr1:=hext.fresh
 have le1:=hext.c
 simp only at le1 fr1
 refine aq ?_
 refine⟨.inr rfl,aG.nil ⟨hb1,?_⟩⟩
 exact bM
theorem Bb {h:T ag}{c:Nat}{rl wl:List Nat} (hf:ai h c) {b n:Nat}{l:List Ht} (hb:ay h b (.cells (aF l))) (hn:l.length=n) (hn':n<=12) (hd:(l.map Ht.id).Nodup) :
  ∃r s',aE (Cs bD) eg 185 [.slice (some ⟨b,0,none⟩) n n,.func (.func 186) #[] #[]] ⟨h,c,rl,wl⟩ r s'/\ay s'.h b (.cells (aF (aQ n l)))/\bA ⟨h,c,rl,wl⟩ s' (fun x=>x=b) (fun x=>x=b):=by
 have lb:=hb.lt hf
 refine Fn.go (aU 185 rfl) KX KQ J0 rfl rfl ?_
 refine cg ?_
 refine aq ?_
 refine ax.call rfl rfl (DN _ hn') ?_
 rintro v1 h1 c1 r1 w1 ⟨⟨z,rfl⟩,e1⟩
 cases e1
 refine aq ?_
 refine ax.call rfl rfl (Fq aO hb hn hn' hd z) ?_
 rintro v h1 c1 r1 w1 ⟨hb1,hext⟩
 have kp:=Kp.ext (W:=fun x=>x=b) (h:=h) (c:=c) bW hext (by omega) (fun _ _ q=>q)
 have lr:=Lg.extR (R:=fun x=>x=b) (c:=c) az hext (fun _ _ q=>q)
 have lw:=Lg.extW (W:=fun x=>x=b) (c:=c) az hext (fun _ _ q=>q)
 have fr1:=hext.fresh
 have le1:=hext.c
 simp only at le1 fr1
 refine aq ?_
 refine⟨.inl rfl,aG.nil ⟨hb1,?_⟩⟩
 exact bM
end Go.Ab.Seat
end
section
namespace Go.Ab.Seat
open Go.Extern Go.Proofs
set_option maxRecDepth 4000
variable {sm:Nat->Option (List Value->M Value)}
def pz (h:T ag) (v:Value) (zss:List (List Int)):Prop :=
 ∃oa cap,v=.slice oa zss.length cap/\∀(i:Nat) (zs:List Int),zss[i]?=some zs->∃b o sp cs a k,oa=some ⟨b,o,sp⟩/\gX h b cs/\cu cs (o+i*1)=some (.slice a zs.length k)/\bj h (.slice a zs.length k) zs.length 1 (zs.map (Value.int .i32))
def sV (h:T ag) (c0:Nat) (v:Value) (dim:Nat) (vss:List (List Int)):Prop :=
 (v=.slice none 0 0/\vss=[])\/∃b vals,v=.slice (some ⟨b,0,some 1⟩) vss.length vss.length/\vss≠[]/\c0<=b/\ay h b (.cells vals)/\vals.length=vss.length/\∀(i:Nat) (zs:List Int),vss[i]?=some zs->zs.length=dim/\∃bi,vals[i]?=some (.slice (some ⟨bi,0,none⟩) dim dim)/\c0<=bi/\ay h bi (.cells (zs.map (Value.int .i32)))
theorem sV.keep {h h':T ag}{c c0:Nat}{v:Value}{dim:Nat}{vss:List (List Int)} (x:sV h c0 v dim vss) (hf:ai h c) (k:∀b,b<c->(∃cs,ay h b (.cells cs))->c0<=b->h'.get b=h.get b):sV h' c0 v dim vss:=by
 rcases x with x|⟨b,vals,h1,h2,h3,h4,h5,h6⟩
 ·exact .inl x
 ·refine .inr ⟨b,vals,h1,h2,h3,(k b (h4.lt hf) ⟨_,h4⟩ h3).trans h4,h5,fun i zs hi=>?_⟩
  obtain⟨g1,bi,g2,g3,g4⟩:=h6 i zs hi
  exact⟨g1,bi,g2,g3,(k bi (g4.lt hf) ⟨_,g4⟩ g3).trans g4⟩
theorem sV.val {h:T ag}{c0:Nat}{v:Value}{dim:Nat}{vss:List (List Int)} (x:sV h c0 v dim vss):∃oa,v=.slice oa vss.length vss.length:=by
 rcases x with⟨rfl,rfl⟩|⟨b,vals,h1,_⟩
 ·exact⟨_,rfl⟩
 ·exact⟨_,h1⟩
theorem sV.at {h:T ag}{c0:Nat}{oa:Option Addr}{n cap dim:Nat}{vss:List (List Int)} (x:sV h c0 (.slice oa n cap) dim vss) {i:Nat}{zs:List Int} (hi:vss[i]?=some zs) :
  zs.length=dim/\∃b vals bi,oa=some ⟨b,0,some 1⟩/\c0<=b/\ay h b (.cells vals)/\cu vals (0+i*1)=some (.slice (some ⟨bi,0,none⟩) dim dim)/\c0<=bi/\ay h bi (.cells (zs.map (Value.int .i32))):=by
 rcases x with⟨_,rfl⟩|⟨b,vals,h1,h2,h3,h4,h5,h6⟩
 ·cases hi
 ·obtain⟨g1,bi,g2,g3,g4⟩:=h6 i zs hi
  simp only[Value.slice.injEq] at h1
  exact⟨g1,b,vals,bi,h1.1,h3,h4,by rw[b8,Nat.zero_add,Nat.mul_one];exact g2,g3,g4⟩
def fI (zss:List (List Int)) (dim n:Nat):List (List Int):=(zss.take n).map fun zs=>rT zs dim
def IU (v:Value) (dim n:Nat) (lv:Value) (z:Int) (j17:Value):L :=
 .cons 0 v (.cons 1 (.int .i64 (dim:Int)) (.cons 2 (.int .i64 (n:Int)) (.cons 6 (.slice none 0 0) (.cons 7 lv (.cons 8 (.int .i64 z) (.cons 17 j17 .nil))))))
set_option maxHeartbeats 4000000 in
theorem vC (H:pV sm) {h:T ag}{c:Nat}{rl wl:List Nat} (hf:ai h c) {v:Value}{zss:List (List Int)} (hv:pz h v zss) (dim n:Nat) (hd:dim<=1000) (hn:n<=1000) (hb:zss.length<=9223372036854775807) :
  ∃r s',aE (Cs sm) eg 16 [v,.int .i64 (dim:Int),.int .i64 (n:Int)] ⟨h,c,rl,wl⟩ r s'/\sV s'.h c r dim (fI zss dim n)/\bA ⟨h,c,rl,wl⟩ s' (fun _=>True) (fun _=>False):=by
 obtain⟨oa,cap,rfl,hat⟩:=hv
 refine Fn.go (H 16 rfl) MB Nf O0 rfl rfl ?_
 refine cg ?_
 refine aq ?_
 refine Wx.loopE (fun k1 e s=>∃(i:Nat) (z:Int) (lv j17:Value) (h':T ag) (c':Nat) (rl' wl':List Nat),e=IU (.slice oa zss.length cap) dim n lv z j17/\z=i/\s=⟨h',c',rl',wl'⟩/\c<=c'/\ai h' c'/\Kp h h' c (fun _=>False)/\sV h' c lv dim (fI zss dim i)/\Lg c (fun _=>False) wl'/\i<=n/\i<=zss.length/\k1=n - i) n (IU (.slice oa zss.length cap) dim n (.slice none 0 0) 0 top) iY ?_ ?_ ?_
 ·unfold IU
  exact eI
 ·exact⟨0,0,_,_,_,_,_,_,rfl,rfl,rfl,Nat.le_refl _,aO,bW,.inl ⟨rfl,rfl⟩,az,by omega,by omega,rfl⟩
 ·rintro k1 e s ⟨i,z,lv,j17,h',c',rl',wl',rfl,hz,rfl,hcc,hf',hkp,hV,hlw,hin,hil,rfl⟩
  unfold IU
  have fin:¬(i<zss.length/\i<n)->fI zss dim i=fI zss dim n:=fun hi=>by
   unfold fI
   congr 1
   rcases Nat.lt_or_ge i zss.length with h|h
   ·rw[show i=n by omega]
   ·rw[List.take_of_length_le h,List.take_of_length_le (by omega)]
  have lgR:∀l:List Nat,Lg c (fun _=>True) l:=fun l b hb=>.inr trivial
  by_cases hi1:i<zss.length
  ·by_cases hi2:i<n
   ·obtain⟨b,o,sp,cs,a,k,rfl,hc0,hn0,hr0⟩:=hat i zss[i] (List.getElem?_eq_getElem hi1)
    have lb:=hc0.lt hf
    have hc1:gX h' b cs:=by unfold gX ay at hc0 ⊢;rw[hkp b lb (fun q=>q)];exact hc0
    have hr1:=bj.keepF hr0 hf (fun b hb=>hkp b hb (fun q=>q))
    refine aq ?_
    refine Zu (aj (k:=i) lz rfl rfl hz hi1) ?_
    refine Zu (aB (dV rfl) rfl hc1 (by omega) hn0) ?_
    refine aq ?_
    refine ax.call rfl rfl (yo H aO rfl hr1 dim hd (fun _=>True) (fun _ _=>trivial)) ?_
    rintro w h1 c1 r1 w1 ⟨⟨rfl,hnew⟩,hext⟩
    have kp:=Kp.ext (W:=fun _=>False) (h:=h) (c:=c) hkp hext (by omega) (fun _ _ q=>q)
    have lw:=Lg.extW (W:=fun _=>False) (c:=c) az hext (fun _ _ q=>q)
    have fr1:=hext.fresh
    have le1:=hext.c
    have lnew:=hnew.lt fr1
    simp only at le1 fr1 lnew
    have hbv':∀b,au lv=some b->b<c':=by
     intro b hb
     rcases hV with⟨rfl,_⟩|⟨bl,vals,rfl,_,_,q,_⟩
     ·cases hb
     ·cases hb;exact q.lt hf'
    have hV1:=hV.keep hf' (fun b hb _ _=>hext.get hb (fun q=>q))
    have hst:fI zss dim (i+1)=fI zss dim i++[rT zss[i] dim]:=by
     unfold fI
     rw[List.take_succ_eq_append_getElem hi1,List.map_append];rfl
    have hlen:(fI zss dim i).length=i:=by unfold fI;rw[List.length_map,List.length_take];omega
    have hbg:dv=1048576:=rfl
    rcases hV1 with⟨rfl,hnil⟩|⟨bl,vals,rfl,hne,hbl,hbc,hvl,hel⟩
    ·refine aq ?_
     refine Zu (cy rF sP rfl rfl (k:=0) ay.same.cel (by omega) (aA _ _ rfl) (by omega) aO) ?_
     refine aq ?_
     refine aC.go (n - (i+1)) (IU _ dim n _ (z+1) _) (by omega) eI ⟨i+1,z+1,_,_,_,_,_,_,rfl,by omega,rfl,by omega,aO,bW,?_,az,by omega,by omega,rfl⟩
     have hi0:i=0:=by rw[hnil] at hlen;simpa using hlen.symm
     rw[hst,hnil]
     refine .inr ⟨c1+1,[.slice (some ⟨c',0,none⟩) dim dim],rfl,(fun e=>by cases e),by omega,ay.same,rfl,fun j zs hj=>?_⟩
     cases j with
     |succ j=>simp at hj
     |zero =>
      simp only[List.nil_append,List.getElem?_cons_zero,Option.some.injEq] at hj
      subst hj
      exact⟨oP _ _,c',rfl,hcc,(hnew.other (by omega)).other (by omega)⟩
    ·have l3:=hbc.lt fr1
     refine aq ?_
     refine Zu (dg rF sP rfl rfl (k:=0) ay.same.cel (by omega) (aA _ _ rfl) (by omega) (by omega) (hbc.other (by omega)) (by omega) (aA _ _ (by omega)) (all_cons rfl a7) aO) ?_
     refine aq ?_
     refine aC.go (n - (i+1)) (IU _ dim n _ (z+1) _) (by omega) eI ⟨i+1,z+1,_,_,_,_,_,_,rfl,by omega,rfl,by omega,aO,bW,?_,az,by omega,by omega,rfl⟩
     rw[hst]
     refine .inr ⟨c1+1,_,?_,(fun e=>by simp at e),by omega,ay.same,?_,fun j zs hj=>?_⟩
     ·rw[List.length_append];rfl
     ·rw[List.length_append,List.length_append,hvl];rfl
     ·rcases Nat.lt_or_ge j (fI zss dim i).length with hj1|hj1
      ·rw[List.getElem?_append_left hj1] at hj
       obtain⟨g1,bi,g2,g3,g4⟩:=hel j zs hj
       refine⟨g1,bi,by rw[List.getElem?_append_left (by omega)];exact g2,g3,?_⟩
       have:=g4.lt fr1
       have nb:bi≠bl:=by
        rintro rfl
        unfold ay at g4 hbc
        rw[g4] at hbc
        cases hbc
        rw[List.getElem?_map,Option.map_eq_some_iff] at g2
        obtain⟨y,_,hy⟩:=g2
        cases hy
       exact((g4.other (by omega)).other nb).other (by omega)
      ·rw[List.getElem?_append_right hj1] at hj
       have hj0:j - (fI zss dim i).length=0:=by
        rcases Nat.eq_zero_or_pos (j - (fI zss dim i).length) with q|q
        ·exact q
        ·rw[List.getElem?_eq_none (by simp;omega)] at hj;cases hj
       rw[hj0] at hj
       simp only[List.getElem?_cons_zero,Option.some.injEq] at hj
       subst hj
       refine⟨oP _ _,c',by rw[List.getElem?_append_right (by omega),hvl,hj0];rfl,hcc,?_⟩
       have nb:c'≠bl:=by have:=hbv' bl rfl;omega
       exact((hnew.other (by omega)).other nb).other (by omega)
   ·refine aq ?_
    refine⟨.inr rfl,aG.one rfl ⟨?_,?_⟩⟩
    ·rw[<- fin (by omega)];exact hV
    ·exact bA.of hcc hf' hkp (lgR _) az
  ·refine aq ?_
   refine⟨.inr rfl,aG.one rfl ⟨?_,?_⟩⟩
   ·rw[<- fin (by omega)];exact hV
   ·exact bA.of hcc hf' hkp (lgR _) az
end Go.Ab.Seat
end
section
namespace Go.Ab.Seat
open Go.Extern Go.Proofs
set_option maxRecDepth 4000
def dY (h:T ag) (dim:Nat) (mid:List (List Int)) (U:Nat->Prop) (vals:List Value):Prop :=
 vals.length=mid.length/\∀(i:Nat) (zs:List Int),mid[i]?=some zs->zs.length=dim/\gc zs/\∃a k,vals[i]?=some (.slice a dim k)/\bj h (.slice a dim k) dim 1 (zs.map (Value.int .i32))/\∀b',au (.slice a dim k)=some b'->U b'
theorem dY.nil {h:T ag}{dim:Nat}{U:Nat->Prop}:dY h dim [] U []:=⟨rfl,fun i zs hi=>by cases hi⟩
theorem dY.keep {h h':T ag}{c dim:Nat}{mid:List (List Int)}{U U':Nat->Prop}{vals:List Value} (x:dY h dim mid U vals) (hf:ai h c) (hU:∀b,U b->U' b) (k:∀b,U b->b<c->(∃cs,gX h b cs)->h'.get b=h.get b):dY h' dim mid U' vals:=by
 refine⟨x.1,fun i zs hi=>?_⟩
 obtain⟨g1,g2,a,kk,g3,g4,g5⟩:=x.2 i zs hi
 refine⟨g1,g2,a,kk,g3,?_,fun b' hb'=>hU b' (g5 b' hb')⟩
 rcases g4 with g4|⟨b',o,sp',cap',cs,e,g6,g7⟩
 ·exact .inl g4
 ·refine .inr ⟨b',o,sp',cap',cs,e,?_,g7⟩
  have q:=k b' (g5 b' (by rw[e];rfl)) (g6.lt hf) ⟨_,g6⟩
  unfold gX ay at g6 ⊢
  rw[q];exact g6
theorem dY.push {h:T ag}{dim k:Nat}{mid:List (List Int)}{zs:List Int}{U:Nat->Prop}{vals:List Value}{a:Option Addr} (x:dY h dim mid U vals) (h1:zs.length=dim) (h2:gc zs) (h3:bj h (.slice a dim k) dim 1 (zs.map (Value.int .i32))) (h4:∀b',au (.slice a dim k)=some b'->U b'):dY h dim (mid++[zs]) U (vals++[.slice a dim k]):=by
 refine⟨by rw[List.length_append,List.length_append,x.1];rfl,fun i ys hi=>?_⟩
 rcases Nat.lt_or_ge i mid.length with q|q
 ·rw[List.getElem?_append_left q] at hi
  rw[List.getElem?_append_left (by rw[x.1];exact q)]
  exact x.2 i ys hi
 ·rw[List.getElem?_append_right q] at hi
  rw[List.getElem?_append_right (by rw[x.1];exact q),x.1]
  cases e:i - mid.length with
  |succ j=>rw[e] at hi;simp at hi
  |zero =>
   rw[e] at hi
   simp only[List.getElem?_cons_zero,Option.some.injEq] at hi
   subst hi
   exact⟨h1,h2,a,k,rfl,h3,h4⟩
def fe (h:T ag) (v:Value) (dim:Nat) (mid:List (List Int)) (U:Nat->Prop):Prop :=
 (v=.slice none 0 0/\mid=[])\/∃b sp cap vals,v=.slice (some ⟨b,0,sp⟩) mid.length cap/\mid≠[]/\mid.length<=cap/\U b/\ay h b (.cells vals)/\dY h dim mid U vals
def pw (h:T ag) (v:Value) (dim:Nat) (mid:List (List Int)) (U:Nat->Prop):Prop :=
 (v=.slice none 0 0/\mid=[])\/∃b vals,v=.slice (some ⟨b,0,some 1⟩) mid.length mid.length/\mid≠[]/\U b/\ay h b (.cells vals)/\dY h dim mid U vals
theorem pw.mrow {h:T ag}{v:Value}{dim:Nat}{mid:List (List Int)}{U:Nat->Prop} (x:pw h v dim mid U):fe h v dim mid U:=by
 rcases x with x|⟨b,vals,h1,h2,h3,h4,h5⟩
 ·exact .inl x
 ·exact .inr ⟨b,some 1,_,vals,h1,h2,Nat.le_refl _,h3,h4,h5⟩
theorem pw.keep {h h':T ag}{c:Nat}{v:Value}{dim:Nat}{mid:List (List Int)}{U U':Nat->Prop} (x:pw h v dim mid U) (hf:ai h c) (hU:∀b,U b->U' b) (k:∀b,U b->b<c->(∃cs,gX h b cs)->h'.get b=h.get b):pw h' v dim mid U':=by
 rcases x with x|⟨b,vals,h1,h2,h3,h4,h5⟩
 ·exact .inl x
 ·exact .inr ⟨b,vals,h1,h2,hU b h3,(k b h3 (h4.lt hf) ⟨_,h4.cel⟩).trans h4,h5.keep hf hU k⟩
theorem fe.val {h:T ag}{v:Value}{dim:Nat}{mid:List (List Int)}{U:Nat->Prop} (x:fe h v dim mid U):∃oa cap,v=.slice oa mid.length cap:=by
 rcases x with⟨rfl,rfl⟩|⟨b,sp,cap,vals,h1,_⟩
 ·exact⟨_,_,rfl⟩
 ·exact⟨_,_,h1⟩
theorem fe.at {h:T ag}{oa:Option Addr}{n cap dim:Nat}{mid:List (List Int)}{U:Nat->Prop} (x:fe h (.slice oa n cap) dim mid U) {i:Nat}{zs:List Int} (hi:mid[i]?=some zs) :
  zs.length=dim/\gc zs/\∃b sp vals a k,oa=some ⟨b,0,sp⟩/\U b/\ay h b (.cells vals)/\cu vals (0+i*1)=some (.slice a dim k)/\bj h (.slice a dim k) dim 1 (zs.map (Value.int .i32))/\∀b',au (.slice a dim k)=some b'->U b':=by
 rcases x with⟨_,rfl⟩|⟨b,sp,cap',vals,h1,h2,h3,h4,h5,h6,h7⟩
 ·cases hi
 ·obtain⟨g1,g2,a,k,g3,g4,g5⟩:=h7 i zs hi
  simp only[Value.slice.injEq] at h1
  exact⟨g1,g2,b,sp,vals,a,k,h1.1,h4,h5,by rw[b8,Nat.zero_add,Nat.mul_one];exact g3,g4,g5⟩
theorem fe.keep {h h':T ag}{c:Nat}{v:Value}{dim:Nat}{mid:List (List Int)}{U U':Nat->Prop} (x:fe h v dim mid U) (hf:ai h c) (hU:∀b,U b->U' b) (k:∀b,U b->b<c->(∃cs,gX h b cs)->h'.get b=h.get b):fe h' v dim mid U':=by
 rcases x with x|⟨b,sp,cap,vals,h1,h2,h3,h4,h5,h6⟩
 ·exact .inl x
 ·exact .inr ⟨b,sp,cap,vals,h1,h2,h3,hU b h4,(k b h4 (h5.lt hf) ⟨_,h5.cel⟩).trans h5,h6.keep hf hU k⟩
theorem sV.mrow {h:T ag}{c0:Nat}{v:Value}{dim:Nat}{vss:List (List Int)} (x:sV h c0 v dim vss) (hb:∀zs∈vss,gc zs):fe h v dim vss (fun b=>c0<=b):=by
 rcases x with x|⟨b,vals,h1,h2,h3,h4,h5,h6⟩
 ·exact .inl x
 ·refine .inr ⟨b,some 1,_,vals,h1,h2,Nat.le_refl _,h3,h4,h5,fun i zs hi=>?_⟩
  obtain⟨g1,bi,g2,g3,g4⟩:=h6 i zs hi
  refine⟨g1,hb zs (List.mem_of_getElem? hi),_,_,g2,.inr ⟨bi,0,none,dim,_,rfl,g4.cel,aA _ _ (by rw[List.length_map];omega)⟩,fun b' hb'=>?_⟩
  cases hb'
  exact g3
def mg (qs:List Int) (mid:List (List Int)):List Ht:=(List.range mid.length).map fun(i:Nat)=>⟨(i:Int),cX 1 (mid.getD i []) qs⟩
theorem nR (qs:List Int) (mid:List (List Int)):(mg qs mid).length=mid.length:=by unfold mg;simp
theorem G4 {qs:List Int}{mid:List (List Int)}{i:Nat}{zs:List Int} (hi:mid[i]?=some zs):(mg qs mid)[i]?=some ⟨(i:Int),cX 1 zs qs⟩:=by
 obtain⟨h1,h2⟩:=List.getElem?_eq_some_iff.1 hi
 unfold mg
 rw[List.getElem?_map,List.getElem?_eq_getElem (by simpa using h1),List.getElem_range]
 show some (⟨(i:Int),cX 1 (mid.getD i []) qs⟩:Ht)=_
 rw[List.getD_eq_getElem?_getD,hi];rfl
theorem iA (qs:List Int) (mid:List (List Int)):((mg qs mid).map Ht.id).Nodup:=by
 unfold mg
 rw[List.map_map]
 exact(List.pairwise_map.2 ((List.nodup_range (n:=mid.length)).imp fun {a b} h=>by
  show ((a:Nat):Int)≠((b:Nat):Int)
  omega))
def pK (mid:List (List Int)) (qs:List Int):List Int:=(aQ mid.length (mg qs mid)).map Ht.id
theorem Fc (n:Nat):rep [Value.int .i64 0,.int .i64 0] n=aF (List.replicate n ⟨0,0⟩):=by
 induction n with
 |zero=>rfl
 |succ n ih=>rw[List.replicate_succ];show _=[Value.int .i64 0,.int .i64 0]++aF _;rw[<- ih];rfl
def HI (h:T ag) (c0:Nat) (v:Value) (l:List Int):Prop:=(v=.slice none 0 0/\l=[])\/∃b,v=.slice (some ⟨b,0,some 1⟩) l.length l.length/\l≠[]/\c0<=b/\ay h b (.cells (l.map (Value.int .i64)))
theorem Fw {l:List Ht}{i n:Nat}{x:Ht} (hn:l.length=n) (hi:i<n) (hx:l[i]?=some x):bw [.int .i64 x.id,.int .i64 x.sc] (aF (l.take i++List.replicate (n - i) ⟨0,0⟩)) (0+i*2)=some (aF (l.take (i+1)++List.replicate (n - (i+1)) ⟨0,0⟩)):=by
 have e1:List.replicate (n - i) (⟨0,0⟩:Ht)=⟨0,0⟩::List.replicate (n - (i+1)) ⟨0,0⟩:=by rw[<- List.replicate_succ];congr 1;omega
 have e2:(l.take i).length=i:=by rw[List.length_take];omega
 have h1:=Ie (A:=l.take i) (B:=List.replicate (n - (i+1)) ⟨0,0⟩) (y:=x) (x:=⟨0,0⟩)
 rw[e2] at h1
 rw[e1,h1]
 obtain⟨q1,q2⟩:=List.getElem?_eq_some_iff.1 hx
 rw[List.take_succ_eq_append_getElem q1,q2,List.append_assoc];rfl
def EO (v q:Value) (n c:Nat) (z:Int) (j6 j7 j17:Value):L :=
 .cons 1 q (.cons 0 v (.cons 4 (.slice none 0 0) (.cons 5 (.slice (some ⟨c,0,none⟩) n n) (.cons 14 v (.cons 15 (.int .i64 (n:Int)) (.cons 16 (.int .i64 z) (.cons 6 j6 (.cons 7 j7 (.cons 17 j17 .nil)))))))))
def G8 (v q:Value) (n c:Nat) (j6 j7 j17 lv:Value) (z:Int) (j10 j35:Value):L :=
 .cons 1 q (.cons 0 v (.cons 4 (.slice none 0 0) (.cons 5 (.slice (some ⟨c,0,none⟩) n n) (.cons 14 v (.cons 15 (.int .i64 (n:Int)) (.cons 16 (.int .i64 (n:Int)) (.cons 6 j6 (.cons 7 j7 (.cons 17 j17 (.cons 8 lv (.cons 32 (.slice (some ⟨c,0,none⟩) n n) (.cons 33 (.int .i64 (n:Int)) (.cons 34 (.int .i64 z) (.cons 10 j10 (.cons 35 j35 .nil)))))))))))))))
set_option maxHeartbeats 4000000 in
theorem sY {h:T ag}{c:Nat}{rl wl:List Nat} (hf:ai h c) {v:Value}{dim:Nat}{mid:List (List Int)}{U:Nat->Prop} (hm:fe h v dim mid U) (hn:mid.length<=12) (hd:dim<=1000) {qa:Option Addr}{qc:Nat}{qs:List Int} (hq:bj h (.slice qa dim qc) dim 1 (qs.map (Value.int .i32))) (hqn:qs.length=dim) (hqb:gc qs) (R:Nat->Prop) (hUR:∀b,U b->R b) (hqR:∀b,au (.slice qa dim qc)=some b->R b) :
  ∃r s',aE (Cs bD) eg 133 [v,.slice qa dim qc] ⟨h,c,rl,wl⟩ r s'/\HI s'.h c r (pK mid qs)/\bA ⟨h,c,rl,wl⟩ s' R (fun _=>False):=by
 obtain⟨oa,cap,rfl⟩:=hm.val
 have hlen:=nR qs mid
 refine Fn.go (aU 133 rfl) Jt IY JJ rfl rfl ?_
 refine cg ?_
 refine aq ?_
 refine Zu (dM (a:=mid.length) (b:=mid.length) iB rfl rfl rfl rfl (by omega) (by unfold dv;omega) aO) ?_
 refine aq ?_
 refine Wx.cutO (fun e s=>∃(j6 j7 j17:Value) (h':T ag) (rl' wl':List Nat),e=EO (.slice oa mid.length cap) (.slice qa dim qc) mid.length c mid.length j6 j7 j17/\s=⟨h',c+1,rl',wl'⟩/\ai h' (c+1)/\Kp h h' c (fun _=>False)/\ay h' c (.cells (aF (mg qs mid)))/\Lg c R rl'/\Lg c (fun _=>False) wl') iY ?_ ?_
 ·refine Wx.loopE (fun k1 e s=>∃(i:Nat) (z:Int) (j6 j7 j17:Value) (h':T ag) (rl' wl':List Nat),e=EO (.slice oa mid.length cap) (.slice qa dim qc) mid.length c z j6 j7 j17/\z=i/\s=⟨h',c+1,rl',wl'⟩/\ai h' (c+1)/\Kp h h' c (fun _=>False)/\ay h' c (.cells (aF ((mg qs mid).take i++List.replicate (mid.length - i) ⟨0,0⟩)))/\Lg c R rl'/\Lg c (fun _=>False) wl'/\i<=mid.length/\k1=mid.length - i) mid.length (EO (.slice oa mid.length cap) (.slice qa dim qc) mid.length c 0 top top top) iY ?_ ?_ ?_
  ·unfold EO
   exact eI
  ·refine⟨0,0,_,_,_,_,_,_,rfl,rfl,rfl,aO,bW,?_,az,az,by omega,rfl⟩
   rw[Fc];exact ay.same
  ·rintro k1 e s ⟨i,z,j6,j7,j17,h',rl',wl',rfl,hz,rfl,hf',hkp,hB,hlr,hlw,hid,rfl⟩
   unfold EO
   by_cases hi:i<mid.length
   ·have hm':=hm.keep hf (fun _ q=>q) (fun b _ hb _=>hkp b hb (fun q=>q))
    obtain⟨g1,g2,b,sp,vals,a,k,rfl,g4,g5,g6,g7,g8⟩:=hm'.at (List.getElem?_eq_getElem hi)
    have lb:b<c:=by
     rcases hm with⟨_,e⟩|⟨b',sp',cap',vals',e1,e2,e3,e4,e5,_⟩
     ·rw[e] at hi;cases hi
     ·simp only[Value.slice.injEq,Option.some.injEq,Addr.mk.injEq] at e1
      rw[e1.1.1];exact e5.lt hf
    have rb:=hUR b g4
    have hq':=bj.keepF hq hf (fun b hb=>hkp b hb (fun q=>q))
    have hst:=Fw hlen hi (G4 (qs:=qs) (List.getElem?_eq_getElem hi))
    refine aq ?_
    refine Zu (aj (k:=i) lz rfl rfl hz hi) ?_
    refine Zu (aB (dV rfl) rfl g5.cel (by omega) g6) ?_
    refine aq ?_
    refine ax.call rfl rfl (gh aU aO (.inl rfl) g1 hqn g7 hq' g2 hqb hd R (fun b hb=>hb.elim (fun u=>hUR b (g8 b u)) (hqR b))) ?_
    rintro v h2' c2 r2 w2 ⟨⟨rfl,e1,e2⟩,hext2⟩
    simp only at e1 e2
    subst e1 e2
    have lr2:=Lg.extR (R:=R) (c:=c) az hext2 (fun _ _ q=>q)
    have lw2:=Lg.extW (W:=fun _=>False) (c:=c) az hext2 (fun _ _ q=>q)
    refine aq ?_
    refine Zu (aj (k:=i) ej rfl rfl hz hi) ?_
    rw[<- hz] at hst
    ((with_reducible apply ax.so);rfl;exact(uc rfl);rfl;exact hB;omega;refine wC ?_;refine⟨_,_,(by(first|exact a8 _|rfl)),rfl,hst,?_⟩)
    refine aq ?_
    refine aC.go (mid.length - (i+1)) (EO _ _ mid.length c (z+1) _ _ _) (by omega) eI ⟨i+1,z+1,_,_,_,_,_,_,rfl,by omega,rfl,aO,bW,ay.same,az,az,by omega,rfl⟩
   ·refine aq ?_
    obtain rfl:i=mid.length:=by omega
    subst hz
    refine di.go (EO (.slice oa mid.length cap) (.slice qa dim qc) mid.length c mid.length _ _ _) eI ⟨_,_,_,_,_,_,rfl,rfl,hf',hkp,?_,az,az⟩
    rw[List.take_of_length_le (by omega),Nat.sub_self,List.replicate_zero,List.append_nil] at hB
    exact hB
 ·rintro e s ⟨j6,j7,j17,h',rl',wl',rfl,rfl,hf',hkp,hB,hlr,hlw⟩
  unfold EO
  refine aq ?_
  refine ax.call rfl rfl (Bb aO hB hlen hn (iA qs mid)) ?_
  rintro v1 h1 c1 r1 w1 ⟨hB1,hext⟩
  have fr1:=hext.fresh
  have le1:=hext.c
  simp only at le1 fr1 hB1
  have kp1:=Kp.ext (W:=fun _=>False) (h:=h) (c:=c) bW hext (by omega) (fun b hb q=>by omega)
  have lr1:=Lg.extR (R:=R) (c:=c) az hext (fun b hb q=>by omega)
  have lw1:=Lg.extW (W:=fun _=>False) (c:=c) az hext (fun b hb q=>by omega)
  have hL:(aQ mid.length (mg qs mid)).length=mid.length:=by
   have:=gz (k:=mid.length) (iA qs mid) (m:=mid.length) (by omega) (Nat.le_refl _)
   rwa [List.take_of_length_le (by omega)] at this
  unfold pK
  generalize aQ mid.length (mg qs mid)=l at hB1 hL
  have Mh:c<c1:=by omega
  refine aq ?_
  refine Wx.cutO (fun e s=>∃(lv j10 j35:Value) (h':T ag) (c':Nat) (rl' wl':List Nat),e=G8 (.slice oa mid.length cap) (.slice qa dim qc) mid.length c j6 j7 j17 lv mid.length j10 j35/\s=⟨h',c',rl',wl'⟩/\c1<=c'/\ai h' c'/\Kp h1 h' c1 (fun _=>False)/\HI h' c1 lv (l.map Ht.id)/\Lg c R rl'/\Lg c (fun _=>False) wl') iY ?_ ?_
  ·refine Wx.loopE (fun k1 e s=>∃(i:Nat) (z:Int) (lv j10 j35:Value) (h':T ag) (c':Nat) (rl' wl':List Nat),e=G8 (.slice oa mid.length cap) (.slice qa dim qc) mid.length c j6 j7 j17 lv z j10 j35/\z=i/\s=⟨h',c',rl',wl'⟩/\c1<=c'/\ai h' c'/\Kp h1 h' c1 (fun _=>False)/\HI h' c1 lv ((l.take i).map Ht.id)/\Lg c R rl'/\Lg c (fun _=>False) wl'/\i<=mid.length/\k1=mid.length - i) mid.length (G8 (.slice oa mid.length cap) (.slice qa dim qc) mid.length c j6 j7 j17 (.slice none 0 0) 0 top top) iY ?_ ?_ ?_
   ·unfold G8
    exact eI
   ·exact⟨0,0,_,_,_,_,_,_,_,rfl,rfl,rfl,Nat.le_refl _,fr1,Kp.refl,.inl ⟨rfl,rfl⟩,az,az,by omega,rfl⟩
   ·rintro k1 e s ⟨i,z,lv,j10,j35,h',c',rl',wl',rfl,hz,rfl,hcc,hf',hkp',hHI,hlr',hlw',hid,rfl⟩
    unfold G8
    by_cases hi:i<mid.length
    ·have hB2:ay h' c (.cells (aF l)):=(hkp' c (by omega) (fun q=>q)).trans hB1
     have hil:i<l.length:=by omega
     have hsub:=gZ (o:=0) (aA _ _ (cN l).symm) (List.getElem?_eq_getElem hil)
     have hmap:(l.take (i+1)).map Ht.id=(l.take i).map Ht.id++[l[i].id]:=by rw[List.take_succ_eq_append_getElem hil,List.map_append];rfl
     have hl0:((l.take i).map Ht.id).length=i:=by rw[List.length_map,List.length_take];omega
     have hl1:((l.take (i+1)).map Ht.id).length=i+1:=by rw[List.length_map,List.length_take];omega
     have hbg:dv=1048576:=rfl
     rcases hHI with⟨rfl,hnil⟩|⟨bl,rfl,hne,hbl,hbc⟩
     ·refine aq ?_
      refine Zu (aj (k:=i) ej rfl rfl hz hi) ?_
      refine Zu (cT (FU rfl) rfl hB2.cel (by omega) hsub) ?_
      refine aq ?_
      refine Zu (cy ik m7 rfl rfl (k:=0) ay.same.cel (by omega) (aA _ _ rfl) (by omega) aO) ?_
      refine aq ?_
      refine aC.go (mid.length - (i+1)) (G8 _ _ mid.length c j6 j7 j17 _ (z+1) _ _) (by omega) eI ⟨i+1,z+1,_,_,_,_,_,_,_,rfl,by omega,rfl,by omega,aO,bW,?_,az,az,by omega,rfl⟩
      have hi0:i=0:=by rw[hnil] at hl0;simpa using hl0.symm
      refine .inr ⟨c'+2,?_,?_,by omega,?_⟩
      ·rw[hl1,hi0]
      ·intro e;rw[e] at hl1;simp at hl1
      ·rw[hmap,hnil];exact ay.same
     ·have l3:=hbc.lt hf'
      refine aq ?_
      refine Zu (aj (k:=i) ej rfl rfl hz hi) ?_
      refine Zu (cT (FU rfl) rfl hB2.cel (by omega) hsub) ?_
      refine aq ?_
      refine Zu (dg ik m7 rfl rfl (k:=0) ay.same.cel (by omega) (aA _ _ rfl) (by omega) (by omega) gL (by omega) (aA _ _ (by simp)) (all_cons rfl a7) aO) ?_
      refine aq ?_
      refine aC.go (mid.length - (i+1)) (G8 _ _ mid.length c j6 j7 j17 _ (z+1) _ _) (by omega) eI ⟨i+1,z+1,_,_,_,_,_,_,_,rfl,by omega,rfl,by omega,aO,bW,?_,az,az,by omega,rfl⟩
      refine .inr ⟨c'+2,?_,?_,by omega,?_⟩
      ·rw[hl1,hl0]
      ·intro e;rw[e] at hl1;simp at hl1
      ·rw[hmap,List.map_append];exact ay.same
    ·refine aq ?_
     obtain rfl:i=mid.length:=by omega
     subst hz
     rw[List.take_of_length_le (by omega)] at hHI
     exact di.go (G8 (.slice oa mid.length cap) (.slice qa dim qc) mid.length c j6 j7 j17 lv mid.length _ _) eI ⟨_,_,_,_,_,_,_,rfl,rfl,hcc,hf',hkp',hHI,hlr',hlw'⟩
  ·rintro e s ⟨lv,j10,j35,h',c',rl',wl',rfl,rfl,hcc,hf',hkp',hHI,hlr',hlw'⟩
   unfold G8
   have kp2:Kp h h' c (fun _=>False):=fun b hb _=>(hkp' b (by omega) (fun q=>q)).trans (kp1 b hb (fun q=>q))
   refine aq ?_
   refine⟨.inr rfl,aG.one rfl ⟨?_,?_⟩⟩
   ·rcases hHI with hHI|⟨b,e1,e2,e3,e4⟩
    ·exact .inl hHI
    ·exact .inr ⟨b,e1,e2,by omega,e4⟩
   ·exact bM
end Go.Ab.Seat
end
