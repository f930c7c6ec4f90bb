/- The seat's tables: the program's types and functions as tries, keep masks, functions without a body. -/
import Derived.Test.YtfgfgoiglhgnkaaGreatDoorE20
import Derived.Test.YtfgfgoiglhgnkaaGreatDoorProg
import Derived.KernelRfl
set_option linter.unusedVariables false
set_option linter.unusedSimpArgs false
namespace Go.Ab.Seat
open Go.Proofs (Tryz.prog)

/-- Block G0 is the types' own; one more than the package-level variables. -/
def G0 : Nat := 2
def tRt : Nat := 308
def tPE : Nat := 290
def tErrno : Nat := 124
def tAt : Nat := 192
def tErr : Nat := 65
def fValueOf : Nat := 232
def fType : Nat := 233
def fIsNil : Nat := 234
def fTypeOf : Nat := 236
def fElem : Nat := 238
def fSet : Nat := 239

def hd (t : Nat) : Value := .pointer (some ⟨G0, t, none⟩)
def rt (t : Nat) : Value := .iface tRt (.agg #[hd t])
def rv (t : Nat) (a : Value) (f : Nat) : Value := .agg #[hd t, a, .int .u64 f]

/-- The type of a handle. -/
noncomputable def unHd (v : Value) : Option Nat :=
  match v with
  | .pointer (some ⟨b, o, none⟩) => bif Nat.beq b G0 then some o else none
  | _ => none
noncomputable def unRt (v : Value) : Option Nat :=
  match v with
  | .agg cs => match cs.toList with | [h] => unHd h | _ => none
  | _ => none
noncomputable def unRv (v : Value) : Option (Nat × Nat × Nat × Nat) :=
  match v with
  | .agg cs =>
    match cs.toList with
    | [h, .pointer (some ⟨b, o, none⟩), .int .u64 (.ofNat (f + 1))] => match unHd h with | some t => some (t, b, o, f + 1) | none => none
    | _ => none
  | _ => none

noncomputable def xTypeOf (args : List Value) : M Value :=
  match args with
  | [.iface t _] => M.ret (rt t)
  | _ => M.fail
noncomputable def flagOf (t : Nat) : Option Nat :=
  bif Nat.beq t tPE then some 150 else bif Nat.beq t tErrno then some 130 else none
noncomputable def xValueOf (args : List Value) : M Value :=
  match args with
  | [.iface t v] =>
    match atom v, flagOf t with
    | true, some f => (newCells [v]).bind fun b => M.ret (rv t (.pointer (some ⟨b, 0, none⟩)) f)
    | _, _ => M.fail
  | _ => M.fail
noncomputable def xType (args : List Value) : M Value :=
  match args with
  | [v] => match unRv v with | some (t, _) => M.ret (rt t) | none => M.fail
  | _ => M.fail
noncomputable def xIsNil (args : List Value) : M Value :=
  match args with
  | [v] =>
    match unRv v with
    | some (t, b, o, f) =>
      bif Nat.beq t tPE && Nat.beq f 150 then (getCells b).bind fun cs =>
        match nth cs o with
        | some (.pointer none) => M.ret (.bool true)
        | some (.pointer (some _)) => M.ret (.bool false)
        | _ => M.fail
      else M.fail
    | none => M.fail
  | _ => M.fail
noncomputable def xElem (args : List Value) : M Value :=
  match args with
  | [v] =>
    match unRv v with
    | some (t, b, o, f) =>
      bif Nat.beq t tPE && Nat.beq f 150 then (getCells b).bind fun cs =>
        match nth cs o with
        | some (.pointer (some ⟨c, p, none⟩)) => M.ret (rv tErrno (.pointer (some ⟨c, p, none⟩)) 386)
        | _ => M.fail
      else M.fail
    | none => M.fail
  | _ => M.fail
noncomputable def xSet (args : List Value) : M Value :=
  match args with
  | [v, x] =>
    match unRv v, unRv x with
    | some (t, b, o, f), some (u, c, p, g) =>
      bif Nat.beq t tErrno && Nat.beq u tErrno && Nat.beq f 386 && Nat.beq g 130 then
        (getCells c).bind fun cs =>
          match nth cs p with
          | some (.int .i64 n) => (writeCells b o [.int .i64 n]).bind fun _ => M.ret undefA
          | _ => M.fail
      else M.fail
    | _, _ => M.fail
  | _ => M.fail

noncomputable def xOverlaps (args : List Value) : M Value :=
  match args with
  | [.slice (some a) (_ + 1) _, .slice (some b) (_ + 1) _] =>
    bif Nat.beq a.block b.block then M.fail else (getCellsW a.block).bind fun _ => (getCellsW b.block).bind fun cs => match nth cs 0 with | some _ => M.ret (.bool false) | none => M.fail
  | _ => M.fail

def fOverInt : Nat := 136
def fOverHit : Nat := 152
def fInsInt : Nat := 95
def fInsHit : Nat := 127

noncomputable def ex (f : Nat) : Option (List Value → M Value) :=
  bif Nat.beq f fTypeOf then some xTypeOf else
  bif Nat.beq f fValueOf then some xValueOf else
  bif Nat.beq f fType then some xType else
  bif Nat.beq f fIsNil then some xIsNil else
  bif Nat.beq f fElem then some xElem else
  bif Nat.beq f fSet then some xSet else
  bif Nat.beq f fOverInt then some xOverlaps else
  bif Nat.beq f fOverHit then some xOverlaps else none

noncomputable def vKind (args : List Value) : M Value :=
  match args with
  | [v] => match unRt v with
    | some t => bif Nat.beq t tPE then M.ret (.int .u8 22) else bif Nat.beq t tErrno then M.ret (.int .u8 2) else M.fail
    | none => M.fail
  | _ => M.fail
noncomputable def vElem (args : List Value) : M Value :=
  match args with
  | [v] => match unRt v with
    | some t => bif Nat.beq t tPE then M.ret (rt tErrno) else M.fail
    | none => M.fail
  | _ => M.fail
noncomputable def vImplements (args : List Value) : M Value :=
  match args with
  | [v, .iface r u] => match unRt v, unRt u with
    | some t, some e => bif Nat.beq t tErrno && Nat.beq e tErr && Nat.beq r tRt then M.ret (.bool true) else M.fail
    | _, _ => M.fail
  | _ => M.fail
noncomputable def vAssignableTo (args : List Value) : M Value :=
  match args with
  | [v, .iface r u] => match unRt v, unRt u with
    | some t, some e => bif Nat.beq e tErrno && Nat.beq r tRt then (bif Nat.beq t tErrno then M.ret (.bool true) else bif Nat.beq t tAt then M.ret (.bool false) else M.fail) else M.fail
    | _, _ => M.fail
  | _ => M.fail
noncomputable def vComparable (args : List Value) : M Value :=
  match args with
  | [v] => match unRt v with
    | some t => bif Nat.beq t tErrno then M.ret (.bool true) else M.fail
    | none => M.fail
  | _ => M.fail

noncomputable def vi (t : Nat) (name : String) : Option (List Value → M Value) :=
  bif Nat.beq t tRt then
    match name with
    | "Kind" => some vKind
    | "Elem" => some vElem
    | "Implements" => some vImplements
    | "AssignableTo" => some vAssignableTo
    | "Comparable" => some vComparable
    | _ => none
  else none

def kms : List Nat := [0, 0, 0, 252201609197682447, 60129623823, 2319282994207, 1267669943410854577798583058419, 316921112537799156446745919247, 3848291023903, 1099512677619, 1286306517387554776530549791, 1127841232101319, 11462583032047255313540231626609530496558088189, 1240055691753478604665692146, 618970019642690146041341939, 4951760157141522473986064383, 131527, 37, 135, 131187, 16806963, 31431, 16806963, 21, 4115, 135, 4505661345902023, 37, 37147268195997750458483834639, 65971251326919, 5, 8390573, 32282066037556383475, 21, 71, 135, 1008806316534990535, 67459571, 37182857619891580687, 4616198439919690511, 2256210746151367, 2200634099655, 33554503, 66483, 21, 19, 339, 19, 1, 5, 5, 15539, 13, 7, 1005, 147, 64424756723, 21, 19, 38885736577748731411487, 35184379960847, 8053064007, 71, 21, 21, 17592193916431, 268467055, 7, 155, 582907660279, 17697271, 21, 537330935, 524487, 5, 65555, 16806963, 66114300693392295753415, 132095, 21, 5, 2207613222971, 21, 5, 5, 8363, 19, 159, 543, 7, 66483, 1005, 66483, 11, 134251507, 295147905181504570311, 16071, 21, 65735, 23, 537399539, 95, 8363, 7, 537399539, 21, 11, 7, 4147, 7, 2067, 19, 5, 19, 11, 2212238067, 7197, 140814797768135, 30755, 2251799932174589, 5, 21, 1, 21, 83, 19, 15, 295147905181504570311, 21, 183, 10384593871817177683247510831234831, 5, 42535296023574879666274036850519702559, 8363, 19, 5, 0, 3, 21, 66483, 19, 5, 8363, 66483, 4147, 504373101, 7, 3758112483, 4836293578209799956332861, 1029, 4398047164383, 66483, 0, 3, 1073746119, 1074268103, 8804682991559, 20829169751433159, 8391, 83087207854311395603287443752634311, 19023213622105999119, 22458641409078797123448399039441150152463, 277, 16661, 17179886351, 8592039695, 35218731966215, 1333065575601045263, 33543, 21268317252094917911888073248812900111, 1217485249602318769183, 22997644815212700899627017342834150232570911, 5, 3, 66483, 65619, 16883, 1048621, 261, 1073746419, 17729625006707, 33149, 8797099655923, 1049213, 17592202854515, 70403104048125, 1188952517831098055, 144257025092751347, 1, 3, 4503668346913551, 5, 5, 71, 1055, 288231475663604767, 271, 4159, 525, 1048829, 33991, 51, 21, 66013, 21, 21, 576465154644903923, 1049359, 5, 17179871549, 4339, 5, 45, 19, 32967, 1267, 4295008255, 525, 262927, 4197407, 590311713694889820019, 5, 19, 33, 35, 134219891, 8197, 557, 4157, 83, 34368129779, 2099, 0, 0, 0, 1193287703199244111, 0, 4639143427053511, 0, 0, 0, 0, 0, 0, 0, 0, 0, 0, 0, 0, 0, 0, 0, 0, 0, 0, 0, 0, 0, 21, 0, 0, 0, 5, 0, 0, 0, 0, 0, 0, 0, 0, 0, 0, 0, 0, 0, 0, 0, 0, 0, 0, 0, 0]

noncomputable def eg (t : Nat) : Bool := Proofs.Tryz.prog.eqGuardType Proofs.Tryz.prog.depth t || Proofs.Tryz.prog.stoodInHeld t
noncomputable def Cs (sm : Nat → Option (List Value → M Value)) : Ctx := { km := T.ofList kms, ty := T.ofList Proofs.Tryz.prog.types.toList, fn := T.ofList Proofs.Tryz.prog.funcs.toList, sm, ex, vi }

noncomputable def C0 : Ctx := Cs fun _ => none
noncomputable def smIns (rest : Nat → Option (List Value → M Value)) (f : Nat) : Option (List Value → M Value) :=
  bif Nat.beq f fInsHit then some (fork C0 eg 100 fInsHit 2) else
  bif Nat.beq f fInsInt then some (fork C0 eg 100 fInsInt 1) else rest f

noncomputable def tab : List Value := [0, 1, 28, 2, 29, 14, 24, 3, 30, 22, 20, 15, 25, 17, 4, 8, 31, 27, 13, 23, 21, 19, 16, 7, 26, 12, 18, 6, 11, 5, 10, 9].map fun n => .int .u8 n
noncomputable def s0 : St := { h := ((T.leaf : T AObj).set 0 (some (.ro tab))).set 1 (some (.ro [rt tErr])), c := 3, rl := [], wl := [] }
noncomputable def isTrue (x : Option (Value × St)) : Bool := match x with | some (.bool true, _) => true | _ => false
end Go.Ab.Seat
