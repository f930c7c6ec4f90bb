/- The abstract machine: its words. Tries, abstract heaps, a state monad with a log, the operations, the code's run. Nothing is proved here. -/
import Derived.Orders
import Derived.Tactics
import Derived.LoopN
set_option linter.unusedVariables false
set_option linter.unusedSimpArgs false
namespace Go.Ab
inductive T (α : Type) where
 | leaf
 | node (l : T α) (v : Option α) (r : T α)
namespace T
variable {α β : Type}
noncomputable def getP (t : T α) : Nat → Option α :=
 T.rec (motive := fun _ => Nat → Option α) (fun _ => none)
  (fun _ v _ il ir n => Bool.rec (Bool.rec (ir (Nat.div n 2)) (il (Nat.div n 2)) (Nat.beq (Nat.mod n 2) 0)) v (Nat.beq n 1)) t
noncomputable def get (t : T α) (n : Nat) : Option α := getP t (Nat.add n 1)
noncomputable def force (t : T α) (k : T α → β) : β := T.rec (motive := fun _ => β) (k .leaf) (fun l v r _ _ => k (.node l v r)) t
noncomputable def single (x : Option α) (f : Nat) : Nat → T α :=
 Nat.rec (motive := fun _ => Nat → T α) (fun _ => .leaf)
  (fun _ ih n => Bool.rec (Bool.rec (.node .leaf none (ih (Nat.div n 2))) (.node (ih (Nat.div n 2)) none .leaf) (Nat.beq (Nat.mod n 2) 0)) (.node .leaf x .leaf) (Nat.beq n 1)) f
noncomputable def setP (x : Option α) (t : T α) : Nat → T α :=
 T.rec (motive := fun _ => Nat → T α) (fun n => single x n n)
  (fun l v r il ir n => Bool.rec (Bool.rec (.node l v (ir (Nat.div n 2))) (.node (il (Nat.div n 2)) v r) (Nat.beq (Nat.mod n 2) 0)) (.node l x r) (Nat.beq n 1)) t
noncomputable def set (t : T α) (n : Nat) (x : Option α) : T α := setP x t (Nat.add n 1)
noncomputable def ofListFrom : List α → Nat → T α → T α
 | [], _, t => t
 | x :: xs, i, t => force (t.set i (some x)) fun t => ofListFrom xs (i + 1) t
noncomputable def ofList (l : List α) : T α := ofListFrom l 0 .leaf
end T
inductive AObj where
 | cells (cs : List Value)
 | ro (cs : List Value)
 | bytes (cs : List Value)
 | map (es : List (Value × Value × Nat)) (clock : Nat)
structure St where
 h : T AObj
 c : Nat
 rl : List Nat
 wl : List Nat
noncomputable def M (α : Type) : Type := St → Option (α × St)
namespace M
variable {α β : Type}
noncomputable def ret (a : α) : M α := fun s => some (a, s)
noncomputable def fail : M α := fun _ => none
noncomputable def bind (m : M α) (f : α → M β) : M β := fun s =>
 Option.rec (motive := fun _ => Option (β × St)) none
  (fun p => Prod.rec (motive := fun _ => Option (β × St)) (fun a s => f a s) p) (m s)
noncomputable def lift (x : Option α) : M α := fun s =>
 Option.rec (motive := fun _ => Option (α × St)) none (fun a => some (a, s)) x
end M
noncomputable def getO (b : Nat) : M AObj := fun s =>
 St.rec (motive := fun _ => Option (AObj × St)) (fun h c rl wl =>
  Bool.rec (motive := fun _ => Option (AObj × St))
   (Option.rec (motive := fun _ => Option (AObj × St)) none (fun o => some (o, ⟨h, c, b :: rl, wl⟩)) (h.get b))
   none (Nat.ble c b)) s
noncomputable def putO (b : Nat) (o : Option AObj) : M Unit := fun s =>
 St.rec (motive := fun _ => Option (Unit × St)) (fun h c rl wl =>
  Bool.rec (motive := fun _ => Option (Unit × St))
   (Option.rec (motive := fun _ => Option (Unit × St)) none
    (fun _ => (h.set b o).force fun h => some ((), ⟨h, c, rl, b :: wl⟩)) (h.get b))
   none (Nat.ble c b)) s
noncomputable def newO (o : AObj) : M Nat := fun s =>
 St.rec (motive := fun _ => Option (Nat × St)) (fun h c rl wl =>
  Option.rec (motive := fun _ => Option (Nat × St))
   ((h.set c (some o)).force fun h => some (c, ⟨h, Nat.add c 1, rl, wl⟩)) (fun _ => none) (h.get c)) s
noncomputable def getCells (b : Nat) : M (List Value) := (getO b).bind fun
 | .cells cs => M.ret cs
 | .ro cs => M.ret cs
 | .bytes cs => M.ret cs
 | _ => M.fail
noncomputable def getCellsW (b : Nat) : M (List Value) := (getO b).bind fun
 | .cells cs => M.ret cs
 | _ => M.fail
noncomputable def getCellsB (b : Nat) : M (List Value) := (getO b).bind fun
 | .cells cs => M.ret cs
 | .bytes cs => M.ret cs
 | _ => M.fail
noncomputable def getMap (b : Nat) : M (List (Value × Value × Nat) × Nat) := (getO b).bind fun
 | .map es k => M.ret (es, k)
 | _ => M.fail
noncomputable def len {α : Type} (l : List α) : Nat := List.rec (motive := fun _ => Nat) 0 (fun _ _ ih => Nat.add ih 1) l
noncomputable def app {α : Type} (l : List α) (r : List α) : List α := List.rec (motive := fun _ => List α) r (fun x _ ih => x :: ih) l
noncomputable def allB {α : Type} (p : α → Bool) (l : List α) : Bool := List.rec (motive := fun _ => Bool) true (fun x _ ih => Bool.rec (motive := fun _ => Bool) false ih (p x)) l
noncomputable def below (c : Nat) (l : List Nat) (r : List Nat) : List Nat :=
 List.rec (motive := fun _ => List Nat) r (fun b _ ih => Bool.rec (motive := fun _ => List Nat) ih (b :: ih) (Nat.blt b c)) l
structure Fp where
 r : List Nat
 w : List Nat
 c0 : Nat
 c1 : Nat
noncomputable def told {α : Type} (m : M α) : M (α × Fp) := fun s =>
 St.rec (motive := fun _ => Option ((α × Fp) × St)) (fun h c rl wl =>
  Option.rec (motive := fun _ => Option ((α × Fp) × St)) none
   (fun p => Prod.rec (motive := fun _ => Option ((α × Fp) × St)) (fun a s1 =>
    St.rec (motive := fun _ => Option ((α × Fp) × St)) (fun h1 c1 rl1 wl1 => some ((a, ⟨rl1, wl1, c, c1⟩), ⟨h1, c1, app rl1 rl, app wl1 wl⟩)) s1) p)
   (m ⟨h, c, [], []⟩)) s
noncomputable def framed {α : Type} (m : M α) : M α := fun s =>
 St.rec (motive := fun _ => Option (α × St)) (fun h c rl wl =>
  Option.rec (motive := fun _ => Option (α × St)) none
   (fun p => Prod.rec (motive := fun _ => Option (α × St)) (fun a s1 =>
    St.rec (motive := fun _ => Option (α × St)) (fun h1 c1 rl1 wl1 => some (a, ⟨h1, c1, below c rl1 rl, below c wl1 wl⟩)) s1) p)
   (m ⟨h, c, [], []⟩)) s
structure Ctx where
 ty : T TypeInfo
 fn : T Func
 km : T Nat
 sm : Nat → Option (List Value → M Value)
 ex : Nat → Option (List Value → M Value)
 vi : Nat → String → Option (List Value → M Value)
noncomputable def Ctx.und (C : Ctx) (t : TypeId) : Option TypeDesc :=
 match C.ty.get t with
 | none => none
 | some i =>
  match i.desc with
  | .named _ u =>
   match C.ty.get u with
   | none => none
   | some j => some j.desc
  | d => some d
noncomputable def Ctx.size (C : Ctx) (t : TypeId) : Option Nat := match C.ty.get t with | none => none | some i => some i.size
noncomputable def Ctx.bytes (C : Ctx) (t : TypeId) : Option Nat := match C.ty.get t with | none => none | some i => some i.bytes
noncomputable def Ctx.zero (C : Ctx) (t : TypeId) : Option Value := match C.ty.get t with | none => none | some i => i.zero
noncomputable def Ctx.elem (C : Ctx) (t : TypeId) : Option TypeId := match C.und t with | some (.slice e) => some e | _ => none
def top : Value := .chan none
noncomputable def cellsA (v : Value) : Option (List Value) := match v with | .agg cs => some cs.toList | .chan _ => none | v => some [v]
noncomputable def atom (v : Value) : Bool := match v with | .agg _ => false | .tuple _ => false | .chan _ => false | _ => true
noncomputable def nth {α : Type} (l : List α) : Nat → Option α :=
 List.rec (motive := fun _ => Nat → Option α) (fun _ => none)
  (fun x _ ih n => Nat.rec (motive := fun _ => Option α) (some x) (fun m _ => ih m) n) l
noncomputable def setHere (xs : List Value) : List Value → Option (List Value) :=
 List.rec (motive := fun _ => List Value → Option (List Value)) (fun cs => some cs)
  (fun x _ ih cs => List.rec (motive := fun _ => Option (List Value)) none
   (fun _ cs _ => Bool.rec (motive := fun _ => Option (List Value)) none
    (Option.rec (motive := fun _ => Option (List Value)) none (fun r => some (x :: r)) (ih cs)) (atom x)) cs) xs
noncomputable def setMany (xs : List Value) (cs : List Value) : Nat → Option (List Value) :=
 List.rec (motive := fun _ => Nat → Option (List Value)) (fun o => Nat.rec (motive := fun _ => Option (List Value)) (setHere xs []) (fun _ _ => none) o)
  (fun c cs ih o => Nat.rec (motive := fun _ => Option (List Value)) (setHere xs (c :: cs))
   (fun o _ => Option.rec (motive := fun _ => Option (List Value)) none (fun r => some (c :: r)) (ih o)) o) cs
noncomputable def takeN (n : Nat) : List Value → Option (List Value) :=
 Nat.rec (motive := fun _ => List Value → Option (List Value)) (fun _ => some [])
  (fun _ ih cs => List.rec (motive := fun _ => Option (List Value)) none
   (fun c cs _ => Option.rec (motive := fun _ => Option (List Value)) none (fun r => some (c :: r)) (ih cs)) cs) n
noncomputable def subN (o n : Nat) : List Value → Option (List Value) :=
 Nat.rec (motive := fun _ => List Value → Option (List Value)) (takeN n)
  (fun _ ih cs => List.rec (motive := fun _ => Option (List Value)) none (fun _ cs _ => ih cs) cs) o
noncomputable def eqBytes (l : List UInt8) : List UInt8 → Bool :=
 List.rec (motive := fun _ => List UInt8 → Bool) (fun r => List.rec (motive := fun _ => Bool) true (fun _ _ _ => false) r)
  (fun x _ ih r => List.rec (motive := fun _ => Bool) false (fun y r _ => Bool.rec (motive := fun _ => Bool) false (ih r) (Nat.beq x.toNat y.toNat)) r) l
noncomputable def forceL {α β : Type} (l : List α) : (List α → β) → β :=
 List.rec (motive := fun _ => (List α → β) → β) (fun k => k []) (fun x _ ih k => ih fun xs => k (x :: xs)) l
noncomputable def rep (z : List Value) (n : Nat) : List Value := Nat.rec (motive := fun _ => List Value) [] (fun _ ih => app z ih) n
noncomputable def mapA {α β : Type} (f : α → β) (l : List α) : List β := List.rec (motive := fun _ => List β) [] (fun x _ ih => f x :: ih) l
noncomputable def bytesA (s : ByteArray) : List Value := mapA (fun b => .int .u8 b.toNat) s.data.toList
noncomputable def readCells (b o n : Nat) : M (List Value) := (getCells b).bind fun cs => M.lift (subN o n cs)
noncomputable def writeCells (b o : Nat) (xs : List Value) : M Unit :=
 (getCellsW b).bind fun cs => (M.lift (setMany xs cs o)).bind fun cs => putO b (some (.cells cs))
noncomputable def newCells (cs : List Value) : M Nat := forceL cs fun cs => newO (.cells cs)
noncomputable def newBytes (cs : List Value) : M Nat := forceL cs fun cs => newO (.bytes cs)
noncomputable def addrOf : Value → Option (Nat × Nat)
 | .pointer (some ⟨b, o, none⟩) => some (b, o)
 | _ => none
noncomputable def undefA : Value := .tuple #[]
noncomputable def opLoad (C : Ctx) (t : TypeId) (a : Value) : M Value :=
 match addrOf a with
 | none => M.fail
 | some (b, o) =>
  match C.und t with
  | none => M.fail
  | some d =>
   match d with
   | .struct _ | .array _ _ =>
    match C.size t with
    | none => M.fail
    | some n => (readCells b o n).bind fun cs => M.ret (.agg ⟨cs⟩)
   | _ =>
    (getCells b).bind fun cs =>
     match nth cs o with
     | none => M.fail
     | some v => M.ret v
noncomputable def opStore (C : Ctx) (t : TypeId) (a x : Value) : M Value :=
 match addrOf a, C.size t with
 | some (b, o), some n =>
  (M.lift (cellsA x)).bind fun cs =>
   match Nat.beq (len cs) n with
   | true => (writeCells b o cs).bind fun _ => M.ret undefA
   | false => M.fail
 | _, _ => M.fail
noncomputable def opBox (x : Value) : M Value := (M.lift (cellsA x)).bind fun cs => (newCells cs).bind fun b => M.ret (.pointer (some ⟨b, 0, none⟩))
noncomputable def opAlloc (C : Ctx) (t : TypeId) : M Value := (M.lift (C.zero t)).bind fun z => opBox z
noncomputable def fillA (place : Nat → Option (Nat × Nat)) (cells : List Value) : List (Nat × Value) → Option (List Value)
 | [] => some cells
 | (i, v) :: rest =>
  match place i with
  | none => none
  | some (off, size) =>
   match cellsA v with
   | none => none
   | some cs =>
    match Nat.beq (len cs) size, setMany cs cells off with
    | true, some cells => fillA place cells rest
    | _, _ => none
noncomputable def placesA (C : Ctx) : List Field → Option (List (Nat × Nat))
 | [] => some []
 | f :: fs =>
  match C.size f.type with
  | none => none
  | some n =>
   match placesA C fs with
   | none => none
   | some l => some ((f.offset, n) :: l)
noncomputable def opBuild (C : Ctx) (t : TypeId) (parts : List (Nat × Value)) : M Value :=
 match C.und t, C.zero t with
 | some (.struct fields), some z =>
  (M.lift (placesA C fields.toList)).bind fun pl => (M.lift (cellsA z)).bind fun zs =>
   (M.lift (fillA (nth pl) zs parts)).bind fun cs => M.ret (.agg ⟨cs⟩)
 | some (.array _ e), some z =>
  (M.lift (C.size e)).bind fun n => (M.lift (cellsA z)).bind fun zs =>
   (M.lift (fillA (fun i => some (i * n, n)) zs parts)).bind fun cs => M.ret (.agg ⟨cs⟩)
 | _, _ => M.fail
noncomputable def Ctx.row (C : Ctx) (t : TypeId) : Option (TypeId × Nat × Nat × List Value) :=
 match C.elem t with
 | none => none
 | some e =>
  match C.ty.get e with
  | none => none
  | some i =>
   match i.zero with
   | none => none
   | some z =>
    match cellsA z with
    | none => none
    | some zs =>
     match Nat.beq i.size 0 || !Nat.beq (len zs) i.size || !Nat.ble i.bytes 65536 with
     | true => none
     | false => some (e, i.size, i.bytes, zs)
noncomputable def big : Nat := 1048576
noncomputable def opBuildSlice (C : Ctx) (t : TypeId) (len : Nat) (parts : List (Nat × Value)) : M Value :=
 (M.lift (C.row t)).bind fun (_, n, _, z) =>
  match Nat.ble (len * n) big with
  | false => M.fail
  | true =>
   (M.lift (fillA (fun i => some (i * n, n)) (rep z len) parts)).bind fun cs =>
    (newCells cs).bind fun b => M.ret (.slice (some ⟨b, 0, none⟩) len len)
noncomputable def natOf : Value → Option Nat
 | .int _ (.ofNat n) => some n
 | _ => none
noncomputable def opMakeSlice (C : Ctx) (t : TypeId) (l c : Value) : M Value :=
 match natOf l, natOf c with
 | some l, some c =>
  (M.lift (C.row t)).bind fun (_, _, _, z) =>
   match Nat.ble l c && Nat.ble c big with
   | false => M.fail
   | true => (newCells (rep z c)).bind fun b => M.ret (.slice (some ⟨b, 0, none⟩) l c)
 | _, _ => M.fail
noncomputable def boundA (x : Option Value) (dflt most : Nat) : Option Nat :=
 match x with
 | none => some dflt
 | some v =>
  match natOf v with
  | none => none
  | some n => match Nat.ble n most with | true => some n | false => none
noncomputable def boundsA (len cap : Nat) (lo hi mx : Option Value) : Option (Nat × Nat × Nat) :=
 match mx, hi with
 | some _, none => none
 | _, _ =>
  match boundA mx cap cap with
  | none => none
  | some m =>
   match boundA hi len m with
   | none => none
   | some h =>
    match boundA lo 0 h with
    | none => none
    | some l => some (l, h, m)
noncomputable def opSlice (C : Ctx) (t : TypeId) (x : Value) (lo hi mx : Option Value) : M Value :=
 match C.und t with
 | none => M.fail
 | some d =>
  match d, x with
  | .string, .string s =>
   match mx with
   | some _ => M.fail
   | none => (M.lift (boundsA s.size s.size lo hi none)).bind fun (l, h, _) => M.ret (.string (s.extract l h))
  | .slice e, .slice a len cap =>
   (M.lift (C.size e)).bind fun n =>
    (M.lift (boundsA len cap lo hi mx)).bind fun (l, h, m) =>
     match a with
     | none => M.ret (.slice none (h - l) (m - l))
     | some ⟨b, o, none⟩ => M.ret (.slice (some ⟨b, (match Nat.beq m l with | true => o | false => o + l * n), none⟩) (h - l) (m - l))
     | some ⟨b, o, some e⟩ =>
      match Nat.beq e n && Nat.ble h m with
      | false => M.fail
      | true =>
       match mx with
       | none => M.ret (.slice (some ⟨b, o + l * n, some e⟩) (h - l) (m - l))
       | some _ =>
        match Nat.beq m l with
        | true => M.ret (.slice (some ⟨b, o, some e⟩) (h - l) (m - l))
        | false => M.ret (.slice (some ⟨b, o + l * n, none⟩) (h - l) (m - l))
  | .array k e, x =>
   match addrOf x with
   | none => M.fail
   | some (b, o) =>
    (M.lift (C.size e)).bind fun n =>
     (M.lift (boundsA k k lo hi mx)).bind fun (l, h, m) =>
      match mx with
      | some _ => M.fail
      | none => M.ret (.slice (some ⟨b, (match Nat.beq m l with | true => o | false => o + l * n), none⟩) (h - l) (m - l))
  | _, _ => M.fail
noncomputable def opFieldAddr (C : Ctx) (s : TypeId) (x : Value) (f : Nat) : M Value :=
 match C.und s, addrOf x with
 | some (.struct fields), some (b, o) =>
  match nth fields.toList f with
  | none => M.fail
  | some f =>
   match C.size f.type with
   | some (_ + 1) => M.ret (.pointer (some ⟨b, o + f.offset, none⟩))
   | _ => M.fail
 | _, _ => M.fail
noncomputable def opIndexAddr (C : Ctx) (t : TypeId) (x i : Value) : M Value :=
 match natOf i, C.und t with
 | some i, some d =>
  match d, x with
  | .array len e, x =>
   match addrOf x, C.size e, Nat.blt i len with
   | some (b, o), some n, true => M.ret (.pointer (some ⟨b, o + i * n, none⟩))
   | _, _, _ => M.fail
  | .slice e, .slice (some a) len _ =>
   match C.size e, Nat.blt i len with
   | some n, true => M.ret (.pointer (some ⟨a.block, a.off + i * n, none⟩))
   | _, _ => M.fail
  | _, _ => M.fail
 | _, _ => M.fail
noncomputable def partA (C : Ctx) (t : TypeId) (cs : List Value) (o : Nat) : Option Value :=
 match C.und t with
 | none => none
 | some d =>
  match d with
  | .struct _ | .array _ _ =>
   match C.size t with
   | none => none
   | some n => match subN o n cs with | some r => some (.agg ⟨r⟩) | none => none
  | _ => nth cs o
noncomputable def opIndex (C : Ctx) (t : TypeId) (x i : Value) : M Value :=
 match natOf i, C.und t with
 | some i, some d =>
  match d, x with
  | .array len e, .agg cs =>
   match C.size e, Nat.blt i len with
   | some n, true => M.lift (partA C e cs.toList (i * n))
   | _, _ => M.fail
  | .string, .string s =>
   match nth s.data.toList i with
   | some b => M.ret (.int .u8 b.toNat)
   | none => M.fail
  | _, _ => M.fail
 | _, _ => M.fail
noncomputable def opField (C : Ctx) (t : TypeId) (x : Value) (f : Nat) : M Value :=
 match C.und t, x with
 | some (.struct fields), .agg cs =>
  match nth fields.toList f with
  | none => M.fail
  | some f => M.lift (partA C f.type cs.toList f.offset)
 | _, _ => M.fail
noncomputable def keyKind (C : Ctx) (t : TypeId) : Option TypeDesc :=
 match C.und t with
 | some (.int k) => some (.int k)
 | some .string => some .string
 | some .bool => some .bool
 | _ => none
noncomputable def keyEq (a b : Value) : Option Bool :=
 match a, b with
 | .int j x, .int k y => match decide (j = k) with | true => some (decide (x = y)) | false => none
 | .string x, .string y => some (eqBytes x.data.toList y.data.toList)
 | .bool x, .bool y => some (x == y)
 | _, _ => none
noncomputable def fits (d : TypeDesc) (v : Value) : Bool :=
 match d, v with
 | .int _, .int _ _ => true
 | .string, .string _ => true
 | .bool, .bool _ => true
 | _, _ => false
noncomputable def findA (k : Value) : List (Value × Value × Nat) → Nat → Option (Option (Nat × Value))
 | [], _ => some none
 | (j, v, _) :: es, i =>
  match keyEq k j with
  | none => none
  | some true => some (some (i, v))
  | some false => findA k es (i + 1)
noncomputable def opLookup (C : Ctx) (t : TypeId) (m k : Value) (ok : Bool) : M Value :=
 match C.und t with
 | some (.map kt et) =>
  match keyKind C kt with
  | none => M.fail
  | some d =>
   match fits d k with
   | false => M.fail
   | true =>
    match m with
    | .map none => (M.lift (C.zero et)).bind fun z => M.ret (match ok with | true => .tuple #[z, .bool false] | false => z)
    | .map (some r) =>
     (getMap r).bind fun (es, _) =>
      match findA k es 0 with
      | none => M.fail
      | some none => (M.lift (C.zero et)).bind fun z => M.ret (match ok with | true => .tuple #[z, .bool false] | false => z)
      | some (some (_, v)) => M.ret (match ok with | true => .tuple #[v, .bool true] | false => v)
    | _ => M.fail
 | _ => M.fail
noncomputable def modA (k v : Value) : List (Value × Value × Nat) → Nat → List (Value × Value × Nat)
 | [], _ => []
 | (_, _, b) :: es, 0 => (k, v, b) :: es
 | e :: es, i + 1 => e :: modA k v es i
noncomputable def opMapUpdate (C : Ctx) (t : TypeId) (m k v : Value) : M Value :=
 match C.und t with
 | some (.map kt _) =>
  match keyKind C kt with
  | none => M.fail
  | some d =>
   match fits d k with
   | false => M.fail
   | true =>
    match m with
    | .map (some r) =>
     (getMap r).bind fun (es, c) =>
      match findA k es 0 with
      | none => M.fail
      | some none => forceL (app es [(k, v, c)]) fun es => (putO r (some (.map es (c + 1)))).bind fun _ => M.ret undefA
      | some (some (i, _)) => forceL (modA k v es i) fun es => (putO r (some (.map es c))).bind fun _ => M.ret undefA
    | _ => M.fail
 | _ => M.fail
noncomputable def eraseA : List (Value × Value × Nat) → Nat → List (Value × Value × Nat)
 | [], _ => []
 | _ :: es, 0 => es
 | e :: es, i + 1 => e :: eraseA es i
noncomputable def opDelete (C : Ctx) (t : TypeId) (m k : Value) : M Value :=
 match C.und t with
 | some (.map kt _) =>
  match keyKind C kt with
  | none => M.fail
  | some d =>
   match fits d k with
   | false => M.fail
   | true =>
    match m with
    | .map none => M.ret undefA
    | .map (some r) =>
     (getMap r).bind fun (es, c) =>
      match findA k es 0 with
      | none => M.fail
      | some none => (putO r (some (.map es c))).bind fun _ => M.ret undefA
      | some (some (i, _)) => forceL (eraseA es i) fun es => (putO r (some (.map es c))).bind fun _ => M.ret undefA
    | _ => M.fail
 | _ => M.fail
noncomputable def intA (k : IntKind) (n : Nat) : Value := .int k n
noncomputable def opLen (C : Ctx) (t : TypeId) (x : Value) : M Value :=
 match C.und t with
 | none => M.fail
 | some d =>
  match d, x with
  | .string, .string s => M.ret (intA .i64 s.size)
  | .array n _, _ => M.ret (intA .i64 n)
  | .slice _, .slice _ n _ => M.ret (intA .i64 n)
  | .map _ _, .map none => M.ret (intA .i64 0)
  | .map _ _, .map (some r) => (getMap r).bind fun (es, _) => M.ret (intA .i64 (len es))
  | _, _ => M.fail
noncomputable def opCap (C : Ctx) (t : TypeId) (x : Value) : M Value :=
 match C.und t with
 | none => M.fail
 | some d =>
  match d, x with
  | .array n _, _ => M.ret (intA .i64 n)
  | .slice _, .slice none _ n => M.ret (intA .i64 n)
  | .slice _, .slice (some ⟨_, _, none⟩) _ n => M.ret (intA .i64 n)
  | .slice _, .slice (some ⟨_, _, some _⟩) _ n => M.ret (.chan (some n))
  | _, _ => M.fail
noncomputable def lenA : Value → Option Nat
 | .slice _ n _ => some n
 | .string s => some s.size
 | _ => none
noncomputable def firstA (size n : Nat) (x : Value) : M (List Value) :=
 match n with
 | 0 => M.ret []
 | _ + 1 =>
  match x with
  | .slice (some a) len _ => match Nat.ble n len with | true => readCells a.block a.off (n * size) | false => M.fail
  | .string s => match Nat.beq size 1 with | true => M.lift (takeN n (bytesA s)) | false => M.fail
  | _ => M.fail
noncomputable def appended (C : Ctx) (size : Nat) (z : List Value) (xt : Option TypeId) (x : Value) : M (Nat × List Value) :=
 match xt with
 | some xt =>
  match C.und xt with
  | none => M.fail
  | some d =>
   match d with
   | .int _ =>
    (M.lift (natOf x)).bind fun n => match Nat.ble n big with | true => M.ret (n, rep z n) | false => M.fail
   | _ => (M.lift (lenA x)).bind fun n => (firstA size n x).bind fun cs => M.ret (n, cs)
 | none => (M.lift (lenA x)).bind fun n => (firstA size n x).bind fun cs => M.ret (n, cs)
noncomputable def fitsA (by_ m : Nat) : Bool := Nat.ble m big || (Nat.ble 1 by_ && Nat.ble (m * by_) 140737488355328)
noncomputable def opAppend (C : Ctx) (ts : Array TypeId) (s x : Value) : M Value :=
 match nth ts.toList 0, s with
 | some st, .slice base ln cap =>
  (M.lift (C.row st)).bind fun (_, size, by_, z) =>
   (appended C size z (nth ts.toList 1) x).bind fun (n, new) =>
    match Nat.ble (ln + n) cap with
    | true =>
     match new, base with
     | [], _ => M.ret (.slice base (ln + n) cap)
     | _ :: _, none => M.fail
     | _ :: _, some a => (writeCells a.block (a.off + ln * size) new).bind fun _ => M.ret (.slice base (ln + n) cap)
    | false =>
     match fitsA by_ (ln + n) with
     | false => M.fail
     | true =>
      match base with
      | none =>
       match ln with
       | 0 => (newCells new).bind fun b => M.ret (.slice (some ⟨b, 0, some size⟩) n n)
       | _ + 1 => M.fail
      | some ⟨b0, o, none⟩ =>
       (firstA size ln (.slice (some ⟨b0, o, none⟩) ln cap)).bind fun old =>
        (newCells (app old new)).bind fun b => M.ret (.slice (some ⟨b, 0, some size⟩) (ln + n) (ln + n))
      | some ⟨b0, o, some e⟩ =>
       match Nat.beq e size && allB atom new with
       | false => M.fail
       | true =>
        (getCellsW b0).bind fun cs => (M.lift (subN o (ln * size) cs)).bind fun old =>
         (putO b0 none).bind fun _ =>
          (newCells (app old new)).bind fun b => M.ret (.slice (some ⟨b, 0, some size⟩) (ln + n) (ln + n))
 | _, _ => M.fail
noncomputable def opCopy (C : Ctx) (ts : Array TypeId) (d x : Value) : M Value :=
 match nth ts.toList 0, d, lenA x with
 | some dt, .slice base dlen _, some xlen =>
  (M.lift (C.row dt)).bind fun (_, size, _, _) =>
   (firstA size (Nat.min xlen dlen) x).bind fun cs =>
    match cs, base with
    | [], _ => M.ret (intA .i64 (Nat.min xlen dlen))
    | _ :: _, none => M.fail
    | _ :: _, some a => (writeCells a.block a.off cs).bind fun _ => M.ret (intA .i64 (Nat.min xlen dlen))
 | _, _, _ => M.fail
noncomputable def opClear (C : Ctx) (ts : Array TypeId) (x : Value) : M Value :=
 match nth ts.toList 0, x with
 | some _, .map none => M.ret undefA
 | some _, .slice none _ _ => M.ret undefA
 | some t, .slice (some a) n _ =>
  match n with
  | 0 => M.ret undefA
  | _ + 1 =>
   (M.lift (C.row t)).bind fun (_, _, _, z) => (writeCells a.block a.off (rep z n)).bind fun _ => M.ret undefA
 | _, _ => M.fail
noncomputable def min2A (x y : Value) : Option Value :=
 match x, y with
 | .int k a, .int _ b => some (.int k (match decide (b < a) with | true => b | false => a))
 | _, _ => none
noncomputable def max2A (x y : Value) : Option Value :=
 match x, y with
 | .int k a, .int _ b => some (.int k (match decide (b > a) with | true => b | false => a))
 | _, _ => none
noncomputable def foldA (f : Value → Value → Option Value) : Value → List Value → Option Value
 | x, [] => some x
 | x, y :: ys => match f x y with | none => none | some z => foldA f z ys
noncomputable def wrapA (k : IntKind) (n : Int) : Int :=
 match n with
 | .ofNat m => match Nat.ble m 127 with | true => .ofNat m | false => k.wrap (.ofNat m)
 | .negSucc m => k.wrap (.negSucc m)
noncomputable def bytesOfA : List Value → Option (List UInt8)
 | [] => some []
 | .int .u8 n :: l => match bytesOfA l with | none => none | some r => some (UInt8.ofNat n.toNat :: r)
 | _ => none
noncomputable def opConvert (C : Ctx) (src dst : TypeId) (x : Value) : M Value :=
 match C.und src, C.und dst with
 | some ds, some dd =>
  match ds, dd, x with
  | _, .int k, .int _ n => M.ret (.int k (wrapA k n))
  | _, .string, .string s => M.ret (.string s)
  | .slice _, .slice e, .slice (some a) n c =>
   match C.und e, Nat.beq src dst, Nat.blt 0 n with
   | some (.int .u8), true, true => (getCellsB a.block).bind fun cs => (putO a.block (some (.bytes cs))).bind fun _ => M.ret (.slice (some a) n c)
   | _, _, _ => M.fail
  | _, .slice e, .string s =>
   match C.und e with
   | some (.int .u8) =>
    match Nat.ble s.size big with
    | true => (newBytes (bytesA s)).bind fun b => M.ret (.slice (some ⟨b, 0, some 1⟩) s.size s.size)
    | false => M.fail
   | _ => M.fail
  | .slice e, .string, x =>
   match C.und e with
   | some (.int .u8) =>
    match x with
    | .slice none _ _ => M.ret (.string .empty)
    | .slice (some a) len cap =>
     (firstA 1 len (.slice (some a) len cap)).bind fun cs => (M.lift (bytesOfA cs)).bind fun l => M.ret (.string ⟨⟨l⟩⟩)
    | _ => M.fail
   | _ => M.fail
  | _, _, _ => M.fail
 | _, _ => M.fail
noncomputable def opMakeInterface (C : Ctx) (t : TypeId) (x : Value) : M Value :=
 match C.und t with
 | none => M.fail
 | some d => match d with | .interface _ => M.fail | _ => M.ret (.iface t x)
noncomputable def hasAll (want : List (String × TypeId)) (got : List Method) : Bool := allB (fun w => !allB (fun m => !(m.name == w.1 && m.sig == w.2)) got) want
noncomputable def opTypeAssert (C : Ctx) (x : Value) (asserted : TypeId) (ok : Bool) : M Value :=
 match C.und asserted with
 | none => M.fail
 | some d =>
  match d, x with
  | .interface want, .iface t v =>
   match C.ty.get t with
   | none => M.fail
   | some i =>
    match hasAll want.toList i.methods.toList with
    | true => M.ret (match ok with | true => .tuple #[.iface t v, .bool true] | false => .iface t v)
    | false =>
     match ok with
     | true => (M.lift (C.zero asserted)).bind fun z => M.ret (.tuple #[z, .bool false])
     | false => M.fail
  | .interface _, .nilIface =>
   match ok with
   | true => (M.lift (C.zero asserted)).bind fun z => M.ret (.tuple #[z, .bool false])
   | false => M.fail
  | .interface _, _ => M.fail
  | _, .nilIface =>
   match ok with
   | true => (M.lift (C.zero asserted)).bind fun z => M.ret (.tuple #[z, .bool false])
   | false => M.fail
  | _, .iface t v =>
   match Nat.beq t asserted with
   | true => M.ret (match ok with | true => .tuple #[v, .bool true] | false => v)
   | false =>
    match ok with
    | true => (M.lift (C.zero asserted)).bind fun z => M.ret (.tuple #[z, .bool false])
    | false => M.fail
  | _, _ => M.fail
noncomputable def opExtract (x : Value) (i : Nat) : M Value :=
 match x with
 | .tuple vs => M.lift (nth vs.toList i)
 | _ => M.fail
noncomputable def opNilCheck (x : Value) : M Value :=
 match x with
 | .pointer (some a) => M.ret (.pointer (some a))
 | .map r => M.ret (.map r)
 | .iface t v => M.ret (.iface t v)
 | .func (.func f) a b => M.ret (.func (.func f) a b)
 | _ => M.fail
noncomputable def bitsA (op : BinOp) (k : IntKind) (x y : Int) : Option Int :=
 match op with
 | .and => some (wrapA k (BitVec.ofInt k.bits x &&& BitVec.ofInt k.bits y).toNat)
 | .or => some (wrapA k (BitVec.ofInt k.bits x ||| BitVec.ofInt k.bits y).toNat)
 | .xor => some (wrapA k (BitVec.ofInt k.bits x ^^^ BitVec.ofInt k.bits y).toNat)
 | .andNot => some (wrapA k (BitVec.ofInt k.bits x &&& ~~~BitVec.ofInt k.bits y).toNat)
 | _ => none
noncomputable def arithA (op : BinOp) (k : IntKind) (x y : Int) : Option Value :=
 match op with
 | .add => some (.int k (wrapA k (x + y)))
 | .sub => some (.int k (wrapA k (x - y)))
 | .mul => some (.int k (wrapA k (x * y)))
 | .quo => match decide (y = 0) with | true => none | false => some (.int k (wrapA k (x.tdiv y)))
 | .rem => match decide (y = 0) with | true => none | false => some (.int k (x.tmod y))
 | .eql => some (.bool (decide (x = y)))
 | .neq => some (.bool (!decide (x = y)))
 | .lss => some (.bool (decide (x < y)))
 | .leq => some (.bool (decide (x ≤ y)))
 | .gtr => some (.bool (decide (y < x)))
 | .geq => some (.bool (decide (y ≤ x)))
 | op => match bitsA op k x y with | some n => some (.int k n) | none => none
noncomputable def shiftA (op : BinOp) (k : IntKind) (x y : Int) : Option Value :=
 match y with
 | .negSucc _ => none
 | .ofNat m =>
  match op with
  | .shl => some (.int k (wrapA k (x * ((2 ^ Nat.min m k.bits : Nat) : Int))))
  | .shr => some (.int k (x.fdiv ((2 ^ Nat.min m k.bits : Nat) : Int)))
  | _ => none
noncomputable def strA (op : BinOp) (x y : ByteArray) : Option Value :=
 match op with
 | .add => match Nat.ble (x.size + y.size) big with | true => some (.string (x ++ y)) | false => none
 | .eql => some (.bool (eqBytes x.data.toList y.data.toList))
 | .neq => some (.bool (!(eqBytes x.data.toList y.data.toList)))
 | .lss => some (.bool (Op.bytesLess x.data.toList y.data.toList))
 | .leq => some (.bool (Op.bytesLess x.data.toList y.data.toList || eqBytes x.data.toList y.data.toList))
 | .gtr => some (.bool (!(Op.bytesLess x.data.toList y.data.toList || eqBytes x.data.toList y.data.toList)))
 | .geq => some (.bool (!Op.bytesLess x.data.toList y.data.toList))
 | _ => none
noncomputable def eqFields (C : Ctx) (eq : TypeId → Value → Value → Option Bool) (xs ys : List Value) : List Field → Option Bool
 | [] => some true
 | f :: fs =>
  match decide (f.name = "_") with
  | true => eqFields C eq xs ys fs
  | false =>
   match partA C f.type xs f.offset, partA C f.type ys f.offset with
   | some a, some b =>
    match eq f.type a b with
    | none => none
    | some false => some false
    | some true => eqFields C eq xs ys fs
   | _, _ => none
noncomputable def eqA (C : Ctx) (eg : TypeId → Bool) : Nat → TypeId → Value → Value → Option Bool
 | 0, _, _, _ => none
 | d + 1, t, x, y =>
  match C.und t with
  | none => none
  | some u =>
   match u, x, y with
   | .bool, .bool a, .bool b => some (a == b)
   | .int _, .int j a, .int k b => match decide (j = k) with | true => some (decide (a = b)) | false => none
   | .string, .string a, .string b => some (eqBytes a.data.toList b.data.toList)
   | .pointer _, .pointer none, .pointer none => some true
   | .pointer _, .pointer none, .pointer (some _) => some false
   | .pointer _, .pointer (some _), .pointer none => some false
   | .pointer e, .pointer (some ⟨a, i, none⟩), .pointer (some ⟨b, j, none⟩) =>
    match C.size e, Nat.beq a b with
    | some (_ + 1), true => some (Nat.beq i j)
    | _, _ => none
   | .interface _, .nilIface, .nilIface => some true
   | .interface _, .nilIface, .iface _ _ => some false
   | .interface _, .iface _ _, .nilIface => some false
   | .interface _, .iface tx vx, .iface ty vy =>
    match Nat.beq tx ty with
    | false => some false
    | true =>
     match C.ty.get tx with
     | none => none
     | some i => match i.comparable with | true => eqA C eg d tx vx vy | false => none
   | .struct fields, .agg xs, .agg ys => match eg t with | true => none | false => eqFields C (eqA C eg d) xs.toList ys.toList fields.toList
   | .slice _, .slice none _ _, .slice none _ _ => some true
   | .slice _, .slice none _ _, .slice (some _) _ _ => some false
   | .slice _, .slice (some _) _ _, .slice none _ _ => some false
   | .map _ _, .map none, .map none => some true
   | .map _ _, .map none, .map (some _) => some false
   | .map _ _, .map (some _), .map none => some false
   | .func _ _ _, .nilFunc, .nilFunc => some true
   | .func _ _ _, .nilFunc, .func _ _ _ => some false
   | .func _ _ _, .func _ _ _, .nilFunc => some false
   | _, _, _ => none
noncomputable def isConstA : Operand → Bool
 | .const _ => true
 | _ => false
noncomputable def guardA (eg : TypeId → Bool) (t : TypeId) (x y : Operand) (a b : Value) : Bool :=
 match a, b with
 | .nilIface, .nilIface => isConstA x || isConstA y
 | .agg _, .agg _ => !eg t
 | _, _ => true
noncomputable def leastGtr (op : BinOp) (j : IntKind) (m : Int) (k : Nat) : Option Value :=
 match op, m with
 | .gtr, .ofNat x => match decide (j = .i64) && Nat.ble x k with | true => some (.bool false) | false => none
 | _, _ => none
noncomputable def opBin (C : Ctx) (eg : TypeId → Bool) (op : BinOp) (t : TypeId) (x y : Operand) (a b : Value) : Option Value :=
 match a, b with
 | .int j m, .int k n =>
  match op with
  | .shl => shiftA .shl j m n
  | .shr => shiftA .shr j m n
  | op => match decide (j = k) with | true => arithA op j m n | false => none
 | .string m, .string n => strA op m n
 | .int j m, .chan (some k) => leastGtr op j m k
 | a, b =>
  match op with
  | .eql => match guardA eg t x y a b with | true => (match eqA C eg 100 t a b with | some r => some (.bool r) | none => none) | false => none
  | .neq => match guardA eg t x y a b with | true => (match eqA C eg 100 t a b with | some r => some (.bool (!r)) | none => none) | false => none
  | _ => none
noncomputable def opUn (op : UnOp) (x : Value) : Option Value :=
 match op, x with
 | .neg, .int k n => some (.int k (wrapA k (0 - n)))
 | .xor, .int k n => match bitsA .xor k (if k.signed then -1 else k.max) n with | some r => some (.int k r) | none => none
 | .not, .bool b => some (.bool (!b))
 | _, _ => none
inductive L where
 | nil
 | cons (k : Nat) (v : Value) (t : L)
inductive Env where
 | mk (loc kept : L)
noncomputable def L.look (l : L) (dflt : Nat → Value) : Nat → Value :=
 L.rec (motive := fun _ => Nat → Value) dflt (fun k v _ ih d => Bool.rec (motive := fun _ => Value) (ih d) v (Nat.beq k d)) l
noncomputable def L.set (d : Nat) (v : Value) (l : L) : L :=
 L.rec (motive := fun _ => L) (.cons d v .nil) (fun k u t ih => Bool.rec (motive := fun _ => L) (.cons k u ih) (.cons d v t) (Nat.beq k d)) l
noncomputable def rd (e : Env) (t : Nat) : Value :=
 Env.rec (motive := fun _ => Value) (fun loc kept => loc.look (kept.look fun _ => top) t) e
noncomputable def evalA (e : Env) (x : Operand) : Value :=
 Operand.rec (motive := fun _ => Value) (rd e) (fun v => v) (fun g => .pointer (some ⟨g, 0, none⟩)) (fun f => .func (.func f) #[] #[]) x
noncomputable def forceI {β : Type} (j : IntKind) (n : Int) (k : Value → β) : β :=
 Int.rec (motive := fun _ => β)
  (fun m => Bool.rec (motive := fun _ => β) (k (.int j (.ofNat m))) (k (.int j (.ofNat m))) (Nat.ble m 0))
  (fun m => Bool.rec (motive := fun _ => β) (k (.int j (.negSucc m))) (k (.int j (.negSucc m))) (Nat.ble m 0)) n
noncomputable def forceB {β : Type} (b : Bool) (k : Value → β) : β := Bool.rec (motive := fun _ => β) (k (.bool false)) (k (.bool true)) b
noncomputable def forceV {β : Type} (v : Value) (k : Value → β) : β :=
 match v with
 | .int j n => forceI j n k
 | .bool b => forceB b k
 | v => k v
noncomputable def putL (e : Env) (d : Nat) (v : Value) : Env := Env.rec (motive := fun _ => Env) (fun loc kept => .mk (.cons d v loc) kept) e
noncomputable def putE {β : Type} (e : Env) (dst : Option Nat) (v : Value) (k : Env → β) : β :=
 Option.rec (motive := fun _ => β) (k e) (fun d => forceV v fun v => k (putL e d v)) dst
noncomputable def flushL (km : Nat) (loc : L) : L → L :=
 L.rec (motive := fun _ => L → L) (fun kept => kept)
  (fun k v _ ih kept => Bool.rec (motive := fun _ => L) (ih kept) (L.set k v (ih kept)) (Nat.testBit km k)) loc
noncomputable def L.force {β : Type} (l : L) (k : L → β) : β := L.rec (motive := fun _ => β) (k .nil) (fun d v t _ => k (.cons d v t)) l
noncomputable def flush {β : Type} (km : Nat) (e : Env) (k : Env → β) : β :=
 Env.rec (motive := fun _ => β) (fun loc kept => (flushL km loc kept).force fun kept => k (.mk .nil kept)) e
noncomputable def keepFrom (km : Nat) (vs : List Value) : Nat → L → L :=
 List.rec (motive := fun _ => Nat → L → L) (fun _ l => l)
  (fun v _ ih i l => Bool.rec (motive := fun _ => L) (ih (Nat.add i 1) l) (ih (Nat.add i 1) (.cons i v l)) (Nat.testBit km i)) vs
noncomputable def envOf (km : Nat) (args : List Value) : Env := .mk .nil (keepFrom km args 0 .nil)
noncomputable def metA (ops : List Oper) (e : Env) (j : Nat) (want : Bool) : Option Bool :=
 match nth ops j with
 | none => some false
 | some g =>
  match g.dst with
  | none => some false
  | some d => match rd e d with | .bool b => some (b == want) | .tuple _ => some false | _ => none
noncomputable def wantedA (ops : List Oper) (e : Env) (o : Oper) : Option Bool :=
 Option.rec (motive := fun _ => Option Bool) (some true) (fun p => Prod.rec (motive := fun _ => Option Bool) (fun j want => metA ops e j want) p) o.guard
inductive Ex where
 | normal
 | exit (id : Nat)
 | ret
abbrev Rec := Nat → Code → Env → M (Ex × Env)
noncomputable def readVar (C : Ctx) (e : Env) (r : ResultVar) : M Value :=
 match r with
 | .tmp t => M.ret (rd e t)
 | .cell a t => opLoad C t (rd e a)
noncomputable def readVars (C : Ctx) (e : Env) (rs : List ResultVar) : M (List Value) :=
 List.rec (motive := fun _ => M (List Value)) (M.ret []) (fun r _ ih => (readVar C e r).bind fun v => ih.bind fun vs => M.ret (v :: vs)) rs
noncomputable def resultsV (vs : List Value) : Value :=
 match vs with
 | [v] => v
 | vs => .tuple ⟨vs⟩
noncomputable def resultsA (C : Ctx) (e : Env) (rs : List ResultVar) : M Value := (readVars C e rs).bind fun vs => M.ret (resultsV vs)
noncomputable def xResults (C : Ctx) (fn : Func) (r : Ex × Env) : M Value :=
 match r with
 | (.normal, e) => resultsA C e fn.results.toList
 | (.ret, e) => resultsA C e fn.results.toList
 | (.exit _, _) => M.fail
noncomputable def runF (C : Ctx) (rec : Rec) (fn : Func) (body : Code) (km : Nat) (args : List Value) : M Value :=
 (rec km body (envOf km args)).bind (xResults C fn)
noncomputable def callB (C : Ctx) (rec : Rec) (f : Nat) (args : List Value) : M Value :=
 match C.fn.get f with
 | none => M.fail
 | some fn =>
  match fn.body, Nat.ble (len args) fn.ntmps with
  | some body, true => framed (runF C rec fn body (Option.rec (motive := fun _ => Nat) 0 (fun n => n) (C.km.get f)) args)
  | _, _ => M.fail
noncomputable def callF (C : Ctx) (rec : Rec) (f : Nat) (args : List Value) : M Value :=
 match C.sm f with
 | some g => g args
 | none =>
  match C.ex f with
  | some g => g args
  | none => callB C rec f args
noncomputable def methodA (C : Ctx) (t : TypeId) (v : Value) (name : String) : Option (Nat × Value) :=
 match C.ty.get t with
 | none => none
 | some i =>
  match i.methods.toList.find? (fun m => m.name == name) with
  | none => none
  | some m =>
   match m.path.toList, m.func with
   | [], some (f, p) =>
    match C.und t, p with
    | some (.pointer _), true => some (f, v)
    | some (.pointer _), false => none
    | some _, false => some (f, v)
    | _, _ => none
   | _, _ => none
noncomputable def callV (C : Ctx) (rec : Rec) (f : Value) (args : List Value) : M Value :=
 match f with
 | .func (.func g) first cap => callF C rec g (app first.toList (app args cap.toList))
 | _ => M.fail
noncomputable def callI (C : Ctx) (rec : Rec) (recv : Value) (name : String) (args : List Value) : M Value :=
 match recv with
 | .iface t v =>
  match C.vi t name with
  | some g => g (v :: args)
  | none =>
   match methodA C t v name with
   | none => M.fail
   | some (f, r) => callF C rec f (r :: args)
 | _ => M.fail
noncomputable def opBuiltin (C : Ctx) (b : Builtin) (ts : Array TypeId) (args : List Value) : M Value :=
 match b, args with
 | .append, [s, x] => opAppend C ts s x
 | .cap, [x] => (M.lift (nth ts.toList 0)).bind fun t => opCap C t x
 | .len, [x] => (M.lift (nth ts.toList 0)).bind fun t => opLen C t x
 | .copy, [d, x] => opCopy C ts d x
 | .clear, [x] => opClear C ts x
 | .delete, [m, k] => (M.lift (nth ts.toList 0)).bind fun t => opDelete C t m k
 | .max, x :: xs => M.lift (foldA max2A x xs)
 | .min, x :: xs => M.lift (foldA min2A x xs)
 | _, _ => M.fail
noncomputable def opCall (C : Ctx) (rec : Rec) (e : Env) (c : Call) : M Value :=
 match c.callee with
 | .builtin b => opBuiltin C b c.argTypes (mapA (evalA e) c.args.toList)
 | .value f => callV C rec (evalA e f) (mapA (evalA e) c.args.toList)
 | .invoke r name => callI C rec (evalA e r) name (mapA (evalA e) c.args.toList)
noncomputable def partsOf (e : Env) (ps : Array (Nat × Operand)) : List (Nat × Value) := mapA (fun p => (p.1, evalA e p.2)) ps.toList
noncomputable def rMove (e : Env) (x : Operand) : M Value := M.ret (evalA e x)
noncomputable def rPick (e : Env) (c a b : Operand) : M Value :=
 match evalA e c with | .bool true => M.ret (evalA e a) | .bool false => M.ret (evalA e b) | _ => M.fail
noncomputable def rMakeFunc (e : Env) (fn : Fn) (first cap : Array Operand) : M Value :=
 M.ret (.func fn ⟨mapA (evalA e) first.toList⟩ ⟨mapA (evalA e) cap.toList⟩)
noncomputable def rMakeMap (_ : TypeId) (r : Option Operand) : M Value :=
 match r with | none => (newO (.map [] 0)).bind fun b => M.ret (.map (some b)) | some _ => M.fail
noncomputable def rBin (C : Ctx) (eg : TypeId → Bool) (e : Env) (op : BinOp) (t : TypeId) (x y : Operand) (_ : TypeId) : M Value :=
 M.lift (opBin C eg op t x y (evalA e x) (evalA e y))
noncomputable def rSlice (C : Ctx) (e : Env) (t : TypeId) (x : Operand) (lo hi mx : Option Operand) : M Value :=
 opSlice C t (evalA e x) (lo.map (evalA e)) (hi.map (evalA e)) (mx.map (evalA e))
noncomputable def rBox (e : Env) (_ : TypeId) (x : Operand) : M Value := opBox (evalA e x)
noncomputable def rBuild (C : Ctx) (e : Env) (t : TypeId) (ps : Array (Nat × Operand)) : M Value := opBuild C t (partsOf e ps)
noncomputable def rBuildSlice (C : Ctx) (e : Env) (t : TypeId) (n : Nat) (ps : Array (Nat × Operand)) : M Value := opBuildSlice C t n (partsOf e ps)
noncomputable def rMapUpdate (C : Ctx) (e : Env) (t : TypeId) (m k v : Operand) : M Value := opMapUpdate C t (evalA e m) (evalA e k) (evalA e v)
noncomputable def rLoad (C : Ctx) (e : Env) (t : TypeId) (a : Operand) : M Value := opLoad C t (evalA e a)
noncomputable def rStore (C : Ctx) (e : Env) (t : TypeId) (a x : Operand) : M Value := opStore C t (evalA e a) (evalA e x)
noncomputable def rNilCheck (e : Env) (x : Operand) : M Value := opNilCheck (evalA e x)
noncomputable def rUn (e : Env) (op : UnOp) (_ : TypeId) (x : Operand) : M Value := M.lift (opUn op (evalA e x))
noncomputable def rConvert (C : Ctx) (e : Env) (a b : TypeId) (x : Operand) : M Value := opConvert C a b (evalA e x)
noncomputable def rMakeInterface (C : Ctx) (e : Env) (t : TypeId) (x : Operand) : M Value := opMakeInterface C t (evalA e x)
noncomputable def rMakeSlice (C : Ctx) (e : Env) (t : TypeId) (l c : Operand) : M Value := opMakeSlice C t (evalA e l) (evalA e c)
noncomputable def rFieldAddr (C : Ctx) (e : Env) (s : TypeId) (x : Operand) (f : Nat) : M Value := opFieldAddr C s (evalA e x) f
noncomputable def rField (C : Ctx) (e : Env) (s : TypeId) (x : Operand) (f : Nat) : M Value := opField C s (evalA e x) f
noncomputable def rIndexAddr (C : Ctx) (e : Env) (t : TypeId) (x i : Operand) : M Value := opIndexAddr C t (evalA e x) (evalA e i)
noncomputable def rIndex (C : Ctx) (e : Env) (t : TypeId) (x i : Operand) : M Value := opIndex C t (evalA e x) (evalA e i)
noncomputable def rLookup (C : Ctx) (e : Env) (t : TypeId) (m k : Operand) (ok : Bool) : M Value := opLookup C t (evalA e m) (evalA e k) ok
noncomputable def rTypeAssert (C : Ctx) (e : Env) (x : Operand) (_ a : TypeId) (ok : Bool) : M Value := opTypeAssert C (evalA e x) a ok
noncomputable def rExtract (e : Env) (x : Operand) (i : Nat) : M Value := opExtract (evalA e x) i
noncomputable def opRun (C : Ctx) (eg : TypeId → Bool) (rec : Rec) (e : Env) (o : Oper) : M Value :=
 Op.rec (motive := fun _ => M Value)
  (rMove e)  -- move
  (rMove e)  -- assign
  (rPick e)
  (opAlloc C)
  (rBox e)
  (rBuild C e)
  (rBuildSlice C e)
  (rMapUpdate C e)
  (rLoad C e)
  (rStore C e)
  (fun _ => M.fail)  -- ready
  (fun _ => M.fail)  -- waits
  (rNilCheck e)
  (rBin C eg e)
  (rUn e)
  (rConvert C e)
  (fun _ _ => M.fail)  -- sliceToArrayPointer
  (rMakeInterface C e)
  (rMakeFunc e)
  rMakeMap
  (fun _ _ => M.fail)  -- makeChan
  (rMakeSlice C e)
  (rSlice C e)
  (rFieldAddr C e)
  (rField C e)
  (rIndexAddr C e)
  (rIndex C e)
  (rLookup C e)
  (rMapUpdate C e)
  (fun _ _ _ => M.fail)  -- mapEntry
  (fun _ _ _ _ => M.fail)  -- entryStore
  (fun _ _ => M.fail)  -- range
  (fun _ _ => M.fail)  -- next
  (fun _ => M.fail)  -- entry
  (rTypeAssert C e)
  (rExtract e)
  (opCall C rec e)
  (fun _ => M.fail)  -- go
  (fun _ => M.fail)  -- defer
  (fun _ => M.fail)  -- panic
  (fun _ _ => M.fail)  -- send
  (fun _ _ _ => M.fail)  -- recv
  (fun _ _ => M.fail)  -- select
  o.op
noncomputable def seqStep (C : Ctx) (eg : TypeId → Bool) (rec : Rec) (e : Env) (o : Oper) (k : Env → M Env) (w : Option Bool) : M Env :=
 Option.rec (motive := fun _ => M Env) M.fail
  (fun w => Bool.rec (motive := fun _ => M Env)
   (putE e o.dst undefA k)
   ((opRun C eg rec e o).bind fun v => putE e o.dst v k) w) w
noncomputable def seqRun (C : Ctx) (eg : TypeId → Bool) (rec : Rec) (all : List Oper) (os : List Oper) : Env → M Env :=
 List.rec (motive := fun _ => Env → M Env) (fun e => M.ret e)
  (fun o _ ih e => seqStep C eg rec e o ih (wantedA all e o)) os
noncomputable def trackEnd (fp : Fp) (r : Env × List Fp) : M (Env × List Fp) := M.ret (r.1, fp :: r.2)
noncomputable def trackStep (C : Ctx) (eg : TypeId → Bool) (rec : Rec) (e : Env) (o : Oper) (k : Env → M (Env × List Fp)) (w : Option Bool) : M (Env × List Fp) :=
 Option.rec (motive := fun _ => M (Env × List Fp)) M.fail
  (fun w => Bool.rec (motive := fun _ => M (Env × List Fp))
   ((told (M.ret ())).bind fun p => putE e o.dst undefA fun e => (k e).bind (trackEnd p.2))
   ((told (opRun C eg rec e o)).bind fun p => putE e o.dst p.1 fun e => (k e).bind (trackEnd p.2)) w) w
noncomputable def trackRun (C : Ctx) (eg : TypeId → Bool) (rec : Rec) (all : List Oper) (os : List Oper) : Env → M (Env × List Fp) :=
 List.rec (motive := fun _ => Env → M (Env × List Fp)) (fun e => M.ret (e, []))
  (fun o _ ih e => trackStep C eg rec e o ih (wantedA all e o)) os
noncomputable def mem (b : Nat) (l : List Nat) : Bool :=
 List.rec (motive := fun _ => Bool) false (fun x _ ih => Bool.rec (motive := fun _ => Bool) ih true (Nat.beq x b)) l
noncomputable def meets (l ys : List Nat) : Bool :=
 List.rec (motive := fun _ => Bool) false (fun x _ ih => Bool.rec (motive := fun _ => Bool) ih true (mem x ys)) l
noncomputable def within (lo hi : Nat) (l : List Nat) : Bool :=
 List.rec (motive := fun _ => Bool) false (fun x _ ih => Bool.rec (motive := fun _ => Bool) ih (Bool.rec (motive := fun _ => Bool) ih true (Nat.blt x hi)) (Nat.ble lo x)) l
noncomputable def apartFp (i j : Fp) : Bool :=
 !meets i.w j.r && !meets i.w j.w && !meets j.w i.r && !within i.c0 i.c1 j.r && !within i.c0 i.c1 j.w
noncomputable def Fp.silent (f : Fp) : Bool :=
 match f.r, f.w with
 | [], [] => Nat.beq f.c0 f.c1
 | _, _ => false
noncomputable def clashFree (bef : List Nat) : List (Nat × Fp) → Nat → List Fp → Bool
 | _, _, [] => true
 | done, j, f :: fs =>
  match f.silent with
  | true => clashFree bef done (j + 1) fs
  | false =>
   match allB (fun p => (match nth bef j with | some m => Nat.testBit m p.1 | none => false) || apartFp p.2 f) done with
   | true => clashFree bef ((j, f) :: done) (j + 1) fs
   | false => false
noncomputable def apartAll (ops : Array Oper) (bef : List Nat) : List (Nat × Oper) → Nat → List Oper → Bool
 | _, _, [] => true
 | done, j, o :: os =>
  match done.all (fun (i, g) => (match nth bef j with | some m => Nat.testBit m i | none => false) || Oper.apart ops g o) && o.after.toList.all (fun e => !Region.binds .any e || Nat.blt e.on j) with
  | true => apartAll ops bef ((j, o) :: done) (j + 1) os
  | false => false
noncomputable def noSel (o : Oper) : Bool := match o.op with | .select _ _ => false | _ => true
noncomputable def drawOk (ops : Array Oper) : Bool := apartAll ops (Region.before ops).toList [] 0 ops.toList && ops.toList.all noSel
noncomputable def drawEnd (ops : Array Oper) (r : Env × List Fp) : M (Env) :=
 Bool.rec (motive := fun _ => M (Env)) M.fail (M.ret r.1) (clashFree (Region.before ops).toList [] 0 r.2)
noncomputable def drawRun (C : Ctx) (eg : TypeId → Bool) (rec : Rec) (ops : Array Oper) (e : Env) : M Env :=
 (trackRun C eg rec ops.toList ops.toList e).bind (drawEnd ops)
noncomputable def xNormal (e : Env) : M (Ex × Env) := M.ret (.normal, e)
noncomputable def xFlush (km : Nat) (e : Env) : M (Ex × Env) := flush km e xNormal
noncomputable def xRegion (C : Ctx) (eg : TypeId → Bool) (rec : Rec) (km : Nat) (e : Env) (ops : Array Oper) (draw : Bool) : M (Ex × Env) :=
 Bool.rec (motive := fun _ => M (Ex × Env)) ((seqRun C eg rec ops.toList ops.toList e).bind (xFlush km)) ((drawRun C eg rec ops e).bind (xFlush km)) draw
noncomputable def xThen (k : Env → M (Ex × Env)) (r : Ex × Env) : M (Ex × Env) :=
 match r with
 | (.normal, e) => k e
 | (x, e) => M.ret (x, e)
noncomputable def xCond (rec : Rec) (km : Nat) (e : Env) (c : Operand) (a b : Code) : M (Ex × Env) :=
 match evalA e c with
 | .bool true => rec km a e
 | .bool false => rec km b e
 | _ => M.fail
noncomputable def xBlock (id : Nat) (r : Ex × Env) : M (Ex × Env) :=
 match r with
 | (.exit j, e) => bif Nat.beq j id then M.ret (.normal, e) else M.ret (.exit j, e)
 | (x, e) => M.ret (x, e)
noncomputable def exec1 (C : Ctx) (eg : TypeId → Bool) (rec : Rec) (km : Nat) (c : Code) (e : Env) : M (Ex × Env) :=
 Code.casesOn (motive := fun _ => M (Ex × Env)) c
  (xNormal e)
  (fun _ ops draw => xRegion C eg rec km e ops draw)
  (fun a b => (rec km a e).bind (xThen (rec km b)))
  (xCond rec km e)
  (fun id b => (rec km b e).bind (xBlock id))
  (fun b => (rec km b e).bind (xThen (rec km (.loop b))))
  (fun _ _ _ _ => M.fail)
  (fun id => M.ret (.exit id, e))
  (fun _ => M.fail)
  (fun _ => M.fail)
  (fun _ => M.fail)
  (M.ret (.ret, e))
  (fun _ => M.fail)
noncomputable def exec (C : Ctx) (eg : TypeId → Bool) (fuel : Nat) : Rec :=
 Nat.rec (motive := fun _ => Rec) (fun _ _ _ => M.fail) (fun _ ih km c e => exec1 C eg ih km c e) fuel
noncomputable def call (C : Ctx) (eg : TypeId → Bool) (fuel : Nat) (f : Nat) (args : List Value) : M Value := callF C (exec C eg fuel) f args
end Go.Ab
