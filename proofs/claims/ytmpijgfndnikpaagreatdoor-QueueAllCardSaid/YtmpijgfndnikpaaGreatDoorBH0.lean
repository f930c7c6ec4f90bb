/- What the program's types come to (printed by gen_types.py). -/
import Derived.Test.YtmpijgfndnikpaaGreatDoorBS1
import Derived.Test.YtmpijgfndnikpaaGreatDoorE43
import Derived.KernelRfl
set_option linter.unusedVariables false
set_option linter.unusedSimpArgs false
namespace Go.Ab.Seat
open Go.Extern Go.Proofs
set_option maxRecDepth 1000000
variable {sm : Nat → Option (List Value → M Value)}
theorem ag113 : aggT (Cs sm) 113 = some 2 := by kernel_rfl
theorem ag234 : aggT (Cs sm) 234 = some 3 := by kernel_rfl
theorem ag66 : aggT (Cs sm) 66 = some 5 := by kernel_rfl
theorem ag70 : aggT (Cs sm) 70 = some 4 := by kernel_rfl
theorem el103 : elemAt (Cs sm) 103 = some 1 := by kernel_rfl
theorem el106 : elemAt (Cs sm) 106 = some 5 := by kernel_rfl
theorem el120 : elemAt (Cs sm) 120 = some 1 := by kernel_rfl
theorem el125 : elemAt (Cs sm) 125 = some 1 := by kernel_rfl
theorem el292 : elemAt (Cs sm) 292 = some 1 := by kernel_rfl
theorem el30 : elemAt (Cs sm) 30 = some 1 := by kernel_rfl
theorem el37 : elemAt (Cs sm) 37 = some 2 := by kernel_rfl
theorem el48 : elemAt (Cs sm) 48 = some 1 := by kernel_rfl
theorem el83 : elemAt (Cs sm) 83 = some 5 := by kernel_rfl
theorem el86 : elemAt (Cs sm) 86 = some 4 := by kernel_rfl
theorem ex10 : (Cs sm).ex 10 = none := by kernel_rfl
theorem ex11 : (Cs sm).ex 11 = none := by kernel_rfl
theorem ex113 : (Cs sm).ex 113 = none := by kernel_rfl
theorem ex12 : (Cs sm).ex 12 = none := by kernel_rfl
theorem ex120 : (Cs sm).ex 120 = none := by kernel_rfl
theorem ex128 : (Cs sm).ex 128 = none := by kernel_rfl
theorem ex129 : (Cs sm).ex 129 = none := by kernel_rfl
theorem ex13 : (Cs sm).ex 13 = none := by kernel_rfl
theorem ex130 : (Cs sm).ex 130 = none := by kernel_rfl
theorem ex131 : (Cs sm).ex 131 = none := by kernel_rfl
theorem ex134 : (Cs sm).ex 134 = none := by kernel_rfl
theorem ex135 : (Cs sm).ex 135 = none := by kernel_rfl
theorem ex14 : (Cs sm).ex 14 = none := by kernel_rfl
theorem ex173 : (Cs sm).ex 173 = none := by kernel_rfl
theorem ex37 : (Cs sm).ex 37 = none := by kernel_rfl
theorem ex43 : (Cs sm).ex 43 = none := by kernel_rfl
theorem ex44 : (Cs sm).ex 44 = none := by kernel_rfl
theorem ex47 : (Cs sm).ex 47 = none := by kernel_rfl
theorem ex51 : (Cs sm).ex 51 = none := by kernel_rfl
theorem ex52 : (Cs sm).ex 52 = none := by kernel_rfl
theorem ex53 : (Cs sm).ex 53 = none := by kernel_rfl
theorem ex54 : (Cs sm).ex 54 = none := by kernel_rfl
theorem ex55 : (Cs sm).ex 55 = none := by kernel_rfl
theorem ex56 : (Cs sm).ex 56 = none := by kernel_rfl
theorem ex57 : (Cs sm).ex 57 = none := by kernel_rfl
theorem ex58 : (Cs sm).ex 58 = none := by kernel_rfl
theorem ex70 : (Cs sm).ex 70 = none := by kernel_rfl
theorem ex71 : (Cs sm).ex 71 = none := by kernel_rfl
theorem ex72 : (Cs sm).ex 72 = none := by kernel_rfl
theorem ex73 : (Cs sm).ex 73 = none := by kernel_rfl
theorem ex74 : (Cs sm).ex 74 = none := by kernel_rfl
theorem ex75 : (Cs sm).ex 75 = none := by kernel_rfl
theorem ex76 : (Cs sm).ex 76 = none := by kernel_rfl
theorem ex77 : (Cs sm).ex 77 = none := by kernel_rfl
theorem ex78 : (Cs sm).ex 78 = none := by kernel_rfl
theorem ex79 : (Cs sm).ex 79 = none := by kernel_rfl
theorem ex8 : (Cs sm).ex 8 = none := by kernel_rfl
theorem ex9 : (Cs sm).ex 9 = none := by kernel_rfl
theorem fn10 : (Cs sm).fn.get 10 = some Tryz.f10 := by kernel_rfl
theorem fn11 : (Cs sm).fn.get 11 = some Tryz.f11 := by kernel_rfl
theorem fn113 : (Cs sm).fn.get 113 = some Tryz.f113 := by kernel_rfl
theorem fn12 : (Cs sm).fn.get 12 = some Tryz.f12 := by kernel_rfl
theorem fn120 : (Cs sm).fn.get 120 = some Tryz.f120 := by kernel_rfl
theorem fn128 : (Cs sm).fn.get 128 = some Tryz.f128 := by kernel_rfl
theorem fn129 : (Cs sm).fn.get 129 = some Tryz.f129 := by kernel_rfl
theorem fn13 : (Cs sm).fn.get 13 = some Tryz.f13 := by kernel_rfl
theorem fn130 : (Cs sm).fn.get 130 = some Tryz.f130 := by kernel_rfl
theorem fn131 : (Cs sm).fn.get 131 = some Tryz.f131 := by kernel_rfl
theorem fn134 : (Cs sm).fn.get 134 = some Tryz.f134 := by kernel_rfl
theorem fn135 : (Cs sm).fn.get 135 = some Tryz.f135 := by kernel_rfl
theorem fn14 : (Cs sm).fn.get 14 = some Tryz.f14 := by kernel_rfl
theorem fn173 : (Cs sm).fn.get 173 = some Tryz.f173 := by kernel_rfl
theorem fn37 : (Cs sm).fn.get 37 = some Tryz.f37 := by kernel_rfl
theorem fn43 : (Cs sm).fn.get 43 = some Tryz.f43 := by kernel_rfl
theorem fn44 : (Cs sm).fn.get 44 = some Tryz.f44 := by kernel_rfl
theorem fn47 : (Cs sm).fn.get 47 = some Tryz.f47 := by kernel_rfl
theorem fn51 : (Cs sm).fn.get 51 = some Tryz.f51 := by kernel_rfl
theorem fn52 : (Cs sm).fn.get 52 = some Tryz.f52 := by kernel_rfl
theorem fn53 : (Cs sm).fn.get 53 = some Tryz.f53 := by kernel_rfl
theorem fn54 : (Cs sm).fn.get 54 = some Tryz.f54 := by kernel_rfl
theorem fn55 : (Cs sm).fn.get 55 = some Tryz.f55 := by kernel_rfl
theorem fn56 : (Cs sm).fn.get 56 = some Tryz.f56 := by kernel_rfl
theorem fn57 : (Cs sm).fn.get 57 = some Tryz.f57 := by kernel_rfl
theorem fn58 : (Cs sm).fn.get 58 = some Tryz.f58 := by kernel_rfl
theorem fn70 : (Cs sm).fn.get 70 = some Tryz.f70 := by kernel_rfl
theorem fn71 : (Cs sm).fn.get 71 = some Tryz.f71 := by kernel_rfl
theorem fn72 : (Cs sm).fn.get 72 = some Tryz.f72 := by kernel_rfl
theorem fn73 : (Cs sm).fn.get 73 = some Tryz.f73 := by kernel_rfl
theorem fn74 : (Cs sm).fn.get 74 = some Tryz.f74 := by kernel_rfl
theorem fn75 : (Cs sm).fn.get 75 = some Tryz.f75 := by kernel_rfl
theorem fn76 : (Cs sm).fn.get 76 = some Tryz.f76 := by kernel_rfl
theorem fn77 : (Cs sm).fn.get 77 = some Tryz.f77 := by kernel_rfl
theorem fn78 : (Cs sm).fn.get 78 = some Tryz.f78 := by kernel_rfl
theorem fn79 : (Cs sm).fn.get 79 = some Tryz.f79 := by kernel_rfl
theorem fn8 : (Cs sm).fn.get 8 = some Tryz.f8 := by kernel_rfl
theorem fn9 : (Cs sm).fn.get 9 = some Tryz.f9 := by kernel_rfl
theorem km10 : (Cs sm).km.get 10 = some 76561193732427719 := by kernel_rfl
theorem km11 : (Cs sm).km.get 11 = some 2688053097783960445874034041765663 := by kernel_rfl
theorem km113 : (Cs sm).km.get 113 = some 34368129779 := by kernel_rfl
theorem km12 : (Cs sm).km.get 12 = some 18987316768629930483 := by kernel_rfl
theorem km120 : (Cs sm).km.get 120 = some 7 := by kernel_rfl
theorem km128 : (Cs sm).km.get 128 = some 5 := by kernel_rfl
theorem km129 : (Cs sm).km.get 129 = some 7 := by kernel_rfl
theorem km13 : (Cs sm).km.get 13 = some 1584563250378691443876671651783 := by kernel_rfl
theorem km130 : (Cs sm).km.get 130 = some 2067 := by kernel_rfl
theorem km131 : (Cs sm).km.get 131 = some 7 := by kernel_rfl
theorem km134 : (Cs sm).km.get 134 = some 21 := by kernel_rfl
theorem km135 : (Cs sm).km.get 135 = some 16806963 := by kernel_rfl
theorem km14 : (Cs sm).km.get 14 = some 5070757294533627858313141682163 := by kernel_rfl
theorem km173 : (Cs sm).km.get 173 = some 1193287703199244111 := by kernel_rfl
theorem km37 : (Cs sm).km.get 37 = some 557 := by kernel_rfl
theorem km43 : (Cs sm).km.get 43 = some 33555187 := by kernel_rfl
theorem km44 : (Cs sm).km.get 44 = some 157 := by kernel_rfl
theorem km47 : (Cs sm).km.get 47 = some 1 := by kernel_rfl
theorem km51 : (Cs sm).km.get 51 = some 276859935 := by kernel_rfl
theorem km52 : (Cs sm).km.get 52 = some 538969543 := by kernel_rfl
theorem km53 : (Cs sm).km.get 53 = some 34733 := by kernel_rfl
theorem km54 : (Cs sm).km.get 54 = some 4202163 := by kernel_rfl
theorem km55 : (Cs sm).km.get 55 = some 123053 := by kernel_rfl
theorem km56 : (Cs sm).km.get 56 = some 1083 := by kernel_rfl
theorem km57 : (Cs sm).km.get 57 = some 21 := by kernel_rfl
theorem km58 : (Cs sm).km.get 58 = some 477 := by kernel_rfl
theorem km70 : (Cs sm).km.get 70 = some 5 := by kernel_rfl
theorem km71 : (Cs sm).km.get 71 = some 5 := by kernel_rfl
theorem km72 : (Cs sm).km.get 72 = some 31 := by kernel_rfl
theorem km73 : (Cs sm).km.get 73 = some 8271 := by kernel_rfl
theorem km74 : (Cs sm).km.get 74 = some 1079 := by kernel_rfl
theorem km75 : (Cs sm).km.get 75 = some 19 := by kernel_rfl
theorem km76 : (Cs sm).km.get 76 = some 19 := by kernel_rfl
theorem km77 : (Cs sm).km.get 77 = some 131187 := by kernel_rfl
theorem km78 : (Cs sm).km.get 78 = some 19 := by kernel_rfl
theorem km79 : (Cs sm).km.get 79 = some 8396467 := by kernel_rfl
theorem km8 : (Cs sm).km.get 8 = some 73786985365943363571 := by kernel_rfl
theorem km9 : (Cs sm).km.get 9 = some 1438407933501654345132302410852585970851807219 := by kernel_rfl
theorem mi127 : mapInt (Cs sm) 127 = some (.i64, 4) := by kernel_rfl
theorem mi186 : mapInt (Cs sm) 186 = some (.i64, 66) := by kernel_rfl
theorem ro30 : (Cs sm).row 30 = some (21, 1, 4, [.int .i32 0]) := by kernel_rfl
theorem ro37 : (Cs sm).row 37 = some (117, 2, 16, [.int .i64 0, .int .i64 0]) := by kernel_rfl
theorem ro83 : (Cs sm).row 83 = some (66, 5, 64, [.int .i64 0, .slice none 0 0, .string .empty, .int .i64 0, .bool false]) := by kernel_rfl
theorem ro86 : (Cs sm).row 86 = some (70, 4, 40, [.int .i64 0, .slice none 0 0, .int .u32 0, .bool false]) := by kernel_rfl
theorem sl103 : sliceT (Cs sm) 103 = true := by kernel_rfl
theorem sl106 : sliceT (Cs sm) 106 = true := by kernel_rfl
theorem sl120 : sliceT (Cs sm) 120 = true := by kernel_rfl
theorem sl125 : sliceT (Cs sm) 125 = true := by kernel_rfl
theorem sl292 : sliceT (Cs sm) 292 = true := by kernel_rfl
theorem sl30 : sliceT (Cs sm) 30 = true := by kernel_rfl
theorem sl37 : sliceT (Cs sm) 37 = true := by kernel_rfl
theorem sl48 : sliceT (Cs sm) 48 = true := by kernel_rfl
theorem sl83 : sliceT (Cs sm) 83 = true := by kernel_rfl
theorem sl86 : sliceT (Cs sm) 86 = true := by kernel_rfl
theorem ze113 : (Cs sm).zero 113 = some (.agg #[.int .i64 0, .int .i64 0]) := by kernel_rfl
theorem ze4 : (Cs sm).zero 4 = some (.bool false) := by kernel_rfl
theorem ze55 : (Cs sm).zero 55 = some (.int .i64 0) := by kernel_rfl
theorem ze66 : (Cs sm).zero 66 = some (.agg #[.int .i64 0, .slice none 0 0, .string .empty, .int .i64 0, .bool false]) := by kernel_rfl
theorem ze70 : (Cs sm).zero 70 = some (.agg #[.int .i64 0, .slice none 0 0, .int .u32 0, .bool false]) := by kernel_rfl
def plL : List ((Nat) × (Bool)) := [(186, true), (2, true), (21, true), (237, true), (3, true), (30, true), (34, true), (36, true), (37, true), (4, true), (55, true), (86, true)]
theorem plA : ∀ p ∈ plL, (fun (k : Nat) (v : Bool) => plainT (Cs sm) k = v) p.1 p.2 := all_cons (by show _ = _; kernel_rfl) ( all_cons (by show _ = _; kernel_rfl) ( all_cons (by show _ = _; kernel_rfl) ( all_cons (by show _ = _; kernel_rfl) ( all_cons (by show _ = _; kernel_rfl) ( all_cons (by show _ = _; kernel_rfl) ( all_cons (by show _ = _; kernel_rfl) ( all_cons (by show _ = _; kernel_rfl) ( all_cons (by show _ = _; kernel_rfl) ( all_cons (by show _ = _; kernel_rfl) ( all_cons (by show _ = _; kernel_rfl) ( all_cons (by show _ = _; kernel_rfl) (all_nil))))))))))))
theorem pl_ {k : Nat} {v : Bool} (h : plL.lookup k = some v) : plainT (Cs sm) k = v := tab_row (P := fun (k : Nat) (v : Bool) => plainT (Cs sm) k = v) (plA (sm := sm)) h
def agL : List ((Nat) × (Nat)) := [(113, 2), (234, 3), (66, 5), (70, 4)]
theorem agA : ∀ p ∈ agL, (fun (k : Nat) (v : Nat) => aggT (Cs sm) k = some v) p.1 p.2 := all_cons (by show _ = _; kernel_rfl) ( all_cons (by show _ = _; kernel_rfl) ( all_cons (by show _ = _; kernel_rfl) ( all_cons (by show _ = _; kernel_rfl) (all_nil))))
theorem ag_ {k : Nat} {v : Nat} (h : agL.lookup k = some v) : aggT (Cs sm) k = some v := tab_row (P := fun (k : Nat) (v : Nat) => aggT (Cs sm) k = some v) (agA (sm := sm)) h
def szL : List ((Nat) × (Nat)) := [(113, 2), (21, 1), (234, 3), (3, 1), (30, 1), (66, 5), (70, 4), (86, 1)]
theorem szA : ∀ p ∈ szL, (fun (k : Nat) (v : Nat) => (Cs sm).size k = some v) p.1 p.2 := all_cons (by show _ = _; kernel_rfl) ( all_cons (by show _ = _; kernel_rfl) ( all_cons (by show _ = _; kernel_rfl) ( all_cons (by show _ = _; kernel_rfl) ( all_cons (by show _ = _; kernel_rfl) ( all_cons (by show _ = _; kernel_rfl) ( all_cons (by show _ = _; kernel_rfl) ( all_cons (by show _ = _; kernel_rfl) (all_nil))))))))
theorem sz_ {k : Nat} {v : Nat} (h : szL.lookup k = some v) : (Cs sm).size k = some v := tab_row (P := fun (k : Nat) (v : Nat) => (Cs sm).size k = some v) (szA (sm := sm)) h
def zeL : List ((Nat) × (Value)) := [(113, (.agg #[.int .i64 0, .int .i64 0])), (4, (.bool false)), (55, (.int .i64 0)), (66, (.agg #[.int .i64 0, .slice none 0 0, .string .empty, .int .i64 0, .bool false])), (70, (.agg #[.int .i64 0, .slice none 0 0, .int .u32 0, .bool false]))]
theorem zeA : ∀ p ∈ zeL, (fun (k : Nat) (v : Value) => (Cs sm).zero k = some v) p.1 p.2 := all_cons (by show _ = _; kernel_rfl) ( all_cons (by show _ = _; kernel_rfl) ( all_cons (by show _ = _; kernel_rfl) ( all_cons (by show _ = _; kernel_rfl) ( all_cons (by show _ = _; kernel_rfl) (all_nil)))))
theorem ze_ {k : Nat} {v : Value} (h : zeL.lookup k = some v) : (Cs sm).zero k = some v := tab_row (P := fun (k : Nat) (v : Value) => (Cs sm).zero k = some v) (zeA (sm := sm)) h
def faL : List ((Nat × Nat) × (Nat × TypeId)) := [((108, 0), (0, 3)), ((108, 1), (1, 70)), ((113, 0), (0, 3)), ((113, 1), (1, 3)), ((117, 1), (1, 2)), ((188, 0), (0, 186)), ((191, 0), (0, 86)), ((191, 1), (1, 3)), ((66, 0), (0, 3)), ((66, 1), (1, 30)), ((66, 3), (3, 2)), ((66, 4), (4, 4)), ((70, 0), (0, 3)), ((70, 1), (1, 30)), ((70, 2), (2, 36)), ((70, 3), (3, 4))]
theorem faA : ∀ p ∈ faL, (fun (k : Nat × Nat) (v : Nat × TypeId) => fieldAt (Cs sm) k.1 k.2 = some v) p.1 p.2 := all_cons (by show _ = _; kernel_rfl) ( all_cons (by show _ = _; kernel_rfl) ( all_cons (by show _ = _; kernel_rfl) ( all_cons (by show _ = _; kernel_rfl) ( all_cons (by show _ = _; kernel_rfl) ( all_cons (by show _ = _; kernel_rfl) ( all_cons (by show _ = _; kernel_rfl) ( all_cons (by show _ = _; kernel_rfl) ( all_cons (by show _ = _; kernel_rfl) ( all_cons (by show _ = _; kernel_rfl) ( all_cons (by show _ = _; kernel_rfl) ( all_cons (by show _ = _; kernel_rfl) ( all_cons (by show _ = _; kernel_rfl) ( all_cons (by show _ = _; kernel_rfl) ( all_cons (by show _ = _; kernel_rfl) ( all_cons (by show _ = _; kernel_rfl) (all_nil))))))))))))))))
theorem fa_ {t f : Nat} {v : Nat × TypeId} (h : faL.lookup (t, f) = some v) : fieldAt (Cs sm) t f = some v := tab_row (P := fun (k : Nat × Nat) (v : Nat × TypeId) => fieldAt (Cs sm) k.1 k.2 = some v) (faA (sm := sm)) h
def slL : List ((Nat) × (Bool)) := [(103, true), (106, true), (120, true), (125, true), (292, true), (30, true), (37, true), (48, true), (83, true), (86, true)]
theorem slA : ∀ p ∈ slL, (fun (k : Nat) (v : Bool) => sliceT (Cs sm) k = v) p.1 p.2 := all_cons (by show _ = _; kernel_rfl) ( all_cons (by show _ = _; kernel_rfl) ( all_cons (by show _ = _; kernel_rfl) ( all_cons (by show _ = _; kernel_rfl) ( all_cons (by show _ = _; kernel_rfl) ( all_cons (by show _ = _; kernel_rfl) ( all_cons (by show _ = _; kernel_rfl) ( all_cons (by show _ = _; kernel_rfl) ( all_cons (by show _ = _; kernel_rfl) ( all_cons (by show _ = _; kernel_rfl) (all_nil))))))))))
theorem sl_ {k : Nat} {v : Bool} (h : slL.lookup k = some v) : sliceT (Cs sm) k = v := tab_row (P := fun (k : Nat) (v : Bool) => sliceT (Cs sm) k = v) (slA (sm := sm)) h
def mtL : List ((Nat) × (Bool)) := [(127, true)]
theorem mtA : ∀ p ∈ mtL, (fun (k : Nat) (v : Bool) => mapT (Cs sm) k = v) p.1 p.2 := all_cons (by show _ = _; kernel_rfl) (all_nil)
theorem mt_ {k : Nat} {v : Bool} (h : mtL.lookup k = some v) : mapT (Cs sm) k = v := tab_row (P := fun (k : Nat) (v : Bool) => mapT (Cs sm) k = v) (mtA (sm := sm)) h
def srL : List ((Nat) × (Bool)) := [(9, true)]
theorem srA : ∀ p ∈ srL, (fun (k : Nat) (v : Bool) => strT (Cs sm) k = v) p.1 p.2 := all_cons (by show _ = _; kernel_rfl) (all_nil)
theorem sr_ {k : Nat} {v : Bool} (h : srL.lookup k = some v) : strT (Cs sm) k = v := tab_row (P := fun (k : Nat) (v : Bool) => strT (Cs sm) k = v) (srA (sm := sm)) h
def unL : List ((Nat × Nat) × (Bool)) := [((20, 2), true), ((30, 1), true), ((34, 2), true), ((4, 3), true), ((62, 0), true), ((63, 0), true)]
theorem unA : ∀ p ∈ unL, (fun (k : Nat × Nat) (v : Bool) => undIs (Cs sm) k.1 k.2 = v) p.1 p.2 := all_cons (by show _ = _; kernel_rfl) ( all_cons (by show _ = _; kernel_rfl) ( all_cons (by show _ = _; kernel_rfl) ( all_cons (by show _ = _; kernel_rfl) ( all_cons (by show _ = _; kernel_rfl) ( all_cons (by show _ = _; kernel_rfl) (all_nil))))))
theorem un_ {t f : Nat} {v : Bool} (h : unL.lookup (t, f) = some v) : undIs (Cs sm) t f = v := tab_row (P := fun (k : Nat × Nat) (v : Bool) => undIs (Cs sm) k.1 k.2 = v) (unA (sm := sm)) h
def btL : List ((Nat) × (List (Nat × Nat) × List Value)) := [(113, ([(0, 1), (1, 1)], [.int .i64 0, .int .i64 0])), (117, ([(0, 1), (1, 1)], [.int .i64 0, .int .i64 0])), (188, ([(0, 1)], [.map none])), (191, ([(0, 1), (1, 1)], [.slice none 0 0, .int .i64 0])), (254, ([(0, 1), (1, 1)], [.string .empty, .nilIface])), (66, ([(0, 1), (1, 1), (2, 1), (3, 1), (4, 1)], [.int .i64 0, .slice none 0 0, .string .empty, .int .i64 0, .bool false])), (70, ([(0, 1), (1, 1), (2, 1), (3, 1)], [.int .i64 0, .slice none 0 0, .int .u32 0, .bool false]))]
theorem btA : ∀ p ∈ btL, (fun (k : Nat) (v : List (Nat × Nat) × List Value) => buildT (Cs sm) k = some v) p.1 p.2 := all_cons (by show _ = _; kernel_rfl) ( all_cons (by show _ = _; kernel_rfl) ( all_cons (by show _ = _; kernel_rfl) ( all_cons (by show _ = _; kernel_rfl) ( all_cons (by show _ = _; kernel_rfl) ( all_cons (by show _ = _; kernel_rfl) ( all_cons (by show _ = _; kernel_rfl) (all_nil)))))))
theorem bt_ {k : Nat} {v : List (Nat × Nat) × List Value} (h : btL.lookup k = some v) : buildT (Cs sm) k = some v := tab_row (P := fun (k : Nat) (v : List (Nat × Nat) × List Value) => buildT (Cs sm) k = some v) (btA (sm := sm)) h
def roL : List ((Nat) × (TypeId × Nat × Nat × List Value)) := [(30, (21, 1, 4, [.int .i32 0])), (37, (117, 2, 16, [.int .i64 0, .int .i64 0])), (83, (66, 5, 64, [.int .i64 0, .slice none 0 0, .string .empty, .int .i64 0, .bool false])), (86, (70, 4, 40, [.int .i64 0, .slice none 0 0, .int .u32 0, .bool false]))]
theorem roA : ∀ p ∈ roL, (fun (k : Nat) (v : TypeId × Nat × Nat × List Value) => (Cs sm).row k = some v) p.1 p.2 := all_cons (by show _ = _; kernel_rfl) ( all_cons (by show _ = _; kernel_rfl) ( all_cons (by show _ = _; kernel_rfl) ( all_cons (by show _ = _; kernel_rfl) (all_nil))))
theorem ro_ {k : Nat} {v : TypeId × Nat × Nat × List Value} (h : roL.lookup k = some v) : (Cs sm).row k = some v := tab_row (P := fun (k : Nat) (v : TypeId × Nat × Nat × List Value) => (Cs sm).row k = some v) (roA (sm := sm)) h
def ifL : List ((Nat) × (Bool)) := [(181, false), (252, false), (55, false), (9, false)]
theorem ifA : ∀ p ∈ ifL, (fun (k : Nat) (v : Bool) => ifaceT (Cs sm) k = v) p.1 p.2 := all_cons (by show _ = _; kernel_rfl) ( all_cons (by show _ = _; kernel_rfl) ( all_cons (by show _ = _; kernel_rfl) ( all_cons (by show _ = _; kernel_rfl) (all_nil))))
theorem if_ {k : Nat} {v : Bool} (h : ifL.lookup k = some v) : ifaceT (Cs sm) k = v := tab_row (P := fun (k : Nat) (v : Bool) => ifaceT (Cs sm) k = v) (ifA (sm := sm)) h
def cvL : List ((Nat × Nat) × (IntKind)) := [((3, 21), .i32)]
theorem cvA : ∀ p ∈ cvL, (fun (k : Nat × Nat) (v : IntKind) => convK (Cs sm) k.1 k.2 = some v) p.1 p.2 := all_cons (by show _ = _; kernel_rfl) (all_nil)
theorem cv_ {t f : Nat} {v : IntKind} (h : cvL.lookup (t, f) = some v) : convK (Cs sm) t f = some v := tab_row (P := fun (k : Nat × Nat) (v : IntKind) => convK (Cs sm) k.1 k.2 = some v) (cvA (sm := sm)) h
def elL : List ((Nat) × (Nat)) := [(103, 1), (106, 5), (120, 1), (125, 1), (292, 1), (30, 1), (37, 2), (48, 1), (83, 5), (86, 4)]
theorem elA : ∀ p ∈ elL, (fun (k : Nat) (v : Nat) => elemAt (Cs sm) k = some v) p.1 p.2 := all_cons (by show _ = _; kernel_rfl) ( all_cons (by show _ = _; kernel_rfl) ( all_cons (by show _ = _; kernel_rfl) ( all_cons (by show _ = _; kernel_rfl) ( all_cons (by show _ = _; kernel_rfl) ( all_cons (by show _ = _; kernel_rfl) ( all_cons (by show _ = _; kernel_rfl) ( all_cons (by show _ = _; kernel_rfl) ( all_cons (by show _ = _; kernel_rfl) ( all_cons (by show _ = _; kernel_rfl) (all_nil))))))))))
theorem el_ {k : Nat} {v : Nat} (h : elL.lookup k = some v) : elemAt (Cs sm) k = some v := tab_row (P := fun (k : Nat) (v : Nat) => elemAt (Cs sm) k = some v) (elA (sm := sm)) h
def miL : List ((Nat) × (IntKind × TypeId)) := [(127, (.i64, 4)), (186, (.i64, 66))]
theorem miA : ∀ p ∈ miL, (fun (k : Nat) (v : IntKind × TypeId) => mapInt (Cs sm) k = some v) p.1 p.2 := all_cons (by show _ = _; kernel_rfl) ( all_cons (by show _ = _; kernel_rfl) (all_nil))
theorem mi_ {k : Nat} {v : IntKind × TypeId} (h : miL.lookup k = some v) : mapInt (Cs sm) k = some v := tab_row (P := fun (k : Nat) (v : IntKind × TypeId) => mapInt (Cs sm) k = some v) (miA (sm := sm)) h
def ciL : List ((Nat) × (Bool)) := [(55, true)]
theorem ciA : ∀ p ∈ ciL, (fun (k : Nat) (v : Bool) => cmpI (Cs sm) k = v) p.1 p.2 := all_cons (by show _ = _; kernel_rfl) (all_nil)
theorem ci_ {k : Nat} {v : Bool} (h : ciL.lookup k = some v) : cmpI (Cs sm) k = v := tab_row (P := fun (k : Nat) (v : Bool) => cmpI (Cs sm) k = v) (ciA (sm := sm)) h
end Go.Ab.Seat
