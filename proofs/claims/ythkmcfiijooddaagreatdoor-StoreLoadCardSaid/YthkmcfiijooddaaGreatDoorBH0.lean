/- What the program's types come to (printed by gen_types.py). -/
import Derived.Test.YthkmcfiijooddaaGreatDoorBS1
import Derived.Test.YthkmcfiijooddaaGreatDoorE43
import Derived.KernelRfl
set_option linter.unusedVariables false
set_option linter.unusedSimpArgs false
namespace Go.Ab.Seat
open Go.Extern Go.Proofs
set_option maxRecDepth 1000000
variable {sm : Nat → Option (List Value → M Value)}
theorem ag43 : aggT (Cs sm) 43 = some 13 := by kernel_rfl
theorem ag59 : aggT (Cs sm) 59 = some 5 := by kernel_rfl
theorem ag70 : aggT (Cs sm) 70 = some 5 := by kernel_rfl
theorem ag83 : aggT (Cs sm) 83 = some 4 := by kernel_rfl
theorem el134 : elemAt (Cs sm) 134 = some 4 := by kernel_rfl
theorem el22 : elemAt (Cs sm) 22 = some 1 := by kernel_rfl
theorem el33 : elemAt (Cs sm) 33 = some 1 := by kernel_rfl
theorem el40 : elemAt (Cs sm) 40 = some 1 := by kernel_rfl
theorem el45 : elemAt (Cs sm) 45 = some 1 := by kernel_rfl
theorem el49 : elemAt (Cs sm) 49 = some 5 := by kernel_rfl
theorem el68 : elemAt (Cs sm) 68 = some 5 := by kernel_rfl
theorem ex10 : (Cs sm).ex 10 = none := by kernel_rfl
theorem ex11 : (Cs sm).ex 11 = none := by kernel_rfl
theorem ex12 : (Cs sm).ex 12 = none := by kernel_rfl
theorem ex124 : (Cs sm).ex 124 = none := by kernel_rfl
theorem ex13 : (Cs sm).ex 13 = none := by kernel_rfl
theorem ex130 : (Cs sm).ex 130 = none := by kernel_rfl
theorem ex14 : (Cs sm).ex 14 = none := by kernel_rfl
theorem ex16 : (Cs sm).ex 16 = none := by kernel_rfl
theorem ex168 : (Cs sm).ex 168 = none := by kernel_rfl
theorem ex20 : (Cs sm).ex 20 = none := by kernel_rfl
theorem ex21 : (Cs sm).ex 21 = none := by kernel_rfl
theorem ex22 : (Cs sm).ex 22 = none := by kernel_rfl
theorem ex23 : (Cs sm).ex 23 = none := by kernel_rfl
theorem ex24 : (Cs sm).ex 24 = none := by kernel_rfl
theorem ex25 : (Cs sm).ex 25 = none := by kernel_rfl
theorem ex26 : (Cs sm).ex 26 = none := by kernel_rfl
theorem ex27 : (Cs sm).ex 27 = none := by kernel_rfl
theorem ex28 : (Cs sm).ex 28 = none := by kernel_rfl
theorem ex29 : (Cs sm).ex 29 = none := by kernel_rfl
theorem ex3 : (Cs sm).ex 3 = none := by kernel_rfl
theorem ex30 : (Cs sm).ex 30 = none := by kernel_rfl
theorem ex31 : (Cs sm).ex 31 = none := by kernel_rfl
theorem ex32 : (Cs sm).ex 32 = none := by kernel_rfl
theorem ex33 : (Cs sm).ex 33 = none := by kernel_rfl
theorem ex34 : (Cs sm).ex 34 = none := by kernel_rfl
theorem ex35 : (Cs sm).ex 35 = none := by kernel_rfl
theorem ex36 : (Cs sm).ex 36 = none := by kernel_rfl
theorem ex37 : (Cs sm).ex 37 = none := by kernel_rfl
theorem ex38 : (Cs sm).ex 38 = none := by kernel_rfl
theorem ex39 : (Cs sm).ex 39 = none := by kernel_rfl
theorem ex4 : (Cs sm).ex 4 = none := by kernel_rfl
theorem ex5 : (Cs sm).ex 5 = none := by kernel_rfl
theorem ex53 : (Cs sm).ex 53 = none := by kernel_rfl
theorem ex54 : (Cs sm).ex 54 = none := by kernel_rfl
theorem ex58 : (Cs sm).ex 58 = none := by kernel_rfl
theorem ex6 : (Cs sm).ex 6 = none := by kernel_rfl
theorem ex64 : (Cs sm).ex 64 = none := by kernel_rfl
theorem ex65 : (Cs sm).ex 65 = none := by kernel_rfl
theorem ex66 : (Cs sm).ex 66 = none := by kernel_rfl
theorem ex67 : (Cs sm).ex 67 = none := by kernel_rfl
theorem ex68 : (Cs sm).ex 68 = none := by kernel_rfl
theorem ex69 : (Cs sm).ex 69 = none := by kernel_rfl
theorem ex7 : (Cs sm).ex 7 = none := by kernel_rfl
theorem ex70 : (Cs sm).ex 70 = none := by kernel_rfl
theorem ex71 : (Cs sm).ex 71 = none := by kernel_rfl
theorem ex8 : (Cs sm).ex 8 = none := by kernel_rfl
theorem ex91 : (Cs sm).ex 91 = none := by kernel_rfl
theorem fn10 : (Cs sm).fn.get 10 = some Tryz.f10 := by kernel_rfl
theorem fn11 : (Cs sm).fn.get 11 = some Tryz.f11 := by kernel_rfl
theorem fn12 : (Cs sm).fn.get 12 = some Tryz.f12 := by kernel_rfl
theorem fn124 : (Cs sm).fn.get 124 = some Tryz.f124 := by kernel_rfl
theorem fn13 : (Cs sm).fn.get 13 = some Tryz.f13 := by kernel_rfl
theorem fn130 : (Cs sm).fn.get 130 = some Tryz.f130 := by kernel_rfl
theorem fn14 : (Cs sm).fn.get 14 = some Tryz.f14 := by kernel_rfl
theorem fn16 : (Cs sm).fn.get 16 = some Tryz.f16 := by kernel_rfl
theorem fn168 : (Cs sm).fn.get 168 = some Tryz.f168 := by kernel_rfl
theorem fn20 : (Cs sm).fn.get 20 = some Tryz.f20 := by kernel_rfl
theorem fn21 : (Cs sm).fn.get 21 = some Tryz.f21 := by kernel_rfl
theorem fn22 : (Cs sm).fn.get 22 = some Tryz.f22 := by kernel_rfl
theorem fn23 : (Cs sm).fn.get 23 = some Tryz.f23 := by kernel_rfl
theorem fn24 : (Cs sm).fn.get 24 = some Tryz.f24 := by kernel_rfl
theorem fn25 : (Cs sm).fn.get 25 = some Tryz.f25 := by kernel_rfl
theorem fn26 : (Cs sm).fn.get 26 = some Tryz.f26 := by kernel_rfl
theorem fn27 : (Cs sm).fn.get 27 = some Tryz.f27 := by kernel_rfl
theorem fn28 : (Cs sm).fn.get 28 = some Tryz.f28 := by kernel_rfl
theorem fn29 : (Cs sm).fn.get 29 = some Tryz.f29 := by kernel_rfl
theorem fn3 : (Cs sm).fn.get 3 = some Tryz.f3 := by kernel_rfl
theorem fn30 : (Cs sm).fn.get 30 = some Tryz.f30 := by kernel_rfl
theorem fn31 : (Cs sm).fn.get 31 = some Tryz.f31 := by kernel_rfl
theorem fn32 : (Cs sm).fn.get 32 = some Tryz.f32 := by kernel_rfl
theorem fn33 : (Cs sm).fn.get 33 = some Tryz.f33 := by kernel_rfl
theorem fn34 : (Cs sm).fn.get 34 = some Tryz.f34 := by kernel_rfl
theorem fn35 : (Cs sm).fn.get 35 = some Tryz.f35 := by kernel_rfl
theorem fn36 : (Cs sm).fn.get 36 = some Tryz.f36 := by kernel_rfl
theorem fn37 : (Cs sm).fn.get 37 = some Tryz.f37 := by kernel_rfl
theorem fn38 : (Cs sm).fn.get 38 = some Tryz.f38 := by kernel_rfl
theorem fn39 : (Cs sm).fn.get 39 = some Tryz.f39 := by kernel_rfl
theorem fn4 : (Cs sm).fn.get 4 = some Tryz.f4 := by kernel_rfl
theorem fn5 : (Cs sm).fn.get 5 = some Tryz.f5 := by kernel_rfl
theorem fn53 : (Cs sm).fn.get 53 = some Tryz.f53 := by kernel_rfl
theorem fn54 : (Cs sm).fn.get 54 = some Tryz.f54 := by kernel_rfl
theorem fn58 : (Cs sm).fn.get 58 = some Tryz.f58 := by kernel_rfl
theorem fn6 : (Cs sm).fn.get 6 = some Tryz.f6 := by kernel_rfl
theorem fn64 : (Cs sm).fn.get 64 = some Tryz.f64 := by kernel_rfl
theorem fn65 : (Cs sm).fn.get 65 = some Tryz.f65 := by kernel_rfl
theorem fn66 : (Cs sm).fn.get 66 = some Tryz.f66 := by kernel_rfl
theorem fn67 : (Cs sm).fn.get 67 = some Tryz.f67 := by kernel_rfl
theorem fn68 : (Cs sm).fn.get 68 = some Tryz.f68 := by kernel_rfl
theorem fn69 : (Cs sm).fn.get 69 = some Tryz.f69 := by kernel_rfl
theorem fn7 : (Cs sm).fn.get 7 = some Tryz.f7 := by kernel_rfl
theorem fn70 : (Cs sm).fn.get 70 = some Tryz.f70 := by kernel_rfl
theorem fn71 : (Cs sm).fn.get 71 = some Tryz.f71 := by kernel_rfl
theorem fn8 : (Cs sm).fn.get 8 = some Tryz.f8 := by kernel_rfl
theorem fn91 : (Cs sm).fn.get 91 = some Tryz.f91 := by kernel_rfl
theorem km10 : (Cs sm).km.get 10 = some 37182857619891580687 := by kernel_rfl
theorem km11 : (Cs sm).km.get 11 = some 1 := by kernel_rfl
theorem km12 : (Cs sm).km.get 12 = some 276859935 := by kernel_rfl
theorem km124 : (Cs sm).km.get 124 = some 19 := by kernel_rfl
theorem km13 : (Cs sm).km.get 13 = some 131187 := by kernel_rfl
theorem km130 : (Cs sm).km.get 130 = some 21 := by kernel_rfl
theorem km14 : (Cs sm).km.get 14 = some 2324421457322572831 := by kernel_rfl
theorem km16 : (Cs sm).km.get 16 = some 4157 := by kernel_rfl
theorem km168 : (Cs sm).km.get 168 = some 16806963 := by kernel_rfl
theorem km20 : (Cs sm).km.get 20 = some 633318697606845 := by kernel_rfl
theorem km21 : (Cs sm).km.get 21 = some 4611686018427388381 := by kernel_rfl
theorem km22 : (Cs sm).km.get 22 = some 33584179 := by kernel_rfl
theorem km23 : (Cs sm).km.get 23 = some 123053 := by kernel_rfl
theorem km24 : (Cs sm).km.get 24 = some 33555187 := by kernel_rfl
theorem km25 : (Cs sm).km.get 25 = some 2097267 := by kernel_rfl
theorem km26 : (Cs sm).km.get 26 = some 31 := by kernel_rfl
theorem km27 : (Cs sm).km.get 27 = some 34733 := by kernel_rfl
theorem km28 : (Cs sm).km.get 28 = some 5 := by kernel_rfl
theorem km29 : (Cs sm).km.get 29 = some 538969543 := by kernel_rfl
theorem km3 : (Cs sm).km.get 3 = some 12676506078430480573387591638047 := by kernel_rfl
theorem km30 : (Cs sm).km.get 30 = some 8396467 := by kernel_rfl
theorem km31 : (Cs sm).km.get 31 = some 19 := by kernel_rfl
theorem km32 : (Cs sm).km.get 32 = some 146096135199 := by kernel_rfl
theorem km33 : (Cs sm).km.get 33 = some 1114567 := by kernel_rfl
theorem km34 : (Cs sm).km.get 34 = some 4202163 := by kernel_rfl
theorem km35 : (Cs sm).km.get 35 = some 68719505651 := by kernel_rfl
theorem km36 : (Cs sm).km.get 36 = some 34359752819 := by kernel_rfl
theorem km37 : (Cs sm).km.get 37 = some 5 := by kernel_rfl
theorem km38 : (Cs sm).km.get 38 = some 1083 := by kernel_rfl
theorem km39 : (Cs sm).km.get 39 = some 157 := by kernel_rfl
theorem km4 : (Cs sm).km.get 4 = some 288230376688664563 := by kernel_rfl
theorem km5 : (Cs sm).km.get 5 = some 5070757294533627858313141682163 := by kernel_rfl
theorem km53 : (Cs sm).km.get 53 = some 5 := by kernel_rfl
theorem km54 : (Cs sm).km.get 54 = some 7 := by kernel_rfl
theorem km58 : (Cs sm).km.get 58 = some 21 := by kernel_rfl
theorem km6 : (Cs sm).km.get 6 = some 11692013098647223346897187290401296077260332466163 := by kernel_rfl
theorem km64 : (Cs sm).km.get 64 = some 7 := by kernel_rfl
theorem km65 : (Cs sm).km.get 65 = some 8395827 := by kernel_rfl
theorem km66 : (Cs sm).km.get 66 = some 16806963 := by kernel_rfl
theorem km67 : (Cs sm).km.get 67 = some 2100765 := by kernel_rfl
theorem km68 : (Cs sm).km.get 68 = some 274877909051 := by kernel_rfl
theorem km69 : (Cs sm).km.get 69 = some 5 := by kernel_rfl
theorem km7 : (Cs sm).km.get 7 = some 166153519357526365143686339041992691 := by kernel_rfl
theorem km70 : (Cs sm).km.get 70 = some 2067 := by kernel_rfl
theorem km71 : (Cs sm).km.get 71 = some 7 := by kernel_rfl
theorem km8 : (Cs sm).km.get 8 = some 324518592495168681903152685023219 := by kernel_rfl
theorem km91 : (Cs sm).km.get 91 = some 5 := by kernel_rfl
theorem mi113 : mapInt (Cs sm) 113 = some (.i64, 59) := by kernel_rfl
theorem mi65 : mapInt (Cs sm) 65 = some (.i64, 4) := by kernel_rfl
theorem ro134 : (Cs sm).row 134 = some (83, 4, 40, [.int .i64 0, .slice none 0 0, .int .u32 0, .bool false]) := by kernel_rfl
theorem ro22 : (Cs sm).row 22 = some (33, 1, 24, [.slice none 0 0]) := by kernel_rfl
theorem ro33 : (Cs sm).row 33 = some (21, 1, 4, [.int .i32 0]) := by kernel_rfl
theorem ro40 : (Cs sm).row 40 = some (9, 1, 16, [.string .empty]) := by kernel_rfl
theorem ro45 : (Cs sm).row 45 = some (3, 1, 8, [.int .i64 0]) := by kernel_rfl
theorem ro49 : (Cs sm).row 49 = some (59, 5, 64, [.int .i64 0, .slice none 0 0, .string .empty, .int .i64 0, .bool false]) := by kernel_rfl
theorem sl134 : sliceT (Cs sm) 134 = true := by kernel_rfl
theorem sl22 : sliceT (Cs sm) 22 = true := by kernel_rfl
theorem sl33 : sliceT (Cs sm) 33 = true := by kernel_rfl
theorem sl40 : sliceT (Cs sm) 40 = true := by kernel_rfl
theorem sl45 : sliceT (Cs sm) 45 = true := by kernel_rfl
theorem sl49 : sliceT (Cs sm) 49 = true := by kernel_rfl
theorem sl68 : sliceT (Cs sm) 68 = true := by kernel_rfl
theorem ze4 : (Cs sm).zero 4 = some (.bool false) := by kernel_rfl
theorem ze43 : (Cs sm).zero 43 = some (.agg #[.int .i64 0, .bool false, .string .empty, .int .i64 0, .int .i64 0, .int .i64 0, .int .i64 0, .int .i64 0, .int .i64 0, .int .i64 0, .int .i64 0, .int .i64 0, .int .i64 0]) := by kernel_rfl
theorem ze59 : (Cs sm).zero 59 = some (.agg #[.int .i64 0, .slice none 0 0, .string .empty, .int .i64 0, .bool false]) := by kernel_rfl
theorem ze70 : (Cs sm).zero 70 = some (.agg #[.int .i64 0, .int .i64 0, .slice none 0 0, .string .empty, .int .i64 0]) := by kernel_rfl
theorem ze83 : (Cs sm).zero 83 = some (.agg #[.int .i64 0, .slice none 0 0, .int .u32 0, .bool false]) := by kernel_rfl
def plL : List ((Nat) × (Bool)) := [(103, true), (104, true), (105, true), (106, true), (113, true), (134, true), (2, true), (21, true), (26, true), (3, true), (33, true), (4, true), (49, true), (9, true)]
theorem plA : ∀ p ∈ plL, (fun (k : Nat) (v : Bool) => plainT (Cs sm) k = v) p.1 p.2 := all_cons (by show _ = _; kernel_rfl) ( all_cons (by show _ = _; kernel_rfl) ( all_cons (by show _ = _; kernel_rfl) ( all_cons (by show _ = _; kernel_rfl) ( all_cons (by show _ = _; kernel_rfl) ( all_cons (by show _ = _; kernel_rfl) ( all_cons (by show _ = _; kernel_rfl) ( all_cons (by show _ = _; kernel_rfl) ( all_cons (by show _ = _; kernel_rfl) ( all_cons (by show _ = _; kernel_rfl) ( all_cons (by show _ = _; kernel_rfl) ( all_cons (by show _ = _; kernel_rfl) ( all_cons (by show _ = _; kernel_rfl) ( all_cons (by show _ = _; kernel_rfl) (all_nil))))))))))))))
theorem pl_ {k : Nat} {v : Bool} (h : plL.lookup k = some v) : plainT (Cs sm) k = v := tab_row (P := fun (k : Nat) (v : Bool) => plainT (Cs sm) k = v) (plA (sm := sm)) h
def agL : List ((Nat) × (Nat)) := [(43, 13), (59, 5), (70, 5), (83, 4)]
theorem agA : ∀ p ∈ agL, (fun (k : Nat) (v : Nat) => aggT (Cs sm) k = some v) p.1 p.2 := all_cons (by show _ = _; kernel_rfl) ( all_cons (by show _ = _; kernel_rfl) ( all_cons (by show _ = _; kernel_rfl) ( all_cons (by show _ = _; kernel_rfl) (all_nil))))
theorem ag_ {k : Nat} {v : Nat} (h : agL.lookup k = some v) : aggT (Cs sm) k = some v := tab_row (P := fun (k : Nat) (v : Nat) => aggT (Cs sm) k = some v) (agA (sm := sm)) h
def szL : List ((Nat) × (Nat)) := [(103, 1), (104, 1), (105, 1), (106, 1), (134, 1), (21, 1), (33, 1), (43, 13), (49, 1), (59, 5), (70, 5), (83, 4), (9, 1)]
theorem szA : ∀ p ∈ szL, (fun (k : Nat) (v : Nat) => (Cs sm).size k = some v) p.1 p.2 := all_cons (by show _ = _; kernel_rfl) ( all_cons (by show _ = _; kernel_rfl) ( all_cons (by show _ = _; kernel_rfl) ( all_cons (by show _ = _; kernel_rfl) ( all_cons (by show _ = _; kernel_rfl) ( all_cons (by show _ = _; kernel_rfl) ( all_cons (by show _ = _; kernel_rfl) ( all_cons (by show _ = _; kernel_rfl) ( all_cons (by show _ = _; kernel_rfl) ( all_cons (by show _ = _; kernel_rfl) ( all_cons (by show _ = _; kernel_rfl) ( all_cons (by show _ = _; kernel_rfl) ( all_cons (by show _ = _; kernel_rfl) (all_nil)))))))))))))
theorem sz_ {k : Nat} {v : Nat} (h : szL.lookup k = some v) : (Cs sm).size k = some v := tab_row (P := fun (k : Nat) (v : Nat) => (Cs sm).size k = some v) (szA (sm := sm)) h
def zeL : List ((Nat) × (Value)) := [(4, (.bool false)), (43, (.agg #[.int .i64 0, .bool false, .string .empty, .int .i64 0, .int .i64 0, .int .i64 0, .int .i64 0, .int .i64 0, .int .i64 0, .int .i64 0, .int .i64 0, .int .i64 0, .int .i64 0])), (59, (.agg #[.int .i64 0, .slice none 0 0, .string .empty, .int .i64 0, .bool false])), (70, (.agg #[.int .i64 0, .int .i64 0, .slice none 0 0, .string .empty, .int .i64 0])), (83, (.agg #[.int .i64 0, .slice none 0 0, .int .u32 0, .bool false]))]
theorem zeA : ∀ p ∈ zeL, (fun (k : Nat) (v : Value) => (Cs sm).zero k = some v) p.1 p.2 := all_cons (by show _ = _; kernel_rfl) ( all_cons (by show _ = _; kernel_rfl) ( all_cons (by show _ = _; kernel_rfl) ( all_cons (by show _ = _; kernel_rfl) ( all_cons (by show _ = _; kernel_rfl) (all_nil)))))
theorem ze_ {k : Nat} {v : Value} (h : zeL.lookup k = some v) : (Cs sm).zero k = some v := tab_row (P := fun (k : Nat) (v : Value) => (Cs sm).zero k = some v) (zeA (sm := sm)) h
def faL : List ((Nat × Nat) × (Nat × TypeId)) := [((108, 3), (3, 103)), ((108, 4), (4, 104)), ((108, 5), (5, 105)), ((108, 6), (6, 106)), ((115, 0), (0, 113)), ((125, 0), (0, 9)), ((125, 1), (1, 26)), ((136, 0), (0, 134)), ((136, 1), (1, 3)), ((57, 0), (0, 49)), ((59, 0), (0, 3)), ((59, 1), (1, 33)), ((59, 2), (2, 9)), ((59, 3), (3, 2)), ((59, 4), (4, 4)), ((70, 0), (0, 3)), ((70, 1), (1, 3)), ((70, 2), (2, 33)), ((70, 3), (3, 9)), ((70, 4), (4, 2)), ((83, 1), (1, 33))]
theorem faA : ∀ p ∈ faL, (fun (k : Nat × Nat) (v : Nat × TypeId) => fieldAt (Cs sm) k.1 k.2 = some v) p.1 p.2 := all_cons (by show _ = _; kernel_rfl) ( all_cons (by show _ = _; kernel_rfl) ( all_cons (by show _ = _; kernel_rfl) ( all_cons (by show _ = _; kernel_rfl) ( all_cons (by show _ = _; kernel_rfl) ( all_cons (by show _ = _; kernel_rfl) ( all_cons (by show _ = _; kernel_rfl) ( all_cons (by show _ = _; kernel_rfl) ( all_cons (by show _ = _; kernel_rfl) ( all_cons (by show _ = _; kernel_rfl) ( all_cons (by show _ = _; kernel_rfl) ( all_cons (by show _ = _; kernel_rfl) ( all_cons (by show _ = _; kernel_rfl) ( all_cons (by show _ = _; kernel_rfl) ( all_cons (by show _ = _; kernel_rfl) ( all_cons (by show _ = _; kernel_rfl) ( all_cons (by show _ = _; kernel_rfl) ( all_cons (by show _ = _; kernel_rfl) ( all_cons (by show _ = _; kernel_rfl) ( all_cons (by show _ = _; kernel_rfl) ( all_cons (by show _ = _; kernel_rfl) (all_nil)))))))))))))))))))))
theorem fa_ {t f : Nat} {v : Nat × TypeId} (h : faL.lookup (t, f) = some v) : fieldAt (Cs sm) t f = some v := tab_row (P := fun (k : Nat × Nat) (v : Nat × TypeId) => fieldAt (Cs sm) k.1 k.2 = some v) (faA (sm := sm)) h
def slL : List ((Nat) × (Bool)) := [(134, true), (22, true), (33, true), (40, true), (45, true), (49, true), (68, true)]
theorem slA : ∀ p ∈ slL, (fun (k : Nat) (v : Bool) => sliceT (Cs sm) k = v) p.1 p.2 := all_cons (by show _ = _; kernel_rfl) ( all_cons (by show _ = _; kernel_rfl) ( all_cons (by show _ = _; kernel_rfl) ( all_cons (by show _ = _; kernel_rfl) ( all_cons (by show _ = _; kernel_rfl) ( all_cons (by show _ = _; kernel_rfl) ( all_cons (by show _ = _; kernel_rfl) (all_nil)))))))
theorem sl_ {k : Nat} {v : Bool} (h : slL.lookup k = some v) : sliceT (Cs sm) k = v := tab_row (P := fun (k : Nat) (v : Bool) => sliceT (Cs sm) k = v) (slA (sm := sm)) h
def mtL : List ((Nat) × (Bool)) := [(65, true)]
theorem mtA : ∀ p ∈ mtL, (fun (k : Nat) (v : Bool) => mapT (Cs sm) k = v) p.1 p.2 := all_cons (by show _ = _; kernel_rfl) (all_nil)
theorem mt_ {k : Nat} {v : Bool} (h : mtL.lookup k = some v) : mapT (Cs sm) k = v := tab_row (P := fun (k : Nat) (v : Bool) => mapT (Cs sm) k = v) (mtA (sm := sm)) h
def srL : List ((Nat) × (Bool)) := [(9, true)]
theorem srA : ∀ p ∈ srL, (fun (k : Nat) (v : Bool) => strT (Cs sm) k = v) p.1 p.2 := all_cons (by show _ = _; kernel_rfl) (all_nil)
theorem sr_ {k : Nat} {v : Bool} (h : srL.lookup k = some v) : strT (Cs sm) k = v := tab_row (P := fun (k : Nat) (v : Bool) => strT (Cs sm) k = v) (srA (sm := sm)) h
def unL : List ((Nat × Nat) × (Bool)) := [((24, 0), true), ((26, 2), true), ((29, 0), true), ((33, 1), true), ((36, 0), true), ((4, 3), true), ((78, 0), true)]
theorem unA : ∀ p ∈ unL, (fun (k : Nat × Nat) (v : Bool) => undIs (Cs sm) k.1 k.2 = v) p.1 p.2 := all_cons (by show _ = _; kernel_rfl) ( all_cons (by show _ = _; kernel_rfl) ( all_cons (by show _ = _; kernel_rfl) ( all_cons (by show _ = _; kernel_rfl) ( all_cons (by show _ = _; kernel_rfl) ( all_cons (by show _ = _; kernel_rfl) ( all_cons (by show _ = _; kernel_rfl) (all_nil)))))))
theorem un_ {t f : Nat} {v : Bool} (h : unL.lookup (t, f) = some v) : undIs (Cs sm) t f = v := tab_row (P := fun (k : Nat × Nat) (v : Bool) => undIs (Cs sm) k.1 k.2 = v) (unA (sm := sm)) h
def btL : List ((Nat) × (List (Nat × Nat) × List Value)) := [(108, ([(0, 1), (1, 1), (2, 1), (3, 1), (4, 1), (5, 1), (6, 1)], [.int .i64 0, .int .i64 0, .int .i64 0, .pointer none, .pointer none, .pointer none, .pointer none])), (115, ([(0, 1)], [.map none])), (119, ([(0, 1), (1, 1), (2, 1), (3, 1), (4, 1), (5, 1), (6, 3), (9, 2)], [.pointer none, .pointer none, .int .i64 0, .bool false, .int .i64 0, .pointer none, .int .i64 0, .int .i64 0, .int .i64 0, .int .i64 0, .int .i64 0])), (125, ([(0, 1), (1, 1)], [.string .empty, .nilIface])), (136, ([(0, 1), (1, 1)], [.slice none 0 0, .int .i64 0])), (43, ([(0, 1), (1, 1), (2, 1), (3, 1), (4, 1), (5, 1), (6, 1), (7, 1), (8, 1), (9, 1), (10, 1), (11, 1), (12, 1)], [.int .i64 0, .bool false, .string .empty, .int .i64 0, .int .i64 0, .int .i64 0, .int .i64 0, .int .i64 0, .int .i64 0, .int .i64 0, .int .i64 0, .int .i64 0, .int .i64 0])), (57, ([(0, 1)], [.slice none 0 0])), (59, ([(0, 1), (1, 1), (2, 1), (3, 1), (4, 1)], [.int .i64 0, .slice none 0 0, .string .empty, .int .i64 0, .bool false])), (83, ([(0, 1), (1, 1), (2, 1), (3, 1)], [.int .i64 0, .slice none 0 0, .int .u32 0, .bool false]))]
theorem btA : ∀ p ∈ btL, (fun (k : Nat) (v : List (Nat × Nat) × List Value) => buildT (Cs sm) k = some v) p.1 p.2 := all_cons (by show _ = _; kernel_rfl) ( all_cons (by show _ = _; kernel_rfl) ( all_cons (by show _ = _; kernel_rfl) ( all_cons (by show _ = _; kernel_rfl) ( all_cons (by show _ = _; kernel_rfl) ( all_cons (by show _ = _; kernel_rfl) ( all_cons (by show _ = _; kernel_rfl) ( all_cons (by show _ = _; kernel_rfl) ( all_cons (by show _ = _; kernel_rfl) (all_nil)))))))))
theorem bt_ {k : Nat} {v : List (Nat × Nat) × List Value} (h : btL.lookup k = some v) : buildT (Cs sm) k = some v := tab_row (P := fun (k : Nat) (v : List (Nat × Nat) × List Value) => buildT (Cs sm) k = some v) (btA (sm := sm)) h
def roL : List ((Nat) × (TypeId × Nat × Nat × List Value)) := [(134, (83, 4, 40, [.int .i64 0, .slice none 0 0, .int .u32 0, .bool false])), (22, (33, 1, 24, [.slice none 0 0])), (33, (21, 1, 4, [.int .i32 0])), (40, (9, 1, 16, [.string .empty])), (45, (3, 1, 8, [.int .i64 0])), (49, (59, 5, 64, [.int .i64 0, .slice none 0 0, .string .empty, .int .i64 0, .bool false]))]
theorem roA : ∀ p ∈ roL, (fun (k : Nat) (v : TypeId × Nat × Nat × List Value) => (Cs sm).row k = some v) p.1 p.2 := all_cons (by show _ = _; kernel_rfl) ( all_cons (by show _ = _; kernel_rfl) ( all_cons (by show _ = _; kernel_rfl) ( all_cons (by show _ = _; kernel_rfl) ( all_cons (by show _ = _; kernel_rfl) ( all_cons (by show _ = _; kernel_rfl) (all_nil))))))
theorem ro_ {k : Nat} {v : TypeId × Nat × Nat × List Value} (h : roL.lookup k = some v) : (Cs sm).row k = some v := tab_row (P := fun (k : Nat) (v : TypeId × Nat × Nat × List Value) => (Cs sm).row k = some v) (roA (sm := sm)) h
def ifL : List ((Nat) × (Bool)) := [(122, false), (35, false)]
theorem ifA : ∀ p ∈ ifL, (fun (k : Nat) (v : Bool) => ifaceT (Cs sm) k = v) p.1 p.2 := all_cons (by show _ = _; kernel_rfl) ( all_cons (by show _ = _; kernel_rfl) (all_nil))
theorem if_ {k : Nat} {v : Bool} (h : ifL.lookup k = some v) : ifaceT (Cs sm) k = v := tab_row (P := fun (k : Nat) (v : Bool) => ifaceT (Cs sm) k = v) (ifA (sm := sm)) h
def cvL : List ((Nat × Nat) × (IntKind)) := []
theorem cvA : ∀ p ∈ cvL, (fun (k : Nat × Nat) (v : IntKind) => convK (Cs sm) k.1 k.2 = some v) p.1 p.2 := all_nil
theorem cv_ {t f : Nat} {v : IntKind} (h : cvL.lookup (t, f) = some v) : convK (Cs sm) t f = some v := tab_row (P := fun (k : Nat × Nat) (v : IntKind) => convK (Cs sm) k.1 k.2 = some v) (cvA (sm := sm)) h
def elL : List ((Nat) × (Nat)) := [(134, 4), (22, 1), (33, 1), (40, 1), (45, 1), (49, 5), (68, 5)]
theorem elA : ∀ p ∈ elL, (fun (k : Nat) (v : Nat) => elemAt (Cs sm) k = some v) p.1 p.2 := all_cons (by show _ = _; kernel_rfl) ( all_cons (by show _ = _; kernel_rfl) ( all_cons (by show _ = _; kernel_rfl) ( all_cons (by show _ = _; kernel_rfl) ( all_cons (by show _ = _; kernel_rfl) ( all_cons (by show _ = _; kernel_rfl) ( all_cons (by show _ = _; kernel_rfl) (all_nil)))))))
theorem el_ {k : Nat} {v : Nat} (h : elL.lookup k = some v) : elemAt (Cs sm) k = some v := tab_row (P := fun (k : Nat) (v : Nat) => elemAt (Cs sm) k = some v) (elA (sm := sm)) h
def miL : List ((Nat) × (IntKind × TypeId)) := [(113, (.i64, 59)), (65, (.i64, 4))]
theorem miA : ∀ p ∈ miL, (fun (k : Nat) (v : IntKind × TypeId) => mapInt (Cs sm) k = some v) p.1 p.2 := all_cons (by show _ = _; kernel_rfl) ( all_cons (by show _ = _; kernel_rfl) (all_nil))
theorem mi_ {k : Nat} {v : IntKind × TypeId} (h : miL.lookup k = some v) : mapInt (Cs sm) k = some v := tab_row (P := fun (k : Nat) (v : IntKind × TypeId) => mapInt (Cs sm) k = some v) (miA (sm := sm)) h
def ciL : List ((Nat) × (Bool)) := [(35, true)]
theorem ciA : ∀ p ∈ ciL, (fun (k : Nat) (v : Bool) => cmpI (Cs sm) k = v) p.1 p.2 := all_cons (by show _ = _; kernel_rfl) (all_nil)
theorem ci_ {k : Nat} {v : Bool} (h : ciL.lookup k = some v) : cmpI (Cs sm) k = v := tab_row (P := fun (k : Nat) (v : Bool) => cmpI (Cs sm) k = v) (ciA (sm := sm)) h
end Go.Ab.Seat
