/- What the program's types come to (printed by gen_types.py). -/
import Derived.Test.YtofikbfljjjgeaaGreatDoorDS1
import Derived.Test.YtofikbfljjjgeaaGreatDoorE43
import Derived.KernelRfl
set_option linter.unusedVariables false
set_option linter.unusedSimpArgs false
namespace Go.Ab.Seat
open Go.Extern Go.Proofs
set_option maxRecDepth 1000000
variable {sm : Nat → Option (List Value → M Value)}
theorem ag187 : aggT (Cs sm) 187 = some 2 := by kernel_rfl
theorem ag52 : aggT (Cs sm) 52 = some 2 := by kernel_rfl
theorem el188 : elemAt (Cs sm) 188 = some 2 := by kernel_rfl
theorem el22 : elemAt (Cs sm) 22 = some 1 := by kernel_rfl
theorem el23 : elemAt (Cs sm) 23 = some 1 := by kernel_rfl
theorem el25 : elemAt (Cs sm) 25 = some 1 := by kernel_rfl
theorem el37 : elemAt (Cs sm) 37 = some 2 := by kernel_rfl
theorem el45 : elemAt (Cs sm) 45 = some 1 := by kernel_rfl
theorem ex134 : (Cs sm).ex 134 = none := by kernel_rfl
theorem ex136 : (Cs sm).ex 136 = none := by kernel_rfl
theorem ex137 : (Cs sm).ex 137 = none := by kernel_rfl
theorem ex138 : (Cs sm).ex 138 = none := by kernel_rfl
theorem ex139 : (Cs sm).ex 139 = none := by kernel_rfl
theorem ex140 : (Cs sm).ex 140 = none := by kernel_rfl
theorem ex141 : (Cs sm).ex 141 = none := by kernel_rfl
theorem ex142 : (Cs sm).ex 142 = none := by kernel_rfl
theorem ex143 : (Cs sm).ex 143 = none := by kernel_rfl
theorem ex144 : (Cs sm).ex 144 = none := by kernel_rfl
theorem ex145 : (Cs sm).ex 145 = none := by kernel_rfl
theorem ex146 : (Cs sm).ex 146 = none := by kernel_rfl
theorem ex147 : (Cs sm).ex 147 = none := by kernel_rfl
theorem ex148 : (Cs sm).ex 148 = none := by kernel_rfl
theorem ex149 : (Cs sm).ex 149 = none := by kernel_rfl
theorem ex150 : (Cs sm).ex 150 = none := by kernel_rfl
theorem ex151 : (Cs sm).ex 151 = none := by kernel_rfl
theorem ex16 : (Cs sm).ex 16 = none := by kernel_rfl
theorem ex17 : (Cs sm).ex 17 = none := by kernel_rfl
theorem ex18 : (Cs sm).ex 18 = none := by kernel_rfl
theorem ex187 : (Cs sm).ex 187 = none := by kernel_rfl
theorem ex188 : (Cs sm).ex 188 = none := by kernel_rfl
theorem ex19 : (Cs sm).ex 19 = none := by kernel_rfl
theorem ex198 : (Cs sm).ex 198 = none := by kernel_rfl
theorem ex199 : (Cs sm).ex 199 = none := by kernel_rfl
theorem ex20 : (Cs sm).ex 20 = none := by kernel_rfl
theorem ex200 : (Cs sm).ex 200 = none := by kernel_rfl
theorem ex201 : (Cs sm).ex 201 = none := by kernel_rfl
theorem ex202 : (Cs sm).ex 202 = none := by kernel_rfl
theorem ex203 : (Cs sm).ex 203 = none := by kernel_rfl
theorem ex21 : (Cs sm).ex 21 = none := by kernel_rfl
theorem ex22 : (Cs sm).ex 22 = none := by kernel_rfl
theorem ex226 : (Cs sm).ex 226 = none := by kernel_rfl
theorem ex229 : (Cs sm).ex 229 = none := by kernel_rfl
theorem ex23 : (Cs sm).ex 23 = none := by kernel_rfl
theorem ex24 : (Cs sm).ex 24 = none := by kernel_rfl
theorem ex25 : (Cs sm).ex 25 = none := by kernel_rfl
theorem ex26 : (Cs sm).ex 26 = none := by kernel_rfl
theorem ex27 : (Cs sm).ex 27 = none := by kernel_rfl
theorem ex28 : (Cs sm).ex 28 = none := by kernel_rfl
theorem ex3 : (Cs sm).ex 3 = none := by kernel_rfl
theorem ex35 : (Cs sm).ex 35 = none := by kernel_rfl
theorem ex72 : (Cs sm).ex 72 = none := by kernel_rfl
theorem ex73 : (Cs sm).ex 73 = none := by kernel_rfl
theorem ex74 : (Cs sm).ex 74 = none := by kernel_rfl
theorem ex75 : (Cs sm).ex 75 = none := by kernel_rfl
theorem ex76 : (Cs sm).ex 76 = none := by kernel_rfl
theorem ex77 : (Cs sm).ex 77 = none := by kernel_rfl
theorem ex78 : (Cs sm).ex 78 = none := by kernel_rfl
theorem ex79 : (Cs sm).ex 79 = none := by kernel_rfl
theorem ex80 : (Cs sm).ex 80 = none := by kernel_rfl
theorem ex81 : (Cs sm).ex 81 = none := by kernel_rfl
theorem ex82 : (Cs sm).ex 82 = none := by kernel_rfl
theorem ex83 : (Cs sm).ex 83 = none := by kernel_rfl
theorem ex85 : (Cs sm).ex 85 = none := by kernel_rfl
theorem fn134 : (Cs sm).fn.get 134 = some Tryz.f134 := by kernel_rfl
theorem fn136 : (Cs sm).fn.get 136 = some Tryz.f136 := by kernel_rfl
theorem fn137 : (Cs sm).fn.get 137 = some Tryz.f137 := by kernel_rfl
theorem fn138 : (Cs sm).fn.get 138 = some Tryz.f138 := by kernel_rfl
theorem fn139 : (Cs sm).fn.get 139 = some Tryz.f139 := by kernel_rfl
theorem fn140 : (Cs sm).fn.get 140 = some Tryz.f140 := by kernel_rfl
theorem fn141 : (Cs sm).fn.get 141 = some Tryz.f141 := by kernel_rfl
theorem fn142 : (Cs sm).fn.get 142 = some Tryz.f142 := by kernel_rfl
theorem fn143 : (Cs sm).fn.get 143 = some Tryz.f143 := by kernel_rfl
theorem fn144 : (Cs sm).fn.get 144 = some Tryz.f144 := by kernel_rfl
theorem fn145 : (Cs sm).fn.get 145 = some Tryz.f145 := by kernel_rfl
theorem fn146 : (Cs sm).fn.get 146 = some Tryz.f146 := by kernel_rfl
theorem fn147 : (Cs sm).fn.get 147 = some Tryz.f147 := by kernel_rfl
theorem fn148 : (Cs sm).fn.get 148 = some Tryz.f148 := by kernel_rfl
theorem fn149 : (Cs sm).fn.get 149 = some Tryz.f149 := by kernel_rfl
theorem fn150 : (Cs sm).fn.get 150 = some Tryz.f150 := by kernel_rfl
theorem fn151 : (Cs sm).fn.get 151 = some Tryz.f151 := by kernel_rfl
theorem fn16 : (Cs sm).fn.get 16 = some Tryz.f16 := by kernel_rfl
theorem fn17 : (Cs sm).fn.get 17 = some Tryz.f17 := by kernel_rfl
theorem fn18 : (Cs sm).fn.get 18 = some Tryz.f18 := by kernel_rfl
theorem fn187 : (Cs sm).fn.get 187 = some Tryz.f187 := by kernel_rfl
theorem fn188 : (Cs sm).fn.get 188 = some Tryz.f188 := by kernel_rfl
theorem fn19 : (Cs sm).fn.get 19 = some Tryz.f19 := by kernel_rfl
theorem fn198 : (Cs sm).fn.get 198 = some Tryz.f198 := by kernel_rfl
theorem fn199 : (Cs sm).fn.get 199 = some Tryz.f199 := by kernel_rfl
theorem fn20 : (Cs sm).fn.get 20 = some Tryz.f20 := by kernel_rfl
theorem fn200 : (Cs sm).fn.get 200 = some Tryz.f200 := by kernel_rfl
theorem fn201 : (Cs sm).fn.get 201 = some Tryz.f201 := by kernel_rfl
theorem fn202 : (Cs sm).fn.get 202 = some Tryz.f202 := by kernel_rfl
theorem fn203 : (Cs sm).fn.get 203 = some Tryz.f203 := by kernel_rfl
theorem fn21 : (Cs sm).fn.get 21 = some Tryz.f21 := by kernel_rfl
theorem fn22 : (Cs sm).fn.get 22 = some Tryz.f22 := by kernel_rfl
theorem fn226 : (Cs sm).fn.get 226 = some Tryz.f226 := by kernel_rfl
theorem fn229 : (Cs sm).fn.get 229 = some Tryz.f229 := by kernel_rfl
theorem fn23 : (Cs sm).fn.get 23 = some Tryz.f23 := by kernel_rfl
theorem fn24 : (Cs sm).fn.get 24 = some Tryz.f24 := by kernel_rfl
theorem fn25 : (Cs sm).fn.get 25 = some Tryz.f25 := by kernel_rfl
theorem fn26 : (Cs sm).fn.get 26 = some Tryz.f26 := by kernel_rfl
theorem fn27 : (Cs sm).fn.get 27 = some Tryz.f27 := by kernel_rfl
theorem fn28 : (Cs sm).fn.get 28 = some Tryz.f28 := by kernel_rfl
theorem fn3 : (Cs sm).fn.get 3 = some Tryz.f3 := by kernel_rfl
theorem fn35 : (Cs sm).fn.get 35 = some Tryz.f35 := by kernel_rfl
theorem fn72 : (Cs sm).fn.get 72 = some Tryz.f72 := by kernel_rfl
theorem fn73 : (Cs sm).fn.get 73 = some Tryz.f73 := by kernel_rfl
theorem fn74 : (Cs sm).fn.get 74 = some Tryz.f74 := by kernel_rfl
theorem fn75 : (Cs sm).fn.get 75 = some Tryz.f75 := by kernel_rfl
theorem fn76 : (Cs sm).fn.get 76 = some Tryz.f76 := by kernel_rfl
theorem fn77 : (Cs sm).fn.get 77 = some Tryz.f77 := by kernel_rfl
theorem fn78 : (Cs sm).fn.get 78 = some Tryz.f78 := by kernel_rfl
theorem fn79 : (Cs sm).fn.get 79 = some Tryz.f79 := by kernel_rfl
theorem fn80 : (Cs sm).fn.get 80 = some Tryz.f80 := by kernel_rfl
theorem fn81 : (Cs sm).fn.get 81 = some Tryz.f81 := by kernel_rfl
theorem fn82 : (Cs sm).fn.get 82 = some Tryz.f82 := by kernel_rfl
theorem fn83 : (Cs sm).fn.get 83 = some Tryz.f83 := by kernel_rfl
theorem fn85 : (Cs sm).fn.get 85 = some Tryz.f85 := by kernel_rfl
theorem km134 : (Cs sm).km.get 134 = some 19 := by kernel_rfl
theorem km136 : (Cs sm).km.get 136 = some 21 := by kernel_rfl
theorem km137 : (Cs sm).km.get 137 = some 5 := by kernel_rfl
theorem km138 : (Cs sm).km.get 138 = some 2207613222971 := by kernel_rfl
theorem km139 : (Cs sm).km.get 139 = some 1005 := by kernel_rfl
theorem km140 : (Cs sm).km.get 140 = some 21 := by kernel_rfl
theorem km141 : (Cs sm).km.get 141 = some 66483 := by kernel_rfl
theorem km142 : (Cs sm).km.get 142 = some 11 := by kernel_rfl
theorem km143 : (Cs sm).km.get 143 = some 134251507 := by kernel_rfl
theorem km144 : (Cs sm).km.get 144 = some 295147905181504570311 := by kernel_rfl
theorem km145 : (Cs sm).km.get 145 = some 16071 := by kernel_rfl
theorem km146 : (Cs sm).km.get 146 = some 21 := by kernel_rfl
theorem km147 : (Cs sm).km.get 147 = some 7 := by kernel_rfl
theorem km148 : (Cs sm).km.get 148 = some 65735 := by kernel_rfl
theorem km149 : (Cs sm).km.get 149 = some 23 := by kernel_rfl
theorem km150 : (Cs sm).km.get 150 = some 537399539 := by kernel_rfl
theorem km151 : (Cs sm).km.get 151 = some 95 := by kernel_rfl
theorem km16 : (Cs sm).km.get 16 = some 131527 := by kernel_rfl
theorem km17 : (Cs sm).km.get 17 = some 37 := by kernel_rfl
theorem km18 : (Cs sm).km.get 18 = some 37 := by kernel_rfl
theorem km187 : (Cs sm).km.get 187 = some 543 := by kernel_rfl
theorem km188 : (Cs sm).km.get 188 = some 66483 := by kernel_rfl
theorem km19 : (Cs sm).km.get 19 = some 37147268195997750458483834639 := by kernel_rfl
theorem km198 : (Cs sm).km.get 198 = some 19 := by kernel_rfl
theorem km199 : (Cs sm).km.get 199 = some 15 := by kernel_rfl
theorem km20 : (Cs sm).km.get 20 = some 135 := by kernel_rfl
theorem km200 : (Cs sm).km.get 200 = some 295147905181504570311 := by kernel_rfl
theorem km201 : (Cs sm).km.get 201 = some 21 := by kernel_rfl
theorem km202 : (Cs sm).km.get 202 = some 19 := by kernel_rfl
theorem km203 : (Cs sm).km.get 203 = some 5 := by kernel_rfl
theorem km21 : (Cs sm).km.get 21 = some 131187 := by kernel_rfl
theorem km22 : (Cs sm).km.get 22 = some 16806963 := by kernel_rfl
theorem km226 : (Cs sm).km.get 226 = some 66483 := by kernel_rfl
theorem km229 : (Cs sm).km.get 229 = some 5 := by kernel_rfl
theorem km23 : (Cs sm).km.get 23 = some 65971251326919 := by kernel_rfl
theorem km24 : (Cs sm).km.get 24 = some 31431 := by kernel_rfl
theorem km25 : (Cs sm).km.get 25 = some 5 := by kernel_rfl
theorem km26 : (Cs sm).km.get 26 = some 8390573 := by kernel_rfl
theorem km27 : (Cs sm).km.get 27 = some 32282066037556383475 := by kernel_rfl
theorem km28 : (Cs sm).km.get 28 = some 21 := by kernel_rfl
theorem km3 : (Cs sm).km.get 3 = some 2319282994207 := by kernel_rfl
theorem km35 : (Cs sm).km.get 35 = some 2200634099655 := by kernel_rfl
theorem km72 : (Cs sm).km.get 72 = some 5 := by kernel_rfl
theorem km73 : (Cs sm).km.get 73 = some 5 := by kernel_rfl
theorem km74 : (Cs sm).km.get 74 = some 38885736577748731411487 := by kernel_rfl
theorem km75 : (Cs sm).km.get 75 = some 35184379960847 := by kernel_rfl
theorem km76 : (Cs sm).km.get 76 = some 8053064007 := by kernel_rfl
theorem km77 : (Cs sm).km.get 77 = some 71 := by kernel_rfl
theorem km78 : (Cs sm).km.get 78 = some 21 := by kernel_rfl
theorem km79 : (Cs sm).km.get 79 = some 15539 := by kernel_rfl
theorem km80 : (Cs sm).km.get 80 = some 21 := by kernel_rfl
theorem km81 : (Cs sm).km.get 81 = some 21 := by kernel_rfl
theorem km82 : (Cs sm).km.get 82 = some 17592193916431 := by kernel_rfl
theorem km83 : (Cs sm).km.get 83 = some 268467055 := by kernel_rfl
theorem km85 : (Cs sm).km.get 85 = some 7 := by kernel_rfl
theorem ro22 : (Cs sm).row 22 = some (25, 1, 24, [.slice none 0 0]) := by kernel_rfl
theorem ro25 : (Cs sm).row 25 = some (21, 1, 4, [.int .i32 0]) := by kernel_rfl
theorem ro37 : (Cs sm).row 37 = some (52, 2, 16, [.int .i64 0, .int .i64 0]) := by kernel_rfl
theorem ro45 : (Cs sm).row 45 = some (3, 1, 8, [.int .i64 0]) := by kernel_rfl
theorem sl22 : sliceT (Cs sm) 22 = true := by kernel_rfl
theorem sl25 : sliceT (Cs sm) 25 = true := by kernel_rfl
theorem sl37 : sliceT (Cs sm) 37 = true := by kernel_rfl
theorem sl45 : sliceT (Cs sm) 45 = true := by kernel_rfl
def plL : List ((Nat) × (Bool)) := [(105, true), (116, true), (119, true), (139, true), (173, true), (183, true), (2, true), (21, true), (22, true), (24, true), (25, true), (28, true), (3, true), (30, true), (32, true), (37, true), (44, true), (45, true), (5, true), (54, true), (77, true), (9, true), (96, true)]
theorem plA : ∀ p ∈ plL, (fun (k : Nat) (v : Bool) => plainT (Cs sm) k = v) p.1 p.2 := all_cons (by show _ = _; kernel_rfl) ( all_cons (by show _ = _; kernel_rfl) ( all_cons (by show _ = _; kernel_rfl) ( all_cons (by show _ = _; kernel_rfl) ( all_cons (by show _ = _; kernel_rfl) ( all_cons (by show _ = _; kernel_rfl) ( all_cons (by show _ = _; kernel_rfl) ( all_cons (by show _ = _; kernel_rfl) ( all_cons (by show _ = _; kernel_rfl) ( all_cons (by show _ = _; kernel_rfl) ( all_cons (by show _ = _; kernel_rfl) ( all_cons (by show _ = _; kernel_rfl) ( all_cons (by show _ = _; kernel_rfl) ( all_cons (by show _ = _; kernel_rfl) ( all_cons (by show _ = _; kernel_rfl) ( all_cons (by show _ = _; kernel_rfl) ( all_cons (by show _ = _; kernel_rfl) ( all_cons (by show _ = _; kernel_rfl) ( all_cons (by show _ = _; kernel_rfl) ( all_cons (by show _ = _; kernel_rfl) ( all_cons (by show _ = _; kernel_rfl) ( all_cons (by show _ = _; kernel_rfl) ( all_cons (by show _ = _; kernel_rfl) (all_nil)))))))))))))))))))))))
theorem pl_ {k : Nat} {v : Bool} (h : plL.lookup k = some v) : plainT (Cs sm) k = v := tab_row (P := fun (k : Nat) (v : Bool) => plainT (Cs sm) k = v) (plA (sm := sm)) h
def agL : List ((Nat) × (Nat)) := [(106, 2), (110, 5), (112, 8), (187, 2), (50, 5), (52, 2), (72, 2), (98, 4)]
theorem agA : ∀ p ∈ agL, (fun (k : Nat) (v : Nat) => aggT (Cs sm) k = some v) p.1 p.2 := all_cons (by show _ = _; kernel_rfl) ( all_cons (by show _ = _; kernel_rfl) ( all_cons (by show _ = _; kernel_rfl) ( all_cons (by show _ = _; kernel_rfl) ( all_cons (by show _ = _; kernel_rfl) ( all_cons (by show _ = _; kernel_rfl) ( all_cons (by show _ = _; kernel_rfl) ( all_cons (by show _ = _; kernel_rfl) (all_nil))))))))
theorem ag_ {k : Nat} {v : Nat} (h : agL.lookup k = some v) : aggT (Cs sm) k = some v := tab_row (P := fun (k : Nat) (v : Nat) => aggT (Cs sm) k = some v) (agA (sm := sm)) h
def szL : List ((Nat) × (Nat)) := [(105, 1), (106, 2), (110, 5), (112, 8), (143, 2), (177, 2), (183, 1), (187, 2), (2, 1), (21, 1), (22, 1), (24, 1), (25, 1), (28, 1), (3, 1), (30, 1), (318, 1), (37, 1), (44, 1), (45, 1), (5, 1), (50, 5), (52, 2), (54, 1), (72, 2), (96, 1)]
theorem szA : ∀ p ∈ szL, (fun (k : Nat) (v : Nat) => (Cs sm).size k = some v) p.1 p.2 := all_cons (by show _ = _; kernel_rfl) ( all_cons (by show _ = _; kernel_rfl) ( all_cons (by show _ = _; kernel_rfl) ( all_cons (by show _ = _; kernel_rfl) ( all_cons (by show _ = _; kernel_rfl) ( all_cons (by show _ = _; kernel_rfl) ( all_cons (by show _ = _; kernel_rfl) ( all_cons (by show _ = _; kernel_rfl) ( all_cons (by show _ = _; kernel_rfl) ( all_cons (by show _ = _; kernel_rfl) ( all_cons (by show _ = _; kernel_rfl) ( all_cons (by show _ = _; kernel_rfl) ( all_cons (by show _ = _; kernel_rfl) ( all_cons (by show _ = _; kernel_rfl) ( all_cons (by show _ = _; kernel_rfl) ( all_cons (by show _ = _; kernel_rfl) ( all_cons (by show _ = _; kernel_rfl) ( all_cons (by show _ = _; kernel_rfl) ( all_cons (by show _ = _; kernel_rfl) ( all_cons (by show _ = _; kernel_rfl) ( all_cons (by show _ = _; kernel_rfl) ( all_cons (by show _ = _; kernel_rfl) ( all_cons (by show _ = _; kernel_rfl) ( all_cons (by show _ = _; kernel_rfl) ( all_cons (by show _ = _; kernel_rfl) ( all_cons (by show _ = _; kernel_rfl) (all_nil))))))))))))))))))))))))))
theorem sz_ {k : Nat} {v : Nat} (h : szL.lookup k = some v) : (Cs sm).size k = some v := tab_row (P := fun (k : Nat) (v : Nat) => (Cs sm).size k = some v) (szA (sm := sm)) h
def zeL : List ((Nat) × (Value)) := [(106, (.agg #[.slice none 0 0, .slice none 0 0])), (110, (.agg #[.slice none 0 0, .slice none 0 0, .slice none 0 0, .slice none 0 0, .slice none 0 0])), (112, (.agg #[.int .i64 0, .slice none 0 0, .int .i64 0, .slice none 0 0, .slice none 0 0, .slice none 0 0, .slice none 0 0, .slice none 0 0])), (122, (.pointer none)), (143, (.agg #[.slice none 0 0, .slice none 0 0])), (177, (.agg #[.slice none 0 0, .int .i64 0])), (183, (.map none)), (187, (.agg #[.int .i64 0, .int .i64 0])), (25, (.slice none 0 0)), (3, (.int .i64 0)), (318, (.int .u64 0)), (4, (.bool false)), (44, (.nilFunc)), (50, (.agg #[.int .i64 0, .int .i64 0, .int .i64 0, .slice none 0 0, .int .u32 0])), (52, (.agg #[.int .i64 0, .int .i64 0])), (72, (.agg #[.slice none 0 0, .slice none 0 0]))]
theorem zeA : ∀ p ∈ zeL, (fun (k : Nat) (v : Value) => (Cs sm).zero k = some v) p.1 p.2 := all_cons (by show _ = _; kernel_rfl) ( all_cons (by show _ = _; kernel_rfl) ( all_cons (by show _ = _; kernel_rfl) ( all_cons (by show _ = _; kernel_rfl) ( all_cons (by show _ = _; kernel_rfl) ( all_cons (by show _ = _; kernel_rfl) ( all_cons (by show _ = _; kernel_rfl) ( all_cons (by show _ = _; kernel_rfl) ( all_cons (by show _ = _; kernel_rfl) ( all_cons (by show _ = _; kernel_rfl) ( all_cons (by show _ = _; kernel_rfl) ( all_cons (by show _ = _; kernel_rfl) ( all_cons (by show _ = _; kernel_rfl) ( all_cons (by show _ = _; kernel_rfl) ( all_cons (by show _ = _; kernel_rfl) ( all_cons (by show _ = _; kernel_rfl) (all_nil))))))))))))))))
theorem ze_ {k : Nat} {v : Value} (h : zeL.lookup k = some v) : (Cs sm).zero k = some v := tab_row (P := fun (k : Nat) (v : Value) => (Cs sm).zero k = some v) (zeA (sm := sm)) h
def faL : List ((Nat × Nat) × (Nat × TypeId)) := [((106, 0), (0, 24)), ((106, 1), (1, 24)), ((108, 0), (0, 3)), ((108, 1), (1, 3)), ((108, 3), (3, 105)), ((108, 4), (4, 22)), ((108, 5), (5, 106)), ((112, 0), (0, 3)), ((112, 1), (1, 25)), ((112, 2), (2, 3)), ((112, 3), (3, 110)), ((118, 0), (0, 3)), ((118, 1), (1, 116)), ((121, 0), (0, 3)), ((121, 1), (1, 119)), ((125, 0), (0, 25)), ((125, 1), (1, 3)), ((125, 2), (2, 110)), ((141, 0), (0, 3)), ((141, 1), (1, 72)), ((141, 2), (3, 139)), ((143, 0), (0, 25)), ((143, 1), (1, 77)), ((148, 0), (0, 3)), ((148, 2), (2, 3)), ((148, 3), (3, 30)), ((148, 4), (4, 96)), ((148, 5), (5, 28)), ((148, 6), (6, 54)), ((175, 0), (0, 3)), ((175, 1), (1, 22)), ((175, 2), (2, 173)), ((177, 0), (0, 25)), ((177, 1), (1, 3)), ((245, 0), (0, 37)), ((245, 1), (1, 3)), ((50, 0), (0, 3)), ((50, 1), (1, 3)), ((50, 2), (2, 3)), ((50, 3), (3, 25)), ((50, 4), (4, 32)), ((52, 0), (0, 3)), ((52, 1), (1, 2)), ((72, 0), (0, 24)), ((72, 1), (1, 24)), ((98, 0), (0, 30)), ((98, 1), (1, 96)), ((98, 2), (2, 28)), ((98, 3), (3, 54))]
theorem faA : ∀ p ∈ faL, (fun (k : Nat × Nat) (v : Nat × TypeId) => fieldAt (Cs sm) k.1 k.2 = some v) p.1 p.2 := all_cons (by show _ = _; kernel_rfl) ( all_cons (by show _ = _; kernel_rfl) ( all_cons (by show _ = _; kernel_rfl) ( all_cons (by show _ = _; kernel_rfl) ( all_cons (by show _ = _; kernel_rfl) ( all_cons (by show _ = _; kernel_rfl) ( all_cons (by show _ = _; kernel_rfl) ( all_cons (by show _ = _; kernel_rfl) ( all_cons (by show _ = _; kernel_rfl) ( all_cons (by show _ = _; kernel_rfl) ( all_cons (by show _ = _; kernel_rfl) ( all_cons (by show _ = _; kernel_rfl) ( all_cons (by show _ = _; kernel_rfl) ( all_cons (by show _ = _; kernel_rfl) ( all_cons (by show _ = _; kernel_rfl) ( all_cons (by show _ = _; kernel_rfl) ( all_cons (by show _ = _; kernel_rfl) ( all_cons (by show _ = _; kernel_rfl) ( all_cons (by show _ = _; kernel_rfl) ( all_cons (by show _ = _; kernel_rfl) ( all_cons (by show _ = _; kernel_rfl) ( all_cons (by show _ = _; kernel_rfl) ( all_cons (by show _ = _; kernel_rfl) ( all_cons (by show _ = _; kernel_rfl) ( all_cons (by show _ = _; kernel_rfl) ( all_cons (by show _ = _; kernel_rfl) ( all_cons (by show _ = _; kernel_rfl) ( all_cons (by show _ = _; kernel_rfl) ( all_cons (by show _ = _; kernel_rfl) ( all_cons (by show _ = _; kernel_rfl) ( all_cons (by show _ = _; kernel_rfl) ( all_cons (by show _ = _; kernel_rfl) ( all_cons (by show _ = _; kernel_rfl) ( all_cons (by show _ = _; kernel_rfl) ( all_cons (by show _ = _; kernel_rfl) ( all_cons (by show _ = _; kernel_rfl) ( all_cons (by show _ = _; kernel_rfl) ( all_cons (by show _ = _; kernel_rfl) ( all_cons (by show _ = _; kernel_rfl) ( all_cons (by show _ = _; kernel_rfl) ( all_cons (by show _ = _; kernel_rfl) ( all_cons (by show _ = _; kernel_rfl) ( all_cons (by show _ = _; kernel_rfl) ( all_cons (by show _ = _; kernel_rfl) ( all_cons (by show _ = _; kernel_rfl) ( all_cons (by show _ = _; kernel_rfl) ( all_cons (by show _ = _; kernel_rfl) ( all_cons (by show _ = _; kernel_rfl) ( all_cons (by show _ = _; kernel_rfl) (all_nil)))))))))))))))))))))))))))))))))))))))))))))))))
theorem fa_ {t f : Nat} {v : Nat × TypeId} (h : faL.lookup (t, f) = some v) : fieldAt (Cs sm) t f = some v := tab_row (P := fun (k : Nat × Nat) (v : Nat × TypeId) => fieldAt (Cs sm) k.1 k.2 = some v) (faA (sm := sm)) h
def slL : List ((Nat) × (Bool)) := [(102, true), (105, true), (188, true), (205, true), (22, true), (23, true), (24, true), (25, true), (37, true), (45, true), (48, true), (77, true), (87, true)]
theorem slA : ∀ p ∈ slL, (fun (k : Nat) (v : Bool) => sliceT (Cs sm) k = v) p.1 p.2 := all_cons (by show _ = _; kernel_rfl) ( all_cons (by show _ = _; kernel_rfl) ( all_cons (by show _ = _; kernel_rfl) ( all_cons (by show _ = _; kernel_rfl) ( all_cons (by show _ = _; kernel_rfl) ( all_cons (by show _ = _; kernel_rfl) ( all_cons (by show _ = _; kernel_rfl) ( all_cons (by show _ = _; kernel_rfl) ( all_cons (by show _ = _; kernel_rfl) ( all_cons (by show _ = _; kernel_rfl) ( all_cons (by show _ = _; kernel_rfl) ( all_cons (by show _ = _; kernel_rfl) ( all_cons (by show _ = _; kernel_rfl) (all_nil)))))))))))))
theorem sl_ {k : Nat} {v : Bool} (h : slL.lookup k = some v) : sliceT (Cs sm) k = v := tab_row (P := fun (k : Nat) (v : Bool) => sliceT (Cs sm) k = v) (slA (sm := sm)) h
def unL : List ((Nat × Nat) × (Bool)) := [((122, 0), true), ((181, 0), true), ((22, 1), true), ((24, 1), true), ((25, 1), true), ((28, 0), true), ((30, 0), true), ((37, 1), true), ((45, 1), true), ((4, 3), true), ((54, 0), true), ((57, 0), true), ((59, 2), true), ((77, 1), true), ((96, 0), true)]
theorem unA : ∀ p ∈ unL, (fun (k : Nat × Nat) (v : Bool) => undIs (Cs sm) k.1 k.2 = v) p.1 p.2 := all_cons (by show _ = _; kernel_rfl) ( all_cons (by show _ = _; kernel_rfl) ( all_cons (by show _ = _; kernel_rfl) ( all_cons (by show _ = _; kernel_rfl) ( all_cons (by show _ = _; kernel_rfl) ( all_cons (by show _ = _; kernel_rfl) ( all_cons (by show _ = _; kernel_rfl) ( all_cons (by show _ = _; kernel_rfl) ( all_cons (by show _ = _; kernel_rfl) ( all_cons (by show _ = _; kernel_rfl) ( all_cons (by show _ = _; kernel_rfl) ( all_cons (by show _ = _; kernel_rfl) ( all_cons (by show _ = _; kernel_rfl) ( all_cons (by show _ = _; kernel_rfl) ( all_cons (by show _ = _; kernel_rfl) (all_nil)))))))))))))))
theorem un_ {t f : Nat} {v : Bool} (h : unL.lookup (t, f) = some v) : undIs (Cs sm) t f = v := tab_row (P := fun (k : Nat × Nat) (v : Bool) => undIs (Cs sm) k.1 k.2 = v) (unA (sm := sm)) h
def btL : List ((Nat) × (List (Nat × Nat) × List Value)) := [(106, ([(0, 1), (1, 1)], [.slice none 0 0, .slice none 0 0])), (108, ([(0, 1), (1, 1), (2, 1), (3, 1), (4, 1), (5, 2)], [.int .i64 0, .int .i64 0, .int .i64 0, .slice none 0 0, .slice none 0 0, .slice none 0 0, .slice none 0 0])), (112, ([(0, 1), (1, 1), (2, 1), (3, 5)], [.int .i64 0, .slice none 0 0, .int .i64 0, .slice none 0 0, .slice none 0 0, .slice none 0 0, .slice none 0 0, .slice none 0 0])), (118, ([(0, 1), (1, 1)], [.int .i64 0, .map none])), (121, ([(0, 1), (1, 1)], [.int .i64 0, .map none])), (125, ([(0, 1), (1, 1), (2, 5)], [.slice none 0 0, .int .i64 0, .slice none 0 0, .slice none 0 0, .slice none 0 0, .slice none 0 0, .slice none 0 0])), (141, ([(0, 1), (1, 2), (3, 1)], [.int .i64 0, .slice none 0 0, .slice none 0 0, .map none])), (143, ([(0, 1), (1, 1)], [.slice none 0 0, .slice none 0 0])), (148, ([(0, 1), (1, 1), (2, 1), (3, 1), (4, 1), (5, 1), (6, 1)], [.int .i64 0, .int .i64 0, .int .i64 0, .pointer none, .pointer none, .pointer none, .pointer none])), (175, ([(0, 1), (1, 1), (2, 1)], [.int .i64 0, .slice none 0 0, .map none])), (177, ([(0, 1), (1, 1)], [.slice none 0 0, .int .i64 0])), (245, ([(0, 1), (1, 1)], [.slice none 0 0, .int .i64 0])), (52, ([(0, 1), (1, 1)], [.int .i64 0, .int .i64 0])), (72, ([(0, 1), (1, 1)], [.slice none 0 0, .slice none 0 0])), (98, ([(0, 1), (1, 1), (2, 1), (3, 1)], [.pointer none, .pointer none, .pointer none, .pointer none]))]
theorem btA : ∀ p ∈ btL, (fun (k : Nat) (v : List (Nat × Nat) × List Value) => buildT (Cs sm) k = some v) p.1 p.2 := all_cons (by show _ = _; kernel_rfl) ( all_cons (by show _ = _; kernel_rfl) ( all_cons (by show _ = _; kernel_rfl) ( all_cons (by show _ = _; kernel_rfl) ( all_cons (by show _ = _; kernel_rfl) ( all_cons (by show _ = _; kernel_rfl) ( all_cons (by show _ = _; kernel_rfl) ( all_cons (by show _ = _; kernel_rfl) ( all_cons (by show _ = _; kernel_rfl) ( all_cons (by show _ = _; kernel_rfl) ( all_cons (by show _ = _; kernel_rfl) ( all_cons (by show _ = _; kernel_rfl) ( all_cons (by show _ = _; kernel_rfl) ( all_cons (by show _ = _; kernel_rfl) ( all_cons (by show _ = _; kernel_rfl) (all_nil)))))))))))))))
theorem bt_ {k : Nat} {v : List (Nat × Nat) × List Value} (h : btL.lookup k = some v) : buildT (Cs sm) k = some v := tab_row (P := fun (k : Nat) (v : List (Nat × Nat) × List Value) => buildT (Cs sm) k = some v) (btA (sm := sm)) h
def roL : List ((Nat) × (TypeId × Nat × Nat × List Value)) := [(102, (45, 1, 24, [.slice none 0 0])), (105, (112, 8, 160, [.int .i64 0, .slice none 0 0, .int .i64 0, .slice none 0 0, .slice none 0 0, .slice none 0 0, .slice none 0 0, .slice none 0 0])), (188, (187, 2, 16, [.int .i64 0, .int .i64 0])), (205, (2, 1, 8, [.int .i64 0])), (22, (25, 1, 24, [.slice none 0 0])), (226, (22, 1, 24, [.slice none 0 0])), (24, (21, 1, 4, [.int .i32 0])), (25, (21, 1, 4, [.int .i32 0])), (37, (52, 2, 16, [.int .i64 0, .int .i64 0])), (45, (3, 1, 8, [.int .i64 0])), (77, (5, 1, 1, [.int .u8 0]))]
theorem roA : ∀ p ∈ roL, (fun (k : Nat) (v : TypeId × Nat × Nat × List Value) => (Cs sm).row k = some v) p.1 p.2 := all_cons (by show _ = _; kernel_rfl) ( all_cons (by show _ = _; kernel_rfl) ( all_cons (by show _ = _; kernel_rfl) ( all_cons (by show _ = _; kernel_rfl) ( all_cons (by show _ = _; kernel_rfl) ( all_cons (by show _ = _; kernel_rfl) ( all_cons (by show _ = _; kernel_rfl) ( all_cons (by show _ = _; kernel_rfl) ( all_cons (by show _ = _; kernel_rfl) ( all_cons (by show _ = _; kernel_rfl) ( all_cons (by show _ = _; kernel_rfl) (all_nil)))))))))))
theorem ro_ {k : Nat} {v : TypeId × Nat × Nat × List Value} (h : roL.lookup k = some v) : (Cs sm).row k = some v := tab_row (P := fun (k : Nat) (v : TypeId × Nat × Nat × List Value) => (Cs sm).row k = some v) (roA (sm := sm)) h
def cvL : List ((Nat × Nat) × (IntKind)) := [((194, 3), .i64), ((194, 32), .u32), ((21, 2), .i64), ((291, 5), .u8), ((2, 21), .i32), ((2, 5), .u8), ((3, 194), .u64), ((3, 318), .u64), ((3, 32), .u32), ((5, 2), .i64), ((5, 3), .i64)]
theorem cvA : ∀ p ∈ cvL, (fun (k : Nat × Nat) (v : IntKind) => convK (Cs sm) k.1 k.2 = some v) p.1 p.2 := all_cons (by show _ = _; kernel_rfl) ( all_cons (by show _ = _; kernel_rfl) ( all_cons (by show _ = _; kernel_rfl) ( all_cons (by show _ = _; kernel_rfl) ( all_cons (by show _ = _; kernel_rfl) ( all_cons (by show _ = _; kernel_rfl) ( all_cons (by show _ = _; kernel_rfl) ( all_cons (by show _ = _; kernel_rfl) ( all_cons (by show _ = _; kernel_rfl) ( all_cons (by show _ = _; kernel_rfl) ( all_cons (by show _ = _; kernel_rfl) (all_nil)))))))))))
theorem cv_ {t f : Nat} {v : IntKind} (h : cvL.lookup (t, f) = some v) : convK (Cs sm) t f = some v := tab_row (P := fun (k : Nat × Nat) (v : IntKind) => convK (Cs sm) k.1 k.2 = some v) (cvA (sm := sm)) h
def miL : List ((Nat) × (IntKind × TypeId)) := [(116, (.i64, 122)), (119, (.i64, 25)), (139, (.i64, 143)), (173, (.i64, 177)), (183, (.i64, 4)), (40, (.i64, 3))]
theorem miA : ∀ p ∈ miL, (fun (k : Nat) (v : IntKind × TypeId) => mapInt (Cs sm) k = some v) p.1 p.2 := all_cons (by show _ = _; kernel_rfl) ( all_cons (by show _ = _; kernel_rfl) ( all_cons (by show _ = _; kernel_rfl) ( all_cons (by show _ = _; kernel_rfl) ( all_cons (by show _ = _; kernel_rfl) ( all_cons (by show _ = _; kernel_rfl) (all_nil))))))
theorem mi_ {k : Nat} {v : IntKind × TypeId} (h : miL.lookup k = some v) : mapInt (Cs sm) k = some v := tab_row (P := fun (k : Nat) (v : IntKind × TypeId) => mapInt (Cs sm) k = some v) (miA (sm := sm)) h
end Go.Ab.Seat
