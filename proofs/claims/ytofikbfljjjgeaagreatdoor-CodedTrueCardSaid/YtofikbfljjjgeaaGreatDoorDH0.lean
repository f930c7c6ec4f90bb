/- What the program's types come to (printed by gen_types.py). -/
import Derived.Test.YtofikbfljjjgeaaGreatDoorDS1
import Derived.Test.YtofikbfljjjgeaaGreatDoorE43
import Derived.KernelRfl
set_option linter.unusedVariables false
set_option linter.unusedSimpArgs false
namespace Go.Ab.Seat
open Go.Extern Go.Proofs
set_option maxRecDepth 1000000
variable {sm : Nat → Option (List Value → M Value)}
theorem el22 : elemAt (Cs sm) 22 = some 1 := by kernel_rfl
theorem el24 : elemAt (Cs sm) 24 = some 1 := by kernel_rfl
theorem el25 : elemAt (Cs sm) 25 = some 1 := by kernel_rfl
theorem el37 : elemAt (Cs sm) 37 = some 2 := by kernel_rfl
theorem el77 : elemAt (Cs sm) 77 = some 1 := by kernel_rfl
theorem ex10 : (Cs sm).ex 10 = none := by kernel_rfl
theorem ex106 : (Cs sm).ex 106 = none := by kernel_rfl
theorem ex136 : (Cs sm).ex 136 = none := by kernel_rfl
theorem ex155 : (Cs sm).ex 155 = none := by kernel_rfl
theorem ex156 : (Cs sm).ex 156 = none := by kernel_rfl
theorem ex157 : (Cs sm).ex 157 = none := by kernel_rfl
theorem ex159 : (Cs sm).ex 159 = none := by kernel_rfl
theorem ex16 : (Cs sm).ex 16 = none := by kernel_rfl
theorem ex160 : (Cs sm).ex 160 = none := by kernel_rfl
theorem ex161 : (Cs sm).ex 161 = none := by kernel_rfl
theorem ex162 : (Cs sm).ex 162 = none := by kernel_rfl
theorem ex163 : (Cs sm).ex 163 = none := by kernel_rfl
theorem ex20 : (Cs sm).ex 20 = none := by kernel_rfl
theorem ex200 : (Cs sm).ex 200 = none := by kernel_rfl
theorem ex21 : (Cs sm).ex 21 = none := by kernel_rfl
theorem ex210 : (Cs sm).ex 210 = none := by kernel_rfl
theorem ex211 : (Cs sm).ex 211 = none := by kernel_rfl
theorem ex212 : (Cs sm).ex 212 = none := by kernel_rfl
theorem ex29 : (Cs sm).ex 29 = none := by kernel_rfl
theorem ex30 : (Cs sm).ex 30 = none := by kernel_rfl
theorem ex38 : (Cs sm).ex 38 = none := by kernel_rfl
theorem ex39 : (Cs sm).ex 39 = none := by kernel_rfl
theorem ex40 : (Cs sm).ex 40 = none := by kernel_rfl
theorem ex41 : (Cs sm).ex 41 = none := by kernel_rfl
theorem ex42 : (Cs sm).ex 42 = none := by kernel_rfl
theorem ex43 : (Cs sm).ex 43 = none := by kernel_rfl
theorem ex72 : (Cs sm).ex 72 = none := by kernel_rfl
theorem ex73 : (Cs sm).ex 73 = none := by kernel_rfl
theorem ex86 : (Cs sm).ex 86 = none := by kernel_rfl
theorem ex87 : (Cs sm).ex 87 = none := by kernel_rfl
theorem ex91 : (Cs sm).ex 91 = none := by kernel_rfl
theorem ex92 : (Cs sm).ex 92 = none := by kernel_rfl
theorem ex93 : (Cs sm).ex 93 = none := by kernel_rfl
theorem ex94 : (Cs sm).ex 94 = none := by kernel_rfl
theorem ex95 : (Cs sm).ex 95 = none := by kernel_rfl
theorem ex96 : (Cs sm).ex 96 = none := by kernel_rfl
theorem ex97 : (Cs sm).ex 97 = none := by kernel_rfl
theorem fn10 : (Cs sm).fn.get 10 = some Tryz.f10 := by kernel_rfl
theorem fn106 : (Cs sm).fn.get 106 = some Tryz.f106 := by kernel_rfl
theorem fn136 : (Cs sm).fn.get 136 = some Tryz.f136 := by kernel_rfl
theorem fn155 : (Cs sm).fn.get 155 = some Tryz.f155 := by kernel_rfl
theorem fn156 : (Cs sm).fn.get 156 = some Tryz.f156 := by kernel_rfl
theorem fn157 : (Cs sm).fn.get 157 = some Tryz.f157 := by kernel_rfl
theorem fn159 : (Cs sm).fn.get 159 = some Tryz.f159 := by kernel_rfl
theorem fn16 : (Cs sm).fn.get 16 = some Tryz.f16 := by kernel_rfl
theorem fn160 : (Cs sm).fn.get 160 = some Tryz.f160 := by kernel_rfl
theorem fn161 : (Cs sm).fn.get 161 = some Tryz.f161 := by kernel_rfl
theorem fn162 : (Cs sm).fn.get 162 = some Tryz.f162 := by kernel_rfl
theorem fn163 : (Cs sm).fn.get 163 = some Tryz.f163 := by kernel_rfl
theorem fn20 : (Cs sm).fn.get 20 = some Tryz.f20 := by kernel_rfl
theorem fn200 : (Cs sm).fn.get 200 = some Tryz.f200 := by kernel_rfl
theorem fn21 : (Cs sm).fn.get 21 = some Tryz.f21 := by kernel_rfl
theorem fn210 : (Cs sm).fn.get 210 = some Tryz.f210 := by kernel_rfl
theorem fn211 : (Cs sm).fn.get 211 = some Tryz.f211 := by kernel_rfl
theorem fn212 : (Cs sm).fn.get 212 = some Tryz.f212 := by kernel_rfl
theorem fn29 : (Cs sm).fn.get 29 = some Tryz.f29 := by kernel_rfl
theorem fn30 : (Cs sm).fn.get 30 = some Tryz.f30 := by kernel_rfl
theorem fn38 : (Cs sm).fn.get 38 = some Tryz.f38 := by kernel_rfl
theorem fn39 : (Cs sm).fn.get 39 = some Tryz.f39 := by kernel_rfl
theorem fn40 : (Cs sm).fn.get 40 = some Tryz.f40 := by kernel_rfl
theorem fn41 : (Cs sm).fn.get 41 = some Tryz.f41 := by kernel_rfl
theorem fn42 : (Cs sm).fn.get 42 = some Tryz.f42 := by kernel_rfl
theorem fn43 : (Cs sm).fn.get 43 = some Tryz.f43 := by kernel_rfl
theorem fn72 : (Cs sm).fn.get 72 = some Tryz.f72 := by kernel_rfl
theorem fn73 : (Cs sm).fn.get 73 = some Tryz.f73 := by kernel_rfl
theorem fn86 : (Cs sm).fn.get 86 = some Tryz.f86 := by kernel_rfl
theorem fn87 : (Cs sm).fn.get 87 = some Tryz.f87 := by kernel_rfl
theorem fn91 : (Cs sm).fn.get 91 = some Tryz.f91 := by kernel_rfl
theorem fn92 : (Cs sm).fn.get 92 = some Tryz.f92 := by kernel_rfl
theorem fn93 : (Cs sm).fn.get 93 = some Tryz.f93 := by kernel_rfl
theorem fn94 : (Cs sm).fn.get 94 = some Tryz.f94 := by kernel_rfl
theorem fn95 : (Cs sm).fn.get 95 = some Tryz.f95 := by kernel_rfl
theorem fn96 : (Cs sm).fn.get 96 = some Tryz.f96 := by kernel_rfl
theorem fn97 : (Cs sm).fn.get 97 = some Tryz.f97 := by kernel_rfl
theorem km10 : (Cs sm).km.get 10 = some 21778071485159688454326116642971384938483 := by kernel_rfl
theorem km106 : (Cs sm).km.get 106 = some 339 := by kernel_rfl
theorem km136 : (Cs sm).km.get 136 = some 21 := by kernel_rfl
theorem km155 : (Cs sm).km.get 155 = some 537399539 := by kernel_rfl
theorem km156 : (Cs sm).km.get 156 = some 21 := by kernel_rfl
theorem km157 : (Cs sm).km.get 157 = some 11 := by kernel_rfl
theorem km159 : (Cs sm).km.get 159 = some 19 := by kernel_rfl
theorem km16 : (Cs sm).km.get 16 = some 131527 := by kernel_rfl
theorem km160 : (Cs sm).km.get 160 = some 5 := by kernel_rfl
theorem km161 : (Cs sm).km.get 161 = some 21 := by kernel_rfl
theorem km162 : (Cs sm).km.get 162 = some 19 := by kernel_rfl
theorem km163 : (Cs sm).km.get 163 = some 5 := by kernel_rfl
theorem km20 : (Cs sm).km.get 20 = some 135 := by kernel_rfl
theorem km200 : (Cs sm).km.get 200 = some 295147905181504570311 := by kernel_rfl
theorem km21 : (Cs sm).km.get 21 = some 131187 := by kernel_rfl
theorem km210 : (Cs sm).km.get 210 = some 66483 := by kernel_rfl
theorem km211 : (Cs sm).km.get 211 = some 66483 := by kernel_rfl
theorem km212 : (Cs sm).km.get 212 = some 66483 := by kernel_rfl
theorem km29 : (Cs sm).km.get 29 = some 71 := by kernel_rfl
theorem km30 : (Cs sm).km.get 30 = some 135 := by kernel_rfl
theorem km38 : (Cs sm).km.get 38 = some 21 := by kernel_rfl
theorem km39 : (Cs sm).km.get 39 = some 755 := by kernel_rfl
theorem km40 : (Cs sm).km.get 40 = some 19 := by kernel_rfl
theorem km41 : (Cs sm).km.get 41 = some 83 := by kernel_rfl
theorem km42 : (Cs sm).km.get 42 = some 17697271 := by kernel_rfl
theorem km43 : (Cs sm).km.get 43 = some 21 := by kernel_rfl
theorem km72 : (Cs sm).km.get 72 = some 5 := by kernel_rfl
theorem km73 : (Cs sm).km.get 73 = some 5 := by kernel_rfl
theorem km86 : (Cs sm).km.get 86 = some 155 := by kernel_rfl
theorem km87 : (Cs sm).km.get 87 = some 582907660279 := by kernel_rfl
theorem km91 : (Cs sm).km.get 91 = some 65555 := by kernel_rfl
theorem km92 : (Cs sm).km.get 92 = some 7 := by kernel_rfl
theorem km93 : (Cs sm).km.get 93 = some 16806963 := by kernel_rfl
theorem km94 : (Cs sm).km.get 94 = some 21 := by kernel_rfl
theorem km95 : (Cs sm).km.get 95 = some 7 := by kernel_rfl
theorem km96 : (Cs sm).km.get 96 = some 4147 := by kernel_rfl
theorem km97 : (Cs sm).km.get 97 = some 7 := by kernel_rfl
theorem ro22 : (Cs sm).row 22 = some (25, 1, 24, [.slice none 0 0]) := by kernel_rfl
theorem ro24 : (Cs sm).row 24 = some (21, 1, 4, [.int .i32 0]) := by kernel_rfl
theorem ro25 : (Cs sm).row 25 = some (21, 1, 4, [.int .i32 0]) := by kernel_rfl
theorem ro37 : (Cs sm).row 37 = some (52, 2, 16, [.int .i64 0, .int .i64 0]) := by kernel_rfl
theorem ro77 : (Cs sm).row 77 = some (5, 1, 1, [.int .u8 0]) := by kernel_rfl
theorem sl22 : sliceT (Cs sm) 22 = true := by kernel_rfl
theorem sl24 : sliceT (Cs sm) 24 = true := by kernel_rfl
theorem sl25 : sliceT (Cs sm) 25 = true := by kernel_rfl
theorem sl37 : sliceT (Cs sm) 37 = true := by kernel_rfl
theorem sl77 : sliceT (Cs sm) 77 = true := by kernel_rfl
def plL : List ((Nat) × (Bool)) := [(105, true), (116, true), (119, true), (139, true), (173, true), (183, true), (2, true), (21, true), (22, true), (24, true), (25, true), (28, true), (3, true), (30, true), (32, true), (37, true), (44, true), (45, true), (5, true), (54, true), (77, true), (9, true), (96, true)]
theorem plA : ∀ p ∈ plL, (fun (k : Nat) (v : Bool) => plainT (Cs sm) k = v) p.1 p.2 := all_cons (by show _ = _; kernel_rfl) ( all_cons (by show _ = _; kernel_rfl) ( all_cons (by show _ = _; kernel_rfl) ( all_cons (by show _ = _; kernel_rfl) ( all_cons (by show _ = _; kernel_rfl) ( all_cons (by show _ = _; kernel_rfl) ( all_cons (by show _ = _; kernel_rfl) ( all_cons (by show _ = _; kernel_rfl) ( all_cons (by show _ = _; kernel_rfl) ( all_cons (by show _ = _; kernel_rfl) ( all_cons (by show _ = _; kernel_rfl) ( all_cons (by show _ = _; kernel_rfl) ( all_cons (by show _ = _; kernel_rfl) ( all_cons (by show _ = _; kernel_rfl) ( all_cons (by show _ = _; kernel_rfl) ( all_cons (by show _ = _; kernel_rfl) ( all_cons (by show _ = _; kernel_rfl) ( all_cons (by show _ = _; kernel_rfl) ( all_cons (by show _ = _; kernel_rfl) ( all_cons (by show _ = _; kernel_rfl) ( all_cons (by show _ = _; kernel_rfl) ( all_cons (by show _ = _; kernel_rfl) ( all_cons (by show _ = _; kernel_rfl) (all_nil)))))))))))))))))))))))
theorem pl_ {k : Nat} {v : Bool} (h : plL.lookup k = some v) : plainT (Cs sm) k = v := tab_row (P := fun (k : Nat) (v : Bool) => plainT (Cs sm) k = v) (plA (sm := sm)) h
def agL : List ((Nat) × (Nat)) := [(106, 2), (110, 5), (112, 8), (187, 2), (50, 5), (52, 2), (72, 2), (98, 4)]
theorem agA : ∀ p ∈ agL, (fun (k : Nat) (v : Nat) => aggT (Cs sm) k = some v) p.1 p.2 := all_cons (by show _ = _; kernel_rfl) ( all_cons (by show _ = _; kernel_rfl) ( all_cons (by show _ = _; kernel_rfl) ( all_cons (by show _ = _; kernel_rfl) ( all_cons (by show _ = _; kernel_rfl) ( all_cons (by show _ = _; kernel_rfl) ( all_cons (by show _ = _; kernel_rfl) ( all_cons (by show _ = _; kernel_rfl) (all_nil))))))))
theorem ag_ {k : Nat} {v : Nat} (h : agL.lookup k = some v) : aggT (Cs sm) k = some v := tab_row (P := fun (k : Nat) (v : Nat) => aggT (Cs sm) k = some v) (agA (sm := sm)) h
def szL : List ((Nat) × (Nat)) := [(105, 1), (106, 2), (110, 5), (112, 8), (143, 2), (177, 2), (183, 1), (187, 2), (2, 1), (21, 1), (22, 1), (24, 1), (25, 1), (28, 1), (3, 1), (30, 1), (318, 1), (37, 1), (44, 1), (45, 1), (5, 1), (50, 5), (52, 2), (54, 1), (72, 2), (96, 1)]
theorem szA : ∀ p ∈ szL, (fun (k : Nat) (v : Nat) => (Cs sm).size k = some v) p.1 p.2 := all_cons (by show _ = _; kernel_rfl) ( all_cons (by show _ = _; kernel_rfl) ( all_cons (by show _ = _; kernel_rfl) ( all_cons (by show _ = _; kernel_rfl) ( all_cons (by show _ = _; kernel_rfl) ( all_cons (by show _ = _; kernel_rfl) ( all_cons (by show _ = _; kernel_rfl) ( all_cons (by show _ = _; kernel_rfl) ( all_cons (by show _ = _; kernel_rfl) ( all_cons (by show _ = _; kernel_rfl) ( all_cons (by show _ = _; kernel_rfl) ( all_cons (by show _ = _; kernel_rfl) ( all_cons (by show _ = _; kernel_rfl) ( all_cons (by show _ = _; kernel_rfl) ( all_cons (by show _ = _; kernel_rfl) ( all_cons (by show _ = _; kernel_rfl) ( all_cons (by show _ = _; kernel_rfl) ( all_cons (by show _ = _; kernel_rfl) ( all_cons (by show _ = _; kernel_rfl) ( all_cons (by show _ = _; kernel_rfl) ( all_cons (by show _ = _; kernel_rfl) ( all_cons (by show _ = _; kernel_rfl) ( all_cons (by show _ = _; kernel_rfl) ( all_cons (by show _ = _; kernel_rfl) ( all_cons (by show _ = _; kernel_rfl) ( all_cons (by show _ = _; kernel_rfl) (all_nil))))))))))))))))))))))))))
theorem sz_ {k : Nat} {v : Nat} (h : szL.lookup k = some v) : (Cs sm).size k = some v := tab_row (P := fun (k : Nat) (v : Nat) => (Cs sm).size k = some v) (szA (sm := sm)) h
def zeL : List ((Nat) × (Value)) := [(106, (.agg #[.slice none 0 0, .slice none 0 0])), (110, (.agg #[.slice none 0 0, .slice none 0 0, .slice none 0 0, .slice none 0 0, .slice none 0 0])), (112, (.agg #[.int .i64 0, .slice none 0 0, .int .i64 0, .slice none 0 0, .slice none 0 0, .slice none 0 0, .slice none 0 0, .slice none 0 0])), (122, (.pointer none)), (143, (.agg #[.slice none 0 0, .slice none 0 0])), (177, (.agg #[.slice none 0 0, .int .i64 0])), (183, (.map none)), (187, (.agg #[.int .i64 0, .int .i64 0])), (25, (.slice none 0 0)), (3, (.int .i64 0)), (318, (.int .u64 0)), (4, (.bool false)), (44, (.nilFunc)), (50, (.agg #[.int .i64 0, .int .i64 0, .int .i64 0, .slice none 0 0, .int .u32 0])), (52, (.agg #[.int .i64 0, .int .i64 0])), (72, (.agg #[.slice none 0 0, .slice none 0 0]))]
theorem zeA : ∀ p ∈ zeL, (fun (k : Nat) (v : Value) => (Cs sm).zero k = some v) p.1 p.2 := all_cons (by show _ = _; kernel_rfl) ( all_cons (by show _ = _; kernel_rfl) ( all_cons (by show _ = _; kernel_rfl) ( all_cons (by show _ = _; kernel_rfl) ( all_cons (by show _ = _; kernel_rfl) ( all_cons (by show _ = _; kernel_rfl) ( all_cons (by show _ = _; kernel_rfl) ( all_cons (by show _ = _; kernel_rfl) ( all_cons (by show _ = _; kernel_rfl) ( all_cons (by show _ = _; kernel_rfl) ( all_cons (by show _ = _; kernel_rfl) ( all_cons (by show _ = _; kernel_rfl) ( all_cons (by show _ = _; kernel_rfl) ( all_cons (by show _ = _; kernel_rfl) ( all_cons (by show _ = _; kernel_rfl) ( all_cons (by show _ = _; kernel_rfl) (all_nil))))))))))))))))
theorem ze_ {k : Nat} {v : Value} (h : zeL.lookup k = some v) : (Cs sm).zero k = some v := tab_row (P := fun (k : Nat) (v : Value) => (Cs sm).zero k = some v) (zeA (sm := sm)) h
def faL : List ((Nat × Nat) × (Nat × TypeId)) := [((106, 0), (0, 24)), ((106, 1), (1, 24)), ((108, 0), (0, 3)), ((108, 1), (1, 3)), ((108, 3), (3, 105)), ((108, 4), (4, 22)), ((108, 5), (5, 106)), ((112, 0), (0, 3)), ((112, 1), (1, 25)), ((112, 2), (2, 3)), ((112, 3), (3, 110)), ((118, 0), (0, 3)), ((118, 1), (1, 116)), ((121, 0), (0, 3)), ((121, 1), (1, 119)), ((125, 0), (0, 25)), ((125, 1), (1, 3)), ((125, 2), (2, 110)), ((141, 0), (0, 3)), ((141, 1), (1, 72)), ((141, 2), (3, 139)), ((143, 0), (0, 25)), ((143, 1), (1, 77)), ((148, 0), (0, 3)), ((148, 2), (2, 3)), ((148, 3), (3, 30)), ((148, 4), (4, 96)), ((148, 5), (5, 28)), ((148, 6), (6, 54)), ((175, 0), (0, 3)), ((175, 1), (1, 22)), ((175, 2), (2, 173)), ((177, 0), (0, 25)), ((177, 1), (1, 3)), ((245, 0), (0, 37)), ((245, 1), (1, 3)), ((50, 0), (0, 3)), ((50, 1), (1, 3)), ((50, 2), (2, 3)), ((50, 3), (3, 25)), ((50, 4), (4, 32)), ((52, 0), (0, 3)), ((52, 1), (1, 2)), ((72, 0), (0, 24)), ((72, 1), (1, 24)), ((98, 0), (0, 30)), ((98, 1), (1, 96)), ((98, 2), (2, 28)), ((98, 3), (3, 54))]
theorem faA : ∀ p ∈ faL, (fun (k : Nat × Nat) (v : Nat × TypeId) => fieldAt (Cs sm) k.1 k.2 = some v) p.1 p.2 := all_cons (by show _ = _; kernel_rfl) ( all_cons (by show _ = _; kernel_rfl) ( all_cons (by show _ = _; kernel_rfl) ( all_cons (by show _ = _; kernel_rfl) ( all_cons (by show _ = _; kernel_rfl) ( all_cons (by show _ = _; kernel_rfl) ( all_cons (by show _ = _; kernel_rfl) ( all_cons (by show _ = _; kernel_rfl) ( all_cons (by show _ = _; kernel_rfl) ( all_cons (by show _ = _; kernel_rfl) ( all_cons (by show _ = _; kernel_rfl) ( all_cons (by show _ = _; kernel_rfl) ( all_cons (by show _ = _; kernel_rfl) ( all_cons (by show _ = _; kernel_rfl) ( all_cons (by show _ = _; kernel_rfl) ( all_cons (by show _ = _; kernel_rfl) ( all_cons (by show _ = _; kernel_rfl) ( all_cons (by show _ = _; kernel_rfl) ( all_cons (by show _ = _; kernel_rfl) ( all_cons (by show _ = _; kernel_rfl) ( all_cons (by show _ = _; kernel_rfl) ( all_cons (by show _ = _; kernel_rfl) ( all_cons (by show _ = _; kernel_rfl) ( all_cons (by show _ = _; kernel_rfl) ( all_cons (by show _ = _; kernel_rfl) ( all_cons (by show _ = _; kernel_rfl) ( all_cons (by show _ = _; kernel_rfl) ( all_cons (by show _ = _; kernel_rfl) ( all_cons (by show _ = _; kernel_rfl) ( all_cons (by show _ = _; kernel_rfl) ( all_cons (by show _ = _; kernel_rfl) ( all_cons (by show _ = _; kernel_rfl) ( all_cons (by show _ = _; kernel_rfl) ( all_cons (by show _ = _; kernel_rfl) ( all_cons (by show _ = _; kernel_rfl) ( all_cons (by show _ = _; kernel_rfl) ( all_cons (by show _ = _; kernel_rfl) ( all_cons (by show _ = _; kernel_rfl) ( all_cons (by show _ = _; kernel_rfl) ( all_cons (by show _ = _; kernel_rfl) ( all_cons (by show _ = _; kernel_rfl) ( all_cons (by show _ = _; kernel_rfl) ( all_cons (by show _ = _; kernel_rfl) ( all_cons (by show _ = _; kernel_rfl) ( all_cons (by show _ = _; kernel_rfl) ( all_cons (by show _ = _; kernel_rfl) ( all_cons (by show _ = _; kernel_rfl) ( all_cons (by show _ = _; kernel_rfl) ( all_cons (by show _ = _; kernel_rfl) (all_nil)))))))))))))))))))))))))))))))))))))))))))))))))
theorem fa_ {t f : Nat} {v : Nat × TypeId} (h : faL.lookup (t, f) = some v) : fieldAt (Cs sm) t f = some v := tab_row (P := fun (k : Nat × Nat) (v : Nat × TypeId) => fieldAt (Cs sm) k.1 k.2 = some v) (faA (sm := sm)) h
def slL : List ((Nat) × (Bool)) := [(102, true), (105, true), (188, true), (205, true), (22, true), (23, true), (24, true), (25, true), (37, true), (45, true), (48, true), (77, true), (87, true)]
theorem slA : ∀ p ∈ slL, (fun (k : Nat) (v : Bool) => sliceT (Cs sm) k = v) p.1 p.2 := all_cons (by show _ = _; kernel_rfl) ( all_cons (by show _ = _; kernel_rfl) ( all_cons (by show _ = _; kernel_rfl) ( all_cons (by show _ = _; kernel_rfl) ( all_cons (by show _ = _; kernel_rfl) ( all_cons (by show _ = _; kernel_rfl) ( all_cons (by show _ = _; kernel_rfl) ( all_cons (by show _ = _; kernel_rfl) ( all_cons (by show _ = _; kernel_rfl) ( all_cons (by show _ = _; kernel_rfl) ( all_cons (by show _ = _; kernel_rfl) ( all_cons (by show _ = _; kernel_rfl) ( all_cons (by show _ = _; kernel_rfl) (all_nil)))))))))))))
theorem sl_ {k : Nat} {v : Bool} (h : slL.lookup k = some v) : sliceT (Cs sm) k = v := tab_row (P := fun (k : Nat) (v : Bool) => sliceT (Cs sm) k = v) (slA (sm := sm)) h
def unL : List ((Nat × Nat) × (Bool)) := [((122, 0), true), ((181, 0), true), ((22, 1), true), ((24, 1), true), ((25, 1), true), ((28, 0), true), ((30, 0), true), ((37, 1), true), ((45, 1), true), ((4, 3), true), ((54, 0), true), ((57, 0), true), ((59, 2), true), ((77, 1), true), ((96, 0), true)]
theorem unA : ∀ p ∈ unL, (fun (k : Nat × Nat) (v : Bool) => undIs (Cs sm) k.1 k.2 = v) p.1 p.2 := all_cons (by show _ = _; kernel_rfl) ( all_cons (by show _ = _; kernel_rfl) ( all_cons (by show _ = _; kernel_rfl) ( all_cons (by show _ = _; kernel_rfl) ( all_cons (by show _ = _; kernel_rfl) ( all_cons (by show _ = _; kernel_rfl) ( all_cons (by show _ = _; kernel_rfl) ( all_cons (by show _ = _; kernel_rfl) ( all_cons (by show _ = _; kernel_rfl) ( all_cons (by show _ = _; kernel_rfl) ( all_cons (by show _ = _; kernel_rfl) ( all_cons (by show _ = _; kernel_rfl) ( all_cons (by show _ = _; kernel_rfl) ( all_cons (by show _ = _; kernel_rfl) ( all_cons (by show _ = _; kernel_rfl) (all_nil)))))))))))))))
theorem un_ {t f : Nat} {v : Bool} (h : unL.lookup (t, f) = some v) : undIs (Cs sm) t f = v := tab_row (P := fun (k : Nat × Nat) (v : Bool) => undIs (Cs sm) k.1 k.2 = v) (unA (sm := sm)) h
def btL : List ((Nat) × (List (Nat × Nat) × List Value)) := [(106, ([(0, 1), (1, 1)], [.slice none 0 0, .slice none 0 0])), (108, ([(0, 1), (1, 1), (2, 1), (3, 1), (4, 1), (5, 2)], [.int .i64 0, .int .i64 0, .int .i64 0, .slice none 0 0, .slice none 0 0, .slice none 0 0, .slice none 0 0])), (112, ([(0, 1), (1, 1), (2, 1), (3, 5)], [.int .i64 0, .slice none 0 0, .int .i64 0, .slice none 0 0, .slice none 0 0, .slice none 0 0, .slice none 0 0, .slice none 0 0])), (118, ([(0, 1), (1, 1)], [.int .i64 0, .map none])), (121, ([(0, 1), (1, 1)], [.int .i64 0, .map none])), (125, ([(0, 1), (1, 1), (2, 5)], [.slice none 0 0, .int .i64 0, .slice none 0 0, .slice none 0 0, .slice none 0 0, .slice none 0 0, .slice none 0 0])), (141, ([(0, 1), (1, 2), (3, 1)], [.int .i64 0, .slice none 0 0, .slice none 0 0, .map none])), (143, ([(0, 1), (1, 1)], [.slice none 0 0, .slice none 0 0])), (148, ([(0, 1), (1, 1), (2, 1), (3, 1), (4, 1), (5, 1), (6, 1)], [.int .i64 0, .int .i64 0, .int .i64 0, .pointer none, .pointer none, .pointer none, .pointer none])), (175, ([(0, 1), (1, 1), (2, 1)], [.int .i64 0, .slice none 0 0, .map none])), (177, ([(0, 1), (1, 1)], [.slice none 0 0, .int .i64 0])), (245, ([(0, 1), (1, 1)], [.slice none 0 0, .int .i64 0])), (52, ([(0, 1), (1, 1)], [.int .i64 0, .int .i64 0])), (72, ([(0, 1), (1, 1)], [.slice none 0 0, .slice none 0 0])), (98, ([(0, 1), (1, 1), (2, 1), (3, 1)], [.pointer none, .pointer none, .pointer none, .pointer none]))]
theorem btA : ∀ p ∈ btL, (fun (k : Nat) (v : List (Nat × Nat) × List Value) => buildT (Cs sm) k = some v) p.1 p.2 := all_cons (by show _ = _; kernel_rfl) ( all_cons (by show _ = _; kernel_rfl) ( all_cons (by show _ = _; kernel_rfl) ( all_cons (by show _ = _; kernel_rfl) ( all_cons (by show _ = _; kernel_rfl) ( all_cons (by show _ = _; kernel_rfl) ( all_cons (by show _ = _; kernel_rfl) ( all_cons (by show _ = _; kernel_rfl) ( all_cons (by show _ = _; kernel_rfl) ( all_cons (by show _ = _; kernel_rfl) ( all_cons (by show _ = _; kernel_rfl) ( all_cons (by show _ = _; kernel_rfl) ( all_cons (by show _ = _; kernel_rfl) ( all_cons (by show _ = _; kernel_rfl) ( all_cons (by show _ = _; kernel_rfl) (all_nil)))))))))))))))
theorem bt_ {k : Nat} {v : List (Nat × Nat) × List Value} (h : btL.lookup k = some v) : buildT (Cs sm) k = some v := tab_row (P := fun (k : Nat) (v : List (Nat × Nat) × List Value) => buildT (Cs sm) k = some v) (btA (sm := sm)) h
def roL : List ((Nat) × (TypeId × Nat × Nat × List Value)) := [(102, (45, 1, 24, [.slice none 0 0])), (105, (112, 8, 160, [.int .i64 0, .slice none 0 0, .int .i64 0, .slice none 0 0, .slice none 0 0, .slice none 0 0, .slice none 0 0, .slice none 0 0])), (188, (187, 2, 16, [.int .i64 0, .int .i64 0])), (205, (2, 1, 8, [.int .i64 0])), (22, (25, 1, 24, [.slice none 0 0])), (226, (22, 1, 24, [.slice none 0 0])), (24, (21, 1, 4, [.int .i32 0])), (25, (21, 1, 4, [.int .i32 0])), (37, (52, 2, 16, [.int .i64 0, .int .i64 0])), (45, (3, 1, 8, [.int .i64 0])), (77, (5, 1, 1, [.int .u8 0]))]
theorem roA : ∀ p ∈ roL, (fun (k : Nat) (v : TypeId × Nat × Nat × List Value) => (Cs sm).row k = some v) p.1 p.2 := all_cons (by show _ = _; kernel_rfl) ( all_cons (by show _ = _; kernel_rfl) ( all_cons (by show _ = _; kernel_rfl) ( all_cons (by show _ = _; kernel_rfl) ( all_cons (by show _ = _; kernel_rfl) ( all_cons (by show _ = _; kernel_rfl) ( all_cons (by show _ = _; kernel_rfl) ( all_cons (by show _ = _; kernel_rfl) ( all_cons (by show _ = _; kernel_rfl) ( all_cons (by show _ = _; kernel_rfl) ( all_cons (by show _ = _; kernel_rfl) (all_nil)))))))))))
theorem ro_ {k : Nat} {v : TypeId × Nat × Nat × List Value} (h : roL.lookup k = some v) : (Cs sm).row k = some v := tab_row (P := fun (k : Nat) (v : TypeId × Nat × Nat × List Value) => (Cs sm).row k = some v) (roA (sm := sm)) h
def cvL : List ((Nat × Nat) × (IntKind)) := [((194, 3), .i64), ((194, 32), .u32), ((21, 2), .i64), ((291, 5), .u8), ((2, 21), .i32), ((2, 5), .u8), ((3, 194), .u64), ((3, 318), .u64), ((3, 32), .u32), ((5, 2), .i64), ((5, 3), .i64)]
theorem cvA : ∀ p ∈ cvL, (fun (k : Nat × Nat) (v : IntKind) => convK (Cs sm) k.1 k.2 = some v) p.1 p.2 := all_cons (by show _ = _; kernel_rfl) ( all_cons (by show _ = _; kernel_rfl) ( all_cons (by show _ = _; kernel_rfl) ( all_cons (by show _ = _; kernel_rfl) ( all_cons (by show _ = _; kernel_rfl) ( all_cons (by show _ = _; kernel_rfl) ( all_cons (by show _ = _; kernel_rfl) ( all_cons (by show _ = _; kernel_rfl) ( all_cons (by show _ = _; kernel_rfl) ( all_cons (by show _ = _; kernel_rfl) ( all_cons (by show _ = _; kernel_rfl) (all_nil)))))))))))
theorem cv_ {t f : Nat} {v : IntKind} (h : cvL.lookup (t, f) = some v) : convK (Cs sm) t f = some v := tab_row (P := fun (k : Nat × Nat) (v : IntKind) => convK (Cs sm) k.1 k.2 = some v) (cvA (sm := sm)) h
def miL : List ((Nat) × (IntKind × TypeId)) := [(116, (.i64, 122)), (119, (.i64, 25)), (139, (.i64, 143)), (173, (.i64, 177)), (183, (.i64, 4)), (40, (.i64, 3))]
theorem miA : ∀ p ∈ miL, (fun (k : Nat) (v : IntKind × TypeId) => mapInt (Cs sm) k = some v) p.1 p.2 := all_cons (by show _ = _; kernel_rfl) ( all_cons (by show _ = _; kernel_rfl) ( all_cons (by show _ = _; kernel_rfl) ( all_cons (by show _ = _; kernel_rfl) ( all_cons (by show _ = _; kernel_rfl) ( all_cons (by show _ = _; kernel_rfl) (all_nil))))))
theorem mi_ {k : Nat} {v : IntKind × TypeId} (h : miL.lookup k = some v) : mapInt (Cs sm) k = some v := tab_row (P := fun (k : Nat) (v : IntKind × TypeId) => mapInt (Cs sm) k = some v) (miA (sm := sm)) h
end Go.Ab.Seat
