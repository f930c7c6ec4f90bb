/- What the program's types come to (printed by gen_types.py). -/
import Derived.Test.YtcnfbfiakkjabaaGreatDoorDS1
import Derived.Test.YtcnfbfiakkjabaaGreatDoorE43
import Derived.KernelRfl
set_option linter.unusedVariables false
set_option linter.unusedSimpArgs false
namespace Go.Ab.Seat
open Go.Extern Go.Proofs
set_option maxRecDepth 1000000
variable {sm : Nat → Option (List Value → M Value)}
theorem ag149 : aggT (Cs sm) 149 = some 2 := by kernel_rfl
theorem ag154 : aggT (Cs sm) 154 = some 8 := by kernel_rfl
theorem ag41 : aggT (Cs sm) 41 = some 2 := by kernel_rfl
theorem ag61 : aggT (Cs sm) 61 = some 4 := by kernel_rfl
theorem ag99 : aggT (Cs sm) 99 = some 5 := by kernel_rfl
theorem el148 : elemAt (Cs sm) 148 = some 8 := by kernel_rfl
theorem el22 : elemAt (Cs sm) 22 = some 1 := by kernel_rfl
theorem el24 : elemAt (Cs sm) 24 = some 1 := by kernel_rfl
theorem el32 : elemAt (Cs sm) 32 = some 2 := by kernel_rfl
theorem el35 : elemAt (Cs sm) 35 = some 1 := by kernel_rfl
theorem el47 : elemAt (Cs sm) 47 = some 1 := by kernel_rfl
theorem el55 : elemAt (Cs sm) 55 = some 5 := by kernel_rfl
theorem ex101 : (Cs sm).ex 101 = none := by kernel_rfl
theorem ex103 : (Cs sm).ex 103 = none := by kernel_rfl
theorem ex105 : (Cs sm).ex 105 = none := by kernel_rfl
theorem ex106 : (Cs sm).ex 106 = none := by kernel_rfl
theorem ex11 : (Cs sm).ex 11 = none := by kernel_rfl
theorem ex112 : (Cs sm).ex 112 = none := by kernel_rfl
theorem ex115 : (Cs sm).ex 115 = none := by kernel_rfl
theorem ex116 : (Cs sm).ex 116 = none := by kernel_rfl
theorem ex12 : (Cs sm).ex 12 = none := by kernel_rfl
theorem ex13 : (Cs sm).ex 13 = none := by kernel_rfl
theorem ex14 : (Cs sm).ex 14 = none := by kernel_rfl
theorem ex15 : (Cs sm).ex 15 = none := by kernel_rfl
theorem ex153 : (Cs sm).ex 153 = none := by kernel_rfl
theorem ex154 : (Cs sm).ex 154 = none := by kernel_rfl
theorem ex155 : (Cs sm).ex 155 = none := by kernel_rfl
theorem ex156 : (Cs sm).ex 156 = none := by kernel_rfl
theorem ex16 : (Cs sm).ex 16 = none := by kernel_rfl
theorem ex166 : (Cs sm).ex 166 = none := by kernel_rfl
theorem ex17 : (Cs sm).ex 17 = none := by kernel_rfl
theorem ex171 : (Cs sm).ex 171 = none := by kernel_rfl
theorem ex195 : (Cs sm).ex 195 = none := by kernel_rfl
theorem ex21 : (Cs sm).ex 21 = none := by kernel_rfl
theorem ex216 : (Cs sm).ex 216 = none := by kernel_rfl
theorem ex22 : (Cs sm).ex 22 = none := by kernel_rfl
theorem ex31 : (Cs sm).ex 31 = none := by kernel_rfl
theorem ex32 : (Cs sm).ex 32 = none := by kernel_rfl
theorem ex33 : (Cs sm).ex 33 = none := by kernel_rfl
theorem ex45 : (Cs sm).ex 45 = none := by kernel_rfl
theorem ex46 : (Cs sm).ex 46 = none := by kernel_rfl
theorem ex47 : (Cs sm).ex 47 = none := by kernel_rfl
theorem ex48 : (Cs sm).ex 48 = none := by kernel_rfl
theorem ex50 : (Cs sm).ex 50 = none := by kernel_rfl
theorem ex54 : (Cs sm).ex 54 = none := by kernel_rfl
theorem ex57 : (Cs sm).ex 57 = none := by kernel_rfl
theorem ex58 : (Cs sm).ex 58 = none := by kernel_rfl
theorem ex59 : (Cs sm).ex 59 = none := by kernel_rfl
theorem ex60 : (Cs sm).ex 60 = none := by kernel_rfl
theorem ex61 : (Cs sm).ex 61 = none := by kernel_rfl
theorem ex62 : (Cs sm).ex 62 = none := by kernel_rfl
theorem ex63 : (Cs sm).ex 63 = none := by kernel_rfl
theorem ex64 : (Cs sm).ex 64 = none := by kernel_rfl
theorem ex65 : (Cs sm).ex 65 = none := by kernel_rfl
theorem ex66 : (Cs sm).ex 66 = none := by kernel_rfl
theorem ex67 : (Cs sm).ex 67 = none := by kernel_rfl
theorem ex8 : (Cs sm).ex 8 = none := by kernel_rfl
theorem ex84 : (Cs sm).ex 84 = none := by kernel_rfl
theorem ex85 : (Cs sm).ex 85 = none := by kernel_rfl
theorem ex86 : (Cs sm).ex 86 = none := by kernel_rfl
theorem ex87 : (Cs sm).ex 87 = none := by kernel_rfl
theorem ex93 : (Cs sm).ex 93 = none := by kernel_rfl
theorem ex99 : (Cs sm).ex 99 = none := by kernel_rfl
theorem fn101 : (Cs sm).fn.get 101 = some Tryz.f101 := by kernel_rfl
theorem fn103 : (Cs sm).fn.get 103 = some Tryz.f103 := by kernel_rfl
theorem fn105 : (Cs sm).fn.get 105 = some Tryz.f105 := by kernel_rfl
theorem fn106 : (Cs sm).fn.get 106 = some Tryz.f106 := by kernel_rfl
theorem fn11 : (Cs sm).fn.get 11 = some Tryz.f11 := by kernel_rfl
theorem fn112 : (Cs sm).fn.get 112 = some Tryz.f112 := by kernel_rfl
theorem fn115 : (Cs sm).fn.get 115 = some Tryz.f115 := by kernel_rfl
theorem fn116 : (Cs sm).fn.get 116 = some Tryz.f116 := by kernel_rfl
theorem fn12 : (Cs sm).fn.get 12 = some Tryz.f12 := by kernel_rfl
theorem fn13 : (Cs sm).fn.get 13 = some Tryz.f13 := by kernel_rfl
theorem fn14 : (Cs sm).fn.get 14 = some Tryz.f14 := by kernel_rfl
theorem fn15 : (Cs sm).fn.get 15 = some Tryz.f15 := by kernel_rfl
theorem fn153 : (Cs sm).fn.get 153 = some Tryz.f153 := by kernel_rfl
theorem fn154 : (Cs sm).fn.get 154 = some Tryz.f154 := by kernel_rfl
theorem fn155 : (Cs sm).fn.get 155 = some Tryz.f155 := by kernel_rfl
theorem fn156 : (Cs sm).fn.get 156 = some Tryz.f156 := by kernel_rfl
theorem fn16 : (Cs sm).fn.get 16 = some Tryz.f16 := by kernel_rfl
theorem fn166 : (Cs sm).fn.get 166 = some Tryz.f166 := by kernel_rfl
theorem fn17 : (Cs sm).fn.get 17 = some Tryz.f17 := by kernel_rfl
theorem fn171 : (Cs sm).fn.get 171 = some Tryz.f171 := by kernel_rfl
theorem fn195 : (Cs sm).fn.get 195 = some Tryz.f195 := by kernel_rfl
theorem fn21 : (Cs sm).fn.get 21 = some Tryz.f21 := by kernel_rfl
theorem fn216 : (Cs sm).fn.get 216 = some Tryz.f216 := by kernel_rfl
theorem fn22 : (Cs sm).fn.get 22 = some Tryz.f22 := by kernel_rfl
theorem fn31 : (Cs sm).fn.get 31 = some Tryz.f31 := by kernel_rfl
theorem fn32 : (Cs sm).fn.get 32 = some Tryz.f32 := by kernel_rfl
theorem fn33 : (Cs sm).fn.get 33 = some Tryz.f33 := by kernel_rfl
theorem fn45 : (Cs sm).fn.get 45 = some Tryz.f45 := by kernel_rfl
theorem fn46 : (Cs sm).fn.get 46 = some Tryz.f46 := by kernel_rfl
theorem fn47 : (Cs sm).fn.get 47 = some Tryz.f47 := by kernel_rfl
theorem fn48 : (Cs sm).fn.get 48 = some Tryz.f48 := by kernel_rfl
theorem fn50 : (Cs sm).fn.get 50 = some Tryz.f50 := by kernel_rfl
theorem fn54 : (Cs sm).fn.get 54 = some Tryz.f54 := by kernel_rfl
theorem fn57 : (Cs sm).fn.get 57 = some Tryz.f57 := by kernel_rfl
theorem fn58 : (Cs sm).fn.get 58 = some Tryz.f58 := by kernel_rfl
theorem fn59 : (Cs sm).fn.get 59 = some Tryz.f59 := by kernel_rfl
theorem fn60 : (Cs sm).fn.get 60 = some Tryz.f60 := by kernel_rfl
theorem fn61 : (Cs sm).fn.get 61 = some Tryz.f61 := by kernel_rfl
theorem fn62 : (Cs sm).fn.get 62 = some Tryz.f62 := by kernel_rfl
theorem fn63 : (Cs sm).fn.get 63 = some Tryz.f63 := by kernel_rfl
theorem fn64 : (Cs sm).fn.get 64 = some Tryz.f64 := by kernel_rfl
theorem fn65 : (Cs sm).fn.get 65 = some Tryz.f65 := by kernel_rfl
theorem fn66 : (Cs sm).fn.get 66 = some Tryz.f66 := by kernel_rfl
theorem fn67 : (Cs sm).fn.get 67 = some Tryz.f67 := by kernel_rfl
theorem fn8 : (Cs sm).fn.get 8 = some Tryz.f8 := by kernel_rfl
theorem fn84 : (Cs sm).fn.get 84 = some Tryz.f84 := by kernel_rfl
theorem fn85 : (Cs sm).fn.get 85 = some Tryz.f85 := by kernel_rfl
theorem fn86 : (Cs sm).fn.get 86 = some Tryz.f86 := by kernel_rfl
theorem fn87 : (Cs sm).fn.get 87 = some Tryz.f87 := by kernel_rfl
theorem fn93 : (Cs sm).fn.get 93 = some Tryz.f93 := by kernel_rfl
theorem fn99 : (Cs sm).fn.get 99 = some Tryz.f99 := by kernel_rfl
theorem km101 : (Cs sm).km.get 101 = some 16777243 := by kernel_rfl
theorem km103 : (Cs sm).km.get 103 = some 8395827 := by kernel_rfl
theorem km105 : (Cs sm).km.get 105 = some 19 := by kernel_rfl
theorem km106 : (Cs sm).km.get 106 = some 71 := by kernel_rfl
theorem km11 : (Cs sm).km.get 11 = some 37 := by kernel_rfl
theorem km112 : (Cs sm).km.get 112 = some 4401267869639 := by kernel_rfl
theorem km115 : (Cs sm).km.get 115 = some 1907 := by kernel_rfl
theorem km116 : (Cs sm).km.get 116 = some 755 := by kernel_rfl
theorem km12 : (Cs sm).km.get 12 = some 135 := by kernel_rfl
theorem km13 : (Cs sm).km.get 13 = some 131187 := by kernel_rfl
theorem km14 : (Cs sm).km.get 14 = some 16806963 := by kernel_rfl
theorem km15 : (Cs sm).km.get 15 = some 31431 := by kernel_rfl
theorem km153 : (Cs sm).km.get 153 = some 19 := by kernel_rfl
theorem km154 : (Cs sm).km.get 154 = some 15 := by kernel_rfl
theorem km155 : (Cs sm).km.get 155 = some 295147905181504570311 := by kernel_rfl
theorem km156 : (Cs sm).km.get 156 = some 21 := by kernel_rfl
theorem km16 : (Cs sm).km.get 16 = some 16806963 := by kernel_rfl
theorem km166 : (Cs sm).km.get 166 = some 19 := by kernel_rfl
theorem km17 : (Cs sm).km.get 17 = some 21 := by kernel_rfl
theorem km171 : (Cs sm).km.get 171 = some 288247968346175463 := by kernel_rfl
theorem km195 : (Cs sm).km.get 195 = some 66483 := by kernel_rfl
theorem km21 : (Cs sm).km.get 21 = some 19 := by kernel_rfl
theorem km216 : (Cs sm).km.get 216 = some 31 := by kernel_rfl
theorem km22 : (Cs sm).km.get 22 = some 339 := by kernel_rfl
theorem km31 : (Cs sm).km.get 31 = some 5 := by kernel_rfl
theorem km32 : (Cs sm).km.get 32 = some 10384593721910081766728691964443711 := by kernel_rfl
theorem km33 : (Cs sm).km.get 33 = some 783 := by kernel_rfl
theorem km45 : (Cs sm).km.get 45 = some 5 := by kernel_rfl
theorem km46 : (Cs sm).km.get 46 = some 5 := by kernel_rfl
theorem km47 : (Cs sm).km.get 47 = some 2200634099655 := by kernel_rfl
theorem km48 : (Cs sm).km.get 48 = some 15539 := by kernel_rfl
theorem km50 : (Cs sm).km.get 50 = some 7 := by kernel_rfl
theorem km54 : (Cs sm).km.get 54 = some 16806963 := by kernel_rfl
theorem km57 : (Cs sm).km.get 57 = some 4299165727 := by kernel_rfl
theorem km58 : (Cs sm).km.get 58 = some 131087 := by kernel_rfl
theorem km59 : (Cs sm).km.get 59 = some 2105399 := by kernel_rfl
theorem km60 : (Cs sm).km.get 60 = some 8467 := by kernel_rfl
theorem km61 : (Cs sm).km.get 61 = some 33620175 := by kernel_rfl
theorem km62 : (Cs sm).km.get 62 = some 11247716600898666159958805025917556981378870312689351 := by kernel_rfl
theorem km63 : (Cs sm).km.get 63 = some 67174519 := by kernel_rfl
theorem km64 : (Cs sm).km.get 64 = some 2163 := by kernel_rfl
theorem km65 : (Cs sm).km.get 65 = some 132111 := by kernel_rfl
theorem km66 : (Cs sm).km.get 66 = some 3613 := by kernel_rfl
theorem km67 : (Cs sm).km.get 67 = some 37325842632360861455 := by kernel_rfl
theorem km8 : (Cs sm).km.get 8 = some 2503 := by kernel_rfl
theorem km84 : (Cs sm).km.get 84 = some 21 := by kernel_rfl
theorem km85 : (Cs sm).km.get 85 = some 5 := by kernel_rfl
theorem km86 : (Cs sm).km.get 86 = some 2207613222971 := by kernel_rfl
theorem km87 : (Cs sm).km.get 87 = some 21 := by kernel_rfl
theorem km93 : (Cs sm).km.get 93 = some 543 := by kernel_rfl
theorem km99 : (Cs sm).km.get 99 = some 5 := by kernel_rfl
theorem mi78 : mapInt (Cs sm) 78 = some (.i64, 24) := by kernel_rfl
theorem ro148 : (Cs sm).row 148 = some (154, 8, 160, [.int .i64 0, .slice none 0 0, .int .i64 0, .slice none 0 0, .slice none 0 0, .slice none 0 0, .slice none 0 0, .slice none 0 0]) := by kernel_rfl
theorem ro22 : (Cs sm).row 22 = some (24, 1, 24, [.slice none 0 0]) := by kernel_rfl
theorem ro24 : (Cs sm).row 24 = some (21, 1, 4, [.int .i32 0]) := by kernel_rfl
theorem ro32 : (Cs sm).row 32 = some (41, 2, 16, [.int .i64 0, .int .i64 0]) := by kernel_rfl
theorem ro35 : (Cs sm).row 35 = some (3, 1, 8, [.int .i64 0]) := by kernel_rfl
theorem sl148 : sliceT (Cs sm) 148 = true := by kernel_rfl
theorem sl22 : sliceT (Cs sm) 22 = true := by kernel_rfl
theorem sl24 : sliceT (Cs sm) 24 = true := by kernel_rfl
theorem sl32 : sliceT (Cs sm) 32 = true := by kernel_rfl
theorem sl35 : sliceT (Cs sm) 35 = true := by kernel_rfl
theorem sl55 : sliceT (Cs sm) 55 = true := by kernel_rfl
theorem ze24 : (Cs sm).zero 24 = some (.slice none 0 0) := by kernel_rfl
theorem ze41 : (Cs sm).zero 41 = some (.agg #[.int .i64 0, .int .i64 0]) := by kernel_rfl
theorem ze99 : (Cs sm).zero 99 = some (.agg #[.int .i64 0, .int .i64 0, .int .i64 0, .slice none 0 0, .int .u32 0]) := by kernel_rfl
def plL : List ((Nat) × (Bool)) := [(148, true), (2, true), (21, true), (22, true), (24, true), (27, true), (3, true), (32, true), (35, true), (38, true), (58, true), (59, true), (68, true), (78, true)]
theorem plA : ∀ p ∈ plL, (fun (k : Nat) (v : Bool) => plainT (Cs sm) k = v) p.1 p.2 := all_cons (by show _ = _; kernel_rfl) ( all_cons (by show _ = _; kernel_rfl) ( all_cons (by show _ = _; kernel_rfl) ( all_cons (by show _ = _; kernel_rfl) ( all_cons (by show _ = _; kernel_rfl) ( all_cons (by show _ = _; kernel_rfl) ( all_cons (by show _ = _; kernel_rfl) ( all_cons (by show _ = _; kernel_rfl) ( all_cons (by show _ = _; kernel_rfl) ( all_cons (by show _ = _; kernel_rfl) ( all_cons (by show _ = _; kernel_rfl) ( all_cons (by show _ = _; kernel_rfl) ( all_cons (by show _ = _; kernel_rfl) ( all_cons (by show _ = _; kernel_rfl) (all_nil))))))))))))))
theorem pl_ {k : Nat} {v : Bool} (h : plL.lookup k = some v) : plainT (Cs sm) k = v := tab_row (P := fun (k : Nat) (v : Bool) => plainT (Cs sm) k = v) (plA (sm := sm)) h
def agL : List ((Nat) × (Nat)) := [(149, 2), (154, 8), (41, 2), (61, 4), (99, 5)]
theorem agA : ∀ p ∈ agL, (fun (k : Nat) (v : Nat) => aggT (Cs sm) k = some v) p.1 p.2 := all_cons (by show _ = _; kernel_rfl) ( all_cons (by show _ = _; kernel_rfl) ( all_cons (by show _ = _; kernel_rfl) ( all_cons (by show _ = _; kernel_rfl) ( all_cons (by show _ = _; kernel_rfl) (all_nil)))))
theorem ag_ {k : Nat} {v : Nat} (h : agL.lookup k = some v) : aggT (Cs sm) k = some v := tab_row (P := fun (k : Nat) (v : Nat) => aggT (Cs sm) k = some v) (agA (sm := sm)) h
def szL : List ((Nat) × (Nat)) := [(148, 1), (149, 2), (21, 1), (22, 1), (3, 1), (32, 1), (41, 2), (99, 5)]
theorem szA : ∀ p ∈ szL, (fun (k : Nat) (v : Nat) => (Cs sm).size k = some v) p.1 p.2 := all_cons (by show _ = _; kernel_rfl) ( all_cons (by show _ = _; kernel_rfl) ( all_cons (by show _ = _; kernel_rfl) ( all_cons (by show _ = _; kernel_rfl) ( all_cons (by show _ = _; kernel_rfl) ( all_cons (by show _ = _; kernel_rfl) ( all_cons (by show _ = _; kernel_rfl) ( all_cons (by show _ = _; kernel_rfl) (all_nil))))))))
theorem sz_ {k : Nat} {v : Nat} (h : szL.lookup k = some v) : (Cs sm).size k = some v := tab_row (P := fun (k : Nat) (v : Nat) => (Cs sm).size k = some v) (szA (sm := sm)) h
def zeL : List ((Nat) × (Value)) := [(24, (.slice none 0 0)), (41, (.agg #[.int .i64 0, .int .i64 0])), (99, (.agg #[.int .i64 0, .int .i64 0, .int .i64 0, .slice none 0 0, .int .u32 0]))]
theorem zeA : ∀ p ∈ zeL, (fun (k : Nat) (v : Value) => (Cs sm).zero k = some v) p.1 p.2 := all_cons (by show _ = _; kernel_rfl) ( all_cons (by show _ = _; kernel_rfl) ( all_cons (by show _ = _; kernel_rfl) (all_nil)))
theorem ze_ {k : Nat} {v : Value} (h : zeL.lookup k = some v) : (Cs sm).zero k = some v := tab_row (P := fun (k : Nat) (v : Value) => (Cs sm).zero k = some v) (zeA (sm := sm)) h
def faL : List ((Nat × Nat) × (Nat × TypeId)) := [((151, 0), (0, 3)), ((151, 1), (1, 3)), ((151, 3), (3, 148)), ((151, 4), (4, 22)), ((151, 5), (5, 149)), ((154, 0), (0, 3)), ((154, 1), (1, 24)), ((195, 0), (0, 32)), ((195, 1), (1, 3)), ((41, 0), (0, 3)), ((41, 1), (1, 2)), ((61, 0), (0, 27)), ((61, 1), (1, 38)), ((61, 2), (2, 58)), ((61, 3), (3, 59)), ((80, 0), (0, 3)), ((80, 1), (1, 78)), ((99, 0), (0, 3)), ((99, 1), (1, 3)), ((99, 2), (2, 3)), ((99, 3), (3, 24)), ((99, 4), (4, 68))]
theorem faA : ∀ p ∈ faL, (fun (k : Nat × Nat) (v : Nat × TypeId) => fieldAt (Cs sm) k.1 k.2 = some v) p.1 p.2 := all_cons (by show _ = _; kernel_rfl) ( all_cons (by show _ = _; kernel_rfl) ( all_cons (by show _ = _; kernel_rfl) ( all_cons (by show _ = _; kernel_rfl) ( all_cons (by show _ = _; kernel_rfl) ( all_cons (by show _ = _; kernel_rfl) ( all_cons (by show _ = _; kernel_rfl) ( all_cons (by show _ = _; kernel_rfl) ( all_cons (by show _ = _; kernel_rfl) ( all_cons (by show _ = _; kernel_rfl) ( all_cons (by show _ = _; kernel_rfl) ( all_cons (by show _ = _; kernel_rfl) ( all_cons (by show _ = _; kernel_rfl) ( all_cons (by show _ = _; kernel_rfl) ( all_cons (by show _ = _; kernel_rfl) ( all_cons (by show _ = _; kernel_rfl) ( all_cons (by show _ = _; kernel_rfl) ( all_cons (by show _ = _; kernel_rfl) ( all_cons (by show _ = _; kernel_rfl) ( all_cons (by show _ = _; kernel_rfl) ( all_cons (by show _ = _; kernel_rfl) ( all_cons (by show _ = _; kernel_rfl) (all_nil))))))))))))))))))))))
theorem fa_ {t f : Nat} {v : Nat × TypeId} (h : faL.lookup (t, f) = some v) : fieldAt (Cs sm) t f = some v := tab_row (P := fun (k : Nat × Nat) (v : Nat × TypeId) => fieldAt (Cs sm) k.1 k.2 = some v) (faA (sm := sm)) h
def slL : List ((Nat) × (Bool)) := [(148, true), (22, true), (24, true), (32, true), (35, true), (55, true)]
theorem slA : ∀ p ∈ slL, (fun (k : Nat) (v : Bool) => sliceT (Cs sm) k = v) p.1 p.2 := all_cons (by show _ = _; kernel_rfl) ( all_cons (by show _ = _; kernel_rfl) ( all_cons (by show _ = _; kernel_rfl) ( all_cons (by show _ = _; kernel_rfl) ( all_cons (by show _ = _; kernel_rfl) ( all_cons (by show _ = _; kernel_rfl) (all_nil))))))
theorem sl_ {k : Nat} {v : Bool} (h : slL.lookup k = some v) : sliceT (Cs sm) k = v := tab_row (P := fun (k : Nat) (v : Bool) => sliceT (Cs sm) k = v) (slA (sm := sm)) h
def mtL : List ((Nat) × (Bool)) := []
theorem mtA : ∀ p ∈ mtL, (fun (k : Nat) (v : Bool) => mapT (Cs sm) k = v) p.1 p.2 := all_nil
theorem mt_ {k : Nat} {v : Bool} (h : mtL.lookup k = some v) : mapT (Cs sm) k = v := tab_row (P := fun (k : Nat) (v : Bool) => mapT (Cs sm) k = v) (mtA (sm := sm)) h
def srL : List ((Nat) × (Bool)) := []
theorem srA : ∀ p ∈ srL, (fun (k : Nat) (v : Bool) => strT (Cs sm) k = v) p.1 p.2 := all_nil
theorem sr_ {k : Nat} {v : Bool} (h : srL.lookup k = some v) : strT (Cs sm) k = v := tab_row (P := fun (k : Nat) (v : Bool) => strT (Cs sm) k = v) (srA (sm := sm)) h
def unL : List ((Nat × Nat) × (Bool)) := [((135, 0), true), ((24, 1), true), ((27, 0), true), ((32, 1), true), ((38, 0), true), ((4, 3), true), ((58, 0), true)]
theorem unA : ∀ p ∈ unL, (fun (k : Nat × Nat) (v : Bool) => undIs (Cs sm) k.1 k.2 = v) p.1 p.2 := all_cons (by show _ = _; kernel_rfl) ( all_cons (by show _ = _; kernel_rfl) ( all_cons (by show _ = _; kernel_rfl) ( all_cons (by show _ = _; kernel_rfl) ( all_cons (by show _ = _; kernel_rfl) ( all_cons (by show _ = _; kernel_rfl) ( all_cons (by show _ = _; kernel_rfl) (all_nil)))))))
theorem un_ {t f : Nat} {v : Bool} (h : unL.lookup (t, f) = some v) : undIs (Cs sm) t f = v := tab_row (P := fun (k : Nat × Nat) (v : Bool) => undIs (Cs sm) k.1 k.2 = v) (unA (sm := sm)) h
def btL : List ((Nat) × (List (Nat × Nat) × List Value)) := [(151, ([(0, 1), (1, 1), (2, 1), (3, 1), (4, 1), (5, 2)], [.int .i64 0, .int .i64 0, .int .i64 0, .slice none 0 0, .slice none 0 0, .slice none 0 0, .slice none 0 0])), (154, ([(0, 1), (1, 1), (2, 1), (3, 5)], [.int .i64 0, .slice none 0 0, .int .i64 0, .slice none 0 0, .slice none 0 0, .slice none 0 0, .slice none 0 0, .slice none 0 0])), (195, ([(0, 1), (1, 1)], [.slice none 0 0, .int .i64 0])), (41, ([(0, 1), (1, 1)], [.int .i64 0, .int .i64 0])), (61, ([(0, 1), (1, 1), (2, 1), (3, 1)], [.pointer none, .pointer none, .pointer none, .pointer none])), (80, ([(0, 1), (1, 1)], [.int .i64 0, .map none]))]
theorem btA : ∀ p ∈ btL, (fun (k : Nat) (v : List (Nat × Nat) × List Value) => buildT (Cs sm) k = some v) p.1 p.2 := all_cons (by show _ = _; kernel_rfl) ( all_cons (by show _ = _; kernel_rfl) ( all_cons (by show _ = _; kernel_rfl) ( all_cons (by show _ = _; kernel_rfl) ( all_cons (by show _ = _; kernel_rfl) ( all_cons (by show _ = _; kernel_rfl) (all_nil))))))
theorem bt_ {k : Nat} {v : List (Nat × Nat) × List Value} (h : btL.lookup k = some v) : buildT (Cs sm) k = some v := tab_row (P := fun (k : Nat) (v : List (Nat × Nat) × List Value) => buildT (Cs sm) k = some v) (btA (sm := sm)) h
def roL : List ((Nat) × (TypeId × Nat × Nat × List Value)) := [(148, (154, 8, 160, [.int .i64 0, .slice none 0 0, .int .i64 0, .slice none 0 0, .slice none 0 0, .slice none 0 0, .slice none 0 0, .slice none 0 0])), (22, (24, 1, 24, [.slice none 0 0])), (24, (21, 1, 4, [.int .i32 0])), (32, (41, 2, 16, [.int .i64 0, .int .i64 0])), (35, (3, 1, 8, [.int .i64 0]))]
theorem roA : ∀ p ∈ roL, (fun (k : Nat) (v : TypeId × Nat × Nat × List Value) => (Cs sm).row k = some v) p.1 p.2 := all_cons (by show _ = _; kernel_rfl) ( all_cons (by show _ = _; kernel_rfl) ( all_cons (by show _ = _; kernel_rfl) ( all_cons (by show _ = _; kernel_rfl) ( all_cons (by show _ = _; kernel_rfl) (all_nil)))))
theorem ro_ {k : Nat} {v : TypeId × Nat × Nat × List Value} (h : roL.lookup k = some v) : (Cs sm).row k = some v := tab_row (P := fun (k : Nat) (v : TypeId × Nat × Nat × List Value) => (Cs sm).row k = some v) (roA (sm := sm)) h
def ifL : List ((Nat) × (Bool)) := []
theorem ifA : ∀ p ∈ ifL, (fun (k : Nat) (v : Bool) => ifaceT (Cs sm) k = v) p.1 p.2 := all_nil
theorem if_ {k : Nat} {v : Bool} (h : ifL.lookup k = some v) : ifaceT (Cs sm) k = v := tab_row (P := fun (k : Nat) (v : Bool) => ifaceT (Cs sm) k = v) (ifA (sm := sm)) h
def cvL : List ((Nat × Nat) × (IntKind)) := [((21, 2), .i64)]
theorem cvA : ∀ p ∈ cvL, (fun (k : Nat × Nat) (v : IntKind) => convK (Cs sm) k.1 k.2 = some v) p.1 p.2 := all_cons (by show _ = _; kernel_rfl) (all_nil)
theorem cv_ {t f : Nat} {v : IntKind} (h : cvL.lookup (t, f) = some v) : convK (Cs sm) t f = some v := tab_row (P := fun (k : Nat × Nat) (v : IntKind) => convK (Cs sm) k.1 k.2 = some v) (cvA (sm := sm)) h
def elL : List ((Nat) × (Nat)) := [(148, 8), (22, 1), (24, 1), (32, 2), (35, 1), (47, 1), (55, 5)]
theorem elA : ∀ p ∈ elL, (fun (k : Nat) (v : Nat) => elemAt (Cs sm) k = some v) p.1 p.2 := all_cons (by show _ = _; kernel_rfl) ( all_cons (by show _ = _; kernel_rfl) ( all_cons (by show _ = _; kernel_rfl) ( all_cons (by show _ = _; kernel_rfl) ( all_cons (by show _ = _; kernel_rfl) ( all_cons (by show _ = _; kernel_rfl) ( all_cons (by show _ = _; kernel_rfl) (all_nil)))))))
theorem el_ {k : Nat} {v : Nat} (h : elL.lookup k = some v) : elemAt (Cs sm) k = some v := tab_row (P := fun (k : Nat) (v : Nat) => elemAt (Cs sm) k = some v) (elA (sm := sm)) h
def miL : List ((Nat) × (IntKind × TypeId)) := [(78, (.i64, 24))]
theorem miA : ∀ p ∈ miL, (fun (k : Nat) (v : IntKind × TypeId) => mapInt (Cs sm) k = some v) p.1 p.2 := all_cons (by show _ = _; kernel_rfl) (all_nil)
theorem mi_ {k : Nat} {v : IntKind × TypeId} (h : miL.lookup k = some v) : mapInt (Cs sm) k = some v := tab_row (P := fun (k : Nat) (v : IntKind × TypeId) => mapInt (Cs sm) k = some v) (miA (sm := sm)) h
def ciL : List ((Nat) × (Bool)) := []
theorem ciA : ∀ p ∈ ciL, (fun (k : Nat) (v : Bool) => cmpI (Cs sm) k = v) p.1 p.2 := all_nil
theorem ci_ {k : Nat} {v : Bool} (h : ciL.lookup k = some v) : cmpI (Cs sm) k = v := tab_row (P := fun (k : Nat) (v : Bool) => cmpI (Cs sm) k = v) (ciA (sm := sm)) h
end Go.Ab.Seat
