import Derived.Test.YtcnfbfiakkjabaaGreatDoorDS1
import Derived.Test.YtcnfbfiakkjabaaGreatDoorE43
import Derived.KernelRfl
set_option linter.unusedVariables false
set_option linter.unusedSimpArgs false
section
/- What the program's types come to (printed by gen_types.py). -/
namespace Go.Ab.Seat
open Go.Extern Go.Proofs
set_option maxRecDepth 1000000
variable {sm : Nat → Option (List Value → M Value)}
theorem ag41 : aggT (Cs sm) 41 = some 2 := by kernel_rfl
theorem el146 : elemAt (Cs sm) 146 = some 1 := by kernel_rfl
theorem el22 : elemAt (Cs sm) 22 = some 1 := by kernel_rfl
theorem el24 : elemAt (Cs sm) 24 = some 1 := by kernel_rfl
theorem el32 : elemAt (Cs sm) 32 = some 2 := by kernel_rfl
theorem el35 : elemAt (Cs sm) 35 = some 1 := by kernel_rfl
theorem el47 : elemAt (Cs sm) 47 = some 1 := by kernel_rfl
theorem ex10 : (Cs sm).ex 10 = none := by kernel_rfl
theorem ex11 : (Cs sm).ex 11 = none := by kernel_rfl
theorem ex13 : (Cs sm).ex 13 = none := by kernel_rfl
theorem ex154 : (Cs sm).ex 154 = none := by kernel_rfl
theorem ex155 : (Cs sm).ex 155 = none := by kernel_rfl
theorem ex16 : (Cs sm).ex 16 = none := by kernel_rfl
theorem ex160 : (Cs sm).ex 160 = none := by kernel_rfl
theorem ex161 : (Cs sm).ex 161 = none := by kernel_rfl
theorem ex162 : (Cs sm).ex 162 = none := by kernel_rfl
theorem ex18 : (Cs sm).ex 18 = none := by kernel_rfl
theorem ex19 : (Cs sm).ex 19 = none := by kernel_rfl
theorem ex208 : (Cs sm).ex 208 = none := by kernel_rfl
theorem ex21 : (Cs sm).ex 21 = none := by kernel_rfl
theorem ex23 : (Cs sm).ex 23 = none := by kernel_rfl
theorem ex24 : (Cs sm).ex 24 = none := by kernel_rfl
theorem ex25 : (Cs sm).ex 25 = none := by kernel_rfl
theorem ex26 : (Cs sm).ex 26 = none := by kernel_rfl
theorem ex27 : (Cs sm).ex 27 = none := by kernel_rfl
theorem ex28 : (Cs sm).ex 28 = none := by kernel_rfl
theorem ex29 : (Cs sm).ex 29 = none := by kernel_rfl
theorem ex30 : (Cs sm).ex 30 = none := by kernel_rfl
theorem ex45 : (Cs sm).ex 45 = none := by kernel_rfl
theorem ex46 : (Cs sm).ex 46 = none := by kernel_rfl
theorem ex47 : (Cs sm).ex 47 = none := by kernel_rfl
theorem ex50 : (Cs sm).ex 50 = none := by kernel_rfl
theorem ex51 : (Cs sm).ex 51 = none := by kernel_rfl
theorem ex52 : (Cs sm).ex 52 = none := by kernel_rfl
theorem ex54 : (Cs sm).ex 54 = none := by kernel_rfl
theorem ex55 : (Cs sm).ex 55 = none := by kernel_rfl
theorem ex56 : (Cs sm).ex 56 = none := by kernel_rfl
theorem ex7 : (Cs sm).ex 7 = none := by kernel_rfl
theorem ex84 : (Cs sm).ex 84 = none := by kernel_rfl
theorem ex85 : (Cs sm).ex 85 = none := by kernel_rfl
theorem ex91 : (Cs sm).ex 91 = none := by kernel_rfl
theorem ex92 : (Cs sm).ex 92 = none := by kernel_rfl
theorem ex93 : (Cs sm).ex 93 = none := by kernel_rfl
theorem ex95 : (Cs sm).ex 95 = none := by kernel_rfl
theorem ex96 : (Cs sm).ex 96 = none := by kernel_rfl
theorem ex97 : (Cs sm).ex 97 = none := by kernel_rfl
theorem fn10 : (Cs sm).fn.get 10 = some Tryz.f10 := by kernel_rfl
theorem fn11 : (Cs sm).fn.get 11 = some Tryz.f11 := by kernel_rfl
theorem fn13 : (Cs sm).fn.get 13 = some Tryz.f13 := by kernel_rfl
theorem fn154 : (Cs sm).fn.get 154 = some Tryz.f154 := by kernel_rfl
theorem fn155 : (Cs sm).fn.get 155 = some Tryz.f155 := by kernel_rfl
theorem fn16 : (Cs sm).fn.get 16 = some Tryz.f16 := by kernel_rfl
theorem fn160 : (Cs sm).fn.get 160 = some Tryz.f160 := by kernel_rfl
theorem fn161 : (Cs sm).fn.get 161 = some Tryz.f161 := by kernel_rfl
theorem fn162 : (Cs sm).fn.get 162 = some Tryz.f162 := by kernel_rfl
theorem fn18 : (Cs sm).fn.get 18 = some Tryz.f18 := by kernel_rfl
theorem fn19 : (Cs sm).fn.get 19 = some Tryz.f19 := by kernel_rfl
theorem fn208 : (Cs sm).fn.get 208 = some Tryz.f208 := by kernel_rfl
theorem fn21 : (Cs sm).fn.get 21 = some Tryz.f21 := by kernel_rfl
theorem fn23 : (Cs sm).fn.get 23 = some Tryz.f23 := by kernel_rfl
theorem fn24 : (Cs sm).fn.get 24 = some Tryz.f24 := by kernel_rfl
theorem fn25 : (Cs sm).fn.get 25 = some Tryz.f25 := by kernel_rfl
theorem fn26 : (Cs sm).fn.get 26 = some Tryz.f26 := by kernel_rfl
theorem fn27 : (Cs sm).fn.get 27 = some Tryz.f27 := by kernel_rfl
theorem fn28 : (Cs sm).fn.get 28 = some Tryz.f28 := by kernel_rfl
theorem fn29 : (Cs sm).fn.get 29 = some Tryz.f29 := by kernel_rfl
theorem fn30 : (Cs sm).fn.get 30 = some Tryz.f30 := by kernel_rfl
theorem fn45 : (Cs sm).fn.get 45 = some Tryz.f45 := by kernel_rfl
theorem fn46 : (Cs sm).fn.get 46 = some Tryz.f46 := by kernel_rfl
theorem fn47 : (Cs sm).fn.get 47 = some Tryz.f47 := by kernel_rfl
theorem fn50 : (Cs sm).fn.get 50 = some Tryz.f50 := by kernel_rfl
theorem fn51 : (Cs sm).fn.get 51 = some Tryz.f51 := by kernel_rfl
theorem fn52 : (Cs sm).fn.get 52 = some Tryz.f52 := by kernel_rfl
theorem fn54 : (Cs sm).fn.get 54 = some Tryz.f54 := by kernel_rfl
theorem fn55 : (Cs sm).fn.get 55 = some Tryz.f55 := by kernel_rfl
theorem fn56 : (Cs sm).fn.get 56 = some Tryz.f56 := by kernel_rfl
theorem fn7 : (Cs sm).fn.get 7 = some Tryz.f7 := by kernel_rfl
theorem fn84 : (Cs sm).fn.get 84 = some Tryz.f84 := by kernel_rfl
theorem fn85 : (Cs sm).fn.get 85 = some Tryz.f85 := by kernel_rfl
theorem fn91 : (Cs sm).fn.get 91 = some Tryz.f91 := by kernel_rfl
theorem fn92 : (Cs sm).fn.get 92 = some Tryz.f92 := by kernel_rfl
theorem fn93 : (Cs sm).fn.get 93 = some Tryz.f93 := by kernel_rfl
theorem fn95 : (Cs sm).fn.get 95 = some Tryz.f95 := by kernel_rfl
theorem fn96 : (Cs sm).fn.get 96 = some Tryz.f96 := by kernel_rfl
theorem fn97 : (Cs sm).fn.get 97 = some Tryz.f97 := by kernel_rfl
theorem km10 : (Cs sm).km.get 10 = some 131527 := by kernel_rfl
theorem km11 : (Cs sm).km.get 11 = some 37 := by kernel_rfl
theorem km13 : (Cs sm).km.get 13 = some 131187 := by kernel_rfl
theorem km154 : (Cs sm).km.get 154 = some 15 := by kernel_rfl
theorem km155 : (Cs sm).km.get 155 = some 295147905181504570311 := by kernel_rfl
theorem km16 : (Cs sm).km.get 16 = some 16806963 := by kernel_rfl
theorem km160 : (Cs sm).km.get 160 = some 42535296023574879666274036850519702559 := by kernel_rfl
theorem km161 : (Cs sm).km.get 161 = some 66483 := by kernel_rfl
theorem km162 : (Cs sm).km.get 162 = some 4147 := by kernel_rfl
theorem km18 : (Cs sm).km.get 18 = some 4115 := by kernel_rfl
theorem km19 : (Cs sm).km.get 19 = some 135 := by kernel_rfl
theorem km208 : (Cs sm).km.get 208 = some 17179886351 := by kernel_rfl
theorem km21 : (Cs sm).km.get 21 = some 19 := by kernel_rfl
theorem km23 : (Cs sm).km.get 23 = some 19 := by kernel_rfl
theorem km24 : (Cs sm).km.get 24 = some 21 := by kernel_rfl
theorem km25 : (Cs sm).km.get 25 = some 983213 := by kernel_rfl
theorem km26 : (Cs sm).km.get 26 = some 147 := by kernel_rfl
theorem km27 : (Cs sm).km.get 27 = some 21 := by kernel_rfl
theorem km28 : (Cs sm).km.get 28 = some 66483 := by kernel_rfl
theorem km29 : (Cs sm).km.get 29 = some 755 := by kernel_rfl
theorem km30 : (Cs sm).km.get 30 = some 339 := by kernel_rfl
theorem km45 : (Cs sm).km.get 45 = some 5 := by kernel_rfl
theorem km46 : (Cs sm).km.get 46 = some 5 := by kernel_rfl
theorem km47 : (Cs sm).km.get 47 = some 2200634099655 := by kernel_rfl
theorem km50 : (Cs sm).km.get 50 = some 7 := by kernel_rfl
theorem km51 : (Cs sm).km.get 51 = some 1005 := by kernel_rfl
theorem km52 : (Cs sm).km.get 52 = some 64424756723 := by kernel_rfl
theorem km54 : (Cs sm).km.get 54 = some 16806963 := by kernel_rfl
theorem km55 : (Cs sm).km.get 55 = some 66114300693392295753415 := by kernel_rfl
theorem km56 : (Cs sm).km.get 56 = some 7 := by kernel_rfl
theorem km7 : (Cs sm).km.get 7 = some 352102640622913386648285198150269895 := by kernel_rfl
theorem km84 : (Cs sm).km.get 84 = some 21 := by kernel_rfl
theorem km85 : (Cs sm).km.get 85 = some 5 := by kernel_rfl
theorem km91 : (Cs sm).km.get 91 = some 19 := by kernel_rfl
theorem km92 : (Cs sm).km.get 92 = some 159 := by kernel_rfl
theorem km93 : (Cs sm).km.get 93 = some 543 := by kernel_rfl
theorem km95 : (Cs sm).km.get 95 = some 19 := by kernel_rfl
theorem km96 : (Cs sm).km.get 96 = some 11 := by kernel_rfl
theorem km97 : (Cs sm).km.get 97 = some 2212238067 := by kernel_rfl
theorem mi89 : mapInt (Cs sm) 89 = some (.i64, 93) := by kernel_rfl
theorem ro146 : (Cs sm).row 146 = some (22, 1, 24, [.slice none 0 0]) := by kernel_rfl
theorem ro22 : (Cs sm).row 22 = some (24, 1, 24, [.slice none 0 0]) := by kernel_rfl
theorem ro24 : (Cs sm).row 24 = some (21, 1, 4, [.int .i32 0]) := by kernel_rfl
theorem ro32 : (Cs sm).row 32 = some (41, 2, 16, [.int .i64 0, .int .i64 0]) := by kernel_rfl
theorem ro35 : (Cs sm).row 35 = some (3, 1, 8, [.int .i64 0]) := by kernel_rfl
theorem ro47 : (Cs sm).row 47 = some (35, 1, 24, [.slice none 0 0]) := by kernel_rfl
theorem sl22 : sliceT (Cs sm) 22 = true := by kernel_rfl
theorem sl24 : sliceT (Cs sm) 24 = true := by kernel_rfl
theorem sl32 : sliceT (Cs sm) 32 = true := by kernel_rfl
theorem sl35 : sliceT (Cs sm) 35 = true := by kernel_rfl
theorem sl47 : sliceT (Cs sm) 47 = true := by kernel_rfl
theorem ze24 : (Cs sm).zero 24 = some (.slice none 0 0) := by kernel_rfl
theorem ze41 : (Cs sm).zero 41 = some (.agg #[.int .i64 0, .int .i64 0]) := by kernel_rfl
theorem ze93 : (Cs sm).zero 93 = some (.agg #[.slice none 0 0, .int .i64 0]) := by kernel_rfl
def plL : List ((Nat) × (Bool)) := [(2, true), (21, true), (22, true), (24, true), (3, true), (35, true), (89, true)]
theorem plA : ∀ p ∈ plL, (fun (k : Nat) (v : Bool) => plainT (Cs sm) k = v) p.1 p.2 := all_cons (by show _ = _; kernel_rfl) ( all_cons (by show _ = _; kernel_rfl) ( all_cons (by show _ = _; kernel_rfl) ( all_cons (by show _ = _; kernel_rfl) ( all_cons (by show _ = _; kernel_rfl) ( all_cons (by show _ = _; kernel_rfl) ( all_cons (by show _ = _; kernel_rfl) (all_nil)))))))
theorem pl_ {k : Nat} {v : Bool} (h : plL.lookup k = some v) : plainT (Cs sm) k = v := tab_row (P := fun (k : Nat) (v : Bool) => plainT (Cs sm) k = v) (plA (sm := sm)) h
def agL : List ((Nat) × (Nat)) := [(41, 2)]
theorem agA : ∀ p ∈ agL, (fun (k : Nat) (v : Nat) => aggT (Cs sm) k = some v) p.1 p.2 := all_cons (by show _ = _; kernel_rfl) (all_nil)
theorem ag_ {k : Nat} {v : Nat} (h : agL.lookup k = some v) : aggT (Cs sm) k = some v := tab_row (P := fun (k : Nat) (v : Nat) => aggT (Cs sm) k = some v) (agA (sm := sm)) h
def szL : List ((Nat) × (Nat)) := [(21, 1), (22, 1), (24, 1), (35, 1), (41, 2), (93, 2)]
theorem szA : ∀ p ∈ szL, (fun (k : Nat) (v : Nat) => (Cs sm).size k = some v) p.1 p.2 := all_cons (by show _ = _; kernel_rfl) ( all_cons (by show _ = _; kernel_rfl) ( all_cons (by show _ = _; kernel_rfl) ( all_cons (by show _ = _; kernel_rfl) ( all_cons (by show _ = _; kernel_rfl) ( all_cons (by show _ = _; kernel_rfl) (all_nil))))))
theorem sz_ {k : Nat} {v : Nat} (h : szL.lookup k = some v) : (Cs sm).size k = some v := tab_row (P := fun (k : Nat) (v : Nat) => (Cs sm).size k = some v) (szA (sm := sm)) h
def zeL : List ((Nat) × (Value)) := [(24, (.slice none 0 0)), (41, (.agg #[.int .i64 0, .int .i64 0])), (93, (.agg #[.slice none 0 0, .int .i64 0]))]
theorem zeA : ∀ p ∈ zeL, (fun (k : Nat) (v : Value) => (Cs sm).zero k = some v) p.1 p.2 := all_cons (by show _ = _; kernel_rfl) ( all_cons (by show _ = _; kernel_rfl) ( all_cons (by show _ = _; kernel_rfl) (all_nil)))
theorem ze_ {k : Nat} {v : Value} (h : zeL.lookup k = some v) : (Cs sm).zero k = some v := tab_row (P := fun (k : Nat) (v : Value) => (Cs sm).zero k = some v) (zeA (sm := sm)) h
def faL : List ((Nat × Nat) × (Nat × TypeId)) := [((41, 0), (0, 3)), ((41, 1), (1, 2)), ((91, 1), (1, 22)), ((91, 2), (2, 89)), ((93, 0), (0, 24)), ((93, 1), (1, 3))]
theorem faA : ∀ p ∈ faL, (fun (k : Nat × Nat) (v : Nat × TypeId) => fieldAt (Cs sm) k.1 k.2 = some v) p.1 p.2 := all_cons (by show _ = _; kernel_rfl) ( all_cons (by show _ = _; kernel_rfl) ( all_cons (by show _ = _; kernel_rfl) ( all_cons (by show _ = _; kernel_rfl) ( all_cons (by show _ = _; kernel_rfl) ( all_cons (by show _ = _; kernel_rfl) (all_nil))))))
theorem fa_ {t f : Nat} {v : Nat × TypeId} (h : faL.lookup (t, f) = some v) : fieldAt (Cs sm) t f = some v := tab_row (P := fun (k : Nat × Nat) (v : Nat × TypeId) => fieldAt (Cs sm) k.1 k.2 = some v) (faA (sm := sm)) h
def slL : List ((Nat) × (Bool)) := [(22, true), (24, true), (32, true), (35, true), (47, true)]
theorem slA : ∀ p ∈ slL, (fun (k : Nat) (v : Bool) => sliceT (Cs sm) k = v) p.1 p.2 := all_cons (by show _ = _; kernel_rfl) ( all_cons (by show _ = _; kernel_rfl) ( all_cons (by show _ = _; kernel_rfl) ( all_cons (by show _ = _; kernel_rfl) ( all_cons (by show _ = _; kernel_rfl) (all_nil)))))
theorem sl_ {k : Nat} {v : Bool} (h : slL.lookup k = some v) : sliceT (Cs sm) k = v := tab_row (P := fun (k : Nat) (v : Bool) => sliceT (Cs sm) k = v) (slA (sm := sm)) h
def mtL : List ((Nat) × (Bool)) := []
theorem mtA : ∀ p ∈ mtL, (fun (k : Nat) (v : Bool) => mapT (Cs sm) k = v) p.1 p.2 := all_nil
theorem mt_ {k : Nat} {v : Bool} (h : mtL.lookup k = some v) : mapT (Cs sm) k = v := tab_row (P := fun (k : Nat) (v : Bool) => mapT (Cs sm) k = v) (mtA (sm := sm)) h
def srL : List ((Nat) × (Bool)) := []
theorem srA : ∀ p ∈ srL, (fun (k : Nat) (v : Bool) => strT (Cs sm) k = v) p.1 p.2 := all_nil
theorem sr_ {k : Nat} {v : Bool} (h : srL.lookup k = some v) : strT (Cs sm) k = v := tab_row (P := fun (k : Nat) (v : Bool) => strT (Cs sm) k = v) (srA (sm := sm)) h
def unL : List ((Nat × Nat) × (Bool)) := [((24, 1), true), ((38, 0), true), ((4, 3), true)]
theorem unA : ∀ p ∈ unL, (fun (k : Nat × Nat) (v : Bool) => undIs (Cs sm) k.1 k.2 = v) p.1 p.2 := all_cons (by show _ = _; kernel_rfl) ( all_cons (by show _ = _; kernel_rfl) ( all_cons (by show _ = _; kernel_rfl) (all_nil)))
theorem un_ {t f : Nat} {v : Bool} (h : unL.lookup (t, f) = some v) : undIs (Cs sm) t f = v := tab_row (P := fun (k : Nat × Nat) (v : Bool) => undIs (Cs sm) k.1 k.2 = v) (unA (sm := sm)) h
def btL : List ((Nat) × (List (Nat × Nat) × List Value)) := [(195, ([(0, 1), (1, 1)], [.slice none 0 0, .int .i64 0])), (41, ([(0, 1), (1, 1)], [.int .i64 0, .int .i64 0])), (80, ([(0, 1), (1, 1)], [.int .i64 0, .map none])), (91, ([(0, 1), (1, 1), (2, 1)], [.int .i64 0, .slice none 0 0, .map none])), (93, ([(0, 1), (1, 1)], [.slice none 0 0, .int .i64 0]))]
theorem btA : ∀ p ∈ btL, (fun (k : Nat) (v : List (Nat × Nat) × List Value) => buildT (Cs sm) k = some v) p.1 p.2 := all_cons (by show _ = _; kernel_rfl) ( all_cons (by show _ = _; kernel_rfl) ( all_cons (by show _ = _; kernel_rfl) ( all_cons (by show _ = _; kernel_rfl) ( all_cons (by show _ = _; kernel_rfl) (all_nil)))))
theorem bt_ {k : Nat} {v : List (Nat × Nat) × List Value} (h : btL.lookup k = some v) : buildT (Cs sm) k = some v := tab_row (P := fun (k : Nat) (v : List (Nat × Nat) × List Value) => buildT (Cs sm) k = some v) (btA (sm := sm)) h
def roL : List ((Nat) × (TypeId × Nat × Nat × List Value)) := [(146, (22, 1, 24, [.slice none 0 0])), (22, (24, 1, 24, [.slice none 0 0])), (24, (21, 1, 4, [.int .i32 0])), (32, (41, 2, 16, [.int .i64 0, .int .i64 0])), (35, (3, 1, 8, [.int .i64 0])), (47, (35, 1, 24, [.slice none 0 0]))]
theorem roA : ∀ p ∈ roL, (fun (k : Nat) (v : TypeId × Nat × Nat × List Value) => (Cs sm).row k = some v) p.1 p.2 := all_cons (by show _ = _; kernel_rfl) ( all_cons (by show _ = _; kernel_rfl) ( all_cons (by show _ = _; kernel_rfl) ( all_cons (by show _ = _; kernel_rfl) ( all_cons (by show _ = _; kernel_rfl) ( all_cons (by show _ = _; kernel_rfl) (all_nil))))))
theorem ro_ {k : Nat} {v : TypeId × Nat × Nat × List Value} (h : roL.lookup k = some v) : (Cs sm).row k = some v := tab_row (P := fun (k : Nat) (v : TypeId × Nat × Nat × List Value) => (Cs sm).row k = some v) (roA (sm := sm)) h
def ifL : List ((Nat) × (Bool)) := []
theorem ifA : ∀ p ∈ ifL, (fun (k : Nat) (v : Bool) => ifaceT (Cs sm) k = v) p.1 p.2 := all_nil
theorem if_ {k : Nat} {v : Bool} (h : ifL.lookup k = some v) : ifaceT (Cs sm) k = v := tab_row (P := fun (k : Nat) (v : Bool) => ifaceT (Cs sm) k = v) (ifA (sm := sm)) h
def cvL : List ((Nat × Nat) × (IntKind)) := [((21, 2), .i64), ((2, 21), .i32), ((3, 202), .u64)]
theorem cvA : ∀ p ∈ cvL, (fun (k : Nat × Nat) (v : IntKind) => convK (Cs sm) k.1 k.2 = some v) p.1 p.2 := all_cons (by show _ = _; kernel_rfl) ( all_cons (by show _ = _; kernel_rfl) ( all_cons (by show _ = _; kernel_rfl) (all_nil)))
theorem cv_ {t f : Nat} {v : IntKind} (h : cvL.lookup (t, f) = some v) : convK (Cs sm) t f = some v := tab_row (P := fun (k : Nat × Nat) (v : IntKind) => convK (Cs sm) k.1 k.2 = some v) (cvA (sm := sm)) h
def elL : List ((Nat) × (Nat)) := [(146, 1), (22, 1), (24, 1), (32, 2), (35, 1), (47, 1)]
theorem elA : ∀ p ∈ elL, (fun (k : Nat) (v : Nat) => elemAt (Cs sm) k = some v) p.1 p.2 := all_cons (by show _ = _; kernel_rfl) ( all_cons (by show _ = _; kernel_rfl) ( all_cons (by show _ = _; kernel_rfl) ( all_cons (by show _ = _; kernel_rfl) ( all_cons (by show _ = _; kernel_rfl) ( all_cons (by show _ = _; kernel_rfl) (all_nil))))))
theorem el_ {k : Nat} {v : Nat} (h : elL.lookup k = some v) : elemAt (Cs sm) k = some v := tab_row (P := fun (k : Nat) (v : Nat) => elemAt (Cs sm) k = some v) (elA (sm := sm)) h
def miL : List ((Nat) × (IntKind × TypeId)) := [(89, (.i64, 93))]
theorem miA : ∀ p ∈ miL, (fun (k : Nat) (v : IntKind × TypeId) => mapInt (Cs sm) k = some v) p.1 p.2 := all_cons (by show _ = _; kernel_rfl) (all_nil)
theorem mi_ {k : Nat} {v : IntKind × TypeId} (h : miL.lookup k = some v) : mapInt (Cs sm) k = some v := tab_row (P := fun (k : Nat) (v : IntKind × TypeId) => mapInt (Cs sm) k = some v) (miA (sm := sm)) h
def ciL : List ((Nat) × (Bool)) := []
theorem ciA : ∀ p ∈ ciL, (fun (k : Nat) (v : Bool) => cmpI (Cs sm) k = v) p.1 p.2 := all_nil
theorem ci_ {k : Nat} {v : Bool} (h : ciL.lookup k = some v) : cmpI (Cs sm) k = v := tab_row (P := fun (k : Nat) (v : Bool) => cmpI (Cs sm) k = v) (ciA (sm := sm)) h
end Go.Ab.Seat
end
section
/- Copies of vectors; errors. -/
namespace Go.Ab.Seat
open Go.Extern Go.Proofs
theorem ifT {α : Type} (a b : α) : (if True then a else b) = a := rfl
theorem ifF {α : Type} (a b : α) : (if False then a else b) = b := rfl
theorem mpC {α β : Type} (f : α → β) (a : α) (l : List α) : List.map f (a :: l) = f a :: List.map f l := rfl
theorem mpN {α β : Type} (f : α → β) : List.map f [] = [] := rfl
theorem kz : type_of% (And.intro @ke (And.intro @ifT @ifF)) := And.intro @ke (And.intro @ifT @ifF)
theorem kw : type_of% (And.intro @kv (And.intro @mpC (And.intro @mpN (And.intro @ifT @ifF)))) := And.intro @kv (And.intro @mpC (And.intro @mpN (And.intro @ifT @ifF)))
/-- What special functions there are: those that are known and not run. -/
def special (f : Nat) : Bool := [9, 43, 150, 234, 49, 135, 155].contains f
def Std (sm : Nat → Option (List Value → M Value)) : Prop := ∀ f, special f = false → sm f = none
set_option linter.unusedSimpArgs false
set_option linter.unusedVariables false
set_option maxRecDepth 4000
variable {sm : Nat → Option (List Value → M Value)}

theorem clone_nil (H : Std sm) {h : T AObj} {c : Nat} {rl wl : List Nat} : ∃ v s', FnTo (Cs sm) eg 84 [.slice none 0 0] ⟨h, c, rl, wl⟩ v s' ∧ (v = .slice none 0 0 ∧ s' = ⟨h, c, rl, wl⟩) := by
  refine Fn.go (H 84 rfl) ex84 fn84 km84 rfl rfl ?_
  intro e he
  (simp (decide := true) only [kz] at he; subst he)
  (repeat (first | (with_reducible refine Then.go ?_) | (with_reducible refine Then.rt ?_) | (with_reducible refine Wx.seq ?_) | (with_reducible refine Wx.ret ?_) | (with_reducible refine Wx.reg ?_) | (refine Wx.condT rfl (by (first | rfl | (simp only [decide_eq_true_eq, Bool.not_eq_true', decide_eq_false_iff_not, Option.isNone_none, Option.isNone_some, Option.isSome_none, Option.isSome_some, beq_self_eq_true, Bool.not_true, Bool.not_false]; first | done | omega) | (simp; omega) | (solve | simp [*]) | fail)) ?_) | ((with_reducible refine Wseq.nil ?_); intro e he; (simp (decide := true) only [kz] at he; subst he)) | ((with_reducible apply Wseq.mv); (focus rfl); (intro v hv; (simp (decide := true) only [kw] at hv); subst hv)) | ((with_reducible apply Wseq.as); (focus rfl); (intro v hv; (simp (decide := true) only [kw] at hv); subst hv)) | ((with_reducible apply Wseq.stg (op := Op.binOp BinOp.eql _ _ _ _)); (focus rfl); (focus (exact to_eqS (un_ rfl) rfl rfl)))))
  refine ⟨.inr rfl, Wres.one rfl ⟨rfl, rfl⟩⟩

theorem clone_zero (H : Std sm) {h : T AObj} {c : Nat} {rl wl : List Nat} (hf : Fresh h c) (ad : Addr) (cap : Nat) : ∃ v s', FnTo (Cs sm) eg 84 [.slice (some ad) 0 cap] ⟨h, c, rl, wl⟩ v s' ∧ (v = .slice (some ⟨c, 0, none⟩) 0 0 ∧ s' = ⟨h.set c (some (.cells [])), c + 1, rl, wl⟩) := by
  refine Fn.go (H 84 rfl) ex84 fn84 km84 rfl rfl ?_
  intro e he
  (simp (decide := true) only [kz] at he; subst he)
  (repeat (first | (with_reducible refine Then.go ?_) | (with_reducible refine Wx.seq ?_) | (with_reducible refine Wx.skip ?_) | (with_reducible refine Wx.reg ?_) | (refine Wx.condF rfl (by (first | rfl | (simp only [decide_eq_false_iff_not, Bool.not_eq_false', decide_eq_true_eq, Option.isNone_none, Option.isNone_some, Option.isSome_none, Option.isSome_some, beq_self_eq_true, Bool.not_true, Bool.not_false]; first | done | omega))) ?_) | ((with_reducible refine Wseq.nil ?_); intro e he; (simp (decide := true) only [kz] at he; subst he)) | ((with_reducible apply Wseq.mv); (focus rfl); (intro v hv; (simp (decide := true) only [kw] at hv); subst hv)) | ((with_reducible apply Wseq.as); (focus rfl); (intro v hv; (simp (decide := true) only [kw] at hv); subst hv)) | ((with_reducible apply Wseq.bs); (focus rfl); (focus (exact (ro_ rfl))); (focus rfl); (focus (exact (by ((repeat ((with_reducible apply Fresh.put); (focus omega))); (first | (with_reducible assumption) | (exact Fresh.up (by with_reducible assumption) (by omega))))))); (intro v hv; (simp (decide := true) only [kw] at hv); subst hv); refine ⟨_, rfl, ?_⟩) | ((with_reducible apply Wseq.stg (op := Op.binOp BinOp.eql _ _ _ _)); (focus rfl); (focus (exact to_eqS (un_ rfl) rfl rfl)))))
  refine Wseq.st (to_appZero ro24 sl24 rfl rfl (by omega)) ?_
  (repeat (first | (with_reducible refine Then.go ?_) | (with_reducible refine Wx.ret ?_) | ((with_reducible refine Wseq.nil ?_); intro e he; (simp (decide := true) only [kz] at he; subst he)) | ((with_reducible apply Wseq.as); (focus rfl); (intro v hv; (simp (decide := true) only [kw] at hv); subst hv))))
  refine ⟨.inr rfl, Wres.one rfl ⟨rfl, rfl⟩⟩

theorem clone_some (H : Std sm) {h : T AObj} {c : Nat} {rl wl : List Nat} (hf : Fresh h c) {b o n cap : Nat} {sp : Option Nat} {cs xs : List Value} (hb : Cel h b cs) (hs : subN o ((n + 1) * 1) cs = some xs) (hn : n + 1 ≤ bigV) :
    ∃ v s', FnTo (Cs sm) eg 84 [.slice (some ⟨b, o, sp⟩) (n + 1) cap] ⟨h, c, rl, wl⟩ v s' ∧ (v = .slice (some ⟨c + 1, 0, some 1⟩) (n + 1) (n + 1) ∧ Has s'.h (c + 1) (.cells xs) ∧ Ext ⟨h, c, rl, wl⟩ s' (· = b) (fun _ => False)) := by
  have hbc := hb.lt hf
  refine Fn.go (H 84 rfl) ex84 fn84 km84 rfl rfl ?_
  intro e he
  (simp (decide := true) only [kz] at he; subst he)
  (repeat (first | (with_reducible refine Then.go ?_) | (with_reducible refine Wx.seq ?_) | (with_reducible refine Wx.skip ?_) | (with_reducible refine Wx.reg ?_) | (refine Wx.condF rfl (by (first | rfl | (simp only [decide_eq_false_iff_not, Bool.not_eq_false', decide_eq_true_eq, Option.isNone_none, Option.isNone_some, Option.isSome_none, Option.isSome_some, beq_self_eq_true, Bool.not_true, Bool.not_false]; first | done | omega))) ?_) | ((with_reducible refine Wseq.nil ?_); intro e he; (simp (decide := true) only [kz] at he; subst he)) | ((with_reducible apply Wseq.mv); (focus rfl); (intro v hv; (simp (decide := true) only [kw] at hv); subst hv)) | ((with_reducible apply Wseq.as); (focus rfl); (intro v hv; (simp (decide := true) only [kw] at hv); subst hv)) | ((with_reducible apply Wseq.bs); (focus rfl); (focus (exact (ro_ rfl))); (focus rfl); (focus (exact (by ((repeat ((with_reducible apply Fresh.put); (focus omega))); (first | (with_reducible assumption) | (exact Fresh.up (by with_reducible assumption) (by omega))))))); (intro v hv; (simp (decide := true) only [kw] at hv); subst hv); refine ⟨_, rfl, ?_⟩) | ((with_reducible apply Wseq.stg (op := Op.binOp BinOp.eql _ _ _ _)); (focus rfl); (focus (exact to_eqS (un_ rfl) rfl rfl)))))
  refine Wseq.st (to_appExB ro24 sl24 rfl rfl (by (repeat (first | (with_reducible exact Has.same.cel) | (with_reducible assumption) | ((with_reducible apply Has.cel); (focus (with_reducible assumption))) | ((with_reducible apply Cel.other); (focus omega))))) (by omega) hs (by decide) (by unfold bigV at hn; omega) (by ((repeat ((with_reducible apply Fresh.put); (focus omega))); (first | (with_reducible assumption) | (exact Fresh.up (by with_reducible assumption) (by omega)))))) ?_
  (repeat (first | (with_reducible refine Then.go ?_) | (with_reducible refine Wx.ret ?_) | ((with_reducible refine Wseq.nil ?_); intro e he; (simp (decide := true) only [kz] at he; subst he)) | ((with_reducible apply Wseq.as); (focus rfl); (intro v hv; (simp (decide := true) only [kw] at hv); subst hv))))
  refine ⟨.inr rfl, Wres.one rfl ⟨rfl, (by (repeat (first | (with_reducible exact Has.same) | (with_reducible assumption) | ((with_reducible apply Has.other); (focus omega))))), ?_⟩⟩
  (dsimp only; exact Ext.of (by omega) (by ((repeat ((with_reducible apply Fresh.put); (focus omega))); (first | (with_reducible assumption) | (exact Fresh.up (by with_reducible assumption) (by omega))))) (by (repeat (first | (with_reducible exact Kp.refl) | (with_reducible assumption) | ((with_reducible apply Kp.set); (focus (first | (left; omega) | (right; first | exact rfl | assumption | (exact Or.inl (by assumption)) | (exact Or.inr (by assumption)) | (simp; done) | omega))))))) (by (repeat (first | (with_reducible exact Lg.nil) | (with_reducible assumption) | ((with_reducible apply Lg.cons); (focus (first | (left; omega) | (right; first | exact rfl | assumption | (exact Or.inl (by assumption)) | (exact Or.inr (by assumption)) | (simp; done) | omega)))) | (with_reducible apply Lg.app)))) (by (repeat (first | (with_reducible exact Lg.nil) | (with_reducible assumption) | ((with_reducible apply Lg.cons); (focus (first | (left; omega) | (right; first | exact rfl | assumption | (exact Or.inl (by assumption)) | (exact Or.inr (by assumption)) | (simp; done) | omega)))) | (with_reducible apply Lg.app)))))

/-- A vector's copy: memory of its own. -/
theorem clone_spec (H : Std sm) {h : T AObj} {c : Nat} {rl wl : List Nat} (hf : Fresh h c) {v : Value} {n : Nat} {xs : List Value} (hv : Row h v n 1 xs) (hn : n ≤ bigV) (hz : n = 0 → ∃ a cap, v = .slice a 0 cap ∧ (a = none → cap = 0)) (bs : Nat → Prop) (hbs : ∀ b o sp n' cap, v = .slice (some ⟨b, o, sp⟩) n' cap → bs b) :
    ∃ v' s', FnTo (Cs sm) eg 84 [v] ⟨h, c, rl, wl⟩ v' s' ∧ Own s'.h c v' n xs ∧ Ext ⟨h, c, rl, wl⟩ s' bs (fun _ => False) := by
  cases n with
  | zero =>
    obtain ⟨a, cap, rfl, ha⟩ := hz rfl
    have hx : xs = [] := by
      rcases hv with ⟨_, h2, _⟩ | ⟨b, o, sp, cap', cs, _, _, h4⟩
      · exact h2
      · have := (subN_some _ _ _ _ h4).1
        simpa using this
    subst hx
    cases a with
    | none =>
      obtain rfl := ha rfl
      obtain ⟨v', s', h1, rfl, rfl⟩ := clone_nil H (h := h) (c := c) (rl := rl) (wl := wl)
      exact ⟨_, _, h1, .inl ⟨rfl, rfl, rfl⟩, Ext.refl hf⟩
    | some ad =>
      obtain ⟨v', s', h1, rfl, rfl⟩ := clone_zero H (rl := rl) (wl := wl) hf ad cap
      refine ⟨_, _, h1, .inr ⟨c, none, 0, rfl, Nat.le_refl _, Nat.le_refl _, Has.same⟩, ⟨by simp, hf.new, fun b hb _ => get_other (by simp at hb; omega), fun _ q => .inl q, fun _ q => .inl q⟩⟩
  | succ n =>
    rcases hv with ⟨h1, _⟩ | ⟨b, o, sp, cap', cs, rfl, h3, h4⟩
    · cases h1
    · obtain ⟨v', s', h1, rfl, h5, h6⟩ := clone_some H (rl := rl) (wl := wl) (cap := cap') (sp := sp) hf h3 h4 hn
      exact ⟨_, _, h1, .inr ⟨c + 1, some 1, n + 1, rfl, Nat.le_refl _, by omega, h5⟩, h6.mono (fun x _ q => by subst q; exact hbs _ _ _ _ _ rfl) (fun _ _ q => q)⟩

theorem copy_spec (H : Std sm) {h : T AObj} {c : Nat} {rl wl : List Nat} (hf : Fresh h c) {v : Value} {n : Nat} {xs : List Value} (hv : Row h v n 1 xs) (hn : n ≤ bigV) (hz : n = 0 → ∃ a cap, v = .slice a 0 cap ∧ (a = none → cap = 0)) (bs : Nat → Prop) (hbs : ∀ b o sp n' cap, v = .slice (some ⟨b, o, sp⟩) n' cap → bs b) :
    ∃ v' s', FnTo (Cs sm) eg 46 [v] ⟨h, c, rl, wl⟩ v' s' ∧ Own s'.h c v' n xs ∧ Ext ⟨h, c, rl, wl⟩ s' bs (fun _ => False) := by
  obtain ⟨v', ⟨h1, c1, rl1, wl1⟩, hfn, hown, hext⟩ := clone_spec H (rl := []) (wl := []) hf hv hn hz bs hbs
  refine Fn.go (H 46 rfl) ex46 fn46 km46 rfl rfl ?_
  intro e he
  (simp (decide := true) only [kz] at he; subst he)
  (repeat (first | (with_reducible refine Then.go ?_) | (with_reducible refine Wx.seq ?_) | (with_reducible refine Wx.reg ?_) | ((with_reducible refine Wseq.nil ?_); intro e he; (simp (decide := true) only [kz] at he; subst he)) | ((with_reducible apply Wseq.mv); (focus rfl); (intro v hv; (simp (decide := true) only [kw] at hv); subst hv)) | ((with_reducible apply Wseq.as); (focus rfl); (intro v hv; (simp (decide := true) only [kw] at hv); subst hv))))
  refine Wseq.st (OpTo.ofCall hfn rfl) ?_
  (repeat (first | (with_reducible refine Then.go ?_) | (with_reducible refine Wx.ret ?_) | ((with_reducible refine Wseq.nil ?_); intro e he; (simp (decide := true) only [kz] at he; subst he)) | ((with_reducible apply Wseq.as); (focus rfl); (intro v hv; (simp (decide := true) only [kw] at hv); subst hv))))
  refine ⟨.inr rfl, Wres.one rfl ⟨hown, ?_⟩⟩
  exact Ext.of hext.c hext.fresh hext.h (Lg.extR Lg.nil hext fun _ _ q => q) (Lg.extW Lg.nil hext fun _ _ q => q)
end Go.Ab.Seat
end
