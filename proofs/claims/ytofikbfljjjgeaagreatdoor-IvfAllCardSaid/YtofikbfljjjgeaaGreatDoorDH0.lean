/- What the program's types come to (printed by gen_types.py). -/
import Derived.Test.YtofikbfljjjgeaaGreatDoorDS1
import Derived.Test.YtofikbfljjjgeaaGreatDoorE43
import Derived.KernelRfl
set_option linter.unusedVariables false
set_option linter.unusedSimpArgs false
namespace Go.Ab.Seat
open Go.Extern Go.Proofs
set_option maxRecDepth 1000000
variable {sm : Nat → Option (List Value → M Value)}
theorem ag50 : aggT (Cs sm) 50 = some 5 := by kernel_rfl
theorem ag52 : aggT (Cs sm) 52 = some 2 := by kernel_rfl
theorem el102 : elemAt (Cs sm) 102 = some 1 := by kernel_rfl
theorem el105 : elemAt (Cs sm) 105 = some 8 := by kernel_rfl
theorem el205 : elemAt (Cs sm) 205 = some 1 := by kernel_rfl
theorem el22 : elemAt (Cs sm) 22 = some 1 := by kernel_rfl
theorem el226 : elemAt (Cs sm) 226 = some 1 := by kernel_rfl
theorem el25 : elemAt (Cs sm) 25 = some 1 := by kernel_rfl
theorem el37 : elemAt (Cs sm) 37 = some 2 := by kernel_rfl
theorem el45 : elemAt (Cs sm) 45 = some 1 := by kernel_rfl
theorem el48 : elemAt (Cs sm) 48 = some 5 := by kernel_rfl
theorem ex101 : (Cs sm).ex 101 = none := by kernel_rfl
theorem ex103 : (Cs sm).ex 103 = none := by kernel_rfl
theorem ex105 : (Cs sm).ex 105 = none := by kernel_rfl
theorem ex107 : (Cs sm).ex 107 = none := by kernel_rfl
theorem ex109 : (Cs sm).ex 109 = none := by kernel_rfl
theorem ex110 : (Cs sm).ex 110 = none := by kernel_rfl
theorem ex111 : (Cs sm).ex 111 = none := by kernel_rfl
theorem ex115 : (Cs sm).ex 115 = none := by kernel_rfl
theorem ex117 : (Cs sm).ex 117 = none := by kernel_rfl
theorem ex118 : (Cs sm).ex 118 = none := by kernel_rfl
theorem ex119 : (Cs sm).ex 119 = none := by kernel_rfl
theorem ex120 : (Cs sm).ex 120 = none := by kernel_rfl
theorem ex121 : (Cs sm).ex 121 = none := by kernel_rfl
theorem ex122 : (Cs sm).ex 122 = none := by kernel_rfl
theorem ex123 : (Cs sm).ex 123 = none := by kernel_rfl
theorem ex124 : (Cs sm).ex 124 = none := by kernel_rfl
theorem ex125 : (Cs sm).ex 125 = none := by kernel_rfl
theorem ex126 : (Cs sm).ex 126 = none := by kernel_rfl
theorem ex127 : (Cs sm).ex 127 = none := by kernel_rfl
theorem ex128 : (Cs sm).ex 128 = none := by kernel_rfl
theorem ex13 : (Cs sm).ex 13 = none := by kernel_rfl
theorem ex130 : (Cs sm).ex 130 = none := by kernel_rfl
theorem ex132 : (Cs sm).ex 132 = none := by kernel_rfl
theorem ex133 : (Cs sm).ex 133 = none := by kernel_rfl
theorem ex134 : (Cs sm).ex 134 = none := by kernel_rfl
theorem ex136 : (Cs sm).ex 136 = none := by kernel_rfl
theorem ex137 : (Cs sm).ex 137 = none := by kernel_rfl
theorem ex138 : (Cs sm).ex 138 = none := by kernel_rfl
theorem ex140 : (Cs sm).ex 140 = none := by kernel_rfl
theorem ex16 : (Cs sm).ex 16 = none := by kernel_rfl
theorem ex165 : (Cs sm).ex 165 = none := by kernel_rfl
theorem ex173 : (Cs sm).ex 173 = none := by kernel_rfl
theorem ex177 : (Cs sm).ex 177 = none := by kernel_rfl
theorem ex178 : (Cs sm).ex 178 = none := by kernel_rfl
theorem ex180 : (Cs sm).ex 180 = none := by kernel_rfl
theorem ex182 : (Cs sm).ex 182 = none := by kernel_rfl
theorem ex183 : (Cs sm).ex 183 = none := by kernel_rfl
theorem ex184 : (Cs sm).ex 184 = none := by kernel_rfl
theorem ex185 : (Cs sm).ex 185 = none := by kernel_rfl
theorem ex186 : (Cs sm).ex 186 = none := by kernel_rfl
theorem ex187 : (Cs sm).ex 187 = none := by kernel_rfl
theorem ex188 : (Cs sm).ex 188 = none := by kernel_rfl
theorem ex198 : (Cs sm).ex 198 = none := by kernel_rfl
theorem ex199 : (Cs sm).ex 199 = none := by kernel_rfl
theorem ex200 : (Cs sm).ex 200 = none := by kernel_rfl
theorem ex201 : (Cs sm).ex 201 = none := by kernel_rfl
theorem ex21 : (Cs sm).ex 21 = none := by kernel_rfl
theorem ex210 : (Cs sm).ex 210 = none := by kernel_rfl
theorem ex216 : (Cs sm).ex 216 = none := by kernel_rfl
theorem ex218 : (Cs sm).ex 218 = none := by kernel_rfl
theorem ex219 : (Cs sm).ex 219 = none := by kernel_rfl
theorem ex22 : (Cs sm).ex 22 = none := by kernel_rfl
theorem ex226 : (Cs sm).ex 226 = none := by kernel_rfl
theorem ex241 : (Cs sm).ex 241 = none := by kernel_rfl
theorem ex35 : (Cs sm).ex 35 = none := by kernel_rfl
theorem ex40 : (Cs sm).ex 40 = none := by kernel_rfl
theorem ex44 : (Cs sm).ex 44 = none := by kernel_rfl
theorem ex49 : (Cs sm).ex 49 = none := by kernel_rfl
theorem ex50 : (Cs sm).ex 50 = none := by kernel_rfl
theorem ex52 : (Cs sm).ex 52 = none := by kernel_rfl
theorem ex53 : (Cs sm).ex 53 = none := by kernel_rfl
theorem ex54 : (Cs sm).ex 54 = none := by kernel_rfl
theorem ex56 : (Cs sm).ex 56 = none := by kernel_rfl
theorem ex58 : (Cs sm).ex 58 = none := by kernel_rfl
theorem ex59 : (Cs sm).ex 59 = none := by kernel_rfl
theorem ex60 : (Cs sm).ex 60 = none := by kernel_rfl
theorem ex62 : (Cs sm).ex 62 = none := by kernel_rfl
theorem ex63 : (Cs sm).ex 63 = none := by kernel_rfl
theorem ex64 : (Cs sm).ex 64 = none := by kernel_rfl
theorem ex65 : (Cs sm).ex 65 = none := by kernel_rfl
theorem ex69 : (Cs sm).ex 69 = none := by kernel_rfl
theorem ex70 : (Cs sm).ex 70 = none := by kernel_rfl
theorem ex72 : (Cs sm).ex 72 = none := by kernel_rfl
theorem ex73 : (Cs sm).ex 73 = none := by kernel_rfl
theorem ex79 : (Cs sm).ex 79 = none := by kernel_rfl
theorem ex93 : (Cs sm).ex 93 = none := by kernel_rfl
theorem ex98 : (Cs sm).ex 98 = none := by kernel_rfl
theorem fn101 : (Cs sm).fn.get 101 = some Tryz.f101 := by kernel_rfl
theorem fn103 : (Cs sm).fn.get 103 = some Tryz.f103 := by kernel_rfl
theorem fn105 : (Cs sm).fn.get 105 = some Tryz.f105 := by kernel_rfl
theorem fn107 : (Cs sm).fn.get 107 = some Tryz.f107 := by kernel_rfl
theorem fn109 : (Cs sm).fn.get 109 = some Tryz.f109 := by kernel_rfl
theorem fn110 : (Cs sm).fn.get 110 = some Tryz.f110 := by kernel_rfl
theorem fn111 : (Cs sm).fn.get 111 = some Tryz.f111 := by kernel_rfl
theorem fn115 : (Cs sm).fn.get 115 = some Tryz.f115 := by kernel_rfl
theorem fn117 : (Cs sm).fn.get 117 = some Tryz.f117 := by kernel_rfl
theorem fn118 : (Cs sm).fn.get 118 = some Tryz.f118 := by kernel_rfl
theorem fn119 : (Cs sm).fn.get 119 = some Tryz.f119 := by kernel_rfl
theorem fn120 : (Cs sm).fn.get 120 = some Tryz.f120 := by kernel_rfl
theorem fn121 : (Cs sm).fn.get 121 = some Tryz.f121 := by kernel_rfl
theorem fn122 : (Cs sm).fn.get 122 = some Tryz.f122 := by kernel_rfl
theorem fn123 : (Cs sm).fn.get 123 = some Tryz.f123 := by kernel_rfl
theorem fn124 : (Cs sm).fn.get 124 = some Tryz.f124 := by kernel_rfl
theorem fn125 : (Cs sm).fn.get 125 = some Tryz.f125 := by kernel_rfl
theorem fn126 : (Cs sm).fn.get 126 = some Tryz.f126 := by kernel_rfl
theorem fn127 : (Cs sm).fn.get 127 = some Tryz.f127 := by kernel_rfl
theorem fn128 : (Cs sm).fn.get 128 = some Tryz.f128 := by kernel_rfl
theorem fn13 : (Cs sm).fn.get 13 = some Tryz.f13 := by kernel_rfl
theorem fn130 : (Cs sm).fn.get 130 = some Tryz.f130 := by kernel_rfl
theorem fn132 : (Cs sm).fn.get 132 = some Tryz.f132 := by kernel_rfl
theorem fn133 : (Cs sm).fn.get 133 = some Tryz.f133 := by kernel_rfl
theorem fn134 : (Cs sm).fn.get 134 = some Tryz.f134 := by kernel_rfl
theorem fn136 : (Cs sm).fn.get 136 = some Tryz.f136 := by kernel_rfl
theorem fn137 : (Cs sm).fn.get 137 = some Tryz.f137 := by kernel_rfl
theorem fn138 : (Cs sm).fn.get 138 = some Tryz.f138 := by kernel_rfl
theorem fn140 : (Cs sm).fn.get 140 = some Tryz.f140 := by kernel_rfl
theorem fn16 : (Cs sm).fn.get 16 = some Tryz.f16 := by kernel_rfl
theorem fn165 : (Cs sm).fn.get 165 = some Tryz.f165 := by kernel_rfl
theorem fn173 : (Cs sm).fn.get 173 = some Tryz.f173 := by kernel_rfl
theorem fn177 : (Cs sm).fn.get 177 = some Tryz.f177 := by kernel_rfl
theorem fn178 : (Cs sm).fn.get 178 = some Tryz.f178 := by kernel_rfl
theorem fn180 : (Cs sm).fn.get 180 = some Tryz.f180 := by kernel_rfl
theorem fn182 : (Cs sm).fn.get 182 = some Tryz.f182 := by kernel_rfl
theorem fn183 : (Cs sm).fn.get 183 = some Tryz.f183 := by kernel_rfl
theorem fn184 : (Cs sm).fn.get 184 = some Tryz.f184 := by kernel_rfl
theorem fn185 : (Cs sm).fn.get 185 = some Tryz.f185 := by kernel_rfl
theorem fn186 : (Cs sm).fn.get 186 = some Tryz.f186 := by kernel_rfl
theorem fn187 : (Cs sm).fn.get 187 = some Tryz.f187 := by kernel_rfl
theorem fn188 : (Cs sm).fn.get 188 = some Tryz.f188 := by kernel_rfl
theorem fn198 : (Cs sm).fn.get 198 = some Tryz.f198 := by kernel_rfl
theorem fn199 : (Cs sm).fn.get 199 = some Tryz.f199 := by kernel_rfl
theorem fn200 : (Cs sm).fn.get 200 = some Tryz.f200 := by kernel_rfl
theorem fn201 : (Cs sm).fn.get 201 = some Tryz.f201 := by kernel_rfl
theorem fn21 : (Cs sm).fn.get 21 = some Tryz.f21 := by kernel_rfl
theorem fn210 : (Cs sm).fn.get 210 = some Tryz.f210 := by kernel_rfl
theorem fn216 : (Cs sm).fn.get 216 = some Tryz.f216 := by kernel_rfl
theorem fn218 : (Cs sm).fn.get 218 = some Tryz.f218 := by kernel_rfl
theorem fn219 : (Cs sm).fn.get 219 = some Tryz.f219 := by kernel_rfl
theorem fn22 : (Cs sm).fn.get 22 = some Tryz.f22 := by kernel_rfl
theorem fn226 : (Cs sm).fn.get 226 = some Tryz.f226 := by kernel_rfl
theorem fn241 : (Cs sm).fn.get 241 = some Tryz.f241 := by kernel_rfl
theorem fn35 : (Cs sm).fn.get 35 = some Tryz.f35 := by kernel_rfl
theorem fn40 : (Cs sm).fn.get 40 = some Tryz.f40 := by kernel_rfl
theorem fn44 : (Cs sm).fn.get 44 = some Tryz.f44 := by kernel_rfl
theorem fn49 : (Cs sm).fn.get 49 = some Tryz.f49 := by kernel_rfl
theorem fn50 : (Cs sm).fn.get 50 = some Tryz.f50 := by kernel_rfl
theorem fn52 : (Cs sm).fn.get 52 = some Tryz.f52 := by kernel_rfl
theorem fn53 : (Cs sm).fn.get 53 = some Tryz.f53 := by kernel_rfl
theorem fn54 : (Cs sm).fn.get 54 = some Tryz.f54 := by kernel_rfl
theorem fn56 : (Cs sm).fn.get 56 = some Tryz.f56 := by kernel_rfl
theorem fn58 : (Cs sm).fn.get 58 = some Tryz.f58 := by kernel_rfl
theorem fn59 : (Cs sm).fn.get 59 = some Tryz.f59 := by kernel_rfl
theorem fn60 : (Cs sm).fn.get 60 = some Tryz.f60 := by kernel_rfl
theorem fn62 : (Cs sm).fn.get 62 = some Tryz.f62 := by kernel_rfl
theorem fn63 : (Cs sm).fn.get 63 = some Tryz.f63 := by kernel_rfl
theorem fn64 : (Cs sm).fn.get 64 = some Tryz.f64 := by kernel_rfl
theorem fn65 : (Cs sm).fn.get 65 = some Tryz.f65 := by kernel_rfl
theorem fn69 : (Cs sm).fn.get 69 = some Tryz.f69 := by kernel_rfl
theorem fn70 : (Cs sm).fn.get 70 = some Tryz.f70 := by kernel_rfl
theorem fn72 : (Cs sm).fn.get 72 = some Tryz.f72 := by kernel_rfl
theorem fn73 : (Cs sm).fn.get 73 = some Tryz.f73 := by kernel_rfl
theorem fn79 : (Cs sm).fn.get 79 = some Tryz.f79 := by kernel_rfl
theorem fn93 : (Cs sm).fn.get 93 = some Tryz.f93 := by kernel_rfl
theorem fn98 : (Cs sm).fn.get 98 = some Tryz.f98 := by kernel_rfl
theorem km101 : (Cs sm).km.get 101 = some 5 := by kernel_rfl
theorem km103 : (Cs sm).km.get 103 = some 16777243 := by kernel_rfl
theorem km105 : (Cs sm).km.get 105 = some 339 := by kernel_rfl
theorem km107 : (Cs sm).km.get 107 = some 8395827 := by kernel_rfl
theorem km109 : (Cs sm).km.get 109 = some 19 := by kernel_rfl
theorem km110 : (Cs sm).km.get 110 = some 71 := by kernel_rfl
theorem km111 : (Cs sm).km.get 111 = some 15032393203 := by kernel_rfl
theorem km115 : (Cs sm).km.get 115 = some 4401267869639 := by kernel_rfl
theorem km117 : (Cs sm).km.get 117 = some 1907 := by kernel_rfl
theorem km118 : (Cs sm).km.get 118 = some 21 := by kernel_rfl
theorem km119 : (Cs sm).km.get 119 = some 4299165727 := by kernel_rfl
theorem km120 : (Cs sm).km.get 120 = some 2105399 := by kernel_rfl
theorem km121 : (Cs sm).km.get 121 = some 33620175 := by kernel_rfl
theorem km122 : (Cs sm).km.get 122 = some 67174519 := by kernel_rfl
theorem km123 : (Cs sm).km.get 123 = some 2163 := by kernel_rfl
theorem km124 : (Cs sm).km.get 124 = some 132111 := by kernel_rfl
theorem km125 : (Cs sm).km.get 125 = some 4115 := by kernel_rfl
theorem km126 : (Cs sm).km.get 126 = some 66114300693392295753415 := by kernel_rfl
theorem km127 : (Cs sm).km.get 127 = some 268437363 := by kernel_rfl
theorem km128 : (Cs sm).km.get 128 = some 1005 := by kernel_rfl
theorem km13 : (Cs sm).km.get 13 = some 2535301201526369976860746776335 := by kernel_rfl
theorem km130 : (Cs sm).km.get 130 = some 4147 := by kernel_rfl
theorem km132 : (Cs sm).km.get 132 = some 147 := by kernel_rfl
theorem km133 : (Cs sm).km.get 133 = some 64424756723 := by kernel_rfl
theorem km134 : (Cs sm).km.get 134 = some 19 := by kernel_rfl
theorem km136 : (Cs sm).km.get 136 = some 21 := by kernel_rfl
theorem km137 : (Cs sm).km.get 137 = some 5 := by kernel_rfl
theorem km138 : (Cs sm).km.get 138 = some 2207613222971 := by kernel_rfl
theorem km140 : (Cs sm).km.get 140 = some 21 := by kernel_rfl
theorem km16 : (Cs sm).km.get 16 = some 131527 := by kernel_rfl
theorem km165 : (Cs sm).km.get 165 = some 16806963 := by kernel_rfl
theorem km173 : (Cs sm).km.get 173 = some 19 := by kernel_rfl
theorem km177 : (Cs sm).km.get 177 = some 288247968346175463 := by kernel_rfl
theorem km178 : (Cs sm).km.get 178 = some 7 := by kernel_rfl
theorem km180 : (Cs sm).km.get 180 = some 755 := by kernel_rfl
theorem km182 : (Cs sm).km.get 182 = some 19 := by kernel_rfl
theorem km183 : (Cs sm).km.get 183 = some 11 := by kernel_rfl
theorem km184 : (Cs sm).km.get 184 = some 2212238067 := by kernel_rfl
theorem km185 : (Cs sm).km.get 185 = some 19 := by kernel_rfl
theorem km186 : (Cs sm).km.get 186 = some 159 := by kernel_rfl
theorem km187 : (Cs sm).km.get 187 = some 543 := by kernel_rfl
theorem km188 : (Cs sm).km.get 188 = some 66483 := by kernel_rfl
theorem km198 : (Cs sm).km.get 198 = some 19 := by kernel_rfl
theorem km199 : (Cs sm).km.get 199 = some 15 := by kernel_rfl
theorem km200 : (Cs sm).km.get 200 = some 295147905181504570311 := by kernel_rfl
theorem km201 : (Cs sm).km.get 201 = some 21 := by kernel_rfl
theorem km21 : (Cs sm).km.get 21 = some 131187 := by kernel_rfl
theorem km210 : (Cs sm).km.get 210 = some 66483 := by kernel_rfl
theorem km216 : (Cs sm).km.get 216 = some 31 := by kernel_rfl
theorem km218 : (Cs sm).km.get 218 = some 4147 := by kernel_rfl
theorem km219 : (Cs sm).km.get 219 = some 42535296023574879666274036850519702559 := by kernel_rfl
theorem km22 : (Cs sm).km.get 22 = some 16806963 := by kernel_rfl
theorem km226 : (Cs sm).km.get 226 = some 66483 := by kernel_rfl
theorem km241 : (Cs sm).km.get 241 = some 17179886351 := by kernel_rfl
theorem km35 : (Cs sm).km.get 35 = some 2200634099655 := by kernel_rfl
theorem km40 : (Cs sm).km.get 40 = some 19 := by kernel_rfl
theorem km44 : (Cs sm).km.get 44 = some 37325842632360861455 := by kernel_rfl
theorem km49 : (Cs sm).km.get 49 = some 17183670323 := by kernel_rfl
theorem km50 : (Cs sm).km.get 50 = some 131087 := by kernel_rfl
theorem km52 : (Cs sm).km.get 52 = some 8467 := by kernel_rfl
theorem km53 : (Cs sm).km.get 53 = some 11247716600898666159958805025917556981378870312689351 := by kernel_rfl
theorem km54 : (Cs sm).km.get 54 = some 16806963 := by kernel_rfl
theorem km56 : (Cs sm).km.get 56 = some 3613 := by kernel_rfl
theorem km58 : (Cs sm).km.get 58 = some 5 := by kernel_rfl
theorem km59 : (Cs sm).km.get 59 = some 783 := by kernel_rfl
theorem km60 : (Cs sm).km.get 60 = some 10384593721910081766728691964443711 := by kernel_rfl
theorem km62 : (Cs sm).km.get 62 = some 19 := by kernel_rfl
theorem km63 : (Cs sm).km.get 63 = some 983213 := by kernel_rfl
theorem km64 : (Cs sm).km.get 64 = some 917565 := by kernel_rfl
theorem km65 : (Cs sm).km.get 65 = some 21 := by kernel_rfl
theorem km69 : (Cs sm).km.get 69 = some 135 := by kernel_rfl
theorem km70 : (Cs sm).km.get 70 = some 4505661345902023 := by kernel_rfl
theorem km72 : (Cs sm).km.get 72 = some 5 := by kernel_rfl
theorem km73 : (Cs sm).km.get 73 = some 5 := by kernel_rfl
theorem km79 : (Cs sm).km.get 79 = some 15539 := by kernel_rfl
theorem km93 : (Cs sm).km.get 93 = some 16806963 := by kernel_rfl
theorem km98 : (Cs sm).km.get 98 = some 108716138161064600943532043125869455896215495 := by kernel_rfl
theorem ro102 : (Cs sm).row 102 = some (45, 1, 24, [.slice none 0 0]) := by kernel_rfl
theorem ro105 : (Cs sm).row 105 = some (112, 8, 160, [.int .i64 0, .slice none 0 0, .int .i64 0, .slice none 0 0, .slice none 0 0, .slice none 0 0, .slice none 0 0, .slice none 0 0]) := by kernel_rfl
theorem ro205 : (Cs sm).row 205 = some (2, 1, 8, [.int .i64 0]) := by kernel_rfl
theorem ro22 : (Cs sm).row 22 = some (25, 1, 24, [.slice none 0 0]) := by kernel_rfl
theorem ro226 : (Cs sm).row 226 = some (22, 1, 24, [.slice none 0 0]) := by kernel_rfl
theorem ro25 : (Cs sm).row 25 = some (21, 1, 4, [.int .i32 0]) := by kernel_rfl
theorem ro37 : (Cs sm).row 37 = some (52, 2, 16, [.int .i64 0, .int .i64 0]) := by kernel_rfl
theorem ro45 : (Cs sm).row 45 = some (3, 1, 8, [.int .i64 0]) := by kernel_rfl
theorem sl105 : sliceT (Cs sm) 105 = true := by kernel_rfl
theorem sl22 : sliceT (Cs sm) 22 = true := by kernel_rfl
theorem sl25 : sliceT (Cs sm) 25 = true := by kernel_rfl
theorem sl37 : sliceT (Cs sm) 37 = true := by kernel_rfl
theorem sl45 : sliceT (Cs sm) 45 = true := by kernel_rfl
def plL : List ((Nat) × (Bool)) := [(105, true), (116, true), (119, true), (139, true), (173, true), (183, true), (2, true), (21, true), (22, true), (24, true), (25, true), (28, true), (3, true), (30, true), (32, true), (37, true), (44, true), (45, true), (5, true), (54, true), (77, true), (9, true), (96, true)]
theorem plA : ∀ p ∈ plL, (fun (k : Nat) (v : Bool) => plainT (Cs sm) k = v) p.1 p.2 := all_cons (by show _ = _; kernel_rfl) ( all_cons (by show _ = _; kernel_rfl) ( all_cons (by show _ = _; kernel_rfl) ( all_cons (by show _ = _; kernel_rfl) ( all_cons (by show _ = _; kernel_rfl) ( all_cons (by show _ = _; kernel_rfl) ( all_cons (by show _ = _; kernel_rfl) ( all_cons (by show _ = _; kernel_rfl) ( all_cons (by show _ = _; kernel_rfl) ( all_cons (by show _ = _; kernel_rfl) ( all_cons (by show _ = _; kernel_rfl) ( all_cons (by show _ = _; kernel_rfl) ( all_cons (by show _ = _; kernel_rfl) ( all_cons (by show _ = _; kernel_rfl) ( all_cons (by show _ = _; kernel_rfl) ( all_cons (by show _ = _; kernel_rfl) ( all_cons (by show _ = _; kernel_rfl) ( all_cons (by show _ = _; kernel_rfl) ( all_cons (by show _ = _; kernel_rfl) ( all_cons (by show _ = _; kernel_rfl) ( all_cons (by show _ = _; kernel_rfl) ( all_cons (by show _ = _; kernel_rfl) ( all_cons (by show _ = _; kernel_rfl) (all_nil)))))))))))))))))))))))
theorem pl_ {k : Nat} {v : Bool} (h : plL.lookup k = some v) : plainT (Cs sm) k = v := tab_row (P := fun (k : Nat) (v : Bool) => plainT (Cs sm) k = v) (plA (sm := sm)) h
def agL : List ((Nat) × (Nat)) := [(106, 2), (110, 5), (112, 8), (187, 2), (50, 5), (52, 2), (72, 2), (98, 4)]
theorem agA : ∀ p ∈ agL, (fun (k : Nat) (v : Nat) => aggT (Cs sm) k = some v) p.1 p.2 := all_cons (by show _ = _; kernel_rfl) ( all_cons (by show _ = _; kernel_rfl) ( all_cons (by show _ = _; kernel_rfl) ( all_cons (by show _ = _; kernel_rfl) ( all_cons (by show _ = _; kernel_rfl) ( all_cons (by show _ = _; kernel_rfl) ( all_cons (by show _ = _; kernel_rfl) ( all_cons (by show _ = _; kernel_rfl) (all_nil))))))))
theorem ag_ {k : Nat} {v : Nat} (h : agL.lookup k = some v) : aggT (Cs sm) k = some v := tab_row (P := fun (k : Nat) (v : Nat) => aggT (Cs sm) k = some v) (agA (sm := sm)) h
def szL : List ((Nat) × (Nat)) := [(105, 1), (106, 2), (110, 5), (112, 8), (143, 2), (177, 2), (183, 1), (187, 2), (2, 1), (21, 1), (22, 1), (24, 1), (25, 1), (28, 1), (3, 1), (30, 1), (318, 1), (37, 1), (44, 1), (45, 1), (5, 1), (50, 5), (52, 2), (54, 1), (72, 2), (96, 1)]
theorem szA : ∀ p ∈ szL, (fun (k : Nat) (v : Nat) => (Cs sm).size k = some v) p.1 p.2 := all_cons (by show _ = _; kernel_rfl) ( all_cons (by show _ = _; kernel_rfl) ( all_cons (by show _ = _; kernel_rfl) ( all_cons (by show _ = _; kernel_rfl) ( all_cons (by show _ = _; kernel_rfl) ( all_cons (by show _ = _; kernel_rfl) ( all_cons (by show _ = _; kernel_rfl) ( all_cons (by show _ = _; kernel_rfl) ( all_cons (by show _ = _; kernel_rfl) ( all_cons (by show _ = _; kernel_rfl) ( all_cons (by show _ = _; kernel_rfl) ( all_cons (by show _ = _; kernel_rfl) ( all_cons (by show _ = _; kernel_rfl) ( all_cons (by show _ = _; kernel_rfl) ( all_cons (by show _ = _; kernel_rfl) ( all_cons (by show _ = _; kernel_rfl) ( all_cons (by show _ = _; kernel_rfl) ( all_cons (by show _ = _; kernel_rfl) ( all_cons (by show _ = _; kernel_rfl) ( all_cons (by show _ = _; kernel_rfl) ( all_cons (by show _ = _; kernel_rfl) ( all_cons (by show _ = _; kernel_rfl) ( all_cons (by show _ = _; kernel_rfl) ( all_cons (by show _ = _; kernel_rfl) ( all_cons (by show _ = _; kernel_rfl) ( all_cons (by show _ = _; kernel_rfl) (all_nil))))))))))))))))))))))))))
theorem sz_ {k : Nat} {v : Nat} (h : szL.lookup k = some v) : (Cs sm).size k = some v := tab_row (P := fun (k : Nat) (v : Nat) => (Cs sm).size k = some v) (szA (sm := sm)) h
def zeL : List ((Nat) × (Value)) := [(106, (.agg #[.slice none 0 0, .slice none 0 0])), (110, (.agg #[.slice none 0 0, .slice none 0 0, .slice none 0 0, .slice none 0 0, .slice none 0 0])), (112, (.agg #[.int .i64 0, .slice none 0 0, .int .i64 0, .slice none 0 0, .slice none 0 0, .slice none 0 0, .slice none 0 0, .slice none 0 0])), (122, (.pointer none)), (143, (.agg #[.slice none 0 0, .slice none 0 0])), (177, (.agg #[.slice none 0 0, .int .i64 0])), (183, (.map none)), (187, (.agg #[.int .i64 0, .int .i64 0])), (25, (.slice none 0 0)), (3, (.int .i64 0)), (318, (.int .u64 0)), (4, (.bool false)), (44, (.nilFunc)), (50, (.agg #[.int .i64 0, .int .i64 0, .int .i64 0, .slice none 0 0, .int .u32 0])), (52, (.agg #[.int .i64 0, .int .i64 0])), (72, (.agg #[.slice none 0 0, .slice none 0 0]))]
theorem zeA : ∀ p ∈ zeL, (fun (k : Nat) (v : Value) => (Cs sm).zero k = some v) p.1 p.2 := all_cons (by show _ = _; kernel_rfl) ( all_cons (by show _ = _; kernel_rfl) ( all_cons (by show _ = _; kernel_rfl) ( all_cons (by show _ = _; kernel_rfl) ( all_cons (by show _ = _; kernel_rfl) ( all_cons (by show _ = _; kernel_rfl) ( all_cons (by show _ = _; kernel_rfl) ( all_cons (by show _ = _; kernel_rfl) ( all_cons (by show _ = _; kernel_rfl) ( all_cons (by show _ = _; kernel_rfl) ( all_cons (by show _ = _; kernel_rfl) ( all_cons (by show _ = _; kernel_rfl) ( all_cons (by show _ = _; kernel_rfl) ( all_cons (by show _ = _; kernel_rfl) ( all_cons (by show _ = _; kernel_rfl) ( all_cons (by show _ = _; kernel_rfl) (all_nil))))))))))))))))
theorem ze_ {k : Nat} {v : Value} (h : zeL.lookup k = some v) : (Cs sm).zero k = some v := tab_row (P := fun (k : Nat) (v : Value) => (Cs sm).zero k = some v) (zeA (sm := sm)) h
def faL : List ((Nat × Nat) × (Nat × TypeId)) := [((106, 0), (0, 24)), ((106, 1), (1, 24)), ((108, 0), (0, 3)), ((108, 1), (1, 3)), ((108, 3), (3, 105)), ((108, 4), (4, 22)), ((108, 5), (5, 106)), ((112, 0), (0, 3)), ((112, 1), (1, 25)), ((112, 2), (2, 3)), ((112, 3), (3, 110)), ((118, 0), (0, 3)), ((118, 1), (1, 116)), ((121, 0), (0, 3)), ((121, 1), (1, 119)), ((125, 0), (0, 25)), ((125, 1), (1, 3)), ((125, 2), (2, 110)), ((141, 0), (0, 3)), ((141, 1), (1, 72)), ((141, 2), (3, 139)), ((143, 0), (0, 25)), ((143, 1), (1, 77)), ((148, 0), (0, 3)), ((148, 2), (2, 3)), ((148, 3), (3, 30)), ((148, 4), (4, 96)), ((148, 5), (5, 28)), ((148, 6), (6, 54)), ((175, 0), (0, 3)), ((175, 1), (1, 22)), ((175, 2), (2, 173)), ((177, 0), (0, 25)), ((177, 1), (1, 3)), ((245, 0), (0, 37)), ((245, 1), (1, 3)), ((50, 0), (0, 3)), ((50, 1), (1, 3)), ((50, 2), (2, 3)), ((50, 3), (3, 25)), ((50, 4), (4, 32)), ((52, 0), (0, 3)), ((52, 1), (1, 2)), ((72, 0), (0, 24)), ((72, 1), (1, 24)), ((98, 0), (0, 30)), ((98, 1), (1, 96)), ((98, 2), (2, 28)), ((98, 3), (3, 54))]
theorem faA : ∀ p ∈ faL, (fun (k : Nat × Nat) (v : Nat × TypeId) => fieldAt (Cs sm) k.1 k.2 = some v) p.1 p.2 := all_cons (by show _ = _; kernel_rfl) ( all_cons (by show _ = _; kernel_rfl) ( all_cons (by show _ = _; kernel_rfl) ( all_cons (by show _ = _; kernel_rfl) ( all_cons (by show _ = _; kernel_rfl) ( all_cons (by show _ = _; kernel_rfl) ( all_cons (by show _ = _; kernel_rfl) ( all_cons (by show _ = _; kernel_rfl) ( all_cons (by show _ = _; kernel_rfl) ( all_cons (by show _ = _; kernel_rfl) ( all_cons (by show _ = _; kernel_rfl) ( all_cons (by show _ = _; kernel_rfl) ( all_cons (by show _ = _; kernel_rfl) ( all_cons (by show _ = _; kernel_rfl) ( all_cons (by show _ = _; kernel_rfl) ( all_cons (by show _ = _; kernel_rfl) ( all_cons (by show _ = _; kernel_rfl) ( all_cons (by show _ = _; kernel_rfl) ( all_cons (by show _ = _; kernel_rfl) ( all_cons (by show _ = _; kernel_rfl) ( all_cons (by show _ = _; kernel_rfl) ( all_cons (by show _ = _; kernel_rfl) ( all_cons (by show _ = _; kernel_rfl) ( all_cons (by show _ = _; kernel_rfl) ( all_cons (by show _ = _; kernel_rfl) ( all_cons (by show _ = _; kernel_rfl) ( all_cons (by show _ = _; kernel_rfl) ( all_cons (by show _ = _; kernel_rfl) ( all_cons (by show _ = _; kernel_rfl) ( all_cons (by show _ = _; kernel_rfl) ( all_cons (by show _ = _; kernel_rfl) ( all_cons (by show _ = _; kernel_rfl) ( all_cons (by show _ = _; kernel_rfl) ( all_cons (by show _ = _; kernel_rfl) ( all_cons (by show _ = _; kernel_rfl) ( all_cons (by show _ = _; kernel_rfl) ( all_cons (by show _ = _; kernel_rfl) ( all_cons (by show _ = _; kernel_rfl) ( all_cons (by show _ = _; kernel_rfl) ( all_cons (by show _ = _; kernel_rfl) ( all_cons (by show _ = _; kernel_rfl) ( all_cons (by show _ = _; kernel_rfl) ( all_cons (by show _ = _; kernel_rfl) ( all_cons (by show _ = _; kernel_rfl) ( all_cons (by show _ = _; kernel_rfl) ( all_cons (by show _ = _; kernel_rfl) ( all_cons (by show _ = _; kernel_rfl) ( all_cons (by show _ = _; kernel_rfl) ( all_cons (by show _ = _; kernel_rfl) (all_nil)))))))))))))))))))))))))))))))))))))))))))))))))
theorem fa_ {t f : Nat} {v : Nat × TypeId} (h : faL.lookup (t, f) = some v) : fieldAt (Cs sm) t f = some v := tab_row (P := fun (k : Nat × Nat) (v : Nat × TypeId) => fieldAt (Cs sm) k.1 k.2 = some v) (faA (sm := sm)) h
def slL : List ((Nat) × (Bool)) := [(102, true), (105, true), (188, true), (205, true), (22, true), (23, true), (24, true), (25, true), (37, true), (45, true), (48, true), (77, true), (87, true)]
theorem slA : ∀ p ∈ slL, (fun (k : Nat) (v : Bool) => sliceT (Cs sm) k = v) p.1 p.2 := all_cons (by show _ = _; kernel_rfl) ( all_cons (by show _ = _; kernel_rfl) ( all_cons (by show _ = _; kernel_rfl) ( all_cons (by show _ = _; kernel_rfl) ( all_cons (by show _ = _; kernel_rfl) ( all_cons (by show _ = _; kernel_rfl) ( all_cons (by show _ = _; kernel_rfl) ( all_cons (by show _ = _; kernel_rfl) ( all_cons (by show _ = _; kernel_rfl) ( all_cons (by show _ = _; kernel_rfl) ( all_cons (by show _ = _; kernel_rfl) ( all_cons (by show _ = _; kernel_rfl) ( all_cons (by show _ = _; kernel_rfl) (all_nil)))))))))))))
theorem sl_ {k : Nat} {v : Bool} (h : slL.lookup k = some v) : sliceT (Cs sm) k = v := tab_row (P := fun (k : Nat) (v : Bool) => sliceT (Cs sm) k = v) (slA (sm := sm)) h
def unL : List ((Nat × Nat) × (Bool)) := [((122, 0), true), ((181, 0), true), ((22, 1), true), ((24, 1), true), ((25, 1), true), ((28, 0), true), ((30, 0), true), ((37, 1), true), ((45, 1), true), ((4, 3), true), ((54, 0), true), ((57, 0), true), ((59, 2), true), ((77, 1), true), ((96, 0), true)]
theorem unA : ∀ p ∈ unL, (fun (k : Nat × Nat) (v : Bool) => undIs (Cs sm) k.1 k.2 = v) p.1 p.2 := all_cons (by show _ = _; kernel_rfl) ( all_cons (by show _ = _; kernel_rfl) ( all_cons (by show _ = _; kernel_rfl) ( all_cons (by show _ = _; kernel_rfl) ( all_cons (by show _ = _; kernel_rfl) ( all_cons (by show _ = _; kernel_rfl) ( all_cons (by show _ = _; kernel_rfl) ( all_cons (by show _ = _; kernel_rfl) ( all_cons (by show _ = _; kernel_rfl) ( all_cons (by show _ = _; kernel_rfl) ( all_cons (by show _ = _; kernel_rfl) ( all_cons (by show _ = _; kernel_rfl) ( all_cons (by show _ = _; kernel_rfl) ( all_cons (by show _ = _; kernel_rfl) ( all_cons (by show _ = _; kernel_rfl) (all_nil)))))))))))))))
theorem un_ {t f : Nat} {v : Bool} (h : unL.lookup (t, f) = some v) : undIs (Cs sm) t f = v := tab_row (P := fun (k : Nat × Nat) (v : Bool) => undIs (Cs sm) k.1 k.2 = v) (unA (sm := sm)) h
def btL : List ((Nat) × (List (Nat × Nat) × List Value)) := [(106, ([(0, 1), (1, 1)], [.slice none 0 0, .slice none 0 0])), (108, ([(0, 1), (1, 1), (2, 1), (3, 1), (4, 1), (5, 2)], [.int .i64 0, .int .i64 0, .int .i64 0, .slice none 0 0, .slice none 0 0, .slice none 0 0, .slice none 0 0])), (112, ([(0, 1), (1, 1), (2, 1), (3, 5)], [.int .i64 0, .slice none 0 0, .int .i64 0, .slice none 0 0, .slice none 0 0, .slice none 0 0, .slice none 0 0, .slice none 0 0])), (118, ([(0, 1), (1, 1)], [.int .i64 0, .map none])), (121, ([(0, 1), (1, 1)], [.int .i64 0, .map none])), (125, ([(0, 1), (1, 1), (2, 5)], [.slice none 0 0, .int .i64 0, .slice none 0 0, .slice none 0 0, .slice none 0 0, .slice none 0 0, .slice none 0 0])), (141, ([(0, 1), (1, 2), (3, 1)], [.int .i64 0, .slice none 0 0, .slice none 0 0, .map none])), (143, ([(0, 1), (1, 1)], [.slice none 0 0, .slice none 0 0])), (148, ([(0, 1), (1, 1), (2, 1), (3, 1), (4, 1), (5, 1), (6, 1)], [.int .i64 0, .int .i64 0, .int .i64 0, .pointer none, .pointer none, .pointer none, .pointer none])), (175, ([(0, 1), (1, 1), (2, 1)], [.int .i64 0, .slice none 0 0, .map none])), (177, ([(0, 1), (1, 1)], [.slice none 0 0, .int .i64 0])), (245, ([(0, 1), (1, 1)], [.slice none 0 0, .int .i64 0])), (52, ([(0, 1), (1, 1)], [.int .i64 0, .int .i64 0])), (72, ([(0, 1), (1, 1)], [.slice none 0 0, .slice none 0 0])), (98, ([(0, 1), (1, 1), (2, 1), (3, 1)], [.pointer none, .pointer none, .pointer none, .pointer none]))]
theorem btA : ∀ p ∈ btL, (fun (k : Nat) (v : List (Nat × Nat) × List Value) => buildT (Cs sm) k = some v) p.1 p.2 := all_cons (by show _ = _; kernel_rfl) ( all_cons (by show _ = _; kernel_rfl) ( all_cons (by show _ = _; kernel_rfl) ( all_cons (by show _ = _; kernel_rfl) ( all_cons (by show _ = _; kernel_rfl) ( all_cons (by show _ = _; kernel_rfl) ( all_cons (by show _ = _; kernel_rfl) ( all_cons (by show _ = _; kernel_rfl) ( all_cons (by show _ = _; kernel_rfl) ( all_cons (by show _ = _; kernel_rfl) ( all_cons (by show _ = _; kernel_rfl) ( all_cons (by show _ = _; kernel_rfl) ( all_cons (by show _ = _; kernel_rfl) ( all_cons (by show _ = _; kernel_rfl) ( all_cons (by show _ = _; kernel_rfl) (all_nil)))))))))))))))
theorem bt_ {k : Nat} {v : List (Nat × Nat) × List Value} (h : btL.lookup k = some v) : buildT (Cs sm) k = some v := tab_row (P := fun (k : Nat) (v : List (Nat × Nat) × List Value) => buildT (Cs sm) k = some v) (btA (sm := sm)) h
def roL : List ((Nat) × (TypeId × Nat × Nat × List Value)) := [(102, (45, 1, 24, [.slice none 0 0])), (105, (112, 8, 160, [.int .i64 0, .slice none 0 0, .int .i64 0, .slice none 0 0, .slice none 0 0, .slice none 0 0, .slice none 0 0, .slice none 0 0])), (188, (187, 2, 16, [.int .i64 0, .int .i64 0])), (205, (2, 1, 8, [.int .i64 0])), (22, (25, 1, 24, [.slice none 0 0])), (226, (22, 1, 24, [.slice none 0 0])), (24, (21, 1, 4, [.int .i32 0])), (25, (21, 1, 4, [.int .i32 0])), (37, (52, 2, 16, [.int .i64 0, .int .i64 0])), (45, (3, 1, 8, [.int .i64 0])), (77, (5, 1, 1, [.int .u8 0]))]
theorem roA : ∀ p ∈ roL, (fun (k : Nat) (v : TypeId × Nat × Nat × List Value) => (Cs sm).row k = some v) p.1 p.2 := all_cons (by show _ = _; kernel_rfl) ( all_cons (by show _ = _; kernel_rfl) ( all_cons (by show _ = _; kernel_rfl) ( all_cons (by show _ = _; kernel_rfl) ( all_cons (by show _ = _; kernel_rfl) ( all_cons (by show _ = _; kernel_rfl) ( all_cons (by show _ = _; kernel_rfl) ( all_cons (by show _ = _; kernel_rfl) ( all_cons (by show _ = _; kernel_rfl) ( all_cons (by show _ = _; kernel_rfl) ( all_cons (by show _ = _; kernel_rfl) (all_nil)))))))))))
theorem ro_ {k : Nat} {v : TypeId × Nat × Nat × List Value} (h : roL.lookup k = some v) : (Cs sm).row k = some v := tab_row (P := fun (k : Nat) (v : TypeId × Nat × Nat × List Value) => (Cs sm).row k = some v) (roA (sm := sm)) h
def cvL : List ((Nat × Nat) × (IntKind)) := [((194, 3), .i64), ((194, 32), .u32), ((21, 2), .i64), ((291, 5), .u8), ((2, 21), .i32), ((2, 5), .u8), ((3, 194), .u64), ((3, 318), .u64), ((3, 32), .u32), ((5, 2), .i64), ((5, 3), .i64)]
theorem cvA : ∀ p ∈ cvL, (fun (k : Nat × Nat) (v : IntKind) => convK (Cs sm) k.1 k.2 = some v) p.1 p.2 := all_cons (by show _ = _; kernel_rfl) ( all_cons (by show _ = _; kernel_rfl) ( all_cons (by show _ = _; kernel_rfl) ( all_cons (by show _ = _; kernel_rfl) ( all_cons (by show _ = _; kernel_rfl) ( all_cons (by show _ = _; kernel_rfl) ( all_cons (by show _ = _; kernel_rfl) ( all_cons (by show _ = _; kernel_rfl) ( all_cons (by show _ = _; kernel_rfl) ( all_cons (by show _ = _; kernel_rfl) ( all_cons (by show _ = _; kernel_rfl) (all_nil)))))))))))
theorem cv_ {t f : Nat} {v : IntKind} (h : cvL.lookup (t, f) = some v) : convK (Cs sm) t f = some v := tab_row (P := fun (k : Nat × Nat) (v : IntKind) => convK (Cs sm) k.1 k.2 = some v) (cvA (sm := sm)) h
def miL : List ((Nat) × (IntKind × TypeId)) := [(116, (.i64, 122)), (119, (.i64, 25)), (139, (.i64, 143)), (173, (.i64, 177)), (183, (.i64, 4)), (40, (.i64, 3))]
theorem miA : ∀ p ∈ miL, (fun (k : Nat) (v : IntKind × TypeId) => mapInt (Cs sm) k = some v) p.1 p.2 := all_cons (by show _ = _; kernel_rfl) ( all_cons (by show _ = _; kernel_rfl) ( all_cons (by show _ = _; kernel_rfl) ( all_cons (by show _ = _; kernel_rfl) ( all_cons (by show _ = _; kernel_rfl) ( all_cons (by show _ = _; kernel_rfl) (all_nil))))))
theorem mi_ {k : Nat} {v : IntKind × TypeId} (h : miL.lookup k = some v) : mapInt (Cs sm) k = some v := tab_row (P := fun (k : Nat) (v : IntKind × TypeId) => mapInt (Cs sm) k = some v) (miA (sm := sm)) h
end Go.Ab.Seat
