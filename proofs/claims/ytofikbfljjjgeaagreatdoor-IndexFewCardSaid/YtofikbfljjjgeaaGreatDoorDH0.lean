import Derived.Test.YtofikbfljjjgeaaGreatDoorE40
import Derived.Test.YtofikbfljjjgeaaGreatDoorE43
import Derived.KernelRfl
set_option linter.unusedVariables false
set_option linter.unusedSimpArgs false
namespace Go.Ab.Seat
open Go.Extern Go.Proofs
set_option maxRecDepth 1000000
variable {sm:Nat->Option (List Value->M Value)}
theorem HK:tI (Cs sm) 187=some 2:=by kernel_rfl
theorem Cp:tI (Cs sm) 52=some 2:=by kernel_rfl
theorem HU:cQ (Cs sm) 188=some 2:=by kernel_rfl
theorem lz:cQ (Cs sm) 22=some 1:=by kernel_rfl
theorem yn:cQ (Cs sm) 226=some 1:=by kernel_rfl
theorem Nd:cQ (Cs sm) 23=some 1:=by kernel_rfl
theorem Ak:cQ (Cs sm) 24=some 1:=by kernel_rfl
theorem lh:cQ (Cs sm) 25=some 1:=by kernel_rfl
theorem ej:cQ (Cs sm) 37=some 2:=by kernel_rfl
theorem ct:cQ (Cs sm) 45=some 1:=by kernel_rfl
theorem LH:cQ (Cs sm) 77=some 1:=by kernel_rfl
theorem Lr:(Cs sm).ex 118=none:=by kernel_rfl
theorem JM:(Cs sm).ex 125=none:=by kernel_rfl
theorem JO:(Cs sm).ex 126=none:=by kernel_rfl
theorem Kr:(Cs sm).ex 128=none:=by kernel_rfl
theorem J1:(Cs sm).ex 132=none:=by kernel_rfl
theorem Jt:(Cs sm).ex 133=none:=by kernel_rfl
theorem Lh:(Cs sm).ex 134=none:=by kernel_rfl
theorem F9:(Cs sm).ex 136=none:=by kernel_rfl
theorem JL:(Cs sm).ex 137=none:=by kernel_rfl
theorem L3:(Cs sm).ex 138=none:=by kernel_rfl
theorem Lz:(Cs sm).ex 139=none:=by kernel_rfl
theorem K8:(Cs sm).ex 140=none:=by kernel_rfl
theorem J5:(Cs sm).ex 141=none:=by kernel_rfl
theorem K6:(Cs sm).ex 142=none:=by kernel_rfl
theorem Ji:(Cs sm).ex 143=none:=by kernel_rfl
theorem pc:(Cs sm).ex 144=none:=by kernel_rfl
theorem KK:(Cs sm).ex 145=none:=by kernel_rfl
theorem K1:(Cs sm).ex 146=none:=by kernel_rfl
theorem LN:(Cs sm).ex 147=none:=by kernel_rfl
theorem Kx:(Cs sm).ex 148=none:=by kernel_rfl
theorem Kv:(Cs sm).ex 149=none:=by kernel_rfl
theorem LY:(Cs sm).ex 150=none:=by kernel_rfl
theorem I6:(Cs sm).ex 151=none:=by kernel_rfl
theorem J8:(Cs sm).ex 155=none:=by kernel_rfl
theorem Jc:(Cs sm).ex 156=none:=by kernel_rfl
theorem JE:(Cs sm).ex 157=none:=by kernel_rfl
theorem H8:(Cs sm).ex 159=none:=by kernel_rfl
theorem MB:(Cs sm).ex 16=none:=by kernel_rfl
theorem H5:(Cs sm).ex 160=none:=by kernel_rfl
theorem J6:(Cs sm).ex 161=none:=by kernel_rfl
theorem LQ:(Cs sm).ex 162=none:=by kernel_rfl
theorem I1:(Cs sm).ex 163=none:=by kernel_rfl
theorem Nt:(Cs sm).ex 17=none:=by kernel_rfl
theorem LI:(Cs sm).ex 178=none:=by kernel_rfl
theorem MT:(Cs sm).ex 18=none:=by kernel_rfl
theorem Jb:(Cs sm).ex 182=none:=by kernel_rfl
theorem Je:(Cs sm).ex 183=none:=by kernel_rfl
theorem IW:(Cs sm).ex 184=none:=by kernel_rfl
theorem KX:(Cs sm).ex 185=none:=by kernel_rfl
theorem KM:(Cs sm).ex 186=none:=by kernel_rfl
theorem J7:(Cs sm).ex 187=none:=by kernel_rfl
theorem Kh:(Cs sm).ex 188=none:=by kernel_rfl
theorem Oa:(Cs sm).ex 19=none:=by kernel_rfl
theorem KP:(Cs sm).ex 198=none:=by kernel_rfl
theorem Jh:(Cs sm).ex 199=none:=by kernel_rfl
theorem PE:(Cs sm).ex 20=none:=by kernel_rfl
theorem oS:(Cs sm).ex 200=none:=by kernel_rfl
theorem Hy:(Cs sm).ex 201=none:=by kernel_rfl
theorem KY:(Cs sm).ex 202=none:=by kernel_rfl
theorem KV:(Cs sm).ex 203=none:=by kernel_rfl
theorem N0:(Cs sm).ex 21=none:=by kernel_rfl
theorem HA:(Cs sm).ex 210=none:=by kernel_rfl
theorem HH:(Cs sm).ex 211=none:=by kernel_rfl
theorem Jx:(Cs sm).ex 212=none:=by kernel_rfl
theorem L7:(Cs sm).ex 218=none:=by kernel_rfl
theorem I4:(Cs sm).ex 219=none:=by kernel_rfl
theorem NF:(Cs sm).ex 22=none:=by kernel_rfl
theorem K4:(Cs sm).ex 226=none:=by kernel_rfl
theorem JB:(Cs sm).ex 229=none:=by kernel_rfl
theorem Pu:(Cs sm).ex 23=none:=by kernel_rfl
theorem NW:(Cs sm).ex 24=none:=by kernel_rfl
theorem Ls:(Cs sm).ex 241=none:=by kernel_rfl
theorem Og:(Cs sm).ex 25=none:=by kernel_rfl
theorem M3:(Cs sm).ex 26=none:=by kernel_rfl
theorem N8:(Cs sm).ex 27=none:=by kernel_rfl
theorem O6:(Cs sm).ex 28=none:=by kernel_rfl
theorem NH:(Cs sm).ex 29=none:=by kernel_rfl
theorem M9:(Cs sm).ex 30=none:=by kernel_rfl
theorem OS:(Cs sm).ex 31=none:=by kernel_rfl
theorem Mo:(Cs sm).ex 32=none:=by kernel_rfl
theorem NP:(Cs sm).ex 33=none:=by kernel_rfl
theorem NL:(Cs sm).ex 34=none:=by kernel_rfl
theorem OH:(Cs sm).ex 35=none:=by kernel_rfl
theorem NT:(Cs sm).ex 40=none:=by kernel_rfl
theorem Nc:(Cs sm).ex 42=none:=by kernel_rfl
theorem N2:(Cs sm).ex 43=none:=by kernel_rfl
theorem Oi:(Cs sm).ex 62=none:=by kernel_rfl
theorem Ot:(Cs sm).ex 69=none:=by kernel_rfl
theorem PI:(Cs sm).ex 7=none:=by kernel_rfl
theorem OL:(Cs sm).ex 70=none:=by kernel_rfl
theorem MN:(Cs sm).ex 72=none:=by kernel_rfl
theorem Ou:(Cs sm).ex 73=none:=by kernel_rfl
theorem Ov:(Cs sm).ex 74=none:=by kernel_rfl
theorem ME:(Cs sm).ex 75=none:=by kernel_rfl
theorem MX:(Cs sm).ex 76=none:=by kernel_rfl
theorem O8:(Cs sm).ex 77=none:=by kernel_rfl
theorem Po:(Cs sm).ex 78=none:=by kernel_rfl
theorem N6:(Cs sm).ex 79=none:=by kernel_rfl
theorem Pw:(Cs sm).ex 80=none:=by kernel_rfl
theorem Np:(Cs sm).ex 81=none:=by kernel_rfl
theorem MS:(Cs sm).ex 82=none:=by kernel_rfl
theorem NY:(Cs sm).ex 83=none:=by kernel_rfl
theorem Of:(Cs sm).ex 85=none:=by kernel_rfl
theorem Mu:(Cs sm).ex 86=none:=by kernel_rfl
theorem OE:(Cs sm).ex 87=none:=by kernel_rfl
theorem Ms:(Cs sm).ex 88=none:=by kernel_rfl
theorem NU:(Cs sm).ex 89=none:=by kernel_rfl
theorem I8:(Cs sm).ex 91=none:=by kernel_rfl
theorem Pi:(Cs sm).ex 92=none:=by kernel_rfl
theorem PD:(Cs sm).ex 93=none:=by kernel_rfl
theorem NV:(Cs sm).ex 95=none:=by kernel_rfl
theorem O7:(Cs sm).ex 96=none:=by kernel_rfl
theorem OU:(Cs sm).ex 97=none:=by kernel_rfl
theorem I0:(Cs sm).fn.get 118=some Tryz.f118:=by kernel_rfl
theorem LJ:(Cs sm).fn.get 125=some Tryz.f125:=by kernel_rfl
theorem Kc:(Cs sm).fn.get 126=some Tryz.f126:=by kernel_rfl
theorem KB:(Cs sm).fn.get 128=some Tryz.f128:=by kernel_rfl
theorem J3:(Cs sm).fn.get 132=some Tryz.f132:=by kernel_rfl
theorem IY:(Cs sm).fn.get 133=some Tryz.f133:=by kernel_rfl
theorem JY:(Cs sm).fn.get 134=some Tryz.f134:=by kernel_rfl
theorem EY:(Cs sm).fn.get 136=some Tryz.f136:=by kernel_rfl
theorem L9:(Cs sm).fn.get 137=some Tryz.f137:=by kernel_rfl
theorem Kn:(Cs sm).fn.get 138=some Tryz.f138:=by kernel_rfl
theorem JC:(Cs sm).fn.get 139=some Tryz.f139:=by kernel_rfl
theorem LX:(Cs sm).fn.get 140=some Tryz.f140:=by kernel_rfl
theorem Jn:(Cs sm).fn.get 141=some Tryz.f141:=by kernel_rfl
theorem JG:(Cs sm).fn.get 142=some Tryz.f142:=by kernel_rfl
theorem Kg:(Cs sm).fn.get 143=some Tryz.f143:=by kernel_rfl
theorem uU:(Cs sm).fn.get 144=some Tryz.f144:=by kernel_rfl
theorem Kb:(Cs sm).fn.get 145=some Tryz.f145:=by kernel_rfl
theorem Jy:(Cs sm).fn.get 146=some Tryz.f146:=by kernel_rfl
theorem LV:(Cs sm).fn.get 147=some Tryz.f147:=by kernel_rfl
theorem JS:(Cs sm).fn.get 148=some Tryz.f148:=by kernel_rfl
theorem Jf:(Cs sm).fn.get 149=some Tryz.f149:=by kernel_rfl
theorem Jr:(Cs sm).fn.get 150=some Tryz.f150:=by kernel_rfl
theorem Lu:(Cs sm).fn.get 151=some Tryz.f151:=by kernel_rfl
theorem LG:(Cs sm).fn.get 155=some Tryz.f155:=by kernel_rfl
theorem Jm:(Cs sm).fn.get 156=some Tryz.f156:=by kernel_rfl
theorem LE:(Cs sm).fn.get 157=some Tryz.f157:=by kernel_rfl
theorem H1:(Cs sm).fn.get 159=some Tryz.f159:=by kernel_rfl
theorem Nf:(Cs sm).fn.get 16=some Tryz.f16:=by kernel_rfl
theorem H3:(Cs sm).fn.get 160=some Tryz.f160:=by kernel_rfl
theorem JX:(Cs sm).fn.get 161=some Tryz.f161:=by kernel_rfl
theorem JR:(Cs sm).fn.get 162=some Tryz.f162:=by kernel_rfl
theorem L6:(Cs sm).fn.get 163=some Tryz.f163:=by kernel_rfl
theorem Nb:(Cs sm).fn.get 17=some Tryz.f17:=by kernel_rfl
theorem LF:(Cs sm).fn.get 178=some Tryz.f178:=by kernel_rfl
theorem OO:(Cs sm).fn.get 18=some Tryz.f18:=by kernel_rfl
theorem Lv:(Cs sm).fn.get 182=some Tryz.f182:=by kernel_rfl
theorem JZ:(Cs sm).fn.get 183=some Tryz.f183:=by kernel_rfl
theorem Kq:(Cs sm).fn.get 184=some Tryz.f184:=by kernel_rfl
theorem KQ:(Cs sm).fn.get 185=some Tryz.f185:=by kernel_rfl
theorem Jk:(Cs sm).fn.get 186=some Tryz.f186:=by kernel_rfl
theorem Ko:(Cs sm).fn.get 187=some Tryz.f187:=by kernel_rfl
theorem Kz:(Cs sm).fn.get 188=some Tryz.f188:=by kernel_rfl
theorem MQ:(Cs sm).fn.get 19=some Tryz.f19:=by kernel_rfl
theorem Mb:(Cs sm).fn.get 198=some Tryz.f198:=by kernel_rfl
theorem Ke:(Cs sm).fn.get 199=some Tryz.f199:=by kernel_rfl
theorem Mq:(Cs sm).fn.get 20=some Tryz.f20:=by kernel_rfl
theorem uZ:(Cs sm).fn.get 200=some Tryz.f200:=by kernel_rfl
theorem HX:(Cs sm).fn.get 201=some Tryz.f201:=by kernel_rfl
theorem L5:(Cs sm).fn.get 202=some Tryz.f202:=by kernel_rfl
theorem KA:(Cs sm).fn.get 203=some Tryz.f203:=by kernel_rfl
theorem Pj:(Cs sm).fn.get 21=some Tryz.f21:=by kernel_rfl
theorem HE:(Cs sm).fn.get 210=some Tryz.f210:=by kernel_rfl
theorem H7:(Cs sm).fn.get 211=some Tryz.f211:=by kernel_rfl
theorem LZ:(Cs sm).fn.get 212=some Tryz.f212:=by kernel_rfl
theorem Lx:(Cs sm).fn.get 218=some Tryz.f218:=by kernel_rfl
theorem Kl:(Cs sm).fn.get 219=some Tryz.f219:=by kernel_rfl
theorem Pg:(Cs sm).fn.get 22=some Tryz.f22:=by kernel_rfl
theorem Jw:(Cs sm).fn.get 226=some Tryz.f226:=by kernel_rfl
theorem JP:(Cs sm).fn.get 229=some Tryz.f229:=by kernel_rfl
theorem NK:(Cs sm).fn.get 23=some Tryz.f23:=by kernel_rfl
theorem PA:(Cs sm).fn.get 24=some Tryz.f24:=by kernel_rfl
theorem Ki:(Cs sm).fn.get 241=some Tryz.f241:=by kernel_rfl
theorem PB:(Cs sm).fn.get 25=some Tryz.f25:=by kernel_rfl
theorem Pf:(Cs sm).fn.get 26=some Tryz.f26:=by kernel_rfl
theorem N5:(Cs sm).fn.get 27=some Tryz.f27:=by kernel_rfl
theorem MW:(Cs sm).fn.get 28=some Tryz.f28:=by kernel_rfl
theorem OJ:(Cs sm).fn.get 29=some Tryz.f29:=by kernel_rfl
theorem Ns:(Cs sm).fn.get 30=some Tryz.f30:=by kernel_rfl
theorem Pe:(Cs sm).fn.get 31=some Tryz.f31:=by kernel_rfl
theorem OX:(Cs sm).fn.get 32=some Tryz.f32:=by kernel_rfl
theorem N7:(Cs sm).fn.get 33=some Tryz.f33:=by kernel_rfl
theorem Nl:(Cs sm).fn.get 34=some Tryz.f34:=by kernel_rfl
theorem O5:(Cs sm).fn.get 35=some Tryz.f35:=by kernel_rfl
theorem Pn:(Cs sm).fn.get 40=some Tryz.f40:=by kernel_rfl
theorem Pt:(Cs sm).fn.get 42=some Tryz.f42:=by kernel_rfl
theorem NC:(Cs sm).fn.get 43=some Tryz.f43:=by kernel_rfl
theorem Oc:(Cs sm).fn.get 62=some Tryz.f62:=by kernel_rfl
theorem Pb:(Cs sm).fn.get 69=some Tryz.f69:=by kernel_rfl
theorem Qa:(Cs sm).fn.get 7=some Tryz.f7:=by kernel_rfl
theorem NS:(Cs sm).fn.get 70=some Tryz.f70:=by kernel_rfl
theorem NX:(Cs sm).fn.get 72=some Tryz.f72:=by kernel_rfl
theorem N9:(Cs sm).fn.get 73=some Tryz.f73:=by kernel_rfl
theorem OP:(Cs sm).fn.get 74=some Tryz.f74:=by kernel_rfl
theorem N1:(Cs sm).fn.get 75=some Tryz.f75:=by kernel_rfl
theorem Pv:(Cs sm).fn.get 76=some Tryz.f76:=by kernel_rfl
theorem MU:(Cs sm).fn.get 77=some Tryz.f77:=by kernel_rfl
theorem MO:(Cs sm).fn.get 78=some Tryz.f78:=by kernel_rfl
theorem OM:(Cs sm).fn.get 79=some Tryz.f79:=by kernel_rfl
theorem OK:(Cs sm).fn.get 80=some Tryz.f80:=by kernel_rfl
theorem NO:(Cs sm).fn.get 81=some Tryz.f81:=by kernel_rfl
theorem OA:(Cs sm).fn.get 82=some Tryz.f82:=by kernel_rfl
theorem Pc:(Cs sm).fn.get 83=some Tryz.f83:=by kernel_rfl
theorem NM:(Cs sm).fn.get 85=some Tryz.f85:=by kernel_rfl
theorem OD:(Cs sm).fn.get 86=some Tryz.f86:=by kernel_rfl
theorem NZ:(Cs sm).fn.get 87=some Tryz.f87:=by kernel_rfl
theorem Pd:(Cs sm).fn.get 88=some Tryz.f88:=by kernel_rfl
theorem Mw:(Cs sm).fn.get 89=some Tryz.f89:=by kernel_rfl
theorem JN:(Cs sm).fn.get 91=some Tryz.f91:=by kernel_rfl
theorem Nq:(Cs sm).fn.get 92=some Tryz.f92:=by kernel_rfl
theorem O3:(Cs sm).fn.get 93=some Tryz.f93:=by kernel_rfl
theorem Ng:(Cs sm).fn.get 95=some Tryz.f95:=by kernel_rfl
theorem Mr:(Cs sm).fn.get 96=some Tryz.f96:=by kernel_rfl
theorem MM:(Cs sm).fn.get 97=some Tryz.f97:=by kernel_rfl
theorem Kt:(Cs sm).km.get 118=some 21:=by kernel_rfl
theorem I7:(Cs sm).km.get 125=some 4115:=by kernel_rfl
theorem Kd:(Cs sm).km.get 126=some 66114300693392295753415:=by kernel_rfl
theorem J9:(Cs sm).km.get 128=some 1005:=by kernel_rfl
theorem I9:(Cs sm).km.get 132=some 147:=by kernel_rfl
theorem JJ:(Cs sm).km.get 133=some 64424756723:=by kernel_rfl
theorem Lo:(Cs sm).km.get 134=some 19:=by kernel_rfl
theorem ES:(Cs sm).km.get 136=some 21:=by kernel_rfl
theorem JD:(Cs sm).km.get 137=some 5:=by kernel_rfl
theorem Jv:(Cs sm).km.get 138=some 2207613222971:=by kernel_rfl
theorem JI:(Cs sm).km.get 139=some 1005:=by kernel_rfl
theorem Mf:(Cs sm).km.get 140=some 21:=by kernel_rfl
theorem LP:(Cs sm).km.get 141=some 66483:=by kernel_rfl
theorem Jq:(Cs sm).km.get 142=some 11:=by kernel_rfl
theorem Js:(Cs sm).km.get 143=some 134251507:=by kernel_rfl
theorem uK:(Cs sm).km.get 144=some 295147905181504570311:=by kernel_rfl
theorem Kf:(Cs sm).km.get 145=some 16071:=by kernel_rfl
theorem J4:(Cs sm).km.get 146=some 21:=by kernel_rfl
theorem Ll:(Cs sm).km.get 147=some 7:=by kernel_rfl
theorem Lq:(Cs sm).km.get 148=some 65735:=by kernel_rfl
theorem KH:(Cs sm).km.get 149=some 23:=by kernel_rfl
theorem KR:(Cs sm).km.get 150=some 537399539:=by kernel_rfl
theorem LD:(Cs sm).km.get 151=some 95:=by kernel_rfl
theorem Ku:(Cs sm).km.get 155=some 537399539:=by kernel_rfl
theorem Ln:(Cs sm).km.get 156=some 21:=by kernel_rfl
theorem Lt:(Cs sm).km.get 157=some 11:=by kernel_rfl
theorem HV:(Cs sm).km.get 159=some 19:=by kernel_rfl
theorem O0:(Cs sm).km.get 16=some 131527:=by kernel_rfl
theorem HG:(Cs sm).km.get 160=some 5:=by kernel_rfl
theorem Ky:(Cs sm).km.get 161=some 21:=by kernel_rfl
theorem Ja:(Cs sm).km.get 162=some 19:=by kernel_rfl
theorem I3:(Cs sm).km.get 163=some 5:=by kernel_rfl
theorem OV:(Cs sm).km.get 17=some 37:=by kernel_rfl
theorem K5:(Cs sm).km.get 178=some 7:=by kernel_rfl
theorem Px:(Cs sm).km.get 18=some 37:=by kernel_rfl
theorem IX:(Cs sm).km.get 182=some 19:=by kernel_rfl
theorem Km:(Cs sm).km.get 183=some 11:=by kernel_rfl
theorem Lf:(Cs sm).km.get 184=some 2212238067:=by kernel_rfl
theorem J0:(Cs sm).km.get 185=some 19:=by kernel_rfl
theorem LO:(Cs sm).km.get 186=some 159:=by kernel_rfl
theorem LT:(Cs sm).km.get 187=some 543:=by kernel_rfl
theorem KS:(Cs sm).km.get 188=some 66483:=by kernel_rfl
theorem M7:(Cs sm).km.get 19=some 37147268195997750458483834639:=by kernel_rfl
theorem KE:(Cs sm).km.get 198=some 19:=by kernel_rfl
theorem KI:(Cs sm).km.get 199=some 15:=by kernel_rfl
theorem Nx:(Cs sm).km.get 20=some 135:=by kernel_rfl
theorem vq:(Cs sm).km.get 200=some 295147905181504570311:=by kernel_rfl
theorem HS:(Cs sm).km.get 201=some 21:=by kernel_rfl
theorem KU:(Cs sm).km.get 202=some 19:=by kernel_rfl
theorem Md:(Cs sm).km.get 203=some 5:=by kernel_rfl
theorem O1:(Cs sm).km.get 21=some 131187:=by kernel_rfl
theorem HB:(Cs sm).km.get 210=some 66483:=by kernel_rfl
theorem H2:(Cs sm).km.get 211=some 66483:=by kernel_rfl
theorem KJ:(Cs sm).km.get 212=some 66483:=by kernel_rfl
theorem KG:(Cs sm).km.get 218=some 4147:=by kernel_rfl
theorem Mc:(Cs sm).km.get 219=some 42535296023574879666274036850519702559:=by kernel_rfl
theorem Pl:(Cs sm).km.get 22=some 16806963:=by kernel_rfl
theorem KC:(Cs sm).km.get 226=some 66483:=by kernel_rfl
theorem Lm:(Cs sm).km.get 229=some 5:=by kernel_rfl
theorem Pm:(Cs sm).km.get 23=some 65971251326919:=by kernel_rfl
theorem No:(Cs sm).km.get 24=some 31431:=by kernel_rfl
theorem Ka:(Cs sm).km.get 241=some 17179886351:=by kernel_rfl
theorem PF:(Cs sm).km.get 25=some 5:=by kernel_rfl
theorem MD:(Cs sm).km.get 26=some 8390573:=by kernel_rfl
theorem Oh:(Cs sm).km.get 27=some 32282066037556383475:=by kernel_rfl
theorem Mx:(Cs sm).km.get 28=some 21:=by kernel_rfl
theorem PG:(Cs sm).km.get 29=some 71:=by kernel_rfl
theorem Pp:(Cs sm).km.get 30=some 135:=by kernel_rfl
theorem OF:(Cs sm).km.get 31=some 1008806316534990535:=by kernel_rfl
theorem NA:(Cs sm).km.get 32=some 37182857619891580687:=by kernel_rfl
theorem OQ:(Cs sm).km.get 33=some 4616198439919690511:=by kernel_rfl
theorem OG:(Cs sm).km.get 34=some 2256210746151367:=by kernel_rfl
theorem Pk:(Cs sm).km.get 35=some 2200634099655:=by kernel_rfl
theorem Mv:(Cs sm).km.get 40=some 19:=by kernel_rfl
theorem OB:(Cs sm).km.get 42=some 17697271:=by kernel_rfl
theorem MC:(Cs sm).km.get 43=some 21:=by kernel_rfl
theorem M5:(Cs sm).km.get 62=some 19:=by kernel_rfl
theorem Na:(Cs sm).km.get 69=some 135:=by kernel_rfl
theorem Qh:(Cs sm).km.get 7=some 1286306517387554776530549791:=by kernel_rfl
theorem MV:(Cs sm).km.get 70=some 4505661345902023:=by kernel_rfl
theorem MZ:(Cs sm).km.get 72=some 5:=by kernel_rfl
theorem Mt:(Cs sm).km.get 73=some 5:=by kernel_rfl
theorem ON:(Cs sm).km.get 74=some 38885736577748731411487:=by kernel_rfl
theorem Od:(Cs sm).km.get 75=some 35184379960847:=by kernel_rfl
theorem Pz:(Cs sm).km.get 76=some 8053064007:=by kernel_rfl
theorem MH:(Cs sm).km.get 77=some 71:=by kernel_rfl
theorem Ps:(Cs sm).km.get 78=some 21:=by kernel_rfl
theorem Nv:(Cs sm).km.get 79=some 15539:=by kernel_rfl
theorem Oy:(Cs sm).km.get 80=some 21:=by kernel_rfl
theorem OT:(Cs sm).km.get 81=some 21:=by kernel_rfl
theorem PC:(Cs sm).km.get 82=some 17592193916431:=by kernel_rfl
theorem MR:(Cs sm).km.get 83=some 268467055:=by kernel_rfl
theorem Nz:(Cs sm).km.get 85=some 7:=by kernel_rfl
theorem Oe:(Cs sm).km.get 86=some 155:=by kernel_rfl
theorem MP:(Cs sm).km.get 87=some 582907660279:=by kernel_rfl
theorem Mn:(Cs sm).km.get 88=some 537330935:=by kernel_rfl
theorem MJ:(Cs sm).km.get 89=some 524487:=by kernel_rfl
theorem K9:(Cs sm).km.get 91=some 65555:=by kernel_rfl
theorem M6:(Cs sm).km.get 92=some 7:=by kernel_rfl
theorem Ol:(Cs sm).km.get 93=some 16806963:=by kernel_rfl
theorem Ni:(Cs sm).km.get 95=some 7:=by kernel_rfl
theorem NN:(Cs sm).km.get 96=some 4147:=by kernel_rfl
theorem NB:(Cs sm).km.get 97=some 7:=by kernel_rfl
theorem rF:(Cs sm).row 22=some (25,1,24,[.slice none 0 0]):=by kernel_rfl
theorem JQ:(Cs sm).row 226=some (22,1,24,[.slice none 0 0]):=by kernel_rfl
theorem Id:(Cs sm).row 24=some (21,1,4,[.int .i32 0]):=by kernel_rfl
theorem DT:(Cs sm).row 25=some (21,1,4,[.int .i32 0]):=by kernel_rfl
theorem iB:(Cs sm).row 37=some (52,2,16,[.int .i64 0,.int .i64 0]):=by kernel_rfl
theorem ik:(Cs sm).row 45=some (3,1,8,[.int .i64 0]):=by kernel_rfl
theorem Nk:(Cs sm).row 77=some (5,1,1,[.int .u8 0]):=by kernel_rfl
theorem sP:cI (Cs sm) 22=true:=by kernel_rfl
theorem OY:cI (Cs sm) 24=true:=by kernel_rfl
theorem IC:cI (Cs sm) 25=true:=by kernel_rfl
theorem lR:cI (Cs sm) 37=true:=by kernel_rfl
theorem m7:cI (Cs sm) 45=true:=by kernel_rfl
def PR:List ((Nat)×(Bool)):=[(105,true),(116,true),(119,true),(139,true),(173,true),(183,true),(2,true),(21,true),(22,true),(24,true),(25,true),(28,true),(3,true),(30,true),(32,true),(37,true),(44,true),(45,true),(5,true),(54,true),(77,true),(9,true),(96,true)]
theorem P9:∀p∈PR,(fun(k:Nat) (v:Bool)=>jt (Cs sm) k=v) p.1 p.2:=all_cons (by show _=_;kernel_rfl) (all_cons (by show _=_;kernel_rfl) (all_cons (by show _=_;kernel_rfl) (all_cons (by show _=_;kernel_rfl) (all_cons (by show _=_;kernel_rfl) (all_cons (by show _=_;kernel_rfl) (all_cons (by show _=_;kernel_rfl) (all_cons (by show _=_;kernel_rfl) (all_cons (by show _=_;kernel_rfl) (all_cons (by show _=_;kernel_rfl) (all_cons (by show _=_;kernel_rfl) (all_cons (by show _=_;kernel_rfl) (all_cons (by show _=_;kernel_rfl) (all_cons (by show _=_;kernel_rfl) (all_cons (by show _=_;kernel_rfl) (all_cons (by show _=_;kernel_rfl) (all_cons (by show _=_;kernel_rfl) (all_cons (by show _=_;kernel_rfl) (all_cons (by show _=_;kernel_rfl) (all_cons (by show _=_;kernel_rfl) (all_cons (by show _=_;kernel_rfl) (all_cons (by show _=_;kernel_rfl) (all_cons (by show _=_;kernel_rfl) (a7)))))))))))))))))))))))
theorem dV {k:Nat}{v:Bool} (h:PR.lookup k=some v):jt (Cs sm) k=v:=fW (P:=fun(k:Nat) (v:Bool)=>jt (Cs sm) k=v) (P9 (sm:=sm)) h
def PP:List ((Nat)×(Nat)):=[(106,2),(110,5),(112,8),(187,2),(50,5),(52,2),(72,2),(98,4)]
theorem Qs:∀p∈PP,(fun(k:Nat) (v:Nat)=>tI (Cs sm) k=some v) p.1 p.2:=all_cons (by show _=_;kernel_rfl) (all_cons (by show _=_;kernel_rfl) (all_cons (by show _=_;kernel_rfl) (all_cons (by show _=_;kernel_rfl) (all_cons (by show _=_;kernel_rfl) (all_cons (by show _=_;kernel_rfl) (all_cons (by show _=_;kernel_rfl) (all_cons (by show _=_;kernel_rfl) (a7))))))))
theorem FU {k:Nat}{v:Nat} (h:PP.lookup k=some v):tI (Cs sm) k=some v:=fW (P:=fun(k:Nat) (v:Nat)=>tI (Cs sm) k=some v) (Qs (sm:=sm)) h
def PO:List ((Nat)×(Nat)):=[(105,1),(106,2),(110,5),(112,8),(143,2),(177,2),(183,1),(187,2),(2,1),(21,1),(22,1),(24,1),(25,1),(28,1),(3,1),(30,1),(318,1),(37,1),(44,1),(45,1),(5,1),(50,5),(52,2),(54,1),(72,2),(96,1)]
theorem Qf:∀p∈PO,(fun(k:Nat) (v:Nat)=>(Cs sm).size k=some v) p.1 p.2:=all_cons (by show _=_;kernel_rfl) (all_cons (by show _=_;kernel_rfl) (all_cons (by show _=_;kernel_rfl) (all_cons (by show _=_;kernel_rfl) (all_cons (by show _=_;kernel_rfl) (all_cons (by show _=_;kernel_rfl) (all_cons (by show _=_;kernel_rfl) (all_cons (by show _=_;kernel_rfl) (all_cons (by show _=_;kernel_rfl) (all_cons (by show _=_;kernel_rfl) (all_cons (by show _=_;kernel_rfl) (all_cons (by show _=_;kernel_rfl) (all_cons (by show _=_;kernel_rfl) (all_cons (by show _=_;kernel_rfl) (all_cons (by show _=_;kernel_rfl) (all_cons (by show _=_;kernel_rfl) (all_cons (by show _=_;kernel_rfl) (all_cons (by show _=_;kernel_rfl) (all_cons (by show _=_;kernel_rfl) (all_cons (by show _=_;kernel_rfl) (all_cons (by show _=_;kernel_rfl) (all_cons (by show _=_;kernel_rfl) (all_cons (by show _=_;kernel_rfl) (all_cons (by show _=_;kernel_rfl) (all_cons (by show _=_;kernel_rfl) (all_cons (by show _=_;kernel_rfl) (a7))))))))))))))))))))))))))
theorem uc {k:Nat}{v:Nat} (h:PO.lookup k=some v):(Cs sm).size k=some v:=fW (P:=fun(k:Nat) (v:Nat)=>(Cs sm).size k=some v) (Qf (sm:=sm)) h
def PK:List ((Nat)×(Value)):=[(106,(.agg #[.slice none 0 0,.slice none 0 0])),(110,(.agg #[.slice none 0 0,.slice none 0 0,.slice none 0 0,.slice none 0 0,.slice none 0 0])),(112,(.agg #[.int .i64 0,.slice none 0 0,.int .i64 0,.slice none 0 0,.slice none 0 0,.slice none 0 0,.slice none 0 0,.slice none 0 0])),(122,(.pointer none)),(143,(.agg #[.slice none 0 0,.slice none 0 0])),(177,(.agg #[.slice none 0 0,.int .i64 0])),(183,(.map none)),(187,(.agg #[.int .i64 0,.int .i64 0])),(25,(.slice none 0 0)),(3,(.int .i64 0)),(318,(.int .u64 0)),(4,(.bool false)),(44,(.nilFunc)),(50,(.agg #[.int .i64 0,.int .i64 0,.int .i64 0,.slice none 0 0,.int .u32 0])),(52,(.agg #[.int .i64 0,.int .i64 0])),(72,(.agg #[.slice none 0 0,.slice none 0 0]))]
theorem Qn:∀p∈PK,(fun(k:Nat) (v:Value)=>(Cs sm).zero k=some v) p.1 p.2:=all_cons (by show _=_;kernel_rfl) (all_cons (by show _=_;kernel_rfl) (all_cons (by show _=_;kernel_rfl) (all_cons (by show _=_;kernel_rfl) (all_cons (by show _=_;kernel_rfl) (all_cons (by show _=_;kernel_rfl) (all_cons (by show _=_;kernel_rfl) (all_cons (by show _=_;kernel_rfl) (all_cons (by show _=_;kernel_rfl) (all_cons (by show _=_;kernel_rfl) (all_cons (by show _=_;kernel_rfl) (all_cons (by show _=_;kernel_rfl) (all_cons (by show _=_;kernel_rfl) (all_cons (by show _=_;kernel_rfl) (all_cons (by show _=_;kernel_rfl) (all_cons (by show _=_;kernel_rfl) (a7))))))))))))))))
theorem tG {k:Nat}{v:Value} (h:PK.lookup k=some v):(Cs sm).zero k=some v:=fW (P:=fun(k:Nat) (v:Value)=>(Cs sm).zero k=some v) (Qn (sm:=sm)) h
def PV:List ((Nat×Nat)×(Nat×TypeId)):=[((106,0),(0,24)),((106,1),(1,24)),((108,0),(0,3)),((108,1),(1,3)),((108,3),(3,105)),((108,4),(4,22)),((108,5),(5,106)),((112,0),(0,3)),((112,1),(1,25)),((112,2),(2,3)),((112,3),(3,110)),((118,0),(0,3)),((118,1),(1,116)),((121,0),(0,3)),((121,1),(1,119)),((125,0),(0,25)),((125,1),(1,3)),((125,2),(2,110)),((141,0),(0,3)),((141,1),(1,72)),((141,2),(3,139)),((143,0),(0,25)),((143,1),(1,77)),((148,0),(0,3)),((148,2),(2,3)),((148,3),(3,30)),((148,4),(4,96)),((148,5),(5,28)),((148,6),(6,54)),((175,0),(0,3)),((175,1),(1,22)),((175,2),(2,173)),((177,0),(0,25)),((177,1),(1,3)),((245,0),(0,37)),((245,1),(1,3)),((50,0),(0,3)),((50,1),(1,3)),((50,2),(2,3)),((50,3),(3,25)),((50,4),(4,32)),((52,0),(0,3)),((52,1),(1,2)),((72,0),(0,24)),((72,1),(1,24)),((98,0),(0,30)),((98,1),(1,96)),((98,2),(2,28)),((98,3),(3,54))]
theorem Qw:∀p∈PV,(fun(k:Nat×Nat) (v:Nat×TypeId)=>fieldAt (Cs sm) k.1 k.2=some v) p.1 p.2:=all_cons (by show _=_;kernel_rfl) (all_cons (by show _=_;kernel_rfl) (all_cons (by show _=_;kernel_rfl) (all_cons (by show _=_;kernel_rfl) (all_cons (by show _=_;kernel_rfl) (all_cons (by show _=_;kernel_rfl) (all_cons (by show _=_;kernel_rfl) (all_cons (by show _=_;kernel_rfl) (all_cons (by show _=_;kernel_rfl) (all_cons (by show _=_;kernel_rfl) (all_cons (by show _=_;kernel_rfl) (all_cons (by show _=_;kernel_rfl) (all_cons (by show _=_;kernel_rfl) (all_cons (by show _=_;kernel_rfl) (all_cons (by show _=_;kernel_rfl) (all_cons (by show _=_;kernel_rfl) (all_cons (by show _=_;kernel_rfl) (all_cons (by show _=_;kernel_rfl) (all_cons (by show _=_;kernel_rfl) (all_cons (by show _=_;kernel_rfl) (all_cons (by show _=_;kernel_rfl) (all_cons (by show _=_;kernel_rfl) (all_cons (by show _=_;kernel_rfl) (all_cons (by show _=_;kernel_rfl) (all_cons (by show _=_;kernel_rfl) (all_cons (by show _=_;kernel_rfl) (all_cons (by show _=_;kernel_rfl) (all_cons (by show _=_;kernel_rfl) (all_cons (by show _=_;kernel_rfl) (all_cons (by show _=_;kernel_rfl) (all_cons (by show _=_;kernel_rfl) (all_cons (by show _=_;kernel_rfl) (all_cons (by show _=_;kernel_rfl) (all_cons (by show _=_;kernel_rfl) (all_cons (by show _=_;kernel_rfl) (all_cons (by show _=_;kernel_rfl) (all_cons (by show _=_;kernel_rfl) (all_cons (by show _=_;kernel_rfl) (all_cons (by show _=_;kernel_rfl) (all_cons (by show _=_;kernel_rfl) (all_cons (by show _=_;kernel_rfl) (all_cons (by show _=_;kernel_rfl) (all_cons (by show _=_;kernel_rfl) (all_cons (by show _=_;kernel_rfl) (all_cons (by show _=_;kernel_rfl) (all_cons (by show _=_;kernel_rfl) (all_cons (by show _=_;kernel_rfl) (all_cons (by show _=_;kernel_rfl) (all_cons (by show _=_;kernel_rfl) (a7)))))))))))))))))))))))))))))))))))))))))))))))))
theorem Mg {t f:Nat}{v:Nat×TypeId} (h:PV.lookup (t,f)=some v):fieldAt (Cs sm) t f=some v:=fW (P:=fun(k:Nat×Nat) (v:Nat×TypeId)=>fieldAt (Cs sm) k.1 k.2=some v) (Qw (sm:=sm)) h
def PY:List ((Nat)×(Bool)):=[(102,true),(105,true),(188,true),(205,true),(22,true),(23,true),(24,true),(25,true),(37,true),(45,true),(48,true),(77,true),(87,true)]
theorem Nr:∀p∈PY,(fun(k:Nat) (v:Bool)=>cI (Cs sm) k=v) p.1 p.2:=all_cons (by show _=_;kernel_rfl) (all_cons (by show _=_;kernel_rfl) (all_cons (by show _=_;kernel_rfl) (all_cons (by show _=_;kernel_rfl) (all_cons (by show _=_;kernel_rfl) (all_cons (by show _=_;kernel_rfl) (all_cons (by show _=_;kernel_rfl) (all_cons (by show _=_;kernel_rfl) (all_cons (by show _=_;kernel_rfl) (all_cons (by show _=_;kernel_rfl) (all_cons (by show _=_;kernel_rfl) (all_cons (by show _=_;kernel_rfl) (all_cons (by show _=_;kernel_rfl) (a7)))))))))))))
theorem P4 {k:Nat}{v:Bool} (h:PY.lookup k=some v):cI (Cs sm) k=v:=fW (P:=fun(k:Nat) (v:Bool)=>cI (Cs sm) k=v) (Nr (sm:=sm)) h
def PZ:List ((Nat×Nat)×(Bool)):=[((122,0),true),((181,0),true),((22,1),true),((24,1),true),((25,1),true),((28,0),true),((30,0),true),((37,1),true),((45,1),true),((4,3),true),((54,0),true),((57,0),true),((59,2),true),((77,1),true),((96,0),true)]
theorem QH:∀p∈PZ,(fun(k:Nat×Nat) (v:Bool)=>lJ (Cs sm) k.1 k.2=v) p.1 p.2:=all_cons (by show _=_;kernel_rfl) (all_cons (by show _=_;kernel_rfl) (all_cons (by show _=_;kernel_rfl) (all_cons (by show _=_;kernel_rfl) (all_cons (by show _=_;kernel_rfl) (all_cons (by show _=_;kernel_rfl) (all_cons (by show _=_;kernel_rfl) (all_cons (by show _=_;kernel_rfl) (all_cons (by show _=_;kernel_rfl) (all_cons (by show _=_;kernel_rfl) (all_cons (by show _=_;kernel_rfl) (all_cons (by show _=_;kernel_rfl) (all_cons (by show _=_;kernel_rfl) (all_cons (by show _=_;kernel_rfl) (all_cons (by show _=_;kernel_rfl) (a7)))))))))))))))
theorem qZ {t f:Nat}{v:Bool} (h:PZ.lookup (t,f)=some v):lJ (Cs sm) t f=v:=fW (P:=fun(k:Nat×Nat) (v:Bool)=>lJ (Cs sm) k.1 k.2=v) (QH (sm:=sm)) h
def PJ:List ((Nat)×(List (Nat×Nat)×List Value)):=[(106,([(0,1),(1,1)],[.slice none 0 0,.slice none 0 0])),(108,([(0,1),(1,1),(2,1),(3,1),(4,1),(5,2)],[.int .i64 0,.int .i64 0,.int .i64 0,.slice none 0 0,.slice none 0 0,.slice none 0 0,.slice none 0 0])),(112,([(0,1),(1,1),(2,1),(3,5)],[.int .i64 0,.slice none 0 0,.int .i64 0,.slice none 0 0,.slice none 0 0,.slice none 0 0,.slice none 0 0,.slice none 0 0])),(118,([(0,1),(1,1)],[.int .i64 0,.map none])),(121,([(0,1),(1,1)],[.int .i64 0,.map none])),(125,([(0,1),(1,1),(2,5)],[.slice none 0 0,.int .i64 0,.slice none 0 0,.slice none 0 0,.slice none 0 0,.slice none 0 0,.slice none 0 0])),(141,([(0,1),(1,2),(3,1)],[.int .i64 0,.slice none 0 0,.slice none 0 0,.map none])),(143,([(0,1),(1,1)],[.slice none 0 0,.slice none 0 0])),(148,([(0,1),(1,1),(2,1),(3,1),(4,1),(5,1),(6,1)],[.int .i64 0,.int .i64 0,.int .i64 0,.pointer none,.pointer none,.pointer none,.pointer none])),(175,([(0,1),(1,1),(2,1)],[.int .i64 0,.slice none 0 0,.map none])),(177,([(0,1),(1,1)],[.slice none 0 0,.int .i64 0])),(245,([(0,1),(1,1)],[.slice none 0 0,.int .i64 0])),(52,([(0,1),(1,1)],[.int .i64 0,.int .i64 0])),(72,([(0,1),(1,1)],[.slice none 0 0,.slice none 0 0])),(98,([(0,1),(1,1),(2,1),(3,1)],[.pointer none,.pointer none,.pointer none,.pointer none]))]
theorem QI:∀p∈PJ,(fun(k:Nat) (v:List (Nat×Nat)×List Value)=>lj (Cs sm) k=some v) p.1 p.2:=all_cons (by show _=_;kernel_rfl) (all_cons (by show _=_;kernel_rfl) (all_cons (by show _=_;kernel_rfl) (all_cons (by show _=_;kernel_rfl) (all_cons (by show _=_;kernel_rfl) (all_cons (by show _=_;kernel_rfl) (all_cons (by show _=_;kernel_rfl) (all_cons (by show _=_;kernel_rfl) (all_cons (by show _=_;kernel_rfl) (all_cons (by show _=_;kernel_rfl) (all_cons (by show _=_;kernel_rfl) (all_cons (by show _=_;kernel_rfl) (all_cons (by show _=_;kernel_rfl) (all_cons (by show _=_;kernel_rfl) (all_cons (by show _=_;kernel_rfl) (a7)))))))))))))))
theorem P3 {k:Nat}{v:List (Nat×Nat)×List Value} (h:PJ.lookup k=some v):lj (Cs sm) k=some v:=fW (P:=fun(k:Nat) (v:List (Nat×Nat)×List Value)=>lj (Cs sm) k=some v) (QI (sm:=sm)) h
def PW:List ((Nat)×(TypeId×Nat×Nat×List Value)):=[(102,(45,1,24,[.slice none 0 0])),(105,(112,8,160,[.int .i64 0,.slice none 0 0,.int .i64 0,.slice none 0 0,.slice none 0 0,.slice none 0 0,.slice none 0 0,.slice none 0 0])),(188,(187,2,16,[.int .i64 0,.int .i64 0])),(205,(2,1,8,[.int .i64 0])),(22,(25,1,24,[.slice none 0 0])),(226,(22,1,24,[.slice none 0 0])),(24,(21,1,4,[.int .i32 0])),(25,(21,1,4,[.int .i32 0])),(37,(52,2,16,[.int .i64 0,.int .i64 0])),(45,(3,1,8,[.int .i64 0])),(77,(5,1,1,[.int .u8 0]))]
theorem QA:∀p∈PW,(fun(k:Nat) (v:TypeId×Nat×Nat×List Value)=>(Cs sm).row k=some v) p.1 p.2:=all_cons (by show _=_;kernel_rfl) (all_cons (by show _=_;kernel_rfl) (all_cons (by show _=_;kernel_rfl) (all_cons (by show _=_;kernel_rfl) (all_cons (by show _=_;kernel_rfl) (all_cons (by show _=_;kernel_rfl) (all_cons (by show _=_;kernel_rfl) (all_cons (by show _=_;kernel_rfl) (all_cons (by show _=_;kernel_rfl) (all_cons (by show _=_;kernel_rfl) (all_cons (by show _=_;kernel_rfl) (a7)))))))))))
theorem P2 {k:Nat}{v:TypeId×Nat×Nat×List Value} (h:PW.lookup k=some v):(Cs sm).row k=some v:=fW (P:=fun(k:Nat) (v:TypeId×Nat×Nat×List Value)=>(Cs sm).row k=some v) (QA (sm:=sm)) h
def P1:List ((Nat×Nat)×(IntKind)):=[((194,3),.i64),((194,32),.u32),((21,2),.i64),((291,5),.u8),((2,21),.i32),((2,5),.u8),((3,194),.u64),((3,318),.u64),((3,32),.u32),((5,2),.i64),((5,3),.i64)]
theorem P6:∀p∈P1,(fun(k:Nat×Nat) (v:IntKind)=>yb (Cs sm) k.1 k.2=some v) p.1 p.2:=all_cons (by show _=_;kernel_rfl) (all_cons (by show _=_;kernel_rfl) (all_cons (by show _=_;kernel_rfl) (all_cons (by show _=_;kernel_rfl) (all_cons (by show _=_;kernel_rfl) (all_cons (by show _=_;kernel_rfl) (all_cons (by show _=_;kernel_rfl) (all_cons (by show _=_;kernel_rfl) (all_cons (by show _=_;kernel_rfl) (all_cons (by show _=_;kernel_rfl) (all_cons (by show _=_;kernel_rfl) (a7)))))))))))
theorem PH {t f:Nat}{v:IntKind} (h:P1.lookup (t,f)=some v):yb (Cs sm) t f=some v:=fW (P:=fun(k:Nat×Nat) (v:IntKind)=>yb (Cs sm) k.1 k.2=some v) (P6 (sm:=sm)) h
def PX:List ((Nat)×(IntKind×TypeId)):=[(116,(.i64,122)),(119,(.i64,25)),(139,(.i64,143)),(173,(.i64,177)),(183,(.i64,4)),(40,(.i64,3))]
theorem Qr:∀p∈PX,(fun(k:Nat) (v:IntKind×TypeId)=>lE (Cs sm) k=some v) p.1 p.2:=all_cons (by show _=_;kernel_rfl) (all_cons (by show _=_;kernel_rfl) (all_cons (by show _=_;kernel_rfl) (all_cons (by show _=_;kernel_rfl) (all_cons (by show _=_;kernel_rfl) (all_cons (by show _=_;kernel_rfl) (a7))))))
theorem pk {k:Nat}{v:IntKind×TypeId} (h:PX.lookup k=some v):lE (Cs sm) k=some v:=fW (P:=fun(k:Nat) (v:IntKind×TypeId)=>lE (Cs sm) k=some v) (Qr (sm:=sm)) h
end Go.Ab.Seat
