/- Parts of the proof. -/
import Derived.Test.YtemcdiajejekoaaGreatDoorSlimZ10
import Derived.Test.YtemcdiajejekoaaGreatDoorChecked
set_option linter.unusedSimpArgs false
set_option linter.unusedVariables false
namespace Go.Proofs.YtemcdiajejekoaaGreatDoor.Slim
open Go
set_option maxRecDepth 20000
theorem ZdJ:Zd Tryz.prog [0,1,2,4,5,6,7,8,9,10,11,12,13,14,15,18,23,47,52,68,76,79,95,100,103] 1 [(12,[0,1,2,3,4])] Tryz.f8=some ZX:=by kernel_rfl
theorem ZqU:Zd Tryz.prog [0,1,2,4,10,16] 1 [] Tryz.f9=some KQ:=by kernel_rfl
theorem ZqV:Zd Tryz.prog [0,1,2,3] 2 [] Tryz.f11=some ZcA:=by kernel_rfl
theorem ZqW:Zd Tryz.prog [0,1,2,3,4,10,16] 1 [] Tryz.f14=some ZcB:=by kernel_rfl
theorem ZnJ:Zd Tryz.prog [0,1,2,4] 1 [] Tryz.f15=some ZaD:=by kernel_rfl
theorem Zj3:Zd Tryz.prog [0,1,2,4,5,6,7,8,15,20,26,39] 2 [(1,[0,1,3,4,2,5,6,7])] Tryz.f25=some YB:=by kernel_rfl
theorem Zj4:Zd Tryz.prog [0,1,2,4,5,6,7,8,9,19,24,29] 2 [(1,[0,1,3,4,2,5,6,7]),(10,[0,2,4,1,3,5,6])] Tryz.f26=some YC:=by kernel_rfl
theorem Zj5:Zd Tryz.prog [0,1,2] 1 [] Tryz.f28=some Kn:=by kernel_rfl
theorem Zj6:Zd Tryz.prog [0,1,2] 1 [] Tryz.f29=some Ko:=by kernel_rfl
theorem ZvD:Zd Tryz.prog [0,2,3,4,6,9,12,14,15,16,17] 1 [] Tryz.f40=some Zbk:=by kernel_rfl
theorem ZnK:Zd Tryz.prog [0,1,4,5,13] 1 [] Tryz.f41=some ZaE:=by kernel_rfl
theorem ZqX:Zd Tryz.prog [0,1,4,5,13] 1 [] Tryz.f42=some KR:=by kernel_rfl
theorem Zpx:Zd Tryz.prog [0,2,3,4,5,7,15,23,28,29,30,31,49] 2 [] Tryz.f43=some Xl:=by kernel_rfl
theorem ZvE:Zd Tryz.prog [0,1,2,4,10,16] 1 [] Tryz.f46=some Zbl:=by kernel_rfl
theorem ZB0:Zd Tryz.prog [0,1,2,4,11,18] 1 [] Tryz.f47=some Ze3:=by kernel_rfl
theorem ZvF:Zd Tryz.prog [0,1,2,3] 2 [] Tryz.f48=some Zf6:=by kernel_rfl
theorem ZB1:Zd Tryz.prog [0,1,2,3] 1 [] Tryz.f49=some ZkL:=by kernel_rfl
theorem ZvG:Zd Tryz.prog [0,1,2,3,4,10,15,20,26,31,36] 1 [] Tryz.f50=some Zf7:=by kernel_rfl
theorem ZnL:Zd Tryz.prog [0,1,2,4,10] 1 [] Tryz.f51=some ZaF:=by kernel_rfl
theorem ZvH:Zd Tryz.prog [0,1,4,5,6,7,12,19] 2 [] Tryz.f52=some Zf8:=by kernel_rfl
theorem ZB2:Zd Tryz.prog [0,1,2,3,4,9,14,19] 1 [] Tryz.f54=some Zde:=by kernel_rfl
theorem ZqY:Zd Tryz.prog [0,1,2,4] 1 [] Tryz.f55=some ZcD:=by kernel_rfl
theorem ZvI:Zd Tryz.prog [0,1,2] 1 [] Tryz.f57=some Kv:=by kernel_rfl
theorem ZqZ:Zd Tryz.prog [0,1,2] 2 [(1,[0,1,3,4,2,6,5,7,8,9])] Tryz.f58=some ZcE:=by kernel_rfl
theorem ZvJ:Zd Tryz.prog [0,1,2,16] 1 [] Tryz.f59=some QV:=by kernel_rfl
theorem ZyP:Zd Tryz.prog [0,1,2,3] 2 [] Tryz.f60=some ZiB:=by kernel_rfl
theorem Zlh:Zd Tryz.prog [0,1,2] 1 [] Tryz.f63=some Yq:=by kernel_rfl
theorem Zli:Zd Tryz.prog [0,1,4,5,6,7,8,10,11,12,13,14,22,23,24,25,34,45,51,58,68,87,96] 0 [(19,[0,1,2,3,4,5,6,7,8,9,10,11,12])] Tryz.f64=some Zn:=by kernel_rfl
theorem Zml:Zd Tryz.prog [0,1,2,3,4,5,6,8,18] 1 [] Tryz.f65=some Y6:=by kernel_rfl
theorem Zq0:Zd Tryz.prog [0,1,2] 1 [] Tryz.f66=some XY:=by kernel_rfl
theorem ZvK:Zd Tryz.prog [0,1,2,4,5,6,7,8,9,14,25,34] 2 [(3,[0,1,2,3,4,5]),(10,[0,1,2,3,4,5,6,7,8])] Tryz.f67=some Zdg:=by kernel_rfl
theorem Zmm:Zd Tryz.prog [0,1,2,3,4,5,13,17] 1 [(5,[0,1,2,3,4,5,6,7,8])] Tryz.f68=some Y7:=by kernel_rfl
theorem Zpy:Zd Tryz.prog [0,1,2,4] 1 [] Tryz.f69=some QD:=by kernel_rfl
theorem Ztr:Zd Tryz.prog [0,1,2,3,4,6,14] 1 [] Tryz.f70=some Kw:=by kernel_rfl
theorem Zpz:Zd Tryz.prog [0,1,2,3,4,5,6,14] 2 [(6,[0,1,2,3,4,5,6,7,8,9,10,11,12,13,14,15,16,17,18,19,20,21,22,23,24,25])] Tryz.f71=some Ji:=by kernel_rfl
theorem ZvL:Zd Tryz.prog [0,2,3,4,5,6,7,8,18,38] 2 [] Tryz.f80=some Kx:=by kernel_rfl
theorem ZB3:Zd Tryz.prog [0,2,5] 1 [] Tryz.f81=some Zhu:=by kernel_rfl
theorem ZnM:Zd Tryz.prog [0,1,4,5,7,9,10,11,12] 1 [] Tryz.f82=some Ky:=by kernel_rfl
theorem ZvM:Zd Tryz.prog [0,2] 1 [] Tryz.f84=some Zf9:=by kernel_rfl
theorem ZnN:Zd Tryz.prog [0,1,4,5,7,8,9,10,11] 1 [] Tryz.f85=some ZaG:=by kernel_rfl
theorem ZpA:Zd Tryz.prog [0,1,4,5,6,7,8,9,10,14,15,16,19,20,21,22,30,46] 0 [] Tryz.f86=some Ka:=by kernel_rfl
theorem Zts:Zd Tryz.prog [0,2,3,5,6,7,8,9] 1 [] Tryz.f87=some Zd7:=by kernel_rfl
theorem ZvN:Zd Tryz.prog [0,1,4,10] 1 [] Tryz.f90=some Zga:=by kernel_rfl
theorem Ztt:Zd Tryz.prog [0,1,4,10] 1 [] Tryz.f91=some ZbZ:=by kernel_rfl
theorem ZvO:Zd Tryz.prog [0,2,3,4,11] 2 [] Tryz.f92=some Zgb:=by kernel_rfl
theorem Ztu:Zd Tryz.prog [0,2,3,4,11] 2 [] Tryz.f93=some Zd8:=by kernel_rfl
theorem ZvP:Zd Tryz.prog [0,1,4,5,10,14,26] 1 [(6,[0,1,2,3,4,5,6,7,8,9])] Tryz.f94=some Zgc:=by kernel_rfl
theorem Ztv:Zd Tryz.prog [0,1,4,5,10,14,26] 1 [(6,[0,1,2,3,4,5,6,7,8,9])] Tryz.f95=some Zd9:=by kernel_rfl
theorem Zq1:Zd Tryz.prog [0,1,2,4,10,16] 1 [] Tryz.f96=some ZcG:=by kernel_rfl
theorem Zq2:Zd Tryz.prog [0,1,4,5,9] 1 [] Tryz.f98=some ZcH:=by kernel_rfl
theorem ZpB:Zd Tryz.prog [0,1,4,5,9] 1 [] Tryz.f99=some ZbI:=by kernel_rfl
theorem ZyQ:Zd Tryz.prog [0,1,4] 1 [] Tryz.f100=some ZiC:=by kernel_rfl
theorem ZvQ:Zd Tryz.prog [0,2,4,5,6,7,8,13] 1 [] Tryz.f101=some Zgd:=by kernel_rfl
theorem ZyR:Zd Tryz.prog [0,1,2,6] 1 [] Tryz.f102=some ZiD:=by kernel_rfl
theorem Zb8:Zd Tryz.prog [0,2,4] 2 [] Tryz.f103=some Yp:=by kernel_rfl
theorem Za6:Zd Tryz.prog [0,2,4] 2 [] Tryz.f104=some Yc:=by kernel_rfl
theorem ZEu:Zd Tryz.prog [0,1,2,6] 1 [] Tryz.f105=some ZkQ:=by kernel_rfl
theorem Ztw:Zd Tryz.prog [0,1,4,5,9,17] 1 [] Tryz.f106=some Zea:=by kernel_rfl
theorem ZEv:Zd Tryz.prog [0,1,2,6] 1 [] Tryz.f107=some Zod:=by kernel_rfl
theorem ZB4:Zd Tryz.prog [0,2,4,10] 1 [(5,[0,1,3,4,5,6,7,8,2,9,10])] Tryz.f108=some Ze5:=by kernel_rfl
theorem ZyS:Zd Tryz.prog [0,2,3,5,6,7,24] 1 [] Tryz.f111=some ZiE:=by kernel_rfl
theorem Ztx:Zd Tryz.prog [0,2,3,4,5,23] 1 [] Tryz.f113=some JK:=by kernel_rfl
theorem ZyT:Zd Tryz.prog [0,2,3,4,5,7,9,11,13,15] 1 [] Tryz.f114=some ZiF:=by kernel_rfl
theorem Zlj:Zd Tryz.prog [0,1,2,6,7,8,9,32,41] 0 [(2,[0,1,2,3,4,5,6,7,8,9,10,11,12,13,14,15,16,17,18,19,20]),(8,[0,1,2,3,4,5,6,7,8,9,10,11,12,13,14,15,16,17,18,19])] Tryz.f115=some Yr:=by kernel_rfl
theorem ZpC:Zd Tryz.prog [0,1,4,5] 1 [] Tryz.f116=some ZbJ:=by kernel_rfl
theorem Zty:Zd Tryz.prog [0,1,4,5,6,7,9,12,13,16,17,18,19,25] 1 [] Tryz.f117=some Kz:=by kernel_rfl
theorem Ztz:Zd Tryz.prog [0,1,4,5,8] 1 [] Tryz.f118=some Zah:=by kernel_rfl
theorem ZpD:Zd Tryz.prog [0,1,3,4,5,6,13] 2 [(5,[0,1,2,3,4,5])] Tryz.f119=some Jj:=by kernel_rfl
theorem Zq3:Zd Tryz.prog [0,1,4,5,6,7,16,28,40,60,69,80] 1 [(9,[0,1,2,3,4,5,6,7,8,9,10,11,12,13,14,15,16,17,18,19])] Tryz.f120=some ZcI:=by kernel_rfl
theorem Zmn:Zd Tryz.prog [0,1,2,6,7,8,9,10,11,12,13,14,27,40,52,62,75,94] 1 [] Tryz.f121=some QP:=by kernel_rfl
theorem Zmo:Zd Tryz.prog [0,1,3,4,5,6,7,15] 1 [(3,[0,3,4,7,8,1,2,5,6,9,10,11,12,13,14,15])] Tryz.f122=some XM:=by kernel_rfl
theorem ZtA:Zd Tryz.prog [0,1,4,5,9,23] 1 [] Tryz.f123=some Zec:=by kernel_rfl
theorem ZtB:Zd Tryz.prog [0,1,4,5,9,16] 1 [] Tryz.f124=some Zed:=by kernel_rfl
theorem ZvR:Zd Tryz.prog [0,1,2,4,5,6,7,8,16,18,24,32,42,47,54] 1 [] Tryz.f125=some Zge:=by kernel_rfl
theorem ZvS:Zd Tryz.prog [0,2,3,4,5,6,7,12,24] 2 [] Tryz.f126=some QW:=by kernel_rfl
theorem ZvT:Zd Tryz.prog [0,1,4,5,6,7,8,9,16,33] 1 [(9,[0,1,2,3,4,5,6,7,8,9,10,11,12,13,14])] Tryz.f127=some KA:=by kernel_rfl
theorem ZvU:Zd Tryz.prog [0,1,2,3,4,5,6,7,15,18,19] 2 [(7,[0,1,2,3,4,5,6]),(8,[0,1,2,3,4,5,6,7,8,9,10])] Tryz.f128=some QX:=by kernel_rfl
theorem ZyU:Zd Tryz.prog [0,1,2,3,6,7,8,15,28] 1 [(5,[0,1,2,3,4,5,6,7,8,9]),(7,[0,1,2,3,4,5,6])] Tryz.f129=some ZiG:=by kernel_rfl
theorem ZvV:Zd Tryz.prog [0,1,3,4] 1 [(1,[0,3,4,7,8,1,2,5,6,9,10,11,12])] Tryz.f130=some Zgf:=by kernel_rfl
theorem Zj7:Zd Tryz.prog [0,2,3,4,5,6,7,9,10,11,16,37] 2 [] Tryz.f131=some YD:=by kernel_rfl
theorem Zdt:Zd Tryz.prog [0,1,4] 1 [] Tryz.f132=some Yg:=by kernel_rfl
theorem ZB5:Zd Tryz.prog [0,1,2,3,4,5,6,10,21,30] 2 [] Tryz.f135=some Zdi:=by kernel_rfl
theorem Zq4:Zd Tryz.prog [0,1,4,5,6,7,8,9,10,30,44] 1 [(10,[0,1,2,3,4,5,7,8,6,9,10,11,12])] Tryz.f138=some JU:=by kernel_rfl
theorem K5:Zd Tryz.prog [0,1,4] 1 [] Tryz.f139=some ZT:=by kernel_rfl
theorem ZvW:Zd Tryz.prog [0,1,2] 1 [] Tryz.f140=some Zgg:=by kernel_rfl
theorem ZtC:Zd Tryz.prog [0,2] 1 [] Tryz.f141=some Zef:=by kernel_rfl
theorem Zlk:Zd Tryz.prog [0,1,4,9] 1 [] Tryz.f147=some Zbo:=by kernel_rfl
theorem ZyV:Zd Tryz.prog [0,1,2,3] 1 [] Tryz.f148=some ZiH:=by kernel_rfl
theorem ZvX:Zd Tryz.prog [0,1,2,3] 1 [] Tryz.f149=some Zgh:=by kernel_rfl
theorem ZyW:Zd Tryz.prog [0,1,2,3,4,9,14] 1 [] Tryz.f150=some ZiI:=by kernel_rfl
theorem ZvY:Zd Tryz.prog [0,1,2,3,4,9,14,19] 1 [] Tryz.f151=some Zgi:=by kernel_rfl
theorem Zq5:Zd Tryz.prog [0,1,4,5,9,18,27] 1 [] Tryz.f152=some ZcK:=by kernel_rfl
theorem ZpE:Zd Tryz.prog [0,1,4,5,9,18,27,36] 1 [] Tryz.f153=some ZbM:=by kernel_rfl
theorem ZvZ:Zd Tryz.prog [0,1,2,4,5,16,26,43] 1 [] Tryz.f157=some JV:=by kernel_rfl
theorem ZB6:Zd Tryz.prog [0,2,3,11,29] 1 [] Tryz.f158=some ZkU:=by kernel_rfl
theorem ZyX:Zd Tryz.prog [0,1,4] 1 [] Tryz.f159=some ZiJ:=by kernel_rfl
theorem Zv0:Zd Tryz.prog [0,1,2,4,5,13,23,37] 1 [] Tryz.f160=some JW:=by kernel_rfl
theorem ZyY:Zd Tryz.prog [0,1,2,3,4,5,6,7,8,9,12,31,32,47,49,67,69,81,92,106,108,136,145] 2 [(4,[0,1,2,3,4,5,7,8,9,10,11,12,6,13,14,15]),(7,[0,1,2,3,4,5,6,9,10,11,7,8,12,13,14]),(10,[0,1,2,3,4,5,6,8,9,10,7,11,12,13,14,15,16,17,18]),(13,[0,1,2,3,4,5,6,7,8,9,10,11,12]),(15,[0,1,2,3,4,5,6,7,8,9,10,11]),(20,[0,1,2,3,4,5,6,8,9,10,7,11,12,13,14,15,16,17,18])] Tryz.f162=some Jw:=by kernel_rfl
theorem Zmp:Zd Tryz.prog [0,1,2,4,5] 1 [] Tryz.f163=some QR:=by kernel_rfl
theorem Zq6:Zd Tryz.prog [0,2,3,6] 1 [] Tryz.f164=some ZcL:=by kernel_rfl
theorem Zv1:Zd Tryz.prog [0,1,2,6,7,16] 1 [] Tryz.f165=some Zgj:=by kernel_rfl
theorem ZB7:Zd Tryz.prog [0,2,3,4,5,6,7,8,27] 1 [] Tryz.f166=some Jx:=by kernel_rfl
theorem Zv2:Zd Tryz.prog [0,1,4,5] 2 [] Tryz.f167=some Zdj:=by kernel_rfl
theorem Zq7:Zd Tryz.prog [0,1,2,3,4,5,6,7] 0 [] Tryz.f168=some JX:=by kernel_rfl
theorem Zmq:Zd Tryz.prog [0,1,2,3,20] 0 [(0,[0,1,2,3,4,5,6,7,8,10,9,11,12,13,14])] Tryz.f169=some Y8:=by kernel_rfl
theorem ZyZ:Zd Tryz.prog [0,2,3,5,6,7,8,9,13] 1 [] Tryz.f170=some Ze7:=by kernel_rfl
theorem Zfb:Zd Tryz.prog [0,2,4] 2 [] Tryz.f171=some Xh:=by kernel_rfl
theorem ZtD:Zd Tryz.prog [0,2,3,6] 1 [] Tryz.f172=some Zeh:=by kernel_rfl
theorem ZtE:Zd Tryz.prog [0,2,3,11] 1 [] Tryz.f173=some Zb0:=by kernel_rfl
theorem Zv3:Zd Tryz.prog [0,1,2,3,6] 1 [(3,[0,1,2,3,4,5,6,7,8,9])] Tryz.f174=some Zdk:=by kernel_rfl
theorem ZtF:Zd Tryz.prog [0,1,4,5,6,7,15] 1 [] Tryz.f175=some Zb1:=by kernel_rfl
theorem Zq8:Zd Tryz.prog [0,1,4,5,6,7,9,10,18,23,24,25,26] 2 [] Tryz.f176=some KV:=by kernel_rfl
theorem Zv4:Zd Tryz.prog [0,1,4,5,6,7,8,9,10,11,19,20,21,22,23,42] 1 [(7,[0,1,2,3,4,5,6,7])] Tryz.f177=some Q0:=by kernel_rfl
theorem Zi8:Zd Tryz.prog [0,2,3,4,5,8,11] 1 [] Tryz.f178=some YP:=by kernel_rfl
theorem Zj8:Zd Tryz.prog [0,2,3,4,5,6,27] 1 [] Tryz.f179=some YE:=by kernel_rfl
theorem Zv5:Zd Tryz.prog [0,2,3,6] 1 [] Tryz.f180=some Zgm:=by kernel_rfl
theorem ZtG:Zd Tryz.prog [0,2,3,4,8] 1 [] Tryz.f181=some Zei:=by kernel_rfl
theorem Zv6:Zd Tryz.prog [0,1,2,4,6] 1 [(3,[0,1,4,5,2,3,6,7,8])] Tryz.f182=some Zdm:=by kernel_rfl
theorem ZtH:Zd Tryz.prog [0,2,3,11] 1 [] Tryz.f183=some Zb2:=by kernel_rfl
theorem Zy0:Zd Tryz.prog [0,1,2,6,10,14] 1 [] Tryz.f184=some ZiK:=by kernel_rfl
theorem Zy1:Zd Tryz.prog [0,1,4,6] 1 [] Tryz.f185=some ZiL:=by kernel_rfl
theorem Zv7:Zd Tryz.prog [0,1,2,3,6] 1 [(3,[0,1,2,3,4,5,6,7,8,9])] Tryz.f186=some Zdn:=by kernel_rfl
theorem Zv8:Zd Tryz.prog [0,1,4,5,6,10,14,25,27] 1 [] Tryz.f187=some KC:=by kernel_rfl
theorem ZpF:Zd Tryz.prog [0,2,3,4,5,21,33,50] 2 [] Tryz.f188=some Xp:=by kernel_rfl
theorem Zy2:Zd Tryz.prog [0,2,3,4,5,6,15,21,25,37,50,56] 1 [] Tryz.f189=some YQ:=by kernel_rfl
theorem ZB8:Zd Tryz.prog [0,2] 2 [] Tryz.f190=some ZkW:=by kernel_rfl
theorem Zv9:Zd Tryz.prog [0,2,3,4,5,10] 1 [] Tryz.f191=some Zbp:=by kernel_rfl
theorem ZtI:Zd Tryz.prog [0,1,4,5,6,7,10,25] 1 [] Tryz.f192=some KD:=by kernel_rfl
theorem ZpG:Zd Tryz.prog [0,1,4,5,6,7,8,9,10,11,18,30,49] 2 [] Tryz.f193=some Jm:=by kernel_rfl
theorem Zy3:Zd Tryz.prog [0,1,2,3,6,7,8,9,10,11,12,13,22,31,40,48,57,72] 1 [] Tryz.f194=some ZiM:=by kernel_rfl
theorem Zy4:Zd Tryz.prog [0,2] 1 [] Tryz.f195=some ZiN:=by kernel_rfl
theorem Zq9:Zd Tryz.prog [0,1,4,5,6] 1 [] Tryz.f196=some ZcM:=by kernel_rfl
theorem Zy5:Zd Tryz.prog [0,1,4,5,6,7,9,11,12,14,15,16] 1 [] Tryz.f197=some Zbq:=by kernel_rfl
theorem Zfc:Zd Tryz.prog [0,1,4,5,7,8,9,16] 1 [] Tryz.f198=some Xi:=by kernel_rfl
theorem Zy6:Zd Tryz.prog [0,1,2,3,4,6,7,13,32,46] 1 [] Tryz.f199=some KW:=by kernel_rfl
theorem Zwa:Zd Tryz.prog [0,1,2,3,4,5,9,10,22,37,47,55,69] 2 [(6,[0,1,2,3,4,5,6,7,8,9,10,11,12,13]),(15,[0,1,2,3,4,5,6,7,8,9,10,11,12,13])] Tryz.f200=some JZ:=by kernel_rfl
theorem Zy7:Zd Tryz.prog [0,1,4,7] 1 [] Tryz.f201=some ZiO:=by kernel_rfl
theorem Zwb:Zd Tryz.prog [0,1,4,7] 1 [] Tryz.f202=some Zdo:=by kernel_rfl
theorem Zam:Zd Tryz.prog [0,1,4,5,7,8,9,16] 1 [] Tryz.f205=some Z1:=by kernel_rfl
theorem Zwc:Zd Tryz.prog [0,2] 1 [] Tryz.f216=some Zgn:=by kernel_rfl
theorem ZEw:Zd Tryz.prog [0,2] 1 [] Tryz.f217=some Zoe:=by kernel_rfl
theorem ZB9:Zd Tryz.prog [0,1,4] 1 [] Tryz.f218=some ZkY:=by kernel_rfl
theorem Zwd:Zd Tryz.prog [0,1,2,6,7,12] 1 [] Tryz.f223=some Zgo:=by kernel_rfl
theorem Zra:Zd Tryz.prog [0,2,3,5,6,8,9,10,11] 1 [] Tryz.f224=some ZcN:=by kernel_rfl
theorem Zrb:Zd Tryz.prog [1,2,6] 0 [] Tryz.f225=some KX:=by kernel_rfl
theorem ZnO:Zd Tryz.prog [0,1,2,3,4,5,6,9,13,20] 0 [(6,[0,1,2,3,4,5,6,7,8,9,10,11])] Tryz.f228=some Z8:=by kernel_rfl
theorem ZtJ:Zd Tryz.prog [0,1,4,5] 1 [(2,[0,1,2,3,4,5,6,7])] Tryz.f229=some Zej:=by kernel_rfl
theorem Zrc:Zd Tryz.prog [0,1,4,5,6,7,15] 1 [] Tryz.f230=some ZcO:=by kernel_rfl
theorem Zwe:Zd Tryz.prog [0,1,4,5,6,14] 1 [] Tryz.f231=some Zdp:=by kernel_rfl
theorem Zy8:Zd Tryz.prog [0,2] 1 [] Tryz.f232=some ZiP:=by kernel_rfl
theorem Zrd:Zd Tryz.prog [0,1,2,4,5,10] 1 [] Tryz.f233=some KY:=by kernel_rfl
theorem Zre:Zd Tryz.prog [0,1,4,5,6,7] 1 [] Tryz.f234=some ZcQ:=by kernel_rfl
theorem ZtK:Zd Tryz.prog [0,2] 1 [] Tryz.f235=some Zek:=by kernel_rfl
theorem ZtL:Zd Tryz.prog [0,2,3,4,5,8,10,11,12] 1 [] Tryz.f236=some Zb3:=by kernel_rfl
theorem Zy9:Zd Tryz.prog [0,2,3,4,8,12,33] 1 [(7,[0,1,2,3,4,5,9,10,11,12,13,6,7,8,14,15,16])] Tryz.f237=some Zc1:=by kernel_rfl
theorem ZCa:Zd Tryz.prog [0,1,4,5] 1 [(2,[0,1,2,3,4,5,6,7])] Tryz.f238=some Zk2:=by kernel_rfl
theorem ZtM:Zd Tryz.prog [0,1,4,5,6,10] 1 [(5,[0,1,2,3,4,5,6,7,8,9,10,11,12,13,14,15])] Tryz.f239=some Zel:=by kernel_rfl
theorem Zrf:Zd Tryz.prog [0,1,4,5,6,10] 1 [] Tryz.f240=some ZcR:=by kernel_rfl
theorem ZtN:Zd Tryz.prog [0,1,4,5,6,7,8,13,23,32] 0 [] Tryz.f241=some Zb5:=by kernel_rfl
theorem ZCb:Zd Tryz.prog [0,1,4,5,9,17] 1 [] Tryz.f242=some Zk4:=by kernel_rfl
theorem Zza:Zd Tryz.prog [0,1,2,4,5,10] 1 [] Tryz.f243=some Zc2:=by kernel_rfl
theorem ZCc:Zd Tryz.prog [0,2,3,7,31] 1 [(4,[0,1,2,3,4,5,6,7,8,9,10,11,12,13,14,15,16,17,18,19,20,21])] Tryz.f244=some JA:=by kernel_rfl
theorem Zzb:Zd Tryz.prog [0,1,4,5,6,7,8,9,10,14,33,42,48,63] 2 [] Tryz.f245=some Zc3:=by kernel_rfl
theorem ZCd:Zd Tryz.prog [0,2,3,4,5,6,7,12,19,23] 0 [] Tryz.f246=some ZhH:=by kernel_rfl
theorem Zwf:Zd Tryz.prog [0,1,4,5,6,7,8,12] 1 [(5,[0,1,2,3,4,5,6,7,8,9,10,11]),(6,[0,1,2,3,4,5,6,7,8,9,10,11])] Tryz.f247=some Zdq:=by kernel_rfl
theorem ZnP:Zd Tryz.prog [0,1,4,5,13] 1 [] Tryz.f248=some ZaM:=by kernel_rfl
theorem ZtO:Zd Tryz.prog [0,1,4,5,6,10] 1 [] Tryz.f249=some Zb6:=by kernel_rfl
theorem Zrg:Zd Tryz.prog [0,1,4,5,6,7,8,12,20] 2 [] Tryz.f250=some KZ:=by kernel_rfl
theorem Zrh:Zd Tryz.prog [0,1,4,5,13] 1 [] Tryz.f251=some K0:=by kernel_rfl
theorem Zwg:Zd Tryz.prog [0,1,4,5,6,7,8,9,23,27,40,55] 1 [(8,[0,1,2,3,4,5,6,7,8,9,10,11,12,13])] Tryz.f252=some KF:=by kernel_rfl
theorem Zi9:Zd Tryz.prog [0,2,3,6] 1 [] Tryz.f253=some Xz:=by kernel_rfl
theorem ZCe:Zd Tryz.prog [0,2,3,4,8] 1 [] Tryz.f254=some Zk5:=by kernel_rfl
theorem Zdu:Zd Tryz.prog [0,1,4,5,6,7,12] 1 [(3,[0,1,2,3,4,5,6,7,8,9,10,11])] Tryz.f255=some Yh:=by kernel_rfl
theorem Zj9:Zd Tryz.prog [0,2,3,4,7,8,26] 1 [] Tryz.f256=some Y4:=by kernel_rfl
theorem Zwh:Zd Tryz.prog [0,1,4,6] 1 [(2,[0,1,2,3,4,5])] Tryz.f282=some Zgu:=by kernel_rfl
theorem Zwi:Zd Tryz.prog [0,1,4,5,6,14] 1 [] Tryz.f283=some Zgv:=by kernel_rfl
theorem ZCf:Zd Tryz.prog [0,1,4,6] 1 [(2,[0,1,2,3,4,5])] Tryz.f284=some Zk6:=by kernel_rfl
theorem ZCg:Zd Tryz.prog [0,1,4] 1 [] Tryz.f285=some ZhK:=by kernel_rfl
theorem Zzc:Zd Tryz.prog [0,1,4,5,6,7,8,9,10,15,22,26,39] 0 [] Tryz.f286=some Ze9:=by kernel_rfl
theorem Zzd:Zd Tryz.prog [0,1,2,6,7,8,12] 1 [(5,[0,1,2,3,4,5,6,7,8,9,10,11,12,13,14,15,16,17,18,19,20,21])] Tryz.f287=some Zfa:=by kernel_rfl
theorem Zwj:Zd Tryz.prog [0,2] 1 [] Tryz.f288=some Zgw:=by kernel_rfl
theorem ZtP:Zd Tryz.prog [0,2,3,4,7] 1 [] Tryz.f289=some Zb7:=by kernel_rfl
theorem ZKv:Zmc Tryz.prog T:=ZBz (by
  unfold tab
  exact
    Ze ⟨_,_,_,_,Tryz.func8,ZdJ⟩ <|
    Ze ⟨_,_,_,_,Tryz.func9,ZqU⟩ <|
    Ze ⟨_,_,_,_,Tryz.func11,ZqV⟩ <|
    Ze ⟨_,_,_,_,Tryz.func14,ZqW⟩ <|
    Ze ⟨_,_,_,_,Tryz.func15,ZnJ⟩ <|
    Ze ⟨_,_,_,_,Tryz.func25,Zj3⟩ <|
    Ze ⟨_,_,_,_,Tryz.func26,Zj4⟩ <|
    Ze ⟨_,_,_,_,Tryz.func28,Zj5⟩ <|
    Ze ⟨_,_,_,_,Tryz.func29,Zj6⟩ <|
    Ze ⟨_,_,_,_,Tryz.func40,ZvD⟩ <|
    Ze ⟨_,_,_,_,Tryz.func41,ZnK⟩ <|
    Ze ⟨_,_,_,_,Tryz.func42,ZqX⟩ <|
    Ze ⟨_,_,_,_,Tryz.func43,Zpx⟩ <|
    Ze ⟨_,_,_,_,Tryz.func46,ZvE⟩ <|
    Ze ⟨_,_,_,_,Tryz.func47,ZB0⟩ <|
    Ze ⟨_,_,_,_,Tryz.func48,ZvF⟩ <|
    Ze ⟨_,_,_,_,Tryz.func49,ZB1⟩ <|
    Ze ⟨_,_,_,_,Tryz.func50,ZvG⟩ <|
    Ze ⟨_,_,_,_,Tryz.func51,ZnL⟩ <|
    Ze ⟨_,_,_,_,Tryz.func52,ZvH⟩ <|
    Ze ⟨_,_,_,_,Tryz.func54,ZB2⟩ <|
    Ze ⟨_,_,_,_,Tryz.func55,ZqY⟩ <|
    Ze ⟨_,_,_,_,Tryz.func57,ZvI⟩ <|
    Ze ⟨_,_,_,_,Tryz.func58,ZqZ⟩ <|
    Ze ⟨_,_,_,_,Tryz.func59,ZvJ⟩ <|
    Ze ⟨_,_,_,_,Tryz.func60,ZyP⟩ <|
    Ze ⟨_,_,_,_,Tryz.func63,Zlh⟩ <|
    Ze ⟨_,_,_,_,Tryz.func64,Zli⟩ <|
    Ze ⟨_,_,_,_,Tryz.func65,Zml⟩ <|
    Ze ⟨_,_,_,_,Tryz.func66,Zq0⟩ <|
    Ze ⟨_,_,_,_,Tryz.func67,ZvK⟩ <|
    Ze ⟨_,_,_,_,Tryz.func68,Zmm⟩ <|
    Ze ⟨_,_,_,_,Tryz.func69,Zpy⟩ <|
    Ze ⟨_,_,_,_,Tryz.func70,Ztr⟩ <|
    Ze ⟨_,_,_,_,Tryz.func71,Zpz⟩ <|
    Ze ⟨_,_,_,_,Tryz.func80,ZvL⟩ <|
    Ze ⟨_,_,_,_,Tryz.func81,ZB3⟩ <|
    Ze ⟨_,_,_,_,Tryz.func82,ZnM⟩ <|
    Ze ⟨_,_,_,_,Tryz.func84,ZvM⟩ <|
    Ze ⟨_,_,_,_,Tryz.func85,ZnN⟩ <|
    Ze ⟨_,_,_,_,Tryz.func86,ZpA⟩ <|
    Ze ⟨_,_,_,_,Tryz.func87,Zts⟩ <|
    Ze ⟨_,_,_,_,Tryz.func90,ZvN⟩ <|
    Ze ⟨_,_,_,_,Tryz.func91,Ztt⟩ <|
    Ze ⟨_,_,_,_,Tryz.func92,ZvO⟩ <|
    Ze ⟨_,_,_,_,Tryz.func93,Ztu⟩ <|
    Ze ⟨_,_,_,_,Tryz.func94,ZvP⟩ <|
    Ze ⟨_,_,_,_,Tryz.func95,Ztv⟩ <|
    Ze ⟨_,_,_,_,Tryz.func96,Zq1⟩ <|
    Ze ⟨_,_,_,_,Tryz.func98,Zq2⟩ <|
    Ze ⟨_,_,_,_,Tryz.func99,ZpB⟩ <|
    Ze ⟨_,_,_,_,Tryz.func100,ZyQ⟩ <|
    Ze ⟨_,_,_,_,Tryz.func101,ZvQ⟩ <|
    Ze ⟨_,_,_,_,Tryz.func102,ZyR⟩ <|
    Ze ⟨_,_,_,_,Tryz.func103,Zb8⟩ <|
    Ze ⟨_,_,_,_,Tryz.func104,Za6⟩ <|
    Ze ⟨_,_,_,_,Tryz.func105,ZEu⟩ <|
    Ze ⟨_,_,_,_,Tryz.func106,Ztw⟩ <|
    Ze ⟨_,_,_,_,Tryz.func107,ZEv⟩ <|
    Ze ⟨_,_,_,_,Tryz.func108,ZB4⟩ <|
    Ze ⟨_,_,_,_,Tryz.func111,ZyS⟩ <|
    Ze ⟨_,_,_,_,Tryz.func113,Ztx⟩ <|
    Ze ⟨_,_,_,_,Tryz.func114,ZyT⟩ <|
    Ze ⟨_,_,_,_,Tryz.func115,Zlj⟩ <|
    Ze ⟨_,_,_,_,Tryz.func116,ZpC⟩ <|
    Ze ⟨_,_,_,_,Tryz.func117,Zty⟩ <|
    Ze ⟨_,_,_,_,Tryz.func118,Ztz⟩ <|
    Ze ⟨_,_,_,_,Tryz.func119,ZpD⟩ <|
    Ze ⟨_,_,_,_,Tryz.func120,Zq3⟩ <|
    Ze ⟨_,_,_,_,Tryz.func121,Zmn⟩ <|
    Ze ⟨_,_,_,_,Tryz.func122,Zmo⟩ <|
    Ze ⟨_,_,_,_,Tryz.func123,ZtA⟩ <|
    Ze ⟨_,_,_,_,Tryz.func124,ZtB⟩ <|
    Ze ⟨_,_,_,_,Tryz.func125,ZvR⟩ <|
    Ze ⟨_,_,_,_,Tryz.func126,ZvS⟩ <|
    Ze ⟨_,_,_,_,Tryz.func127,ZvT⟩ <|
    Ze ⟨_,_,_,_,Tryz.func128,ZvU⟩ <|
    Ze ⟨_,_,_,_,Tryz.func129,ZyU⟩ <|
    Ze ⟨_,_,_,_,Tryz.func130,ZvV⟩ <|
    Ze ⟨_,_,_,_,Tryz.func131,Zj7⟩ <|
    Ze ⟨_,_,_,_,Tryz.func132,Zdt⟩ <|
    Ze ⟨_,_,_,_,Tryz.func135,ZB5⟩ <|
    Ze ⟨_,_,_,_,Tryz.func138,Zq4⟩ <|
    Ze ⟨_,_,_,_,Tryz.func139,K5⟩ <|
    Ze ⟨_,_,_,_,Tryz.func140,ZvW⟩ <|
    Ze ⟨_,_,_,_,Tryz.func141,ZtC⟩ <|
    Ze ⟨_,_,_,_,Tryz.func147,Zlk⟩ <|
    Ze ⟨_,_,_,_,Tryz.func148,ZyV⟩ <|
    Ze ⟨_,_,_,_,Tryz.func149,ZvX⟩ <|
    Ze ⟨_,_,_,_,Tryz.func150,ZyW⟩ <|
    Ze ⟨_,_,_,_,Tryz.func151,ZvY⟩ <|
    Ze ⟨_,_,_,_,Tryz.func152,Zq5⟩ <|
    Ze ⟨_,_,_,_,Tryz.func153,ZpE⟩ <|
    Ze ⟨_,_,_,_,Tryz.func157,ZvZ⟩ <|
    Ze ⟨_,_,_,_,Tryz.func158,ZB6⟩ <|
    Ze ⟨_,_,_,_,Tryz.func159,ZyX⟩ <|
    Ze ⟨_,_,_,_,Tryz.func160,Zv0⟩ <|
    Ze ⟨_,_,_,_,Tryz.func162,ZyY⟩ <|
    Ze ⟨_,_,_,_,Tryz.func163,Zmp⟩ <|
    Ze ⟨_,_,_,_,Tryz.func164,Zq6⟩ <|
    Ze ⟨_,_,_,_,Tryz.func165,Zv1⟩ <|
    Ze ⟨_,_,_,_,Tryz.func166,ZB7⟩ <|
    Ze ⟨_,_,_,_,Tryz.func167,Zv2⟩ <|
    Ze ⟨_,_,_,_,Tryz.func168,Zq7⟩ <|
    Ze ⟨_,_,_,_,Tryz.func169,Zmq⟩ <|
    Ze ⟨_,_,_,_,Tryz.func170,ZyZ⟩ <|
    Ze ⟨_,_,_,_,Tryz.func171,Zfb⟩ <|
    Ze ⟨_,_,_,_,Tryz.func172,ZtD⟩ <|
    Ze ⟨_,_,_,_,Tryz.func173,ZtE⟩ <|
    Ze ⟨_,_,_,_,Tryz.func174,Zv3⟩ <|
    Ze ⟨_,_,_,_,Tryz.func175,ZtF⟩ <|
    Ze ⟨_,_,_,_,Tryz.func176,Zq8⟩ <|
    Ze ⟨_,_,_,_,Tryz.func177,Zv4⟩ <|
    Ze ⟨_,_,_,_,Tryz.func178,Zi8⟩ <|
    Ze ⟨_,_,_,_,Tryz.func179,Zj8⟩ <|
    Ze ⟨_,_,_,_,Tryz.func180,Zv5⟩ <|
    Ze ⟨_,_,_,_,Tryz.func181,ZtG⟩ <|
    Ze ⟨_,_,_,_,Tryz.func182,Zv6⟩ <|
    Ze ⟨_,_,_,_,Tryz.func183,ZtH⟩ <|
    Ze ⟨_,_,_,_,Tryz.func184,Zy0⟩ <|
    Ze ⟨_,_,_,_,Tryz.func185,Zy1⟩ <|
    Ze ⟨_,_,_,_,Tryz.func186,Zv7⟩ <|
    Ze ⟨_,_,_,_,Tryz.func187,Zv8⟩ <|
    Ze ⟨_,_,_,_,Tryz.func188,ZpF⟩ <|
    Ze ⟨_,_,_,_,Tryz.func189,Zy2⟩ <|
    Ze ⟨_,_,_,_,Tryz.func190,ZB8⟩ <|
    Ze ⟨_,_,_,_,Tryz.func191,Zv9⟩ <|
    Ze ⟨_,_,_,_,Tryz.func192,ZtI⟩ <|
    Ze ⟨_,_,_,_,Tryz.func193,ZpG⟩ <|
    Ze ⟨_,_,_,_,Tryz.func194,Zy3⟩ <|
    Ze ⟨_,_,_,_,Tryz.func195,Zy4⟩ <|
    Ze ⟨_,_,_,_,Tryz.func196,Zq9⟩ <|
    Ze ⟨_,_,_,_,Tryz.func197,Zy5⟩ <|
    Ze ⟨_,_,_,_,Tryz.func198,Zfc⟩ <|
    Ze ⟨_,_,_,_,Tryz.func199,Zy6⟩ <|
    Ze ⟨_,_,_,_,Tryz.func200,Zwa⟩ <|
    Ze ⟨_,_,_,_,Tryz.func201,Zy7⟩ <|
    Ze ⟨_,_,_,_,Tryz.func202,Zwb⟩ <|
    Ze ⟨_,_,_,_,Tryz.func205,Zam⟩ <|
    Ze ⟨_,_,_,_,Tryz.func216,Zwc⟩ <|
    Ze ⟨_,_,_,_,Tryz.func217,ZEw⟩ <|
    Ze ⟨_,_,_,_,Tryz.func218,ZB9⟩ <|
    Ze ⟨_,_,_,_,Tryz.func223,Zwd⟩ <|
    Ze ⟨_,_,_,_,Tryz.func224,Zra⟩ <|
    Ze ⟨_,_,_,_,Tryz.func225,Zrb⟩ <|
    Ze ⟨_,_,_,_,Tryz.func228,ZnO⟩ <|
    Ze ⟨_,_,_,_,Tryz.func229,ZtJ⟩ <|
    Ze ⟨_,_,_,_,Tryz.func230,Zrc⟩ <|
    Ze ⟨_,_,_,_,Tryz.func231,Zwe⟩ <|
    Ze ⟨_,_,_,_,Tryz.func232,Zy8⟩ <|
    Ze ⟨_,_,_,_,Tryz.func233,Zrd⟩ <|
    Ze ⟨_,_,_,_,Tryz.func234,Zre⟩ <|
    Ze ⟨_,_,_,_,Tryz.func235,ZtK⟩ <|
    Ze ⟨_,_,_,_,Tryz.func236,ZtL⟩ <|
    Ze ⟨_,_,_,_,Tryz.func237,Zy9⟩ <|
    Ze ⟨_,_,_,_,Tryz.func238,ZCa⟩ <|
    Ze ⟨_,_,_,_,Tryz.func239,ZtM⟩ <|
    Ze ⟨_,_,_,_,Tryz.func240,Zrf⟩ <|
    Ze ⟨_,_,_,_,Tryz.func241,ZtN⟩ <|
    Ze ⟨_,_,_,_,Tryz.func242,ZCb⟩ <|
    Ze ⟨_,_,_,_,Tryz.func243,Zza⟩ <|
    Ze ⟨_,_,_,_,Tryz.func244,ZCc⟩ <|
    Ze ⟨_,_,_,_,Tryz.func245,Zzb⟩ <|
    Ze ⟨_,_,_,_,Tryz.func246,ZCd⟩ <|
    Ze ⟨_,_,_,_,Tryz.func247,Zwf⟩ <|
    Ze ⟨_,_,_,_,Tryz.func248,ZnP⟩ <|
    Ze ⟨_,_,_,_,Tryz.func249,ZtO⟩ <|
    Ze ⟨_,_,_,_,Tryz.func250,Zrg⟩ <|
    Ze ⟨_,_,_,_,Tryz.func251,Zrh⟩ <|
    Ze ⟨_,_,_,_,Tryz.func252,Zwg⟩ <|
    Ze ⟨_,_,_,_,Tryz.func253,Zi9⟩ <|
    Ze ⟨_,_,_,_,Tryz.func254,ZCe⟩ <|
    Ze ⟨_,_,_,_,Tryz.func255,Zdu⟩ <|
    Ze ⟨_,_,_,_,Tryz.func256,Zj9⟩ <|
    Ze ⟨_,_,_,_,Tryz.func282,Zwh⟩ <|
    Ze ⟨_,_,_,_,Tryz.func283,Zwi⟩ <|
    Ze ⟨_,_,_,_,Tryz.func284,ZCf⟩ <|
    Ze ⟨_,_,_,_,Tryz.func285,ZCg⟩ <|
    Ze ⟨_,_,_,_,Tryz.func286,Zzc⟩ <|
    Ze ⟨_,_,_,_,Tryz.func287,Zzd⟩ <|
    Ze ⟨_,_,_,_,Tryz.func288,Zwj⟩ <|
    Ze ⟨_,_,_,_,Tryz.func289,ZtP⟩ <|
    ZJp)
end Go.Proofs.YtemcdiajejekoaaGreatDoor.Slim
namespace Go.Proofs.YtemcdiajejekoaaGreatDoor.Slim
open Go
section
variable {C : FuncId → List AV → Mem → Option (AV × Mem)} {tm loc : List AV} {m : Mem} {g : X → AV} {H : List Blk} {e : Option Nat}
theorem ZG3:Zl3 C tm [] loc m=some (loc,m):=Eq.trans rfl rfl
def Za8 {β:Type} (r:Option (AV×Mem)) (f:AV→Mem→Option β):Option β :=
 match r with
 | some (v,m)=>f v m
 | none=>none
theorem ZpH {β:Type} (v:AV) (m:Mem) (f:AV→Mem→Option β):Za8 (some (v,m)) f=f v m:=Eq.trans rfl rfl
theorem ZpI {β:Type} (f:AV→Mem→Option β):Za8 none f=none:=Eq.trans rfl rfl
theorem ZCh {β:Type} (c:Prop) [Decidable c] (a b:Option (AV×Mem)) (f:AV→Mem→Option β):Za8 (if c then a else b) f=if c then Za8 a f else Za8 b f:=by split <;> rfl
@[congr] theorem ZHS {β:Type} {r r':Option (AV×Mem)} {f:AV→Mem→Option β} (h:r=r'):Za8 r f=Za8 r' f:=by rw [h]
def Za9 {β:Type} (p:Prop) [Decidable p] (r:Option (AV×Mem)) (m:Mem) (f:AV→Mem→Option β):Option β:=if p then Za8 r f else f (.tup []) m
def JB {β:Type} (c:Option Bool) (r:Option (AV×Mem)) (m:Mem) (f:AV→Mem→Option β):Option β :=
 match c with
 | none=>none
 | some c=>Za9 (c=true) r m f
theorem Zri {β:Type} (c:Bool) (r:Option (AV×Mem)) (m:Mem) (f:AV→Mem→Option β):JB (some c) r m f=Za9 (c=true) r m f:=Eq.trans rfl rfl
theorem ZtQ {β:Type} (p:Prop) [Decidable p] (a b:Option Bool) (r:Option (AV×Mem)) (m:Mem) (f:AV→Mem→Option β) :
  JB (if p then a else b) r m f=if p then JB a r m f else JB b r m f:=by split <;> rfl
theorem ZpJ {β:Type} (r:Option (AV×Mem)) (m:Mem) (f:AV→Mem→Option β):Za9 True r m f=Za8 r f:=by simp [Za9]
theorem Znk {β:Type} (r:Option (AV×Mem)) (m:Mem) (f:AV→Mem→Option β):Za9 False r m f=f (.tup []) m:=by simp [Za9]
theorem Zze {β:Type} (p:Prop) [Decidable p] (v:AV) (m:Mem) (f:AV→Mem→Option β):Za9 p (some (v,m)) m f=f (if p then v else .tup []) m:=by
 by_cases h:p <;> simp [Za9,h,Za8]
theorem ZCi {β:Type} (p:Prop) [Decidable p] (q:Prop) [Decidable q] (v:AV) (m:Mem) (f:AV→Mem→Option β) :
  Za9 p (if q then some (v,m) else none) m f=if p→q then f (if p then v else .tup []) m else none:=by
 by_cases h:p <;> by_cases h2:q <;> simp [Za9,Za8,h,h2]
@[congr] theorem ZHT {β:Type} {p q:Prop} {s:Decidable p} [Decidable q] {r r':Option (AV×Mem)} {m:Mem} {f:AV→Mem→Option β} (h:p=q) (h2:q→r=r'):Za9 p r m f=Za9 q r' m f:=by
 subst h
 unfold Za9
 by_cases hp:p
 ·rw [if_pos hp,if_pos hp,h2 hp]
 ·rw [if_neg hp,if_neg hp]
@[congr] theorem ZEx {β:Type} {c c':Option Bool} {r:Option (AV×Mem)} {m:Mem} {f:AV→Mem→Option β} (h:c=c'):JB c r m f=JB c' r m f:=by rw [h]
def K6 (v:AV) (b:Bool):Option Bool :=
 match v with
 | .bool c=>some (c==b)
 | .tup []=>some false
 | _=>none
theorem Zwk (c:Bool):K6 (.bool c) true=some c:=by cases c <;> rfl
theorem ZtR (c:Bool):K6 (.bool c) false=some (!c):=by cases c <;> rfl
theorem Zzf (b:Bool):K6 (.tup []) b=some false:=Eq.trans rfl rfl
theorem ZIi (c:Prop) [Decidable c] (x y:AV) (b:Bool):K6 (if c then x else y) b=if c then K6 x b else K6 y b:=by split <;> rfl
theorem ZEy (op:AO) (rest:List Y0):Zl3 C tm (⟨op,none⟩::rest) loc m=Za8 (aop C (get tm loc) m op) fun v m'=>Zl3 C tm rest (loc++[v]) m':=by
 rw [Zl3]
 simp only [ZdN]
 cases aop C (get tm loc) m op <;> rfl
theorem ZCj (op:AO) (x:X) (b:Bool) (rest:List Y0) :
  Zl3 C tm (⟨op,some (x,b)⟩::rest) loc m=JB (K6 (get tm loc x) b) (aop C (get tm loc) m op) m fun v m'=>Zl3 C tm rest (loc++[v]) m':=by
 rw [Zl3]
 have h:ZdN (get tm loc) (some (x,b))=K6 (get tm loc x) b:=rfl
 rw [h]
 cases K6 (get tm loc x) b with
 | none=>rfl
 | some c=>cases c with
  | false=>rfl
  | true=>simp only [JB,Za9,if_true];cases aop C (get tm loc) m op <;> rfl
theorem ZG4:Zi7 C tm [] loc m=some (loc,m):=Eq.trans rfl rfl
theorem ZEz (op:AO) (rest:List DE):Zi7 C tm (⟨op,none,[]⟩::rest) loc m=Za8 (aop C (get tm loc) m op) fun v m'=>Zi7 C tm rest (loc++[v]) m':=by
 rw [Zi7]
 simp only [ZdN]
 cases aop C (get tm loc) m op <;> simp [Za8,XB]
theorem ZCk (op:AO) (q:Nat×Y0) (qs:List (Nat×Y0)) (rest:List DE):Zi7 C tm (⟨op,none,q::qs⟩::rest) loc m =
  Za8 (aop C (get tm loc) m op) fun v m'=>if XB (get tm (loc++[v])) loc m'.H (q::qs)=true then Zi7 C tm rest (loc++[v]) m' else none:=by
 rw [Zi7]
 simp only [ZdN]
 cases aop C (get tm loc) m op <;> simp [Za8]
theorem ZCl (op:AO) (x:X) (b:Bool) (rest:List DE) :
  Zi7 C tm (⟨op,some (x,b),[]⟩::rest) loc m=JB (K6 (get tm loc x) b) (aop C (get tm loc) m op) m fun v m'=>Zi7 C tm rest (loc++[v]) m':=by
 rw [Zi7]
 have h:ZdN (get tm loc) (some (x,b))=K6 (get tm loc x) b:=rfl
 rw [h]
 cases K6 (get tm loc x) b with
 | none=>rfl
 | some c=>cases c with
  | false=>simp [JB,Za9,XB]
  | true=>simp only [JB,Za9,if_true];cases aop C (get tm loc) m op <;> simp [Za8,XB]
theorem ZnQ (op:AO) (x:X) (b:Bool) (q:Nat×Y0) (qs:List (Nat×Y0)) (rest:List DE) :
  Zi7 C tm (⟨op,some (x,b),q::qs⟩::rest) loc m=JB (K6 (get tm loc x) b) (aop C (get tm loc) m op) m fun v m'=>
   if XB (get tm (loc++[v])) loc m'.H (q::qs)=true then Zi7 C tm rest (loc++[v]) m' else none:=by
 rw [Zi7]
 have h:ZdN (get tm loc) (some (x,b))=K6 (get tm loc x) b:=rfl
 rw [h]
 cases K6 (get tm loc x) b with
 | none=>rfl
 | some c=>cases c with
  | false=>rfl
  | true=>simp only [JB,Za9,if_true];cases aop C (get tm loc) m op <;> rfl
theorem Zwl (L:List Blk):XB g loc L []=true:=Eq.trans rfl rfl
theorem ZtS (L:List Blk) (j:Nat) (op:AO) (qs:List (Nat×Y0)):(XB g loc L ((j,⟨op,none⟩)::qs)=true)↔(Zcg g L op=some ((loc[j]?).getD .undef)∧XB g loc L qs=true):=by
 simp [XB,ZdN]
theorem Zrj (L:List Blk) (j:Nat) (op:AO) (x:X) (b:Bool) (qs:List (Nat×Y0)):(XB g loc L ((j,⟨op,some (x,b)⟩)::qs)=true)↔((K6 (g x) b=some false∨Zcg g L op=some ((loc[j]?).getD .undef))∧XB g loc L qs=true):=by
 simp only [XB,Bool.and_eq_true,Bool.or_eq_true,decide_eq_true_eq]
 rfl
theorem ZCm (L:List Blk) (a:Bool) (sz:Nat) (x:X):Zcg g L (.load a sz x)=ZmP L a sz (g x):=Eq.trans rfl rfl
theorem ZKw (s:Nat):get tm loc (.t s)=(tm[s]?).getD .undef:=Eq.trans rfl rfl
theorem ZKx (s:Nat):get tm loc (.l s)=(loc[s]?).getD .undef:=Eq.trans rfl rfl
theorem ZKy (v:AV):get tm loc (.c v)=v:=Eq.trans rfl rfl
def K2 (m:Mem) (r:Option AV):Option (AV×Mem) :=
 match r with
 | some v=>some (v,m)
 | none=>none
theorem ZCn (v:AV):K2 m (some v)=some (v,m):=Eq.trans rfl rfl
theorem ZCo:K2 m none=none:=Eq.trans rfl rfl
theorem ZEA (c:Prop) [Decidable c] (a b:Option AV):K2 m (if c then a else b)=if c then K2 m a else K2 m b:=by split <;> rfl
theorem ZG {op:AO} (h:op.kind=0):aop C g m op=K2 m (JM g op):=by
 unfold aop
 cases e:JM g op with
 | some v=>rfl
 | none=>simp only [];rw [ZcX (by omega),Zba (by omega),ZcY (by omega)];rfl
theorem Zep {op:AO} (h:op.kind=1):aop C g m op=K2 m (Zcg g m.H op):=by
 unfold aop
 rw [ZeU (by omega)]
 simp only []
 cases e:Zcg g m.H op with
 | some v=>rfl
 | none=>simp only [];rw [Zba (by omega),ZcY (by omega)];rfl
theorem Zai {op:AO} (h:op.kind=3):aop C g m op=ZeE C g m op:=by
 unfold aop
 rw [ZeU (by omega),ZcX (by omega),Zba (by omega)]
theorem Zll {op:AO} (h:op.kind=2):aop C g m op=match Qu g op with | some (cs,v)=>some (v m.H.length,newBlk m cs) | none=>none:=by
 unfold aop
 rw [ZeU (by omega),ZcX (by omega)]
 simp only []
 cases Qu g op with
 | some p=>rfl
 | none=>simp only [];exact ZcY (by omega)
theorem ZJs (x:X):aop C g m (.mv x)=some (g x,m):=Eq.trans rfl rfl
theorem ZIj (c:Nat) (o:BinOp) (x y:X):aop C g m (.bin c o x y)=K2 m (Xv c o (g x) (g y)):=ZG rfl
def ZJt (c a b:AV):Option AV :=
 match c with
 | .bool true=>some a
 | .bool false=>some b
 | _=>none
theorem ZCp (c:Bool) (a b:AV):ZJt (.bool c) a b=some (if c=true then a else b):=by cases c <;> rfl
theorem ZG5 (c a b:X):aop C g m (.pick c a b)=K2 m (ZJt (g c) (g a) (g b)):=ZG rfl
theorem ZJu (o:UnOp) (x:X):aop C g m (.un o x)=K2 m (ZJd o (g x)):=ZG rfl
theorem Zwm (f:FuncId) (a b:List X):aop C g m (.makeFunc f a b)=some (.fn f (a.map g) (b.map g),m):=Eq.trans rfl rfl
def ZJv (k:IntKind) (v:AV):Option AV :=
 match v with
 | .int _ n=>some (.int k (k.wrap n))
 | _=>none
theorem ZEB (k k':IntKind) (n:Int):ZJv k (.int k' n)=some (.int k (k.wrap n)):=Eq.trans rfl rfl
theorem ZG6 (k:IntKind) (x:X):aop C g m (.conv k x)=K2 m (ZJv k (g x)):=ZG rfl
def ZAC (ks:List Nat) (neg:Bool) (a b:AV):Option AV :=
 match a,b with
 | .agg xs,.agg ys=>(Zhi ks xs ys).map fun b=>.bool (if neg then !b else b)
 | _,_=>none
theorem Zwn (ks:List Nat) (neg:Bool) (xs ys:List AV):ZAC ks neg (.agg xs) (.agg ys)=(Zhi ks xs ys).map fun b=>.bool (if neg then !b else b):=Eq.trans rfl rfl
theorem Zzg (ks:List Nat) (neg:Bool) (x y:X):aop C g m (.eqCells ks neg x y)=K2 m (ZAC ks neg (g x) (g y)):=ZG rfl
def Zse (off:Nat) (v:AV):Option AV :=
 match v with
 | .ptr (some (b,o))=>some (.ptr (some (b,o+off)))
 | _=>none
theorem Zrk (off b o:Nat):Zse off (.ptr (some (b,o)))=some (.ptr (some (b,o+off))):=Eq.trans rfl rfl
theorem ZtT (off:Nat) (x:X):aop C g m (.fieldAddr off x)=K2 m (Zse off (g x)):=ZG rfl
def ZHU (agg:Bool) (off sz:Nat) (v:AV):Option AV :=
 match v with
 | .agg cs=>Zco agg cs off sz
 | _=>none
theorem ZCq (agg:Bool) (off sz:Nat) (cs:List AV):ZHU agg off sz (.agg cs)=Zco agg cs off sz:=Eq.trans rfl rfl
theorem ZEC (agg:Bool) (off sz:Nat) (x:X):aop C g m (.field agg off sz x)=K2 m (ZHU agg off sz (g x)):=ZG rfl
def ZpK (sz:Nat) (v i:AV):Option AV :=
 match v,i with
 | .slice (some (b,o)) sz' n _,.int _ i=>if 0≤i∧i<n∧sz'=sz then some (.ptr (some (b,o+i.toNat*sz))) else none
 | _,_=>none
theorem Zmr (sz b o sz' n:Nat) (c:Option Nat) (k:IntKind) (i:Int):ZpK sz (.slice (some (b,o)) sz' n c) (.int k i)=if 0≤i∧i<n∧sz'=sz then some (.ptr (some (b,o+i.toNat*sz))) else none:=Eq.trans rfl rfl
theorem Zrl (sz:Nat) (x i:X):aop C g m (.indexAddrS sz x i)=K2 m (ZpK sz (g x) (g i)):=ZG rfl
def ZpL (n sz:Nat) (v i:AV):Option AV :=
 match v,i with
 | .ptr (some (b,o)),.int _ i=>if 0≤i∧i<n then some (.ptr (some (b,o+i.toNat*sz))) else none
 | _,_=>none
theorem ZpM (n sz b o:Nat) (k:IntKind) (i:Int):ZpL n sz (.ptr (some (b,o))) (.int k i)=if 0≤i∧i<n then some (.ptr (some (b,o+i.toNat*sz))) else none:=Eq.trans rfl rfl
theorem Zrm (n sz:Nat) (x i:X):aop C g m (.indexAddrA n sz x i)=K2 m (ZpL n sz (g x) (g i)):=ZG rfl
def ZED (agg:Bool) (n sz:Nat) (v i:AV):Option AV :=
 match v,i with
 | .agg cs,.int _ i=>if 0≤i∧i<n then Zco agg cs (i.toNat*sz) sz else none
 | _,_=>none
theorem Zzh (agg:Bool) (n sz:Nat) (cs:List AV) (k:IntKind) (i:Int):ZED agg n sz (.agg cs) (.int k i)=if 0≤i∧i<n then Zco agg cs (i.toNat*sz) sz else none:=Eq.trans rfl rfl
theorem ZCr (agg:Bool) (n sz:Nat) (x i:X):aop C g m (.indexA agg n sz x i)=K2 m (ZED agg n sz (g x) (g i)):=ZG rfl
def ZEE (v i:AV):Option AV :=
 match v,i with
 | .str s,.int _ i=>if 0≤i then (s[i.toNat]?).map fun b=>.int .u8 b.toNat else none
 | _,_=>none
theorem Zzi (s:ByteArray) (k:IntKind) (i:Int):ZEE (.str s) (.int k i)=if 0≤i then (s[i.toNat]?).map fun b=>.int .u8 b.toNat else none:=Eq.trans rfl rfl
theorem ZCs (x i:X):aop C g m (.indexS x i)=K2 m (ZEE (g x) (g i)):=ZG rfl
def ZAD (i:Nat) (v:AV):Option AV :=
 match v with
 | .tup vs=>vs[i]?
 | _=>none
theorem Zwo (i:Nat) (vs:List AV):ZAD i (.tup vs)=vs[i]?:=Eq.trans rfl rfl
theorem Zzj (i:Nat) (x:X):aop C g m (.extract i x)=K2 m (ZAD i (g x)):=ZG rfl
def ZK0 (v:AV):Option AV :=
 match v with
 | .slice _ _ n _=>some (.int .i64 n)
 | _=>none
theorem ZCt (p:Option (Nat×Nat)) (sz n:Nat) (c:Option Nat):ZK0 (.slice p sz n c)=some (.int .i64 n):=Eq.trans rfl rfl
theorem ZIk (x:X):aop C g m (.len x)=K2 m (ZK0 (g x)):=ZG rfl
def Zzk (v:AV):Option AV :=
 match v with
 | .str s=>some (.int .i64 s.size)
 | _=>none
theorem Zzl (s:ByteArray):Zzk (.str s)=some (.int .i64 s.size):=Eq.trans rfl rfl
theorem ZCu (x:X):aop C g m (.lenStr x)=K2 m (Zzk (g x)):=ZG rfl
theorem ZG7 (n:Nat):aop C g m (.lenA n)=some (.int .i64 n,m):=Eq.trans rfl rfl
def ZIl (a b:AV):Option AV :=
 match a,b with
 | .int k a,.int k' b=>if k=k' then some (.int k (if b>a then b else a)) else none
 | _,_=>none
theorem ZEF (k:IntKind) (a b:Int):ZIl (.int k a) (.int k b)=some (.int k (if b>a then b else a)):=by simp [ZIl]
theorem ZG8 (x y:X):aop C g m (.max2 x y)=K2 m (ZIl (g x) (g y)):=ZG rfl
def ZIm (a b:AV):Option AV :=
 match a,b with
 | .int k a,.int k' b=>if k=k' then some (.int k (if b<a then b else a)) else none
 | _,_=>none
theorem ZEG (k:IntKind) (a b:Int):ZIm (.int k a) (.int k b)=some (.int k (if b<a then b else a)):=by simp [ZIm]
theorem ZG9 (x y:X):aop C g m (.min2 x y)=K2 m (ZIm (g x) (g y)):=ZG rfl
theorem ZEH (zero:List AV) (parts:List (Nat×Nat×X)):aop C g m (.build zero parts)=K2 m ((Zc g zero parts).map .agg):=ZG rfl
theorem ZHa (a:Bool) (sz:Nat) (x:X):aop C g m (.load a sz x)=K2 m (ZmP m.H a sz (g x)):=Zep rfl
theorem ZEI (zero:List AV):aop C g ⟨H,e⟩ (.alloc zero)=some (.ptr (some (H.length,0)),⟨H++[.cells zero true],e⟩):=Eq.trans rfl rfl
def ZK1 (H:List Blk) (e:Option Nat) (cs:Option (List AV)):Option (AV×Mem) :=
 match cs with
 | some cs=>some (.ptr (some (H.length,0)),⟨H++[.cells cs true],e⟩)
 | none=>none
theorem ZEJ (cs:List AV):ZK1 H e (some cs)=some (.ptr (some (H.length,0)),⟨H++[.cells cs true],e⟩):=Eq.trans rfl rfl
theorem ZIn (x:X):aop C g ⟨H,e⟩ (.box x)=ZK1 H e (Kq (g x)):=by
 rw [Zll rfl]
 have h:Qu g (.box x)=(Kq (g x)).map fun cs=>(cs,fun b=>.ptr (some (b,0))):=rfl
 rw [h]
 cases Kq (g x) <;> rfl
def ZpN (H:List Blk) (e:Option Nat) (sz len:Nat) (cs:Option (List AV)):Option (AV×Mem) :=
 match cs with
 | some cs=>some (.slice (some (H.length,0)) sz len (some len),⟨H++[.cells cs true],e⟩)
 | none=>none
theorem ZnR (sz len:Nat) (cs:List AV):ZpN H e sz len (some cs)=some (.slice (some (H.length,0)) sz len (some len),⟨H++[.cells cs true],e⟩):=Eq.trans rfl rfl
theorem Zrn (sz len:Nat) (zero:List AV) (parts:List (Nat×Nat×X)):aop C g ⟨H,e⟩ (.buildSlice sz len zero parts)=ZpN H e sz len (Zc g zero parts):=by
 rw [Zll rfl]
 have h:Qu g (.buildSlice sz len zero parts)=(Zc g zero parts).map fun cs=>(cs,fun b=>.slice (some (b,0)) sz len (some len)):=rfl
 rw [h]
 cases Zc g zero parts <;> rfl
def ZEK (H:List Blk) (e:Option Nat) (sz:Nat) (a x:AV):Option (AV×Mem) :=
 match a,Kq x with
 | .ptr (some (b,o)),some new=>match H[b]? with
  | some (.cells cs true)=>
   if new.length=sz∧0<sz∧o+sz≤cs.length then
    some (.tup [],⟨H.set b (.cells (ZN cs o new) true),if (new.all fun v=>v.under (b+1)) then e else Z7 e b⟩)
   else none
  | _=>none
 | _,_=>none
theorem ZEL (sz:Nat) (a x:X):aop C g ⟨H,e⟩ (.store sz a x)=ZEK H e sz (g a) (g x):=by
 rw [Zai rfl];rfl
def ZJw (C:FuncId→List AV→Mem→Option (AV×Mem)) (f:AV) (args:List AV) (m:Mem):Option (AV×Mem) :=
 match f with
 | .fn f first captured=>C f (first++args++captured) m
 | _=>none
theorem ZHb (f:FuncId) (first captured args:List AV):ZJw C (.fn f first captured) args m=C f (first++args++captured) m:=Eq.trans rfl rfl
theorem ZHc (f:X) (args:List X):aop C g m (.call f args)=ZJw C (g f) (args.map g) m:=by
 rw [Zai rfl]
 rfl
def Zsf (H:List Blk) (e:Option Nat) (sz bytes:Nat) (zero:List AV) (len cap:AV):Option (AV×Mem) :=
 match len,cap with
 | .int .i64 l,.int .i64 c=>if 0≤l∧l=c∧l*bytes≤maxBytes then
   some (.slice (some (H.length,0)) sz l.toNat (some l.toNat),⟨H++[.cells (Zhb l.toNat zero) true],e⟩) else none
 | _,_=>none
theorem Zro (sz bytes:Nat) (zero:List AV) (l c:Int):Zsf H e sz bytes zero (.int .i64 l) (.int .i64 c)=if 0≤l∧l=c∧l*bytes≤maxBytes then
   some (.slice (some (H.length,0)) sz l.toNat (some l.toNat),⟨H++[.cells (Zhb l.toNat zero) true],e⟩) else none:=rfl
theorem ZtU (sz bytes:Nat) (zero:List AV) (len cap:X):aop C g ⟨H,e⟩ (.makeSlice sz bytes zero len cap)=Zsf H e sz bytes zero (g len) (g cap):=by
 rw [Zai rfl];rfl
def Q5 (H:List Blk) (e:Option Nat) (str:Bool) (sz bytes:Nat) (s x:AV):Option (AV×Mem) :=
 match s with
 | .slice none _ _ _=>match Y2 str H x with
  | some (n,cs)=>if n=0 then some (ZZ,⟨H,e⟩)
    else if n*bytes≤maxBytes∧cs.length=n*sz then some (.slice (some (H.length,0)) sz n none,⟨H++[.cells cs true],e⟩) else none
  | none=>none
 | .slice (some (b,o)) sz' n cap=>match H[b]?,Y2 str H x with
  | some (.cells old wr),some (k,cs)=>
   if sz'=sz∧(n+k)*bytes≤maxBytes∧cs.length=k*sz∧o+n*sz≤old.length then
    if cap=some 0∧0<k then some (.slice (some (H.length,0)) sz (n+k) none,⟨H++[.cells cs true],e⟩)
    else if wr then some (.slice (some (H.length,0)) sz (n+k) none,⟨H.set b .dead++[.cells ((old.drop o).take (n*sz)++cs) true],e⟩)
    else none
   else none
  | _,_=>none
 | _=>none
theorem ZCv (str:Bool) (sz bytes:Nat) (s x:X):aop C g ⟨H,e⟩ (.append str sz bytes s x)=Q5 H e str sz bytes (g s) (g x):=by
 rw [Zai rfl];rfl
theorem ZEM (k:IntKind) (a b:Int):Xv 0 .add (.int k a) (.int k b)=some (.int k (k.wrap (a+b))):=by simp [Xv,Zcp]
theorem ZEN (k:IntKind) (a b:Int):Xv 0 .sub (.int k a) (.int k b)=some (.int k (k.wrap (a - b))):=by simp [Xv,Zcp]
theorem ZEO (k:IntKind) (a b:Int):Xv 0 .mul (.int k a) (.int k b)=some (.int k (k.wrap (a*b))):=by simp [Xv,Zcp]
theorem ZEP (k:IntKind) (a b:Int):Xv 0 .quo (.int k a) (.int k b)=if b=0 then none else some (.int k (k.wrap (a.tdiv b))):=by simp [Xv,Zcp]
theorem ZEQ (k:IntKind) (a b:Int):Xv 0 .rem (.int k a) (.int k b)=if b=0 then none else some (.int k (a.tmod b)):=by simp [Xv,Zcp]
theorem ZER (k:IntKind) (a b:Int):Xv 0 .eql (.int k a) (.int k b)=some (.bool (decide (a=b))):=by simp [Xv,Zcp]
theorem ZES (k:IntKind) (a b:Int):Xv 0 .neq (.int k a) (.int k b)=some (.bool (!decide (a=b))):=by simp [Xv,Zcp]
theorem ZET (k:IntKind) (a b:Int):Xv 0 .lss (.int k a) (.int k b)=some (.bool (decide (a<b))):=by simp [Xv,Zcp]
theorem ZEU (k:IntKind) (a b:Int):Xv 0 .leq (.int k a) (.int k b)=some (.bool (decide (a≤b))):=by simp [Xv,Zcp]
theorem ZEV (k:IntKind) (a b:Int):Xv 0 .gtr (.int k a) (.int k b)=some (.bool (decide (b<a))):=by simp [Xv,Zcp]
theorem ZEW (k:IntKind) (a b:Int):Xv 0 .geq (.int k a) (.int k b)=some (.bool (decide (b≤a))):=by simp [Xv,Zcp]
def ZKi (k:IntKind) (a b:Int):Int:=k.wrap (a*2 ^ (min b.toNat k.bits))
def ZJe (k:IntKind) (a b:Int):Int:=a.fdiv (2 ^ (min b.toNat k.bits))
def ZKj (k:IntKind) (a b:Int):Int:=k.wrap (BitVec.ofInt k.bits a &&& BitVec.ofInt k.bits b).toNat
def orI (k:IntKind) (a b:Int):Int:=k.wrap (BitVec.ofInt k.bits a ||| BitVec.ofInt k.bits b).toNat
def ZK2 (k:IntKind) (a b:Int):Int:=k.wrap (BitVec.ofInt k.bits a ^^^ BitVec.ofInt k.bits b).toNat
def ZEX (k:IntKind) (a b:Int):Int:=k.wrap (BitVec.ofInt k.bits a &&& ~~~BitVec.ofInt k.bits b).toNat
theorem Zwp (k k':IntKind) (a b:Int):Xv 0 .shl (.int k a) (.int k' b)=if b<0 then none else some (.int k (ZKi k a b)):=by simp [Xv,Zcp,ZKi]
theorem Zwq (k k':IntKind) (a b:Int):Xv 0 .shr (.int k a) (.int k' b)=if b<0 then none else some (.int k (ZJe k a b)):=by simp [Xv,Zcp,ZJe]
theorem ZCw (k:IntKind) (a b:Int):Xv 0 .and (.int k a) (.int k b)=some (.int k (ZKj k a b)):=by simp [Xv,Zcp,ZKj]
theorem ZEY (k:IntKind) (a b:Int):Xv 0 .or (.int k a) (.int k b)=some (.int k (orI k a b)):=by simp [Xv,Zcp,orI]
theorem ZCx (k:IntKind) (a b:Int):Xv 0 .xor (.int k a) (.int k b)=some (.int k (ZK2 k a b)):=by simp [Xv,Zcp,ZK2]
theorem ZtV (k:IntKind) (a b:Int):Xv 0 .andNot (.int k a) (.int k b)=some (.int k (ZEX k a b)):=by simp [Xv,Zcp,ZEX]
theorem ZCy (a b:Bool):Xv 2 .eql (.bool a) (.bool b)=some (.bool (a==b)):=Eq.trans rfl rfl
theorem ZCz (a b:Bool):Xv 2 .neq (.bool a) (.bool b)=some (.bool (!(a==b))):=Eq.trans rfl rfl
theorem ZCA (a b:ByteArray):Xv 1 .eql (.str a) (.str b)=some (.bool (decide (a=b))):=Eq.trans rfl rfl
theorem ZCB (a b:ByteArray):Xv 1 .neq (.str a) (.str b)=some (.bool (!decide (a=b))):=Eq.trans rfl rfl
theorem ZHd (k:IntKind) (n:Int):ZJd .neg (.int k n)=some (.int k (k.wrap (0 - n))):=Eq.trans rfl rfl
theorem ZHe (b:Bool):ZJd .not (.bool b)=some (.bool !b):=Eq.trans rfl rfl
theorem Zzm:setOuts tm loc []=tm:=Eq.trans rfl rfl
theorem Zwr (s j:Nat) (rest:List (Nat×Nat)):setOuts tm loc ((s,j)::rest)=setOuts (tm.set s ((loc[j]?).getD .undef)) loc rest:=Eq.trans rfl rfl
theorem ZhN (l:List Blk):Zb (H++l) H.length=Zb l 0:=by simp [Zb,List.getElem?_append_right]
theorem KG (l:List Blk) (k:Nat):Zb (H++l) (H.length+k)=Zb l k:=by simp [Zb,List.getElem?_append_right]
theorem ZtW (cs:List AV) (wr:Bool) (l:List Blk):Zb (.cells cs wr::l) 0=some cs:=Eq.trans rfl rfl
theorem ZtX (b:Blk) (l:List Blk) (k:Nat):Zb (b::l) (k+1)=Zb l k:=Eq.trans rfl rfl
theorem Zzn {b:Nat} {cs:List AV} (l:List Blk) (h:Zb H b=some cs):Zb (H++l) b=some cs:=by
 unfold Zb at *
 cases hb:H[b]? with
 | none=>rw [hb] at h;cases h
 | some x=>
  have hlt:=(List.getElem?_eq_some_iff.mp hb).1
  rw [List.getElem?_append_left hlt,hb]
  rw [hb] at h
  exact h
def ZHV (agg:Bool) (cs:Option (List AV)) (o sz:Nat):Option AV :=
 match cs with
 | some cs=>Zco agg cs o sz
 | none=>none
theorem Zzo (agg:Bool) (cs:List AV) (o sz:Nat):ZHV agg (some cs) o sz=Zco agg cs o sz:=Eq.trans rfl rfl
theorem ZCC (agg:Bool) (sz b o:Nat) (L:List Blk):ZmP L agg sz (.ptr (some (b,o)))=ZHV agg (Zb L b) o sz:=by
 have h:ZmP L agg sz (.ptr (some (b,o)))=match Zb L b with
  | none=>none
  | some cs=>if agg then (if o+sz≤cs.length then some (.agg ((cs.drop o).take sz)) else none) else cs[o]?:=rfl
 rw [h]
 cases Zb L b <;> rfl
theorem Zfd (cs:List AV) (o sz:Nat):Zco false cs o sz=cs[o]?:=Eq.trans rfl rfl
theorem ZpO (cs:List AV) (o sz:Nat):Zco true cs o sz=if o+sz≤cs.length then some (.agg ((cs.drop o).take sz)) else none:=Eq.trans rfl rfl
theorem ZIo (c:AV) (cs:List AV) (sz:Nat):Zco false (c::cs) 0 sz=some c:=Eq.trans rfl rfl
theorem ZaQ (c:AV) (cs:List AV) (k sz:Nat):Zco false (c::cs) (k+1) sz=Zco false cs k sz:=Eq.trans rfl rfl
theorem ZIp (c:AV) (cs:List AV) (sz:Nat):Zco true (c::cs) 0 sz=if sz≤cs.length+1 then some (.agg ((c::cs).take sz)) else none:=by
 rw [ZpO];simp
theorem Zms (c:AV) (cs:List AV) (k sz:Nat):Zco true (c::cs) (k+1) sz=Zco true cs k sz:=by
 rw [ZpO,ZpO]
 have:(k+1+sz≤(c::cs).length)↔(k+sz≤cs.length):=by simp;omega
 simp only [this,List.drop_succ_cons]
theorem Zzp (cs:List AV):Kq (.agg cs)=some cs:=Eq.trans rfl rfl
theorem Zzq (k:IntKind) (n:Int):Kq (.int k n)=some [.int k n]:=Eq.trans rfl rfl
theorem Zws (b:Bool):Kq (.bool b)=some [.bool b]:=Eq.trans rfl rfl
theorem Zzr (s:ByteArray):Kq (.str s)=some [.str s]:=Eq.trans rfl rfl
theorem Zzs (p:Option (Nat×Nat)):Kq (.ptr p)=some [.ptr p]:=Eq.trans rfl rfl
theorem ZtY (p:Option (Nat×Nat)) (sz n:Nat) (c:Option Nat):Kq (.slice p sz n c)=some [.slice p sz n c]:=Eq.trans rfl rfl
theorem ZCD (f:FuncId) (a b:List AV):Kq (.fn f a b)=some [.fn f a b]:=Eq.trans rfl rfl
theorem Zwt (c:Prop) [Decidable c] (t t':List AV) (m:Mem):(if c then some (Ex.normal,(⟨t,m⟩:St)) else some (Ex.normal,⟨t',m⟩))=some (Ex.normal,⟨if c then t else t',m⟩):=by split <;> rfl
theorem ZCE (c:Prop) [Decidable c] (a b:AV) (az bs:List AV):(if c then a::az else b::bs)=(if c then a else b)::(if c then az else bs):=by split <;> rfl
theorem ZCF (c:Prop) [Decidable c] (a b:Bool):(if c then AV.bool a else AV.bool b)=AV.bool (if c then a else b):=by split <;> rfl
theorem ZEZ (c:Prop) [Decidable c] (k:IntKind) (a b:Int):(if c then AV.int k a else AV.int k b)=AV.int k (if c then a else b):=by split <;> rfl
theorem ZJx (F:ZH) (m:Mem) (st:St):ZoR F m st=match Yj st.tm st.m.H F.results with
 | some vs=>finish F.mode m.H.length m.esc (Zhj vs) st.m
 | none=>none:=rfl
theorem Zrp (L:List Blk):Yj tm L []=some []:=Eq.trans rfl rfl
def ZIq (a:Option AV) (az:Option (List AV)):Option (List AV) :=
 match a,az with
 | some v,some vs=>some (v::vs)
 | _,_=>none
theorem ZCG (v:AV) (vs:List AV):ZIq (some v) (some vs)=some (v::vs):=Eq.trans rfl rfl
theorem Zrq (L:List Blk) (s:Nat) (rs:List AR):Yj tm L (.tmp s::rs)=ZIq (some ((tm[s]?).getD .undef)) (Yj tm L rs):=by
 rw [Yj];cases Yj tm L rs <;> rfl
theorem ZpP (L:List Blk) (s:Nat) (agg:Bool) (sz:Nat) (rs:List AR):Yj tm L (.cell s agg sz::rs)=ZIq (ZmP L agg sz ((tm[s]?).getD .undef)) (Yj tm L rs):=by
 rw [Yj];cases Yj tm L rs <;> simp only [ZAt] <;> cases ZmP L agg sz ((tm[s]?).getD .undef) <;> rfl
def ZK3 (F:ZH) (m:Mem) (vs:Option (List AV)) (m':Mem):Option (AV×Mem) :=
 match vs with
 | some vs=>finish F.mode m.H.length m.esc (Zhj vs) m'
 | none=>none
theorem Zzt (F:ZH) (m:Mem) (st:St):ZoR F m st=ZK3 F m (Yj st.tm st.m.H F.results) st.m:=Eq.trans rfl rfl
theorem ZE0 (F:ZH) (m:Mem) (vs:List AV) (m':Mem):ZK3 F m (some vs) m'=finish F.mode m.H.length m.esc (Zhj vs) m':=Eq.trans rfl rfl
theorem Zzu (v:AV) (lim:Nat) (e0 e1:Option Nat) (L:List Blk):finish 0 lim e0 v ⟨L,e1⟩=some (v,⟨L,joinEsc e0 e1⟩):=Eq.trans rfl rfl
theorem Zsg (v:AV) (e0:Option Nat) (l:List Blk) (h:v.under H.length=true):finish 1 H.length e0 v ⟨H++l,none⟩=some (v,⟨H,e0⟩):=by
 simp [finish,h,clean]
theorem Zgz (v:AV) (e0:Option Nat) (h:v.under H.length=true):finish 1 H.length e0 v ⟨H,none⟩=some (v,⟨H,e0⟩):=by
 simp [finish,h,clean]
theorem ZnS (sz n:Nat) (c:Option Nat) (cs:List AV) (wr:Bool) (e0:Option Nat) (h:(cs.all fun c=>c.under H.length)=true) :
  finish 2 H.length e0 (.slice (some (H.length,0)) sz n c) ⟨H++[.cells cs wr],none⟩=some (.slice (some (H.length,0)) sz n c,⟨H++[.cells cs wr],e0⟩):=by
 have hr:XQ (AV.roots H.length (.slice (some (H.length,0)) sz n c))=[H.length]:=by simp [AV.roots,XQ]
 unfold finish
 simp only [hr]
 have h2:([H.length].all fun b=>Y5 H.length (H++[Blk.cells cs wr])[b]?)=true:=by
  simp [Y5,List.getElem?_append_right]
  simpa using h
 simp only [clean,h2,and_self,if_true]
 simp [AV.rename,ZbT,List.getElem?_append_right]
theorem ZcS {G:List Blk} {j sz n o:Nat} {c:Option Nat} {cs:List AV} {wr:Bool} (e0:Option Nat) (hG:G[j]?=some (.cells cs wr)) (h:(cs.all fun c=>c.under H.length)=true) :
  finish 2 H.length e0 (.slice (some (H.length+j,o)) sz n c) ⟨H++G,none⟩=some (.slice (some (H.length,o)) sz n c,⟨H++[.cells cs wr],e0⟩):=by
 have hlt:¬ H.length+j<H.length:=by omega
 have hr:XQ (AV.roots H.length (.slice (some (H.length+j,o)) sz n c))=[H.length+j]:=by
  unfold AV.roots
  rw [if_neg hlt]
  rfl
 have hb:(H++G)[H.length+j]?=some (.cells cs wr):=by rw [List.getElem?_append_right (by omega)];simpa using hG
 unfold finish
 simp only [hr]
 have h2:([H.length+j].all fun b=>Y5 H.length (H++G)[b]?)=true:=by
  simp only [List.all_cons,List.all_nil,Bool.and_true,hb,Y5]
  exact h
 simp only [clean,h2,and_self,if_true]
 simp [AV.rename,ZbT,hb,hlt]
theorem ZCH (v:AV):Zhj [v]=v:=Eq.trans rfl rfl
theorem ZCI:Zhj []=.tup []:=Eq.trans rfl rfl
theorem ZCJ (a b:AV) (vs:List AV):Zhj (a::b::vs)=.tup (a::b::vs):=Eq.trans rfl rfl
theorem ZE1 (n:Nat) (k:IntKind) (x:Int):(AV.int k x).under n=true:=by simp [AV.under]
theorem Zmt (n:Nat) (x:Bool):(AV.bool x).under n=true:=by simp [AV.under]
theorem Zwu (n:Nat) (x:ByteArray):(AV.str x).under n=true:=by simp [AV.under]
theorem ZE2 (n:Nat) (x:List AV):(AV.agg x).under n=AV.under.go n x:=by simp [AV.under]
theorem ZE3 (n:Nat) (x:List AV):(AV.tup x).under n=AV.under.go n x:=by simp [AV.under]
theorem ZCK (n:Nat) (a:AV) (x:List AV):AV.under.go n (a::x)=(a.under n&&AV.under.go n x):=Eq.trans rfl rfl
theorem ZE4 (n:Nat):AV.under.go n []=true:=Eq.trans rfl rfl
theorem ZY (l:List Blk):(H++l)[H.length]?=l[0]?:=by simp [List.getElem?_append_right]
theorem Zsh (l:List Blk) (k:Nat):(H++l)[H.length+k]?=l[k]?:=by simp [List.getElem?_append_right]
theorem ZHf (l:List Blk) (b:Blk):(H++l).set H.length b=H++l.set 0 b:=by simp [List.set_append_right]
theorem Zlm (l:List Blk) (b:Blk) (k:Nat):(H++l).set (H.length+k) b=H++l.set k b:=by simp [List.set_append_right]
def Zzv (H:List Blk) (e:Option Nat) (b:Nat) (blk:Option Blk) (sz o:Nat) (new:Option (List AV)):Option (AV×Mem) :=
 match new,blk with
 | some new,some (Blk.cells cs true)=>if new.length=sz∧0<sz∧o+sz≤cs.length then
    some (.tup [],⟨H.set b (.cells (ZN cs o new) true),if (new.all fun v=>v.under (b+1)) then e else Z7 e b⟩) else none
 | _,_=>none
theorem ZCL (L:List Blk) (sz b o:Nat) (x:AV):ZEK L e sz (.ptr (some (b,o))) x=Zzv L e b L[b]? sz o (Kq x):=by
 unfold ZEK Zzv
 cases Kq x with
 | none=>rfl
 | some new=>
  simp only []
  cases L[b]? with
  | none=>rfl
  | some B=>cases B with
   | dead=>rfl
   | mp es=>rfl
   | cells cs wr=>cases wr <;> rfl
theorem ZtZ (L:List Blk) (b:Nat) (cs new:List AV) (sz o:Nat):Zzv L e b (some (.cells cs true)) sz o (some new) =
  if new.length=sz∧0<sz∧o+sz≤cs.length then some (.tup [],⟨L.set b (.cells (ZN cs o new) true),if (new.all fun v=>v.under (b+1)) then e else Z7 e b⟩) else none:=Eq.trans rfl rfl
theorem ZCM (c:AV) (cs:List AV) (x:AV) (xs:List AV):ZN (c::cs) 0 (x::xs)=x::ZN cs 0 xs:=by simp [ZN]
theorem Z5 (c:AV) (cs:List AV) (k:Nat) (xs:List AV):ZN (c::cs) (k+1) xs=c::ZN cs k xs:=by
 simp [ZN,Nat.add_right_comm]
theorem Zwv (cs:List AV):ZN cs 0 []=cs:=by simp [ZN]
theorem ZHg (p:AV→Bool) (c:AV) (cs:List AV):(c::cs).all p=(p c&&cs.all p):=rfl
theorem ZIr (p:AV→Bool):([]:List AV).all p=true:=Eq.trans rfl rfl
theorem ZP {x:Int} (h1 : -9223372036854775808≤x) (h2:x≤9223372036854775807):IntKind.i64.wrap x=x:=by
 have:IntKind.i64.wrap x=x:=by
  unfold IntKind.wrap
  simp [IntKind.signed,IntKind.bits]
  omega
 exact this
def Zfe (H:List Blk) (b:Nat):Option (List (List Int×Int)) :=
 match H[b]? with
 | some (.mp es)=>some es
 | _=>none
def ZKk (ok:Bool) (es:Option (List (List Int×Int))) (z:Option (List Int)):Option AV :=
 match es,z with
 | some es,some z=>some (if ok then .tup [.int .i64 ((ZuJ es z).getD 0),.bool (ZuJ es z).isSome] else .int .i64 ((ZuJ es z).getD 0))
 | _,_=>none
theorem ZE5 (ok:Bool) (es:List (List Int×Int)) (z:List Int):ZKk ok (some es) (some z)=some (if ok then .tup [.int .i64 ((ZuJ es z).getD 0),.bool (ZuJ es z).isSome] else .int .i64 ((ZuJ es z).getD 0)):=Eq.trans rfl rfl
def Zt0 (H:List Blk) (ok:Bool) (v k:AV):Option AV :=
 match v with
 | .map (some b)=>ZKk ok (Zfe H b) (ZDN k)
 | _=>none
theorem Zzw (L:List Blk) (ok:Bool) (b:Nat) (k:AV):Zt0 L ok (.map (some b)) k=ZKk ok (Zfe L b) (ZDN k):=Eq.trans rfl rfl
theorem Znl (L:List Blk) (ok:Bool) (x k:X):Zcg g L (.getMap ok x k)=Zt0 L ok (g x) (g k):=by
 simp only [Zcg,Zt0,Zfe]
 generalize g x=v
 generalize ZDN (g k)=z
 cases v with
 | map p=>
  cases p with
  | none=>rfl
  | some b=>
   cases z with
   | none=>simp only [ZKk];cases L[b]? with
    | none=>rfl
    | some B=>cases B <;> rfl
   | some z=>simp only [];cases L[b]? with
    | none=>rfl
    | some B=>cases B <;> rfl
 | _=>rfl
def Zt1 (H:List Blk) (v:AV):Option AV :=
 match v with
 | .map (some b)=>(Zfe H b).map fun es=>.int .i64 es.length
 | _=>none
theorem Zzx (L:List Blk) (b:Nat):Zt1 L (.map (some b))=(Zfe L b).map fun es=>.int .i64 es.length:=Eq.trans rfl rfl
theorem Znm (L:List Blk) (x:X):Zcg g L (.lenMap x)=Zt1 L (g x):=by
 simp only [Zcg,Zt1,Zfe]
 generalize g x=v
 cases v with
 | map p=>
  cases p with
  | none=>rfl
  | some b=>simp only [];cases L[b]? with
   | none=>rfl
   | some B=>cases B <;> rfl
 | _=>rfl
def ZKl (H:List Blk) (e:Option Nat) (b:Nat) (es:Option (List (List Int×Int))) (z:Option (List Int)) (v:AV):Option (AV×Mem) :=
 match es,z,v with
 | some es,some z,.int .i64 n=>some (.tup [],⟨H.set b (.mp (mput es z n)),e⟩)
 | _,_,_=>none
theorem ZE6 (L:List Blk) (b:Nat) (es:List (List Int×Int)) (z:List Int) (n:Int):ZKl L e b (some es) (some z) (.int .i64 n)=some (.tup [],⟨L.set b (.mp (mput es z n)),e⟩):=Eq.trans rfl rfl
def Zt2 (H:List Blk) (e:Option Nat) (x k v:AV):Option (AV×Mem) :=
 match x with
 | .map (some b)=>ZKl H e b (Zfe H b) (ZDN k) v
 | _=>none
theorem Zzy (L:List Blk) (b:Nat) (k v:AV):Zt2 L e (.map (some b)) k v=ZKl L e b (Zfe L b) (ZDN k) v:=Eq.trans rfl rfl
theorem Zww (x k v:X):ZeE C g ⟨H,e⟩ (.putMap x k v)=Zt2 H e (g x) (g k) (g v):=by
 simp only [ZeE,Zt2,Zfe]
 generalize g x=a
 generalize ZDN (g k)=z
 generalize g v=y
 cases a with
 | map p=>
  cases p with
  | none=>rfl
  | some b=>
   simp only [ZKl]
   cases z with
   | none=>simp only [];cases H[b]? with
    | none=>rfl
    | some B=>cases B <;> rfl
   | some z=>
    cases y with
    | int kk n=>cases kk with
     | i64=>simp only [];cases H[b]? with
      | none=>rfl
      | some B=>cases B <;> rfl
     | _=>simp only [];cases H[b]? with
      | none=>rfl
      | some B=>cases B <;> rfl
    | _=>simp only [];cases H[b]? with
     | none=>rfl
     | some B=>cases B <;> rfl
 | _=>rfl
theorem ZCN:aop C g ⟨H,e⟩ .newMap=some (.map (some H.length),⟨H++[.mp []],e⟩):=by
 rw [Zai rfl];rfl
theorem ZCO (ok:Bool) (x k:X):aop C g m (.getMap ok x k)=K2 m (Zt0 m.H ok (g x) (g k)):=by
 rw [Zep rfl,Znl]
theorem ZCP (x:X):aop C g m (.lenMap x)=K2 m (Zt1 m.H (g x)):=by
 rw [Zep rfl,Znm]
theorem ZCQ (x k v:X):aop C g ⟨H,e⟩ (.putMap x k v)=Zt2 H e (g x) (g k) (g v):=by
 rw [Zai rfl,Zww]
theorem ZJf {a b c:Int} (ha:ZAp a=true) (hb:ZAp b=true) (hc:ZAp c=true):ZDN (.agg [.int .i64 a,.int .i64 b,.int .i64 c])=some [a,b,c]:=by
 simp [ZDN,ZxS,ha,hb,hc]
theorem ZKm {L:List Blk} {b:Nat} {es:List (List Int×Int)} (h:L[b]?=some (.mp es)):Zfe L b=some es:=by
 unfold Zfe;rw [h]
theorem ZCR (l:List Blk):Zfe (H++l) H.length=Zfe l 0:=by simp [Zfe,List.getElem?_append_right]
theorem ZCS (l:List Blk) (k:Nat):Zfe (H++l) (H.length+k)=Zfe l k:=by simp [Zfe,List.getElem?_append_right]
theorem Zzz (es:List (List Int×Int)) (l:List Blk):Zfe (.mp es::l) 0=some es:=Eq.trans rfl rfl
theorem ZzA (b:Blk) (l:List Blk) (k:Nat):Zfe (b::l) (k+1)=Zfe l k:=Eq.trans rfl rfl
end
attribute [go_sem] ZCN ZCO Zzw ZE5 ZCP Zzx ZCQ Zzy ZE6 Znl Znm ZCR ZCS Zzz ZzA
attribute [go_sem] Nat.mul_one
attribute [go_sem] ZIg ZGX ZEf ZBy ZGY ZGV ZGW ZIf Zjg ZoO ZmW ZmX Zx6 Zjh ZoP ZmY ZmZ Zx7 Zx8 Zu2 Zx9 ZoQ ZBx Zji ZoS Zm0 Zm1 Zya ZG3 ZEy ZCj ZpH ZpI ZCh ZpJ Znk Zze ZCi Zri ZtQ Zwk ZtR Zzf ZG4 ZEz ZCk ZCl ZnQ Zwl ZtS Zrj ZCm ZKw ZKx ZKy ZCn ZCo ZEA ZJs ZIj ZCp ZG5 ZJu Zwm ZEB ZG6 Zwn Zzg Zrk ZtT ZCq ZEC Zmr Zrl ZpM Zrm Zzh ZCr Zzi ZCs Zwo Zzj ZCt ZIk Zzl ZCu ZG7 ZEF ZG8 ZEG ZG9 ZEH ZHa ZEI ZEJ ZIn ZnR Zrn ZEL ZHb ZHc Zro ZtU ZCv ZEM ZEN ZEO ZEP ZEQ ZER ZES ZET ZEU ZEV ZEW Zwp Zwq ZCw ZEY ZCx ZtV ZCy ZCz ZCA ZCB ZHd ZHe Zzm Zwr ZhN KG ZtW ZtX Zzo ZCC ZIo ZaQ ZIp Zms ZY Zsh ZHf Zlm ZCL ZtZ ZCM Z5 Zwv ZHg ZIr Zzp Zzq Zws Zzr Zzs ZtY ZCD Zwt ZCE ZCF ZEZ Zrp ZCG Zrq ZpP Zzt ZE0 Zzu Zsg Zgz ZnS ZCH ZCI ZCJ ZE1 Zmt Zwu ZE2 ZE3 ZCK ZE4 List.map_cons List.map_nil List.getElem?_cons_zero List.getElem?_cons_succ List.getElem?_nil Option.getD_some Option.getD_none List.nil_append List.cons_append List.append_nil List.append_assoc List.set_cons_zero List.set_cons_succ List.length_cons List.length_nil List.length_append Nat.zero_add Nat.add_zero List.take_succ_cons List.take_zero List.drop_succ_cons List.drop_zero if_true if_false Bool.not_true Bool.not_false Bool.true_eq_false Bool.false_and Bool.and_false Bool.or_true Bool.or_false Bool.true_or Bool.false_or Nat.lt_add_one Nat.succ_pos Bool.if_false_right Bool.if_true_left Bool.if_true_right Bool.if_false_left Bool.decide_eq_true Int.toNat_natCast Int.natCast_nonneg Int.ofNat_lt ite_self Bool.true_and Bool.and_true Bool.false_eq_true Bool.not_eq_true' decide_eq_true_eq true_and and_true Option.map_some Option.map_none
@[go_sem] theorem ZKn:type_of% @entry.eq_1:=@entry.eq_1
@[go_sem] theorem ZKo:type_of% @joinEsc.eq_1:=@joinEsc.eq_1
@[go_sem] theorem ZKp:type_of% @joinEsc.eq_2:=@joinEsc.eq_2
@[go_sem] theorem ZK5:type_of% @if_pos:=@if_pos
end Go.Proofs.YtemcdiajejekoaaGreatDoor.Slim
namespace Go.Proofs.YtemcdiajejekoaaGreatDoor.Slim
open Go
open Nat renaming reduceAdd → Ra, reduceLeDiff → Rb, reduceLT → Rc, reduceEqDiff → Rd
open Nat renaming lt_irrefl → Rh, gcd → Ri, one_mul → Rq, zero_mul → Rr, div_le_self → Rt, le_refl → Rz, gcd_pos_of_pos_left → RO, pow_le_pow_right → RP, add_lt_add_iff_left → RQ
open List renaming getElem?_eq_getElem → Rj, drop_zero → Rk, length_cons → Rl, drop_eq_getElem_cons → Rm, cons_append → Rn, nil_append → Ro, drop_length → Rp, append_assoc → Rs, all_cons → Rv, all_nil → Rw, take_of_length_le → Rx, replicate → Ry, append_nil → RA, getElem?_eq_some_iff → RB, length_set → RE, foldl_cons → RF, replicate_succ → RJ, flatten_cons → RK, take_succ_eq_append_getElem → RL, length_nil → RM, getElem?_append_right → RN
open Bool renaming and_eq_true → Ru, and_eq_true_iff → RG
open Int renaming toNat_natCast → RC, natCast_mul → RD, toNat_zero → RH, toNat_one → RI
variable {pr : Zy} {H : List Blk} {e : Option Nat}
abbrev Ld:=Int×Int
def Zm:List Ld→List AV
 | []=>[]
 | l::ls=>.int .i64 l.1::.int .i64 l.2::Zm ls
theorem Z9:∀ ls:List Ld,(Zm ls).length=ls.length*2
 | []=>rfl
 | l::ls=>by simp [Zm,Z9 ls];omega
theorem Zdv:∀ a b:List Ld,Zm (a++b)=Zm a++Zm b
 | [],b=>rfl
 | l::a,b=>by simp [Zm,Zdv a b]
theorem X6 {ls:List Ld} {i:Nat} {l:Ld} (h:ls[i]?=some l):Zco true (Zm ls) (i*2) 2=some (.agg [.int .i64 l.1,.int .i64 l.2]):=by
 induction ls generalizing i with
 | nil=>simp at h
 | cons a ls ih=>
  cases i with
  | zero=>simp at h;subst h;simp [Zm,Zco]
  | succ i=>
   simp at h
   rw [show (i+1)*2=i*2+1+1 by omega,Zm,Zms,Zms]
   exact ih h
theorem JC {ls:List Ld} {i:Nat} {l:Ld} (sz:Nat) (h:ls[i]?=some l):Zco false (Zm ls) (i*2) sz=some (.int .i64 l.1):=by
 induction ls generalizing i with
 | nil=>simp at h
 | cons a ls ih=>
  cases i with
  | zero=>simp at h;subst h;simp [Zm,Zco]
  | succ i=>
   simp at h
   rw [show (i+1)*2=i*2+1+1 by omega,Zm,ZaQ,ZaQ]
   exact ih h
theorem XO {ls:List Ld} {i:Nat} {l:Ld} (sz:Nat) (h:ls[i]?=some l):Zco false (Zm ls) (i*2+1) sz=some (.int .i64 l.2):=by
 induction ls generalizing i with
 | nil=>simp at h
 | cons a ls ih=>
  cases i with
  | zero=>simp at h;subst h;simp [Zm,Zco]
  | succ i=>
   simp at h
   rw [show (i+1)*2+1=i*2+1+1+1 by omega,Zm,ZaQ,ZaQ]
   exact ih h
abbrev slL (b n:Nat) (c:Option Nat):AV:=.slice (some (b,0)) 2 n c
theorem Za {H:List Blk} {b:Nat} {cs:List AV} (h:Zb H b=some cs) (G:List Blk):Zb (H++G) b=some cs:=Zzn G h
theorem Zh {i:Nat} (h:i<9223372036854775807):IntKind.i64.wrap ((i:Int)+1)=((i+1:Nat):Int):=by
 rw [ZP (by omega) (by omega)];omega
theorem ZCT (x a:Int):call T pr Ziq [.agg [.int .i64 x,.int .i64 a]] ⟨H,e⟩=some (.agg [.int .i64 x,.int .i64 a],⟨H,e⟩):=by
 rw [Zi ZBH]
 simp +contextual only [ZiH,Zr0,go_sem,reduceIte,Ra,Rb,Rc,Rd]
theorem ZCU (x a y b:Int):call T pr Zir [.agg [.int .i64 x,.int .i64 a],.agg [.int .i64 y,.int .i64 b]] ⟨H,e⟩=some (.bool (decide (x=y)&&decide (a=b)),⟨H,e⟩):=by
 rw [Zi ZBI]
 simp +contextual only [ZiI,Zr1,go_sem,reduceIte,Ra,Rb,Rc,Rd]
 by_cases h1:x=y <;> by_cases h2:a=b <;> simp [h1,h2]
theorem Zka (n:Nat) (p:Option (Nat×Nat)) (sz:Nat) (c:Option Nat) (hn:n≤maxLen):call T pr ZfJ [.slice p sz n c,.int .i64 1048576] ⟨H,e⟩=some (.int .i64 (if n≤1048576 then 1048576 - n else -1),⟨H,e⟩):=by
 rw [Zi Zym]
 have hm:maxLen=9223372036854775807:=by decide
 simp +contextual only [Zga,ZoZ,go_sem,reduceIte,Ra,Rb,Rc,Rd]
 rw [ZP (by omega) (by omega)]
 by_cases h1:n≤1048576
 ·rw [if_neg (by omega),if_pos h1]
 ·rw [if_pos (by omega),if_neg h1]
theorem Zjq {b1 b2:Nat} {c1 c2:Option Nat} {ls:List Ld} (h1:Zb H b1=some (Zm ls)) (h2:Zb H b2=some (Zm ls)) (hn:ls.length≤9223372036854775806) :
  ∀ (k i:Nat) (x5 x6 x7:AV),k+i=ls.length→∃ y5 y6,run T pr (.loop ZcF) ⟨[slL b1 ls.length c1,slL b2 ls.length c2,.bool false,.int .i64 i,x7,x5,x6],⟨H,e⟩⟩ =
   some (.exit 0,⟨[slL b1 ls.length c1,slL b2 ls.length c2,.bool false,.int .i64 ls.length,x7,y5,y6],⟨H,e⟩⟩)
 | 0,i,x5,x6,x7,hk=>by
  have hi:i=ls.length:=by omega
  subst hi
  refine ⟨.bool false,x6,?_⟩
  rw [Zw]
  simp +contextual only [ZcF,Rh,decide_false,go_sem,reduceIte,Ra,Rb,Rc,Rd]
 | k+1,i,x5,x6,x7,hk=>by
  have hi:i<ls.length:=by omega
  obtain ⟨y5,y6,ih⟩:=Zjq (c1:=c1) (c2:=c2) h1 h2 hn k (i+1) (.bool true) (.bool false) x7 (by omega)
  refine ⟨y5,y6,?_⟩
  rw [Zw]
  have hl:ls[i]?=some ls[i]:=Rj hi
  simp +contextual only [ZcF,h1,h2,hi,hl,X6 hl,ZCU,Zh (show i<9223372036854775807 by omega),decide_true,Bool.not_true,go_sem,reduceIte,Ra,Rb,Rc,Rd]
  exact ih
theorem Yd (x a b:Int):call T pr YH [.int .i64 x,.int .i64 a,.int .i64 b] ⟨H,e⟩=some (.bool (decide (a≤x)&&decide (x≤b)),⟨H,e⟩):=by
 rw [Zi ZBC]
 simp +contextual only [ZiD,ZrW,go_sem,reduceIte,Ra,Rb,Rc,Rd]
theorem Ye (x a b:Int):call T pr YT [.int .i64 x,.int .i64 a,.int .i64 b] ⟨H,e⟩=some (.bool (decide (a≤x)&&decide (x≤b)),⟨H,e⟩):=by
 rw [Zi ZG1]
 simp +contextual only [Zod,ZAA,go_sem,reduceIte,Ra,Rb,Rc,Rd]
theorem ZgA (x:Int):call T pr Zaw [.int .i64 x] ⟨H,e⟩=some (.bool (decide (0≤x)&&decide (x≤60)),⟨H,e⟩):=by
 rw [Zi ZG2]
 simp +contextual only [Zoe,ZAB,Ye,go_sem,reduceIte,Ra,Rb,Rc,Rd]
theorem Zdw (x:Int):call T pr Jf [.int .i64 x] ⟨H,e⟩=some (.bool (decide (0≤x)&&decide (x≤60)),⟨H,e⟩):=by
 rw [Zi Zyl]
 simp +contextual only [Zf9,ZoY,Yd,go_sem,reduceIte,Ra,Rb,Rc,Rd]
theorem ZhO (x:Int):call T pr Ku [.int .i64 x] ⟨H,e⟩=some (.bool (decide (1≤x)&&decide (x≤99)),⟨H,e⟩):=by
 rw [Zi Zvo]
 simp +contextual only [Zef,Zm9,Yd,go_sem,reduceIte,Ra,Rb,Rc,Rd]
def okL (l:Ld):Bool:=(decide (0≤l.1)&&decide (l.1≤60))&&(decide (1≤l.2)&&decide (l.2≤99))
def YZ (ls:List Ld):Bool:=decide (ls.length≤12)&&ls.all okL
theorem ZzB (x y:Int):call T pr Zda [.agg [.int .i64 x,.int .i64 y]] ⟨H,e⟩=some (.bool (!okL (x,y)),⟨H,e⟩):=by
 rw [Zi Zyv]
 simp +contextual only [Zgg,Zo7,Zdw,ZhO,go_sem,reduceIte,Ra,Rb,Rc,Rd]
 unfold okL
 by_cases h1:(decide (0≤x)&&decide (x≤60))=true <;> simp [h1,Zsg,Zgz,Zmt]
theorem Znn {b:Nat} {c:Option Nat} {ls:List Ld} (h:Zb H b=some (Zm ls)) :
  ∀ (k i:Nat) (y3 y4:AV),k+i=13→∃ z2 z3 z4,run T pr (.loop Jl) ⟨[slL b ls.length c,.bool false,.int .i64 i,y3,y4],⟨H,e⟩⟩ =
   some (if ((ls.drop i).take k).all okL=true then Ex.exit 0 else Ex.ret,⟨[slL b ls.length c,.bool false,z2,z3,z4],⟨H,e⟩⟩)
 | 0,i,y3,y4,hk=>by
  have hi:i=13:=by omega
  subst hi
  refine ⟨.int .i64 13,.bool false,y4,?_⟩
  rw [Zw]
  generalize run T pr (.loop Jl)=R
  have h12:¬ ((13:Nat):Int)≤12:=by omega
  simp +contextual only [Jl,List.take_zero,Rw,h12,decide_false,go_sem,reduceIte,Ra,Rb,Rc,Rd]
  rfl
 | k+1,i,y3,y4,hk=>by
  by_cases hi:i<ls.length
  ·have hl:ls[i]?=some ls[i]:=Rj hi
   have h12:((i:Nat):Int)≤12:=by omega
   obtain ⟨z2,z3,z4,ih⟩:=Znn (c:=c) h k (i+1) (.bool true) (.bool false) (by omega)
   rw [Rm hi,List.take_succ_cons,Rv]
   have hok:okL ls[i]=((decide (0≤ls[i].1)&&decide (ls[i].1≤60))&&(decide (1≤ls[i].2)&&decide (ls[i].2≤99))):=rfl
   rw [hok,Zw]
   generalize run T pr (.loop Jl)=R at ih ⊢
   cases h1:(decide (0≤ls[i].1)&&decide (ls[i].1≤60)) with
   | false=>
    refine ⟨.int .i64 i,.bool true,.bool true,?_⟩
    simp +contextual only [Jl,h,hi,hl,h1,h12,JC _ hl,XO _ hl,ZgA,Ye,decide_true,go_sem,reduceIte,Ra,Rb,Rc,Rd]
   | true=>
    cases h2:(decide (1≤ls[i].2)&&decide (ls[i].2≤99)) with
    | false=>
     refine ⟨.int .i64 i,.bool true,.bool true,?_⟩
     simp +contextual only [Jl,h,hi,hl,h1,h2,h12,JC _ hl,XO _ hl,ZgA,Ye,decide_true,go_sem,reduceIte,Ra,Rb,Rc,Rd]
    | true=>
     refine ⟨z2,z3,z4,?_⟩
     simp +contextual only [Jl,h,hi,hl,h1,h2,h12,JC _ hl,XO _ hl,ZgA,Ye,Zh (show i<9223372036854775807 by omega),decide_true,go_sem,reduceIte,Ra,Rb,Rc,Rd]
     exact ih
  ·refine ⟨.int .i64 i,.bool false,y4,?_⟩
   rw [Zw]
   generalize run T pr (.loop Jl)=R
   have hd:ls.drop i=[]:=List.drop_eq_nil_of_le (by omega)
   simp +contextual only [Jl,hd,List.take_nil,Rw,hi,decide_false,go_sem,reduceIte,Ra,Rb,Rc,Rd]
theorem ZaR {b:Nat} {c:Option Nat} {ls:List Ld} (h:Zb H b=some (Zm ls)):call T pr Js [slL b ls.length c] ⟨H,e⟩=some (.bool (YZ ls),⟨H,e⟩):=by
 obtain ⟨z2,z3,z4,hl⟩:=Znn (pr:=pr) (e:=none) (c:=c) h 13 0 .undef .undef rfl
 rw [Zi ZEm]
 have h0:((0:Nat):Int)=0:=rfl
 rw [h0] at hl
 simp +contextual only [ZkU,Zu6,hl,Rk,go_sem,reduceIte,Ra,Rb,Rc,Rd]
 have hr:YZ ls=(decide (ls.length≤12)&&(ls.take 13).all okL):=by
  unfold YZ
  by_cases h12:ls.length≤12
  ·rw [Rx (by omega)]
  ·simp [h12]
 rw [hr]
 have hi:((ls.length:Nat):Int)≤12↔ls.length≤12:=by omega
 cases h3:(ls.take 13).all okL <;> simp +contextual only [hi,go_sem,reduceIte,Ra,Rb,Rc,Rd] <;> simp [Zgz]
theorem Zt3 {X:List Ld} {i:Nat} {a b:Int} (h:i<X.length):ZN (Zm X) (i*2) [.int .i64 a,.int .i64 b]=Zm (X.set i (a,b)):=by
 induction X generalizing i with
 | nil=>simp at h
 | cons x X ih=>
  cases i with
  | zero=>simp [Zm,ZN]
  | succ i=>
   rw [show (i+1)*2=i*2+1+1 by omega,Zm,Z5,Z5,ih (by simpa using h)]
   rfl
theorem ZU (n:Nat):∀ ls:List Ld,((Zm ls).all fun c=>c.under n)=true
 | []=>rfl
 | l::ls=>by simp [Zm,AV.under,ZU n ls]
theorem Zsi:∀ n,Zhb n [.int .i64 0,.int .i64 0]=Zm (Ry n (0,0))
 | 0=>rfl
 | n+1=>by
  have:=Zsi n
  unfold Zhb at *
  simp only [RJ,RK,Zm,Rn,Ro,this]
theorem Zt4 {X ls:List Ld} {i:Nat} (hi:i<ls.length) (hX:X.length=ls.length) (h:X.take i=ls.take i):(X.set i ls[i]).take (i+1)=ls.take (i+1):=by
 rw [RL (by rw [RE];omega),RL hi]
 rw [List.take_set_of_le (Rz _),h]
 simp
def ZHW (H:List Blk) (av:AV) (ls:List Ld):Prop :=
 ∃ p sz c,av=.slice p sz ls.length c∧ls.length≤maxLen∧(ls≠[]→sz=2∧∃ b,p=some (b,0)∧Zb H b=some (Zm ls))
theorem Zjr {p:Option (Nat×Nat)} {sz:Nat} {c:Option Nat} {ls:List Ld} {r:AV} (ha:ls≠[]→sz=2∧∃ b,p=some (b,0)∧Zb H b=some (Zm ls)) (hn:ls.length≤1048576) :
  ∀ (k i:Nat) (X:List Ld) (y4:AV),k+i=ls.length→X.length=ls.length→X.take i=ls.take i→∃ z4,run T pr (.loop KU) ⟨[.slice p sz ls.length c,r,slL H.length ls.length (some ls.length),.int .i64 i,y4],⟨H++[.cells (Zm X) true],e⟩⟩ =
   some (Ex.exit 0,⟨[.slice p sz ls.length c,r,slL H.length ls.length (some ls.length),.int .i64 ls.length,z4],⟨H++[.cells (Zm ls) true],e⟩⟩)
 | 0,i,X,y4,hk,hX,ht=>by
  have hi:i=ls.length:=by omega
  subst hi
  rw [Rx (by omega),Rx (by omega)] at ht
  subst ht
  refine ⟨.bool false,?_⟩
  rw [Zw]
  generalize run T pr (.loop KU)=R
  simp +contextual only [KU,Rh,decide_false,go_sem,reduceIte,Ra,Rb,Rc,Rd]
 | k+1,i,X,y4,hk,hX,ht=>by
  have hi:i<ls.length:=by omega
  have hl:ls[i]?=some ls[i]:=Rj hi
  obtain ⟨rfl,b,rfl,hb⟩:=ha (by intro h;subst h;simp at hi)
  obtain ⟨z4,ih⟩:=Zjr (c:=c) (r:=r) ha hn k (i+1) (X.set i ls[i]) (.bool true) (by omega) (by simpa using hX) (Zt4 hi hX ht)
  refine ⟨z4,?_⟩
  rw [Zw]
  generalize run T pr (.loop KU)=R at ih ⊢
  have hle:i*2+2≤(Zm X).length:=by rw [Z9];omega
  simp +contextual only [KU,Za hb,hi,hl,X6 hl,ZCT,hle,Zt3 (show i<X.length by omega),Zh (show i<9223372036854775807 by omega),decide_true,go_sem,reduceIte,Ra,Rb,Rc,Rd]
  exact ih
theorem ZzC {av:AV} {ls:List Ld} (ha:ZHW H av ls) (hn:ls.length≤1048576):call T pr ZfK [av] ⟨H,e⟩=some (slL H.length ls.length (some ls.length),⟨H++[.cells (Zm ls) true],e⟩):=by
 obtain ⟨p,sz,c,rfl,_,ha⟩:=ha
 obtain ⟨z4,hl⟩:=Zjr (pr:=pr) (e:=none) (c:=c) (r:=.slice none 0 0 none) ha hn ls.length 0 (Ry ls.length (0,0)) .undef (by omega) (by simp) (by simp)
 rw [Zi Zyn]
 have h0:((0:Nat):Int)=0:=rfl
 have hmb:(ls.length:Int)*((16:Nat):Int)≤((maxBytes:Nat):Int):=by unfold maxBytes;omega
 rw [h0,←Zsi] at hl
 simp +contextual only [Zgb,Zo0,hmb,hl,ZU,go_sem,reduceIte,Ra,Rb,Rc,Rd]
theorem Zjs {b:Nat} {c:Option Nat} {ls:List Ld} {g:FuncId} {first cap:List AV} {p:Ld→Bool} {r:AV} (h:Zb H b=some (Zm ls)) (hn:ls.length≤9223372036854775806)
  (hf:∀ l∈ls,call T pr g (first++AV.agg [.int .i64 l.1,.int .i64 l.2]::cap) ⟨H,e⟩=some (.bool (p l),⟨H,e⟩)) :
  ∀ (k i:Nat) (y3 y6 y7:AV),k+i=ls.length→∃ (j:Nat) (z3 z5 z6 z7:AV),run T pr (.loop Zx) ⟨[slL b ls.length c,.fn g first cap,r,y3,.int .i64 ls.length,.int .i64 i,y6,y7],⟨H,e⟩⟩ =
   some (if (ls.drop i).any p=true then Ex.ret else Ex.exit 0,⟨[slL b ls.length c,.fn g first cap,if (ls.drop i).any p=true then .int .i64 j else r,z3,.int .i64 ls.length,z5,z6,z7],⟨H,e⟩⟩)
 | 0,i,y3,y6,y7,hk=>by
  have hi:i=ls.length:=by omega
  subst hi
  refine ⟨0,y3,.int .i64 ls.length,.bool false,y7,?_⟩
  rw [Zw]
  generalize run T pr (.loop Zx)=R
  simp +contextual only [Zx,Rh,decide_false,Rp,List.any_nil,go_sem,reduceIte,Ra,Rb,Rc,Rd]
 | k+1,i,y3,y6,y7,hk=>by
  have hi:i<ls.length:=by omega
  have hl:ls[i]?=some ls[i]:=Rj hi
  have hc:=hf ls[i] (List.getElem_mem hi)
  rw [Zw,Rm hi,List.any_cons]
  obtain ⟨j,z3,z5,z6,z7,ih⟩:=Zjs (c:=c) (r:=r) h hn hf k (i+1) (.int .i64 i) (.bool true) (.bool false) (by omega)
  generalize run T pr (.loop Zx)=R at ih ⊢
  cases hp:p ls[i] with
  | true=>
   refine ⟨i,.int .i64 i,.int .i64 i,.bool true,.bool true,?_⟩
   rw [hp] at hc
   simp +contextual only [Zx,h,hi,hl,X6 hl,hc,decide_true,go_sem,reduceIte,Ra,Rb,Rc,Rd]
  | false=>
   refine ⟨j,z3,z5,z6,z7,?_⟩
   rw [hp] at hc
   simp +contextual only [Zx,h,hi,hl,X6 hl,hc,Zh (show i<9223372036854775807 by omega),decide_true,go_sem,reduceIte,Ra,Rb,Rc,Rd]
   exact ih
theorem ZzD {b:Nat} {c:Option Nat} {ls:List Ld} {g:FuncId} {first cap:List AV} {p:Ld→Bool} (h:Zb H b=some (Zm ls)) (hn:ls.length≤9223372036854775806)
  (hf:∀ l∈ls,call T pr g (first++AV.agg [.int .i64 l.1,.int .i64 l.2]::cap) ⟨H,none⟩=some (.bool (p l),⟨H,none⟩)) :
  ∃ j:Nat,call T pr Z0 [slL b ls.length c,.fn g first cap] ⟨H,e⟩=some (.int .i64 (if ls.any p=true then j else -1),⟨H,e⟩):=by
 obtain ⟨j,z3,z5,z6,z7,hl⟩:=Zjs (pr:=pr) (e:=none) (c:=c) (r:=.int .i64 0) h hn hf ls.length 0 .undef .undef .undef rfl
 refine ⟨j,?_⟩
 have h0:((0:Nat):Int)=0:=rfl
 rw [h0] at hl
 rw [Zi ZaO]
 simp +contextual only [Z1,X5,hl,go_sem,reduceIte,Ra,Rb,Rc,Rd]
 cases hp:ls.any p <;> simp +contextual only [go_sem,reduceIte,Ra,Rb,Rc,Rd]
theorem Zrr {b:Nat} {c:Option Nat} {ls:List Ld} {g:FuncId} {first cap:List AV} {p:Ld→Bool} (h:Zb H b=some (Zm ls)) (hn:ls.length≤9223372036854775806)
  (hf:∀ l∈ls,call T pr g (first++AV.agg [.int .i64 l.1,.int .i64 l.2]::cap) ⟨H,none⟩=some (.bool (p l),⟨H,none⟩)) :
  call T pr ZS [slL b ls.length c,.fn g first cap] ⟨H,e⟩=some (.bool (ls.any p),⟨H,e⟩):=by
 obtain ⟨j,hl⟩:=ZzD (pr:=pr) (e:=none) (c:=c) h hn hf
 rw [Zi QF]
 simp +contextual only [ZT,Xo,hl,go_sem,reduceIte,Ra,Rb,Rc,Rd]
 cases hp:ls.any p <;> simp +contextual [Zgz,Zmt]
theorem QG {b:Nat} {c:Option Nat} {ls:List Ld} (h:Zb H b=some (Zm ls)):call T pr Jr [slL b ls.length c] ⟨H,e⟩=some (.bool (YZ ls),⟨H,e⟩):=by
 rw [Zi ZEk]
 have hi:(12:Int)<((ls.length:Nat):Int)↔12<ls.length:=by omega
 by_cases h12:ls.length≤12
 ·have hc:=Zrr (pr:=pr) (e:=none) (c:=c) (g:=Zda) (first:=[]) (cap:=[]) (p:=fun l => !okL l) h (by omega) (fun l _=>ZzB l.1 l.2)
  have h12':¬ 12<ls.length:=by omega
  have hr:YZ ls = !(ls.any fun l => !okL l):=by
   unfold YZ
   rw [List.any_eq_not_all_not]
   simp [h12]
  rw [hr]
  simp +contextual only [Zhu,ZoX,hc,hi,h12',decide_false,go_sem,reduceIte,Ra,Rb,Rc,Rd]
 ·have h12':12<ls.length:=by omega
  have hr:YZ ls=false:=by unfold YZ;simp [h12]
  rw [hr]
  simp +contextual only [Zhu,ZoX,hi,h12',decide_true,go_sem,reduceIte,Ra,Rb,Rc,Rd]
def ZaS (p:Int) (a:Int) (l:Ld):Int:=IntKind.i64.wrap (a+IntKind.i64.wrap (l.2*IntKind.i64.wrap (l.1 - p)))
def Zln (ls:List Ld) (p:Int):Int:=ls.foldl (ZaS p) 0
theorem Zeq {b:Nat} {c:Option Nat} {ls:List Ld} {p:Int} {r:AV} (h:Zb H b=some (Zm ls)) (hn:ls.length≤9223372036854775806) :
  ∀ (k i:Nat) (a:Int) (G:List Blk) (y4 y8:AV),k+i=ls.length→∃ (G':List Blk) (z4 z8:AV),run T pr (.loop Xt) ⟨[slL b ls.length c,.int .i64 p,r,.int .i64 a,y4,slL b ls.length c,.int .i64 ls.length,.int .i64 i,y8],⟨H++G,e⟩⟩ =
   some (Ex.exit 0,⟨[slL b ls.length c,.int .i64 p,r,.int .i64 ((ls.drop i).foldl (ZaS p) a),z4,slL b ls.length c,.int .i64 ls.length,.int .i64 ls.length,z8],⟨H++G',e⟩⟩)
 | 0,i,a,G,y4,y8,hk=>by
  have hi:i=ls.length:=by omega
  subst hi
  refine ⟨G,y4,.bool false,?_⟩
  rw [Zw]
  generalize run T pr (.loop Xt)=R
  simp +contextual only [Xt,Rh,decide_false,Rp,List.foldl_nil,go_sem,reduceIte,Ra,Rb,Rc,Rd]
 | k+1,i,a,G,y4,y8,hk=>by
  have hi:i<ls.length:=by omega
  have hl:ls[i]?=some ls[i]:=Rj hi
  rw [Zw,Rm hi,RF]
  obtain ⟨G',z4,z8,ih⟩:=Zeq (c:=c) (p:=p) (r:=r) h hn k (i+1) (ZaS p a ls[i]) (G++[.cells [.int .i64 ls[i].1,.int .i64 ls[i].2] true]) (.ptr (some (H.length+G.length,0))) (.bool true) (by omega)
  refine ⟨G',z4,z8,?_⟩
  generalize run T pr (.loop Xt)=R at ih ⊢
  simp +contextual only [Xt,Za h,hi,hl,X6 hl,Zh (show i<9223372036854775807 by omega),decide_true,go_sem,reduceIte,Ra,Rb,Rc,Rd]
  exact ih
theorem ZaT {b:Nat} {c:Option Nat} {ls:List Ld} (h:Zb H b=some (Zm ls)) (hn:ls.length≤9223372036854775806) (p:Int):call T pr YY [slL b ls.length c,.int .i64 p] ⟨H,e⟩=some (.int .i64 (Zln ls p),⟨H,e⟩):=by
 obtain ⟨G',z4,z8,hl⟩:=Zeq (pr:=pr) (e:=none) (c:=c) (p:=p) (r:=.int .i64 0) h hn ls.length 0 0 [] .undef .undef rfl
 have h0:((0:Nat):Int)=0:=rfl
 rw [h0,RA,Rk] at hl
 rw [Zi Zpq]
 simp +contextual only [ZaG,Zhw,hl,go_sem,reduceIte,Ra,Rb,Rc,Rd]
 rfl
theorem ZhP {b:Nat} {c:Option Nat} {ls:List Ld} {p:Int} {r:AV} (h:Zb H b=some (Zm ls)) (hn:ls.length≤9223372036854775806) :
  ∀ (k i:Nat) (a:Int) (y5:AV),k+i=ls.length→∃ (z5:AV),run T pr (.loop Kf) ⟨[slL b ls.length c,.int .i64 p,r,.int .i64 a,.int .i64 i,y5],⟨H,e⟩⟩ =
   some (Ex.exit 0,⟨[slL b ls.length c,.int .i64 p,r,.int .i64 ((ls.drop i).foldl (ZaS p) a),.int .i64 ls.length,z5],⟨H,e⟩⟩)
 | 0,i,a,y5,hk=>by
  have hi:i=ls.length:=by omega
  subst hi
  refine ⟨.bool false,?_⟩
  rw [Zw]
  generalize run T pr (.loop Kf)=R
  simp +contextual only [Kf,Rh,decide_false,Rp,List.foldl_nil,go_sem,reduceIte,Ra,Rb,Rc,Rd]
 | k+1,i,a,y5,hk=>by
  have hi:i<ls.length:=by omega
  have hl:ls[i]?=some ls[i]:=Rj hi
  rw [Zw,Rm hi,RF]
  obtain ⟨z5,ih⟩:=ZhP (c:=c) (p:=p) (r:=r) h hn k (i+1) (ZaS p a ls[i]) (.bool true) (by omega)
  refine ⟨z5,?_⟩
  generalize run T pr (.loop Kf)=R at ih ⊢
  simp +contextual only [Kf,h,hi,hl,JC _ hl,XO _ hl,Zh (show i<9223372036854775807 by omega),decide_true,go_sem,reduceIte,Ra,Rb,Rc,Rd]
  exact ih
theorem Zb9 {b:Nat} {c:Option Nat} {ls:List Ld} (h:Zb H b=some (Zm ls)) (hn:ls.length≤9223372036854775806) (p:Int):call T pr YI [slL b ls.length c,.int .i64 p] ⟨H,e⟩=some (.int .i64 (Zln ls p),⟨H,e⟩):=by
 obtain ⟨z5,hl⟩:=ZhP (pr:=pr) (e:=none) (c:=c) (p:=p) (r:=.int .i64 0) h hn ls.length 0 0 .undef rfl
 have h0:((0:Nat):Int)=0:=rfl
 rw [h0,Rk] at hl
 rw [Zi Zvx]
 simp +contextual only [Zel,Zne,hl,go_sem,reduceIte,Ra,Rb,Rc,Rd]
 rfl
def Zdx (ls:List Ld) (a b:Int):Int:=if Zln ls a<0 then -1 else if 0<Zln ls b then 1 else 0
theorem Zmu {b:Nat} {c:Option Nat} {ls:List Ld} (h:Zb H b=some (Zm ls)) (hn:ls.length≤9223372036854775806) (p q:Int):call T pr Zbh [slL b ls.length c,.int .i64 p,.int .i64 q] ⟨H,e⟩=some (.int .i64 (Zdx ls p q),⟨H,e⟩):=by
 rw [Zi ZBM]
 simp +contextual only [ZiK,Zr4,Zb9 h hn,go_sem,reduceIte,Ra,Rb,Rc,Rd]
 unfold Zdx
 split
 ·rfl
 ·split <;> rfl
theorem ZpQ {b:Nat} {c:Option Nat} {ls:List Ld} (h:Zb H b=some (Zm ls)) (hn:ls.length≤9223372036854775806) (p q:Int):call T pr Zbi [slL b ls.length c,.int .i64 p,.int .i64 q] ⟨H,e⟩=some (.int .i64 (Zdx ls p q),⟨H,e⟩):=by
 rw [Zi ZyJ]
 simp +contextual only [Zgo,Zpf,ZaT h hn,go_sem,reduceIte,Ra,Rb,Rc,Rd]
 unfold Zdx
 split
 ·rfl
 ·split <;> rfl
variable {pr : Zy} {H : List Blk} {e : Option Nat}
theorem ZHW.more {av:AV} {ls:List Ld} (h:ZHW H av ls) (G:List Blk):ZHW (H++G) av ls:=by
 obtain ⟨p,sz,c,h1,h2,h3⟩:=h
 refine ⟨p,sz,c,h1,h2,fun hne => ?_⟩
 obtain ⟨h4,b,h5,h6⟩:=h3 hne
 exact ⟨h4,b,h5,Za h6 G⟩
theorem ZAE:∀ (es:List (List Int)),(∀ e∈es,e.length=2)→∃ ls:List Ld,es.flatten.map (AV.int .i64)=Zm ls∧ls.length=es.length
 | [],_=>⟨[],rfl,rfl⟩
 | e::es,h=>by
  obtain ⟨ls,h1,h2⟩:=ZAE es (fun e' h'=>h e' (by simp [h']))
  have h0:=h e (by simp)
  match e,h0 with
  | [x,y],_=>exact ⟨(x,y)::ls,by simp [Zm,h1],by simp [h2]⟩
theorem ZIs {av:AV} {es:List (List Int)} (h:Zmg H av .i64 2 es):∃ ls,ZHW H av ls:=by
 obtain ⟨h1,h2⟩:=h
 rcases h2 with ⟨rfl,rfl⟩|⟨b,cap,rfl,h3,h4,h5⟩
 ·exact ⟨[],none,0,none,rfl,Nat.zero_le _,fun h=>absurd rfl h⟩
 ·obtain ⟨ls,h6,h7⟩:=ZAE es (fun e he=>(h1 e he).1)
  refine ⟨ls,some (b,0),2,some cap,by rw [h7],by omega,fun _=>⟨rfl,b,rfl,?_⟩⟩
  unfold Zb
  rw [h5,h6]
theorem ZzE {b1 b2:Nat} {c1 c2:Option Nat} {ls:List Ld} (h1:Zb H b1=some (Zm ls)) (h2:Zb H b2=some (Zm ls)) (hn:ls.length≤9223372036854775806) :
  call T pr Zbe [slL b1 ls.length c1,slL b2 ls.length c2] ⟨H,e⟩=some (.bool true,⟨H,e⟩):=by
 obtain ⟨z5,z6,hl⟩:=Zjq (pr:=pr) (e:=none) (c1:=c1) (c2:=c2) h1 h2 hn ls.length 0 .undef .undef (.bool false) rfl
 have h0:((0:Nat):Int)=0:=rfl
 rw [h0] at hl
 rw [Zi Zyo]
 simp +contextual only [Zgc,Zo1,hl,decide_true,go_sem,reduceIte,Ra,Rb,Rc,Rd]
def Zcm (cap:Option Nat) (j:Nat) (G:List Blk):List Blk:=if cap=some 0 then G else G.set j .dead
theorem YF (cap:Option Nat) (j:Nat) (G:List Blk):(Zcm cap j G).length=G.length:=by unfold Zcm;split <;> simp
theorem Zwx {G:List Blk} {j k n sz bytes:Nat} {cs new:List AV} {cap:Option Nat} {str:Bool} {x:AV} (hb:G[j]?=some (.cells cs true)) (hx:Y2 str (H++G) x=some (k,new)) (hk:0<k)
  (hcs:cs.length=n*sz) (hnew:new.length=k*sz) (hmax:(n+k)*bytes≤maxBytes) (hcap:cap=some 0→n=0) :
  Q5 (H++G) e str sz bytes (.slice (some (H.length+j,0)) sz n cap) x=some (.slice (some (H.length+G.length,0)) sz (n+k) none,⟨H++(Zcm cap j G++[.cells (cs++new) true]),e⟩):=by
 unfold Q5
 simp only [Zsh,hb,hx]
 rw [if_pos ⟨trivial,hmax,hnew,by omega⟩]
 unfold Zcm
 by_cases hc:cap=some 0
 ·have hn:=hcap hc
  subst hn
  have:cs=[]:=by simpa using hcs
  subst this
  rw [if_pos ⟨hc,hk⟩,if_pos hc]
  simp
 ·rw [if_neg (fun h=>hc h.1),if_pos trivial,if_neg hc]
  have h1:List.take (n*sz) (List.drop 0 cs)=cs:=by rw [Rk,←hcs,List.take_length]
  rw [h1,Zlm]
  simp
theorem Zer (L:List Blk) (n sz:Nat) (cap:Option Nat) (cs:List AV) (b:Nat) (h:Zb L b=some cs) (hl:cs.length=n*sz):Y2 false L (.slice (some (b,0)) sz n cap)=some (n,cs):=by
 unfold Y2
 simp only [Bool.false_eq_true,if_false,h]
 rw [if_pos (by omega),Rk,←hl,List.take_length]
abbrev ZR (ls:List Int):List AV:=ls.map (AV.int .i64)
abbrev slI (b n:Nat) (c:Option Nat):AV:=.slice (some (b,0)) 1 n c
theorem Zu {ls:List Int} {i:Nat} {x:Int} (sz:Nat) (h:ls[i]?=some x):Zco false (ZR ls) i sz=some (.int .i64 x):=by
 rw [Zfd,List.getElem?_map,h];rfl
theorem K3 (n:Nat):∀ ls:List Int,((ZR ls).all fun c=>c.under n)=true
 | []=>rfl
 | l::ls=>by simp [ZR,AV.under]
theorem Zmv:∀ n,Zhb n [.int .i64 0]=ZR (Ry n 0)
 | 0=>rfl
 | n+1=>by
  have:=Zmv n
  unfold Zhb ZR at *
  simp only [RJ,RK,List.map_cons,Rn,Ro,this]
theorem Zlo {X:List Int} {i:Nat} {a:Int} (h:i<X.length):ZN (ZR X) i [.int .i64 a]=ZR (X.set i a):=by
 induction X generalizing i with
 | nil=>simp at h
 | cons x X ih=>
  cases i with
  | zero=>simp [ZR,ZN]
  | succ i=>
   have:=ih (i:=i) (by simpa using h)
   simp only [ZR,List.map_cons,List.set_cons_succ] at *
   rw [Z5,this]
theorem Zno {q:Nat} {c:Option Nat} {ls:List Int} {x:Int} (h:Zb H q=some (ZR ls)) (hn:ls.length≤9223372036854775806) :
  ∀ (k i:Nat) (y4 y5:AV),k+i=ls.length→∃ (z3 z4 z5:AV),run T pr (.loop Q3) ⟨[slI q ls.length c,.int .i64 x,.bool false,.int .i64 i,y4,y5],⟨H,e⟩⟩ =
   some (if x∈ls.drop i then Ex.ret else Ex.exit 0,⟨[slI q ls.length c,.int .i64 x,.bool (decide (x∈ls.drop i)),z3,z4,z5],⟨H,e⟩⟩)
 | 0,i,y4,y5,hk=>by
  have hi:i=ls.length:=by omega
  subst hi
  refine ⟨.int .i64 ls.length,.bool false,y5,?_⟩
  rw [Zw]
  generalize run T pr (.loop Q3)=R
  simp +contextual only [Q3,Rh,decide_false,Rp,List.not_mem_nil,go_sem,reduceIte,Ra,Rb,Rc,Rd]
 | k+1,i,y4,y5,hk=>by
  have hi:i<ls.length:=by omega
  have hl:ls[i]?=some ls[i]:=Rj hi
  obtain ⟨z3,z4,z5,ih⟩:=Zno (c:=c) (x:=x) h hn k (i+1) (.bool true) (.bool false) (by omega)
  rw [Zw,Rm hi]
  generalize run T pr (.loop Q3)=R at ih ⊢
  by_cases hx:ls[i]=x
  ·refine ⟨.int .i64 i,.bool true,.bool true,?_⟩
   simp +contextual only [Q3,h,hi,hl,Zu _ hl,hx,decide_true,List.mem_cons,true_or,go_sem,reduceIte,Ra,Rb,Rc,Rd]
  ·refine ⟨z3,z4,z5,?_⟩
   have hx':¬ x=ls[i]:=fun h=>hx h.symm
   simp +contextual only [Q3,h,hi,hl,Zu _ hl,hx,hx',decide_true,decide_false,List.mem_cons,false_or,Zh (show i<9223372036854775807 by omega),go_sem,reduceIte,Ra,Rb,Rc,Rd]
   exact ih
theorem ZE7 {q:Nat} {c:Option Nat} {ls:List Int} (h:Zb H q=some (ZR ls)) (hn:ls.length≤9223372036854775806) (x:Int):call T pr Zhp [slI q ls.length c,.int .i64 x] ⟨H,e⟩=some (.bool (decide (x∈ls)),⟨H,e⟩):=by
 obtain ⟨z3,z4,z5,hl⟩:=Zno (pr:=pr) (e:=none) (c:=c) (x:=x) h hn ls.length 0 .undef .undef rfl
 have h0:((0:Nat):Int)=0:=rfl
 rw [h0,Rk] at hl
 rw [Zi ZEq]
 by_cases hx:x∈ls <;> simp only [hx,if_true,if_false,decide_true,decide_false] at hl ⊢ <;> simp +contextual only [Zk4,Zva,hl,go_sem,reduceIte,Ra,Rb,Rc,Rd]
def Zg0 (a b:Int):Bool:=((decide (0≤a)&&decide (a≤60))&&(decide (0≤b)&&decide (b≤60)))&&decide (a≤b)
theorem Zff (a b:Int):call T pr ZeX [.int .i64 a,.int .i64 b] ⟨H,e⟩=some (.bool (Zg0 a b),⟨H,e⟩):=by
 rw [Zi ZBB]
 simp +contextual only [ZiC,ZrV,Zdw,go_sem,reduceIte,Ra,Rb,Rc,Rd]
 rfl
theorem ZCV (a b:Int):call T pr Zis [.int .i64 a,.int .i64 b] ⟨H,e⟩=some (.bool (Zg0 a b),⟨H,e⟩):=by
 rw [Zi ZBJ]
 simp +contextual only [ZiJ,Zr2,ZgA,go_sem,reduceIte,Ra,Rb,Rc,Rd]
 rfl
abbrev wr (x:Int):Int:=IntKind.i64.wrap x
variable {pr : Zy} {H : List Blk} {e : Option Nat}
variable {pr : Zy} {H : List Blk} {e : Option Nat}
variable {pr : Zy} {H : List Blk} {e : Option Nat}
variable {pr : Zy} {H : List Blk} {e : Option Nat}
theorem Zjt (v:AV) (e0:Option Nat) (b:Nat) (x:Blk) (h:v.under H.length=true):finish 1 H.length e0 v ⟨H.set b x,none⟩=some (v,⟨H.set b x,e0⟩):=by
 have:(H.set b x).take H.length=H.set b x:=Rx (by simp)
 simp [finish,h,clean,this]
theorem ZAF {L:List Blk} {b:Nat} {x:Blk} (h:L[b]?=some x):L.set b x=L:=by
 apply List.ext_getElem?
 intro i
 rw [List.getElem?_set]
 split
 ·rename_i hi
  subst hi
  rw [h]
  rw [if_pos (RB.mp h).1]
 ·rfl
def Jn (k:Nat):Nat→List Ld
 | 0=>[]
 | n+1=>((k:Int),((k+1:Nat):Int))::Jn (k+2) n
theorem Zju (P R:List Ld) (r:Ld) (a:Int):ZN (Zm (P++r::R)) (P.length*2) [.int .i64 a]=Zm (P++(a,r.2)::R):=by
 induction P with
 | nil=>simp [Zm,ZN]
 | cons p P ih=>
  simp only [Zm,Rn,Rl,Nat.add_mul,Rq] at *
  rw [Z5,Z5,ih]
theorem Zrs (P R:List Ld) (r:Ld) (a:Int):ZN (Zm (P++r::R)) (P.length*2+1) [.int .i64 a]=Zm (P++(r.1,a)::R):=by
 induction P with
 | nil=>simp [Zm,ZN]
 | cons p P ih=>
  simp only [Zm,Rn,Rl,Nat.add_mul,Rq] at *
  rw [show P.length*2+2+1=P.length*2+1+1+1 by omega,Z5,Z5,ih]
theorem Zg1 {L:List Blk} {b n:Nat} {c:Option Nat} {r:AV} (hb:b<L.length) (hn:n≤4194304) :
  ∀ (R P:List Ld) (k:Nat) (y4:AV),P.length+R.length=n→k+R.length*2≤16777216→∃ z4,run T pr (.loop Jt) ⟨[slL b n c,.int .i64 k,r,.int .i64 P.length,y4],⟨L.set b (.cells (Zm (P++R)) true),e⟩⟩ =
   some (Ex.exit 0,⟨[slL b n c,.int .i64 ((k+R.length*2:Nat):Int),r,.int .i64 n,z4],⟨L.set b (.cells (Zm (P++Jn k R.length)) true),e⟩⟩)
 | [],P,k,y4,hP,hk=>by
  refine ⟨.bool false,?_⟩
  obtain rfl:n=P.length:=by simp at hP;omega
  rw [Zw]
  generalize run T pr (.loop Jt)=R'
  simp +contextual only [Jt,Rh,decide_false,Jn,Rr,go_sem,reduceIte,Ra,Rb,Rc,Rd]
 | x::R,P,k,y4,hP,hk=>by
  simp only [Rl] at hP hk
  have hi:P.length<n:=by omega
  obtain ⟨z4,ih⟩:=Zg1 (c:=c) (r:=r) hb hn R (P++[((k:Int),((k+1:Nat):Int))]) (k+2) (.bool true) (by simp;omega) (by omega)
  refine ⟨z4,?_⟩
  rw [Zw]
  generalize run T pr (.loop Jt)=R' at ih ⊢
  have hg:∀ y:Ld,(L.set b (.cells (Zm (P++y::R)) true))[b]?=some (.cells (Zm (P++y::R)) true):=fun y=>List.getElem?_set_self hb
  have hle:∀ y:Ld,P.length*2+1≤(Zm (P++y::R)).length:=by intro y;rw [Z9];simp;omega
  have hle':∀ y:Ld,P.length*2+1+1≤(Zm (P++y::R)).length:=by intro y;rw [Z9];simp;omega
  have hle2:∀ y:Ld,P.length*2+2≤(Zm (P++y::R)).length:=by intro y;rw [Z9];simp;omega
  rw [show k+2+R.length*2=k+(R.length+1)*2 by omega] at ih
  simp only [Rs,List.singleton_append,List.length_append,Rl,RM,Nat.zero_add] at ih
  have hw1:IntKind.i64.wrap ((k:Int)+1)=((k+1:Nat):Int):=Zh (show k<9223372036854775807 by omega)
  have hw2:IntKind.i64.wrap (((k+1:Nat):Int)+1)=((k+2:Nat):Int):=Zh (show k+1<9223372036854775807 by omega)
  simp +contextual only [Jt,hi,hg,hle,hle',hle2,Zju,Zrs,List.set_set,Jn,hw1,hw2,Zh (show P.length<9223372036854775807 by omega),decide_true,go_sem,reduceIte,Ra,Rb,Rc,Rd]
  exact ih
theorem Zt5 {L:List Blk} {b:Nat} {c:Option Nat} {ls:List Ld} (h:L[b]?=some (.cells (Zm ls) true)) (hn:ls.length≤4194304) (k:Nat) (hk:k≤4194304):call T pr Zas [slL b ls.length c,.int .i64 k] ⟨L,e⟩ =
  some (.int .i64 ((k+ls.length*2:Nat):Int),⟨L.set b (.cells (Zm (Jn k ls.length)) true),e⟩):=by
 have hb:=(RB.mp h).1
 obtain ⟨z4,hl⟩:=Zg1 (pr:=pr) (e:=none) (c:=c) (r:=.int .i64 0) hb hn ls [] k .undef (by simp) (by omega)
 have h0:((0:Nat):Int)=0:=rfl
 rw [RM,h0,Ro,Ro,ZAF h] at hl
 rw [Zi Zte]
 simp +contextual only [ZcH,ZkP,hl,Zjt,go_sem,reduceIte,Ra,Rb,Rc,Rd]
abbrev ZHX (ls:List Bool):List AV:=ls.map AV.bool
theorem ZK6 {B:List Bool} {c:Nat} (h:c<B.length):B[c]?=some (B.getD c false):=by
 rw [List.getD_eq_getElem?_getD,Rj h];rfl
theorem ZE8 {B:List Bool} {i:Nat} (sz:Nat) (h:i<B.length):Zco false (ZHX B) i sz=some (.bool (B.getD i false)):=by
 rw [Zfd,List.getElem?_map,ZK6 h];rfl
theorem ZCW (n:Nat):∀ ls:List Bool,((ZHX ls).all fun c=>c.under n)=true
 | []=>rfl
 | l::ls=>by simp [ZHX,AV.under]
theorem Zsj:∀ n,Zhb n [.bool false]=ZHX (Ry n false)
 | 0=>rfl
 | n+1=>by
  have:=Zsj n
  unfold Zhb ZHX at *
  simp only [RJ,RK,List.map_cons,Rn,Ro,this]
def before (os:List Int) (i:Nat) (lo:Int):Prop:=(i=0∧lo = -1)∨∃ i',i=i'+1∧os[i']?=some lo∧0≤lo
def ZaU (x:Int):Bool:=decide (1≤x)&&decide (x≤24)
theorem Zbu (x:Int):call T pr Jh [.int .i64 x] ⟨H,e⟩=some (.bool (ZaU x),⟨H,e⟩):=by
 rw [Zi ZyI]
 simp +contextual only [Zgn,Zpe,Yd,go_sem,reduceIte,Ra,Rb,Rc,Rd]
 rfl
theorem Zfg (x y:Int):call T pr Ze0 [.int .i64 x,.int .i64 y] ⟨H,e⟩=some (.bool (ZaU x&&ZaU y),⟨H,e⟩):=by
 rw [Zi ZEo]
 simp +contextual only [ZkY,Zu8,Ye,go_sem,reduceIte,Ra,Rb,Rc,Rd]
 rfl
abbrev Sg:=Int×Int×Int
def YJ (s:Sg):Bool :=
 if s.1=1 then ZaU s.2.1&&ZaU s.2.2 else if s.1=3 then ZaU s.2.1&&ZaU s.2.2 else if s.1=2 then ZaU s.2.1&&decide (s.2.2=0)
 else if s.1=4 then (ZaU s.2.1&&ZaU s.2.2)&&decide (s.2.2≤s.2.1) else if s.1=5 then (ZaU s.2.1&&ZaU s.2.2)&&decide (s.2.2<s.2.1) else false
theorem ZpR (k a b:Int):call T pr ZfR [.agg [.int .i64 k,.int .i64 a,.int .i64 b]] ⟨H,e⟩=some (.bool (YJ (k,a,b)),⟨H,e⟩):=by
 rw [Zi Zyy]
 unfold YJ
 by_cases h1:k=1
 ·simp +contextual only [JV,QY,Zbu,h1,decide_true,go_sem,reduceIte,Ra,Rb,Rc,Rd]
 by_cases h3:k=3
 ·simp +contextual only [JV,QY,Zbu,h3,show ¬ ((3:Int)=1) by omega,decide_true,decide_false,go_sem,reduceIte,Ra,Rb,Rc,Rd]
 by_cases h2:k=2
 ·simp +contextual only [JV,QY,Zbu,h2,show ¬ ((2:Int)=1) by omega,show ¬ ((2:Int)=3) by omega,decide_true,decide_false,go_sem,reduceIte,Ra,Rb,Rc,Rd]
 by_cases h4:k=4
 ·simp +contextual only [JV,QY,Zbu,h4,show ¬ ((4:Int)=1) by omega,show ¬ ((4:Int)=3) by omega,show ¬ ((4:Int)=2) by omega,decide_true,decide_false,go_sem,reduceIte,Ra,Rb,Rc,Rd]
 by_cases h5:k=5
 ·simp +contextual only [JV,QY,Zbu,h5,show ¬ ((5:Int)=1) by omega,show ¬ ((5:Int)=3) by omega,show ¬ ((5:Int)=2) by omega,show ¬ ((5:Int)=4) by omega,decide_true,decide_false,go_sem,reduceIte,Ra,Rb,Rc,Rd]
 ·simp +contextual only [JV,QY,Zbu,h1,h2,h3,h4,h5,decide_true,decide_false,go_sem,reduceIte,Ra,Rb,Rc,Rd]
theorem ZpS (k a b:Int):call T pr ZfS [.agg [.int .i64 k,.int .i64 a,.int .i64 b]] ⟨H,e⟩=some (.bool (YJ (k,a,b)),⟨H,e⟩):=by
 rw [Zi Zyz]
 have hr:∀ x:Int,(decide (1≤x)&&decide (x≤24))=ZaU x:=fun x=>rfl
 unfold YJ
 by_cases h1:k=1
 ·simp +contextual only [JW,QZ,Zfg,Ye,hr,h1,decide_true,go_sem,reduceIte,Ra,Rb,Rc,Rd]
 by_cases h3:k=3
 ·simp +contextual only [JW,QZ,Zfg,Ye,hr,h3,show ¬ ((3:Int)=1) by omega,decide_true,decide_false,go_sem,reduceIte,Ra,Rb,Rc,Rd]
 by_cases h2:k=2
 ·simp +contextual only [JW,QZ,Zfg,Ye,hr,h2,show ¬ ((2:Int)=1) by omega,show ¬ ((2:Int)=3) by omega,decide_true,decide_false,go_sem,reduceIte,Ra,Rb,Rc,Rd]
 by_cases h4:k=4
 ·simp +contextual only [JW,QZ,Zfg,Ye,hr,h4,show ¬ ((4:Int)=1) by omega,show ¬ ((4:Int)=3) by omega,show ¬ ((4:Int)=2) by omega,decide_true,decide_false,go_sem,reduceIte,Ra,Rb,Rc,Rd]
 by_cases h5:k=5
 ·simp +contextual only [JW,QZ,Zfg,Ye,hr,h5,show ¬ ((5:Int)=1) by omega,show ¬ ((5:Int)=3) by omega,show ¬ ((5:Int)=2) by omega,show ¬ ((5:Int)=4) by omega,decide_true,decide_false,go_sem,reduceIte,Ra,Rb,Rc,Rd]
 ·simp +contextual only [JW,QZ,Zfg,Ye,hr,h1,h2,h3,h4,h5,decide_true,decide_false,go_sem,reduceIte,Ra,Rb,Rc,Rd]
def Zr:List Sg→List AV
 | []=>[]
 | s::ss=>.int .i64 s.1::.int .i64 s.2.1::.int .i64 s.2.2::Zr ss
theorem YS:∀ ss:List Sg,(Zr ss).length=ss.length*3
 | []=>rfl
 | s::ss=>by simp [Zr,YS ss];omega
theorem QH {ss:List Sg} {i:Nat} {s:Sg} (h:ss[i]?=some s):Zco true (Zr ss) (i*3) 3=some (.agg [.int .i64 s.1,.int .i64 s.2.1,.int .i64 s.2.2]):=by
 induction ss generalizing i with
 | nil=>simp at h
 | cons a ss ih=>
  cases i with
  | zero=>simp at h;subst h;simp [Zr,Zco]
  | succ i=>
   simp at h
   rw [show (i+1)*3=i*3+1+1+1 by omega,Zr,Zms,Zms,Zms]
   exact ih h
theorem Zt6 {X:List Sg} {i:Nat} {k a b:Int} (h:i<X.length):ZN (Zr X) (i*3) [.int .i64 k,.int .i64 a,.int .i64 b]=Zr (X.set i (k,a,b)):=by
 induction X generalizing i with
 | nil=>simp at h
 | cons x X ih=>
  cases i with
  | zero=>simp [Zr,ZN]
  | succ i=>
   rw [show (i+1)*3=i*3+1+1+1 by omega,Zr,Z5,Z5,Z5,ih (by simpa using h)]
   rfl
theorem Z6 (n:Nat):∀ ss:List Sg,((Zr ss).all fun c=>c.under n)=true
 | []=>rfl
 | s::ss=>by simp [Zr,AV.under,Z6 n ss]
theorem Zsk:∀ n,Zhb n [.int .i64 0,.int .i64 0,.int .i64 0]=Zr (Ry n (0,0,0))
 | 0=>rfl
 | n+1=>by
  have:=Zsk n
  unfold Zhb at *
  simp only [RJ,RK,Zr,Rn,Ro,this]
theorem Zrt {X ss:List Sg} {i:Nat} (hi:i<ss.length) (hX:X.length=ss.length) (h:X.take i=ss.take i):(X.set i ss[i]).take (i+1)=ss.take (i+1):=by
 rw [RL (by rw [RE];omega),RL hi]
 rw [List.take_set_of_le (Rz _),h]
 simp
abbrev slS (b n:Nat) (c:Option Nat):AV:=.slice (some (b,0)) 3 n c
def ZHY (H:List Blk) (av:AV) (ss:List Sg):Prop :=
 ∃ p sz c,av=.slice p sz ss.length c∧ss.length≤maxLen∧(ss≠[]→sz=3∧∃ b,p=some (b,0)∧Zb H b=some (Zr ss))
theorem ZHY.more {av:AV} {ss:List Sg} (h:ZHY H av ss) (G:List Blk):ZHY (H++G) av ss:=by
 obtain ⟨p,sz,c,h1,h2,h3⟩:=h
 refine ⟨p,sz,c,h1,h2,fun hne => ?_⟩
 obtain ⟨h4,b,h5,h6⟩:=h3 hne
 exact ⟨h4,b,h5,Za h6 G⟩
theorem Zwy:∀ (es:List (List Int)),(∀ e∈es,e.length=3)→∃ ss:List Sg,es.flatten.map (AV.int .i64)=Zr ss∧ss.length=es.length
 | [],_=>⟨[],rfl,rfl⟩
 | e::es,h=>by
  obtain ⟨ss,h1,h2⟩:=Zwy es (fun e' h'=>h e' (by simp [h']))
  have h0:=h e (by simp)
  match e,h0 with
  | [x,y,z],_=>exact ⟨(x,y,z)::ss,by simp [Zr,h1],by simp [h2]⟩
theorem ZIt {av:AV} {es:List (List Int)} (h:Zmg H av .i64 3 es):∃ ss,ZHY H av ss:=by
 obtain ⟨h1,h2⟩:=h
 rcases h2 with ⟨rfl,rfl⟩|⟨b,cap,rfl,h3,h4,h5⟩
 ·exact ⟨[],none,0,none,rfl,Nat.zero_le _,fun h=>absurd rfl h⟩
 ·obtain ⟨ss,h6,h7⟩:=Zwy es (fun e he=>(h1 e he).1)
  refine ⟨ss,some (b,0),3,some cap,by rw [h7],by omega,fun _=>⟨rfl,b,rfl,?_⟩⟩
  unfold Zb
  rw [h5,h6]
theorem ZzF (k a b:Int):call T pr ZfP [.agg [.int .i64 k,.int .i64 a,.int .i64 b]] ⟨H,e⟩=some (.agg [.int .i64 k,.int .i64 a,.int .i64 b],⟨H,e⟩):=by
 rw [Zi Zyw]
 simp +contextual only [Zgh,Zo8,go_sem,reduceIte,Ra,Rb,Rc,Rd]
theorem ZzG (k a b:Int):call T pr ZfQ [.agg [.int .i64 k,.int .i64 a,.int .i64 b],.agg [.int .i64 k,.int .i64 a,.int .i64 b]] ⟨H,e⟩=some (.bool true,⟨H,e⟩):=by
 rw [Zi Zyx]
 simp +contextual only [Zgi,Zo9,decide_true,go_sem,reduceIte,Ra,Rb,Rc,Rd]
theorem ZhQ {p:Option (Nat×Nat)} {sz:Nat} {c:Option Nat} {ls:List Sg} {r:AV} (ha:ls≠[]→sz=3∧∃ b,p=some (b,0)∧Zb H b=some (Zr ls)) (hn:ls.length≤1048576) :
  ∀ (k i:Nat) (X:List Sg) (y4:AV),k+i=ls.length→X.length=ls.length→X.take i=ls.take i→∃ z4,run T pr (.loop Kc) ⟨[.slice p sz ls.length c,r,slS H.length ls.length (some ls.length),.int .i64 i,y4],⟨H++[.cells (Zr X) true],e⟩⟩ =
   some (Ex.exit 0,⟨[.slice p sz ls.length c,r,slS H.length ls.length (some ls.length),.int .i64 ls.length,z4],⟨H++[.cells (Zr ls) true],e⟩⟩)
 | 0,i,X,y4,hk,hX,ht=>by
  have hi:i=ls.length:=by omega
  subst hi
  rw [Rx (by omega),Rx (by omega)] at ht
  subst ht
  refine ⟨.bool false,?_⟩
  rw [Zw]
  generalize run T pr (.loop Kc)=R
  simp +contextual only [Kc,Rh,decide_false,go_sem,reduceIte,Ra,Rb,Rc,Rd]
 | k+1,i,X,y4,hk,hX,ht=>by
  have hi:i<ls.length:=by omega
  have hl:ls[i]?=some ls[i]:=Rj hi
  obtain ⟨rfl,b,rfl,hb⟩:=ha (by intro h;subst h;simp at hi)
  obtain ⟨z4,ih⟩:=ZhQ (c:=c) (r:=r) ha hn k (i+1) (X.set i ls[i]) (.bool true) (by omega) (by simpa using hX) (Zrt hi hX ht)
  refine ⟨z4,?_⟩
  rw [Zw]
  generalize run T pr (.loop Kc)=R at ih ⊢
  have hle:i*3+3≤(Zr X).length:=by rw [YS];omega
  simp +contextual only [Kc,Za hb,hi,hl,QH hl,ZzF,hle,Zt6 (show i<X.length by omega),Zh (show i<9223372036854775807 by omega),decide_true,go_sem,reduceIte,Ra,Rb,Rc,Rd]
  exact ih
theorem Zwz {av:AV} {ls:List Sg} (ha:ZHY H av ls) (hn:ls.length≤1048576):call T pr ZdS [av] ⟨H,e⟩=some (slS H.length ls.length (some ls.length),⟨H++[.cells (Zr ls) true],e⟩):=by
 obtain ⟨p,sz,c,rfl,_,ha⟩:=ha
 obtain ⟨z4,hl⟩:=ZhQ (pr:=pr) (e:=none) (c:=c) (r:=.slice none 0 0 none) ha hn ls.length 0 (Ry ls.length (0,0,0)) .undef (by omega) (by simp) (by simp)
 rw [Zi Zvh]
 have h0:((0:Nat):Int)=0:=rfl
 have hmb:(ls.length:Int)*((24:Nat):Int)≤((maxBytes:Nat):Int):=by unfold maxBytes;omega
 rw [h0,←Zsk] at hl
 simp +contextual only [Zd8,Zm4,hmb,hl,Z6,go_sem,reduceIte,Ra,Rb,Rc,Rd]
theorem ZhR {b1 b2:Nat} {c1 c2:Option Nat} {ls:List Sg} (h1:Zb H b1=some (Zr ls)) (h2:Zb H b2=some (Zr ls)) (hn:ls.length≤9223372036854775806) :
  ∀ (k i:Nat) (x5 x6 x7:AV),k+i=ls.length→∃ y5 y6,run T pr (.loop Kd) ⟨[slS b1 ls.length c1,slS b2 ls.length c2,.bool false,.int .i64 i,x7,x5,x6],⟨H,e⟩⟩ =
   some (.exit 0,⟨[slS b1 ls.length c1,slS b2 ls.length c2,.bool false,.int .i64 ls.length,x7,y5,y6],⟨H,e⟩⟩)
 | 0,i,x5,x6,x7,hk=>by
  have hi:i=ls.length:=by omega
  subst hi
  refine ⟨.bool false,x6,?_⟩
  rw [Zw]
  generalize run T pr (.loop Kd)=R
  simp +contextual only [Kd,Rh,decide_false,go_sem,reduceIte,Ra,Rb,Rc,Rd]
 | k+1,i,x5,x6,x7,hk=>by
  have hi:i<ls.length:=by omega
  obtain ⟨y5,y6,ih⟩:=ZhR (c1:=c1) (c2:=c2) h1 h2 hn k (i+1) (.bool true) (.bool false) x7 (by omega)
  refine ⟨y5,y6,?_⟩
  rw [Zw]
  have hl:ls[i]?=some ls[i]:=Rj hi
  generalize run T pr (.loop Kd)=R at ih ⊢
  simp +contextual only [Kd,h1,h2,hi,hl,QH hl,ZzG,Zh (show i<9223372036854775807 by omega),decide_true,Bool.not_true,go_sem,reduceIte,Ra,Rb,Rc,Rd]
  exact ih
theorem ZwA {b1 b2:Nat} {c1 c2:Option Nat} {ls:List Sg} (h1:Zb H b1=some (Zr ls)) (h2:Zb H b2=some (Zr ls)) (hn:ls.length≤9223372036854775806) :
  call T pr Zae [slS b1 ls.length c1,slS b2 ls.length c2] ⟨H,e⟩=some (.bool true,⟨H,e⟩):=by
 obtain ⟨z5,z6,hl⟩:=ZhR (pr:=pr) (e:=none) (c1:=c1) (c2:=c2) h1 h2 hn ls.length 0 .undef .undef (.bool false) rfl
 have h0:((0:Nat):Int)=0:=rfl
 rw [h0] at hl
 rw [Zi Zvi]
 simp +contextual only [Zd9,Zm5,hl,decide_true,go_sem,reduceIte,Ra,Rb,Rc,Rd]
def ZJ (ls:List Sg):Bool:=ls.all YJ&&decide (ls.length≤5)
theorem Zjv {q:Nat} {c:Option Nat} {ls:List Sg} (h:Zb H q=some (Zr ls)) (hn:ls.length≤9223372036854775806) :
  ∀ (k i:Nat) (G:List Blk) (y2 y6 y7:AV),k+i=ls.length→∃ (G':List Blk) (z2 z5 z6 z7:AV),run T pr (.loop XZ) ⟨[slS q ls.length c,.bool false,y2,slS q ls.length c,.int .i64 ls.length,.int .i64 i,y6,y7],⟨H++G,e⟩⟩ =
   some (if (ls.drop i).all YJ=true then Ex.exit 0 else Ex.ret,⟨[slS q ls.length c,.bool false,z2,slS q ls.length c,.int .i64 ls.length,z5,z6,z7],⟨H++G',e⟩⟩)
 | 0,i,G,y2,y6,y7,hk=>by
  have hi:i=ls.length:=by omega
  subst hi
  refine ⟨G,y2,.int .i64 ls.length,.bool false,y7,?_⟩
  rw [Zw]
  generalize run T pr (.loop XZ)=R
  simp +contextual only [XZ,Rh,decide_false,Rp,Rw,go_sem,reduceIte,Ra,Rb,Rc,Rd]
 | k+1,i,G,y2,y6,y7,hk=>by
  have hi:i<ls.length:=by omega
  have hl:ls[i]?=some ls[i]:=Rj hi
  rw [Zw,Rm hi,Rv]
  cases h1:YJ ls[i] with
  | false=>
   refine ⟨G++[.cells [.int .i64 ls[i].1,.int .i64 ls[i].2.1,.int .i64 ls[i].2.2] true],.ptr (some (H.length+G.length,0)),.int .i64 i,.bool true,.bool true,?_⟩
   generalize run T pr (.loop XZ)=R
   simp +contextual only [XZ,Za h,hi,hl,QH hl,ZpR,h1,decide_true,go_sem,reduceIte,Ra,Rb,Rc,Rd]
  | true=>
   obtain ⟨G',z2,z5,z6,z7,ih⟩:=Zjv (c:=c) h hn k (i+1) (G++[.cells [.int .i64 ls[i].1,.int .i64 ls[i].2.1,.int .i64 ls[i].2.2] true]) (.ptr (some (H.length+G.length,0))) (.bool true) (.bool false) (by omega)
   refine ⟨G',z2,z5,z6,z7,?_⟩
   generalize run T pr (.loop XZ)=R at ih ⊢
   simp +contextual only [XZ,Za h,hi,hl,QH hl,ZpR,h1,Zh (show i<9223372036854775807 by omega),decide_true,go_sem,reduceIte,Ra,Rb,Rc,Rd]
   exact ih
theorem KH {q:Nat} {c:Option Nat} {ls:List Sg} (h:Zb H q=some (Zr ls)) (hn:ls.length≤9223372036854775806):call T pr YN [slS q ls.length c] ⟨H,e⟩=some (.bool (ZJ ls),⟨H,e⟩):=by
 obtain ⟨G',z2,z5,z6,z7,hl⟩:=Zjv (pr:=pr) (e:=none) (c:=c) h hn ls.length 0 [] .undef .undef .undef rfl
 have h0:((0:Nat):Int)=0:=rfl
 have hi:decide (((ls.length:Nat):Int)≤5)=decide (ls.length≤5):=decide_eq_decide.mpr (by omega)
 rw [h0,RA,Rk] at hl
 rw [Zi Zyp]
 unfold ZJ
 cases h1:ls.all YJ <;> rw [h1] at hl <;> simp +contextual only [Zgd,Zo2,hl,hi,go_sem,reduceIte,Ra,Rb,Rc,Rd]
theorem ZhS {q:Nat} {c:Option Nat} {ls:List Sg} {x:AV} (h:Zb H q=some (Zr ls)) (hn:ls.length≤9223372036854775806) :
  ∀ (k i:Nat) (y4 y5:AV),k+i=ls.length→∃ (z3 z4 z5:AV),run T pr (.loop Xm) ⟨[slS q ls.length c,x,.bool false,.int .i64 i,y4,y5],⟨H,e⟩⟩ =
   some (if (ls.drop i).all YJ=true then Ex.exit 0 else Ex.ret,⟨[slS q ls.length c,x,.bool false,z3,z4,z5],⟨H,e⟩⟩)
 | 0,i,y4,y5,hk=>by
  have hi:i=ls.length:=by omega
  subst hi
  refine ⟨.int .i64 ls.length,.bool false,y5,?_⟩
  rw [Zw]
  generalize run T pr (.loop Xm)=R
  simp +contextual only [Xm,Rh,decide_false,Rp,Rw,go_sem,reduceIte,Ra,Rb,Rc,Rd]
 | k+1,i,y4,y5,hk=>by
  have hi:i<ls.length:=by omega
  have hl:ls[i]?=some ls[i]:=Rj hi
  rw [Zw,Rm hi,Rv]
  cases h1:YJ ls[i] with
  | false=>
   refine ⟨.int .i64 i,.bool true,.bool true,?_⟩
   generalize run T pr (.loop Xm)=R
   simp +contextual only [Xm,h,hi,hl,QH hl,ZpS,h1,decide_true,go_sem,reduceIte,Ra,Rb,Rc,Rd]
  | true=>
   obtain ⟨z3,z4,z5,ih⟩:=ZhS (c:=c) (x:=x) h hn k (i+1) (.bool true) (.bool false) (by omega)
   refine ⟨z3,z4,z5,?_⟩
   generalize run T pr (.loop Xm)=R at ih ⊢
   simp +contextual only [Xm,h,hi,hl,QH hl,ZpS,h1,Zh (show i<9223372036854775807 by omega),decide_true,go_sem,reduceIte,Ra,Rb,Rc,Rd]
   exact ih
theorem Zca {q:Nat} {c:Option Nat} {ls:List Sg} (h:Zb H q=some (Zr ls)) (hn:ls.length≤9223372036854775806):call T pr JI [slS q ls.length c,.int .i64 5] ⟨H,e⟩=some (.bool (ZJ ls),⟨H,e⟩):=by
 obtain ⟨z3,z4,z5,hl⟩:=ZhS (pr:=pr) (e:=none) (c:=c) (x:=.int .i64 5) h hn ls.length 0 .undef .undef rfl
 have h0:((0:Nat):Int)=0:=rfl
 have hi:decide (((ls.length:Nat):Int)≤5)=decide (ls.length≤5):=decide_eq_decide.mpr (by omega)
 rw [h0,Rk] at hl
 rw [Zi Zvj]
 unfold ZJ
 cases h1:ls.all YJ <;> rw [h1] at hl <;> simp +contextual only [Zea,Zm6,hl,hi,go_sem,reduceIte,Ra,Rb,Rc,Rd]
abbrev stV (row:AV) (a b:Int) (chain:AV) (t k:Int):AV:=.agg [row,.int .i64 a,.int .i64 b,chain,.int .i64 t,.int .i64 k]
theorem Zq (lim b:Nat) (e:Option Nat):clean lim (Z7 e b)=(clean lim e&&decide (lim≤b)):=by
 cases e with
 | none=>simp [clean,Z7]
 | some x=>simp [clean,Z7,Nat.le_min]
theorem Zo (lim:Nat):clean lim none=true:=Eq.trans rfl rfl
theorem Zv (n b o sz k:Nat) (c:Option Nat):(AV.slice (some (b,o)) sz k c).under n=decide (b<n):=by simp [AV.under]
theorem ZA (n sz k:Nat) (c:Option Nat):(AV.slice none sz k c).under n=true:=by simp [AV.under]
theorem X7 {G:List Blk} {j1 j2 n1 n2:Nat} {c1 c2:Option Nat} {cs1 cs2:List AV} {w1 w2:Bool} (a b t k:Int) (e0 e1:Option Nat) (hc:clean H.length e1=true) (h1:G[j1]?=some (.cells cs1 w1)) (h2:G[j2]?=some (.cells cs2 w2)) (hne:j1≠j2)
  (u1:(cs1.all fun c=>c.under H.length)=true) (u2:(cs2.all fun c=>c.under H.length)=true) :
  finish 2 H.length e0 (stV (slL (H.length+j1) n1 c1) a b (slS (H.length+j2) n2 c2) t k) ⟨H++G,e1⟩=some (stV (slL H.length n1 c1) a b (slS (H.length+1) n2 c2) t k,⟨H++[.cells cs1 w1,.cells cs2 w2],e0⟩):=by
 have hlt1:¬ H.length+j1<H.length:=by omega
 have hlt2:¬ H.length+j2<H.length:=by omega
 have hne':¬ H.length+j2=H.length+j1:=by omega
 have hr:XQ (AV.roots H.length (stV (slL (H.length+j1) n1 c1) a b (slS (H.length+j2) n2 c2) t k))=[H.length+j1,H.length+j2]:=by
  simp only [AV.roots,AV.roots.go,if_neg hlt1,if_neg hlt2,Ro,Rn,RA]
  simp [XQ,hne',hne,Ne.symm hne]
 have hb1:(H++G)[H.length+j1]?=some (.cells cs1 w1):=by rw [RN (by omega)];simpa using h1
 have hb2:(H++G)[H.length+j2]?=some (.cells cs2 w2):=by rw [RN (by omega)];simpa using h2
 unfold finish
 simp only [hr]
 have h3:([H.length+j1,H.length+j2].all fun b=>Y5 H.length (H++G)[b]?)=true:=by
  simp only [Rv,Rw,Bool.and_true,hb1,hb2,Y5,u1,u2,Bool.and_self]
 simp only [hc,h3,and_self,if_true]
 have hq:(H.length+j1==H.length+j2)=false:=by simpa using hne
 simp [AV.rename,AV.rename.go,ZbT,hb1,hb2,List.idxOf_cons]
 refine ⟨fun h=>by omega,?_⟩
 rw [if_neg hlt2,hq]
 rfl
theorem Zlp {G:List Blk} {j1 j2 n1 n2:Nat} {c1 c2:Option Nat} {cs1 cs2:List AV} {w1 w2:Bool} (a b t k:Int) (x:Bool) (e0 e1:Option Nat) (hc:clean H.length e1=true) (h1:G[j1]?=some (.cells cs1 w1)) (h2:G[j2]?=some (.cells cs2 w2)) (hne:j1≠j2)
  (u1:(cs1.all fun c=>c.under H.length)=true) (u2:(cs2.all fun c=>c.under H.length)=true) :
  finish 2 H.length e0 (.tup [stV (slL (H.length+j1) n1 c1) a b (slS (H.length+j2) n2 c2) t k,.bool x]) ⟨H++G,e1⟩=some (.tup [stV (slL H.length n1 c1) a b (slS (H.length+1) n2 c2) t k,.bool x],⟨H++[.cells cs1 w1,.cells cs2 w2],e0⟩):=by
 have hlt1:¬ H.length+j1<H.length:=by omega
 have hlt2:¬ H.length+j2<H.length:=by omega
 have hne':¬ H.length+j2=H.length+j1:=by omega
 have hr:XQ (AV.roots H.length (.tup [stV (slL (H.length+j1) n1 c1) a b (slS (H.length+j2) n2 c2) t k,.bool x]))=[H.length+j1,H.length+j2]:=by
  simp only [AV.roots,AV.roots.go,if_neg hlt1,if_neg hlt2,Ro,Rn,RA]
  simp [XQ,hne',hne,Ne.symm hne]
 have hb1:(H++G)[H.length+j1]?=some (.cells cs1 w1):=by rw [RN (by omega)];simpa using h1
 have hb2:(H++G)[H.length+j2]?=some (.cells cs2 w2):=by rw [RN (by omega)];simpa using h2
 unfold finish
 simp only [hr]
 have h3:([H.length+j1,H.length+j2].all fun b=>Y5 H.length (H++G)[b]?)=true:=by
  simp only [Rv,Rw,Bool.and_true,hb1,hb2,Y5,u1,u2,Bool.and_self]
 simp only [hc,h3,and_self,if_true]
 have hq:(H.length+j1==H.length+j2)=false:=by simpa using hne
 simp [AV.rename,AV.rename.go,ZbT,hb1,hb2,List.idxOf_cons]
 refine ⟨fun h=>by omega,?_⟩
 rw [if_neg hlt2,hq]
 rfl
theorem Zlq {G:List Blk} {s1 s2 n1 n2:Nat} {c1 c2:Option Nat} (a b t k:Int) (x:Bool) (e0 e1:Option Nat) (hc:clean H.length e1=true) :
  finish 2 H.length e0 (.tup [stV (.slice none s1 n1 c1) a b (.slice none s2 n2 c2) t k,.bool x]) ⟨H++G,e1⟩=some (.tup [stV (.slice none s1 n1 c1) a b (.slice none s2 n2 c2) t k,.bool x],⟨H,e0⟩):=by
 have hr:XQ (AV.roots H.length (.tup [stV (.slice none s1 n1 c1) a b (.slice none s2 n2 c2) t k,.bool x]))=[]:=rfl
 unfold finish
 simp only [hr]
 simp [AV.rename,AV.rename.go,hc]
theorem ZwB (n:Nat) (p:Option (Nat×Nat)) (sz:Nat) (c:Option Nat) (hn:n≤maxLen) (left:Int) (h0:0≤left) (h1:left≤1048576):call T pr ZdR [.slice p sz n c,.int .i64 left] ⟨H,e⟩=some (.int .i64 (if (n:Int)≤left then left - n else -1),⟨H,e⟩):=by
 rw [Zi Zvg]
 have hm:maxLen=9223372036854775807:=by decide
 have hw:IntKind.i64.wrap (left - n)=left - n:=ZP (by omega) (by omega)
 by_cases h2:(n:Int)≤left
 ·have h3:¬ (left - n<0):=by omega
  simp +contextual only [ZbZ,Zhx,hw,h2,h3,decide_false,go_sem,reduceIte,Ra,Rb,Rc,Rd]
 ·have h3:left - n<0:=by omega
  simp +contextual only [ZbZ,Zhx,hw,h2,h3,decide_true,go_sem,reduceIte,Ra,Rb,Rc,Rd]
theorem ZzH {p1 p2:Option (Nat×Nat)} {s1 s2 n1 n2:Nat} {c1 c2:Option Nat} (hn1:n1≤maxLen) (hn2:n2≤maxLen) (a b t k:Int):call T pr ZfF [stV (.slice p1 s1 n1 c1) a b (.slice p2 s2 n2 c2) t k,.int .i64 1048576] ⟨H,e⟩ =
  some (.int .i64 (if n1+n2≤1048576 then 1048576 - ((n1+n2:Nat):Int) else -1),⟨H,e⟩):=by
 rw [Zi Zyd]
 by_cases h1:n1≤1048576
 ·have hz:=fun G e'=>ZwB (pr:=pr) (H:=G) (e:=e') n2 p2 s2 c2 hn2 (1048576 - (n1:Int)) (by omega) (by omega)
  have h2:¬ (1048576 - (n1:Int)<0):=by omega
  by_cases h3:n1+n2≤1048576
  ·have h4:(n2:Int)≤1048576 - (n1:Int):=by omega
   have h5:¬ (1048576 - (n1:Int) - (n2:Int)<0):=by omega
   have h6:1048576 - (n1:Int) - (n2:Int)=1048576 - ((n1+n2:Nat):Int):=by omega
   simp +contextual only [Zbl,Zf5,Zka _ _ _ _ hn1,h1,h2,hz,h3,h4,h5,decide_false,go_sem,reduceIte,Ra,Rb,Rc,Rd]
   rw [h6]
  ·have h4:¬ ((n2:Int)≤1048576 - (n1:Int)):=by omega
   simp +contextual only [Zbl,Zf5,Zka _ _ _ _ hn1,h1,h2,hz,h3,h4,decide_false,decide_true,show ((-1:Int)<0) by omega,go_sem,reduceIte,Ra,Rb,Rc,Rd]
 ·have h3:¬ (n1+n2≤1048576):=by omega
  simp +contextual only [Zbl,Zf5,Zka _ _ _ _ hn1,h1,h3,decide_true,show ((-1:Int)<0) by omega,go_sem,reduceIte,Ra,Rb,Rc,Rd]
theorem ZzI {row chain:AV} {ls:List Ld} {ss:List Sg} (ha:ZHW H row ls) (hs:ZHY H chain ss) (hn:ls.length≤1048576) (hm:ss.length≤1048576) (a b t k:Int):call T pr ZfG [stV row a b chain t k] ⟨H,e⟩ =
  some (stV (slL H.length ls.length (some ls.length)) a b (slS (H.length+1) ss.length (some ss.length)) t k,⟨H++[.cells (Zm ls) true,.cells (Zr ss) true],e⟩):=by
 have h1:=fun G e'=>ZzC (pr:=pr) (e:=e') (ha.more G) hn
 have h2:=fun G e'=>Zwz (pr:=pr) (e:=e') (hs.more G) hm
 have hf:∀ (B1 B2 B3:Blk) (e0 e1:Option Nat),clean H.length e1=true→finish 2 H.length e0 (stV (slL (H.length+3) ls.length (some ls.length)) a b (slS (H.length+4) ss.length (some ss.length)) t k) ⟨H++[B1,B2,B3,.cells (Zm ls) true,.cells (Zr ss) true],e1⟩=some (stV (slL H.length ls.length (some ls.length)) a b (slS (H.length+1) ss.length (some ss.length)) t k,⟨H++[.cells (Zm ls) true,.cells (Zr ss) true],e0⟩) :=
  fun B1 B2 B3 e0 e1 hc=>X7 a b t k e0 e1 hc rfl rfl (by decide) (ZU _ _) (Z6 _ _)
 rw [Zi Zye]
 simp +contextual only [Zf6,ZoT,h1,h2,hf,Zv,Nat.add_assoc,RQ,Rh,decide_false,Zq,Zo,Nat.le_add_right,decide_true,go_sem,reduceIte,Ra,Rb,Rc,Rd]
def Zcb (a b t k:Int):Bool:=Zg0 a b&&((decide (0≤k)&&decide (k≤1000))&&(decide (0≤t)&&decide (t≤k)))
theorem Zkb {row chain:AV} {x y:Bool} (hr:∀ G,call T pr Jr [row] ⟨H++G,none⟩=some (.bool x,⟨H++G,none⟩)) (hc:∀ G,call T pr YN [chain] ⟨H++G,none⟩=some (.bool y,⟨H++G,none⟩)) (a b t k:Int) :
  call T pr Je [stV row a b chain t k] ⟨H,e⟩=some (.bool (x&&(y&&Zcb a b t k)),⟨H,e⟩):=by
 rw [Zi Zyh]
 cases x with
 | false=>simp +contextual only [Kv,Zbm,hr,go_sem,reduceIte,Ra,Rb,Rc,Rd]
 | true=>
  unfold Zcb
  cases h1:Zg0 a b with
  | false=>simp +contextual only [Kv,Zbm,hr,Zff,h1,go_sem,reduceIte,Ra,Rb,Rc,Rd]
  | true=>
   cases y with
   | false=>simp +contextual only [Kv,Zbm,hr,hc,Zff,h1,go_sem,reduceIte,Ra,Rb,Rc,Rd]
   | true=>
    cases h2:(decide (0≤k)&&decide (k≤1000)) with
    | false=>simp +contextual only [Kv,Zbm,hr,hc,Zff,Yd,h1,h2,go_sem,reduceIte,Ra,Rb,Rc,Rd]
    | true=>simp +contextual only [Kv,Zbm,hr,hc,Zff,Yd,h1,h2,go_sem,reduceIte,Ra,Rb,Rc,Rd]
theorem Zkc {row chain:AV} {x y:Bool} (hr:∀ G,call T pr Js [row] ⟨H++G,none⟩=some (.bool x,⟨H++G,none⟩)) (hc:∀ G,call T pr JI [chain,.int .i64 5] ⟨H++G,none⟩=some (.bool y,⟨H++G,none⟩)) (a b t k:Int) :
  call T pr JQ [stV row a b chain t k] ⟨H,e⟩=some (.bool (x&&(y&&Zcb a b t k)),⟨H,e⟩):=by
 have h0:∀ G,call T pr Zoc [row,.int .i64 a,.int .i64 b] ⟨H++G,none⟩=some (.bool (x&&Zg0 a b),⟨H++G,none⟩):=by
  intro G
  have hrG:=hr G
  generalize H++G=L at hrG ⊢
  rw [Zi ZG0]
  cases x with
  | false=>simp +contextual only [ZkQ,Zs5,hrG,go_sem,reduceIte,Ra,Rb,Rc,Rd]
  | true=>simp +contextual only [ZkQ,Zs5,hrG,ZCV,go_sem,reduceIte,Ra,Rb,Rc,Rd]
 rw [Zi Zyi]
 unfold Zcb
 cases h2:(x&&Zg0 a b) with
 | false=>
  have h3:(x&&(y&&(Zg0 a b&&((decide (0≤k)&&decide (k≤1000))&&(decide (0≤t)&&decide (t≤k))))))=false:=by
   cases x <;> cases hb:Zg0 a b <;> simp_all
  rw [h3]
  simp +contextual only [QV,Zdf,h0,h2,go_sem,reduceIte,Ra,Rb,Rc,Rd]
 | true=>
  obtain ⟨rfl,h4⟩:=RG.mp h2
  rw [h4]
  cases y with
  | false=>simp +contextual only [QV,Zdf,h0,h2,hc,go_sem,reduceIte,Ra,Rb,Rc,Rd]
  | true=>
   cases h5:(decide (0≤k)&&decide (k≤1000)) with
   | false=>simp +contextual only [QV,Zdf,h0,h2,hc,Ye,h5,go_sem,reduceIte,Ra,Rb,Rc,Rd]
   | true=>simp +contextual only [QV,Zdf,h0,h2,hc,Ye,h5,go_sem,reduceIte,Ra,Rb,Rc,Rd]
theorem ZzJ {r1 r2 c1 c2:AV} (h1:∀ G,call T pr Zbe [r1,r2] ⟨H++G,none⟩=some (.bool true,⟨H++G,none⟩)) (h2:∀ G,call T pr Zae [c1,c2] ⟨H++G,none⟩=some (.bool true,⟨H++G,none⟩)) (a b t k:Int) :
  call T pr ZfH [stV r1 a b c1 t k,stV r2 a b c2 t k] ⟨H,e⟩=some (.bool true,⟨H,e⟩):=by
 rw [Zi Zyf]
 simp +contextual only [Zf7,ZoU,h1,h2,decide_true,go_sem,reduceIte,Ra,Rb,Rc,Rd]
theorem Ki {x:Nat} (h:x≤9223372036854775807):IntKind.i64.wrap (x:Int)=(x:Int):=ZP (by omega) (by omega)
theorem Zjw {r:AV}:∀ (k b a:Nat) (y:AV),b≤k→∃ z,run T pr (.loop K1) ⟨[.int .i64 a,.int .i64 b,r,y],⟨H,e⟩⟩=some (Ex.exit 0,⟨[.int .i64 (Ri b a:Nat),.int .i64 0,r,z],⟨H,e⟩⟩)
 | k,0,a,y,hk=>by
  refine ⟨.bool false,?_⟩
  have h0:((0:Nat):Int)=0:=rfl
  rw [Zw,Nat.gcd_zero_left,h0]
  generalize run T pr (.loop K1)=R
  simp +contextual only [K1,Int.lt_irrefl,decide_false,go_sem,reduceIte,Ra,Rb,Rc,Rd]
 | 0,b+1,a,y,hk=>by omega
 | k+1,b+1,a,y,hk=>by
  have hm:a % (b+1)<b+1:=Nat.mod_lt _ (by omega)
  obtain ⟨z,ih⟩:=Zjw (r:=r) k (a % (b+1)) (b+1) (.bool true) (by omega)
  refine ⟨z,?_⟩
  have hg:Ri (b+1) a=Ri (a % (b+1)) (b+1):=Nat.gcd_rec _ _
  have ht:Int.tmod (a:Int) ((b+1:Nat):Int)=((a % (b+1):Nat):Int):=rfl
  have hp:(0:Int)<((b+1:Nat):Int):=by omega
  have hne:¬ ((b+1:Nat):Int)=0:=by omega
  rw [Zw,hg]
  generalize run T pr (.loop K1)=R at ih ⊢
  simp +contextual only [K1,hp,hne,ht,decide_true,go_sem,reduceIte,Ra,Rb,Rc,Rd]
  exact ih
theorem ZzK (a b:Nat):call T pr Zf0 [.int .i64 a,.int .i64 b] ⟨H,e⟩=some (.int .i64 (Ri b a:Nat),⟨H,e⟩):=by
 obtain ⟨z,hl⟩:=Zjw (pr:=pr) (H:=H) (e:=none) (r:=.int .i64 0) b b a .undef (Rz _)
 rw [Zi ZyM]
 simp +contextual only [Zgu,Zpi,hl,go_sem,reduceIte,Ra,Rb,Rc,Rd]
theorem Znp {r:AV}:∀ (k b a:Nat) (y:AV),b≤k→∃ z,run T pr (.loop Zbs) ⟨[.int .i64 a,.int .i64 b,r,y],⟨H,e⟩⟩=some (Ex.exit 0,⟨[.int .i64 (Ri b a:Nat),.int .i64 0,r,z],⟨H,e⟩⟩)
 | k,0,a,y,hk=>by
  refine ⟨.bool false,?_⟩
  have h0:((0:Nat):Int)=0:=rfl
  rw [Zw,Nat.gcd_zero_left,h0]
  generalize run T pr (.loop Zbs)=R
  simp +contextual only [Zbs,Int.lt_irrefl,decide_false,go_sem,reduceIte,Ra,Rb,Rc,Rd]
 | 0,b+1,a,y,hk=>by omega
 | k+1,b+1,a,y,hk=>by
  have hm:a % (b+1)<b+1:=Nat.mod_lt _ (by omega)
  obtain ⟨z,ih⟩:=Znp (r:=r) k (a % (b+1)) (b+1) (.bool true) (by omega)
  refine ⟨z,?_⟩
  have hg:Ri (b+1) a=Ri (a % (b+1)) (b+1):=Nat.gcd_rec _ _
  have ht:Int.tmod (a:Int) ((b+1:Nat):Int)=((a % (b+1):Nat):Int):=rfl
  have hp:(0:Int)<((b+1:Nat):Int):=by omega
  have hne:¬ ((b+1:Nat):Int)=0:=by omega
  rw [Zw,hg]
  generalize run T pr (.loop Zbs)=R at ih ⊢
  simp +contextual only [Zbs,hp,hne,ht,decide_true,go_sem,reduceIte,Ra,Rb,Rc,Rd]
  exact ih
theorem ZE9 (a b:Nat):call T pr ZkH [.int .i64 a,.int .i64 b] ⟨H,e⟩=some (.int .i64 (Ri b a:Nat),⟨H,e⟩):=by
 obtain ⟨z,hl⟩:=Znp (pr:=pr) (H:=H) (e:=none) (r:=.int .i64 0) b b a .undef (Rz _)
 rw [Zi ZEt]
 simp +contextual only [Zk6,Zvd,hl,go_sem,reduceIte,Ra,Rb,Rc,Rd]
theorem Zsl (a b:Int):call T pr Zc0 [.int .i64 a,.int .i64 b] ⟨H,e⟩=some (.int .i64 (if b<a then a else b),⟨H,e⟩):=by
 rw [Zi ZBT]
 by_cases h:b<a <;> simp +contextual only [ZiO,Zr8,h,decide_true,decide_false,go_sem,reduceIte,Ra,Rb,Rc,Rd]
def fracA (x y:Nat):Nat:=x / Ri y x
def fracB (x y:Nat):Nat:=y / Ri y x
abbrev fvV (x y:Nat):AV:=.agg [.int .i64 x,.int .i64 y]
theorem Zsm {x y:Nat} (hy:0<y) (hx1:x≤4611686018427387904) (hy1:y≤4611686018427387904) :
  ¬ ((Ri y x:Nat):Int)=0∧IntKind.i64.wrap (Int.tdiv (x:Int) (Ri y x:Nat))=(fracA x y:Int)∧IntKind.i64.wrap (Int.tdiv (y:Int) (Ri y x:Nat))=(fracB x y:Int):=by
 have hg:0<Ri y x:=RO _ hy
 have h1:fracA x y≤x:=Rt _ _
 have h2:fracB x y≤y:=Rt _ _
 refine ⟨by omega,?_,?_⟩
 ·have:Int.tdiv (x:Int) (Ri y x:Nat)=(fracA x y:Int):=rfl
  rw [this];exact Ki (by omega)
 ·have:Int.tdiv (y:Int) (Ri y x:Nat)=(fracB x y:Int):=rfl
  rw [this];exact Ki (by omega)
theorem KI {x y:Nat} (hy:0<y) (hx1:x≤4611686018427387904) (hy1:y≤4611686018427387904):call T pr Xk [.int .i64 x,.int .i64 y] ⟨H,e⟩=some (fvV (fracA x y) (fracB x y),⟨H,e⟩):=by
 obtain ⟨h1,h2,h3⟩:=Zsm hy hx1 hy1
 have hw:IntKind.i64.wrap (0 - (x:Int))=0 - (x:Int):=ZP (by omega) (by omega)
 have hm:¬ (0 - (x:Int)>(x:Int)):=by omega
 have hm':¬ ((x:Int)<0 - (x:Int)):=by omega
 rw [Zi Zvv]
 simp +contextual only [Zej,Znc,hw,hm,hm',ZzK,Zc,h1,h2,h3,go_sem,reduceIte,Ra,Rb,Rc,Rd]
theorem Zfh {x y:Nat} (hy:0<y) (hx1:x≤4611686018427387904) (hy1:y≤4611686018427387904):call T pr ZbW [.int .i64 x,.int .i64 y] ⟨H,e⟩=some (fvV (fracA x y) (fracB x y),⟨H,e⟩):=by
 obtain ⟨h1,h2,h3⟩:=Zsm hy hx1 hy1
 have hw:IntKind.i64.wrap (0 - (x:Int))=0 - (x:Int):=ZP (by omega) (by omega)
 have hm:(if 0 - (x:Int)<(x:Int) then (x:Int) else 0 - (x:Int))=(x:Int):=by
  split
  ·rfl
  ·omega
 rw [Zi ZEp]
 simp +contextual only [Zk2,Zu9,hw,Zsl,hm,ZE9,Zc,h1,h2,h3,go_sem,reduceIte,Ra,Rb,Rc,Rd]
theorem ZgB {x y:Nat} (hx:0<x) (hy:0<y):0<fracA x y∧0<fracB x y∧fracA x y≤x∧fracB x y≤y:=by
 have hg:0<Ri y x:=RO _ hy
 refine ⟨Nat.div_pos (Nat.le_of_dvd hx (Nat.gcd_dvd_right _ _)) hg,Nat.div_pos (Nat.le_of_dvd hy (Nat.gcd_dvd_left _ _)) hg,Rt _ _,Rt _ _⟩
def gainA (s:Sg):Nat:=if s.1=2 then s.2.1.toNat else if s.1=5 then fracA (2*s.2.1.toNat) (s.2.1.toNat - s.2.2.toNat) else fracA s.2.1.toNat s.2.2.toNat
def gainB (s:Sg):Nat:=if s.1=2 then 1 else if s.1=5 then fracB (2*s.2.1.toNat) (s.2.1.toNat - s.2.2.toNat) else fracB s.2.1.toNat s.2.2.toNat
theorem Zkd {s:Sg} (h:YJ s=true):(1≤s.2.1∧s.2.1≤24)∧(s.1≠2→1≤s.2.2∧s.2.2≤24)∧(s.1=5→s.2.2<s.2.1):=by
 unfold YJ ZaU at h
 by_cases h1:s.1=1
 ·rw [if_pos h1] at h
  simp at h
  exact ⟨h.1,fun _=>h.2,fun h5=>by omega⟩
 rw [if_neg h1] at h
 by_cases h3:s.1=3
 ·rw [if_pos h3] at h
  simp at h
  exact ⟨h.1,fun _=>h.2,fun h5=>by omega⟩
 rw [if_neg h3] at h
 by_cases h2:s.1=2
 ·rw [if_pos h2] at h
  simp at h
  exact ⟨h.1,fun hn=>absurd h2 hn,fun h5=>by omega⟩
 rw [if_neg h2] at h
 by_cases h4:s.1=4
 ·rw [if_pos h4] at h
  simp at h
  exact ⟨h.1.1,fun _=>h.1.2,fun h5=>by omega⟩
 rw [if_neg h4] at h
 by_cases h5:s.1=5
 ·rw [if_pos h5] at h
  simp at h
  exact ⟨h.1.1,fun _=>h.1.2,fun _=>h.2⟩
 rw [if_neg h5] at h
 cases h
theorem Zke {s:Sg} (h:YJ s=true):0<gainA s∧gainA s≤48∧0<gainB s∧gainB s≤24:=by
 obtain ⟨h1,h2,h3⟩:=Zkd h
 unfold gainA gainB
 by_cases k2:s.1=2
 ·simp only [if_pos k2];omega
 ·simp only [if_neg k2]
  have:=h2 k2
  by_cases k5:s.1=5
  ·simp only [if_pos k5]
   have:=h3 k5
   obtain ⟨f1,f2,f3,f4⟩:=ZgB (x:=2*s.2.1.toNat) (y:=s.2.1.toNat - s.2.2.toNat) (by omega) (by omega)
   omega
  ·simp only [if_neg k5]
   obtain ⟨f1,f2,f3,f4⟩:=ZgB (x:=s.2.1.toNat) (y:=s.2.2.toNat) (by omega) (by omega)
   omega
theorem Zlr (s:Sg) (h:YJ s=true):call T pr Zay [.agg [.int .i64 s.1,.int .i64 s.2.1,.int .i64 s.2.2]] ⟨H,e⟩=some (fvV (gainA s) (gainB s),⟨H,e⟩):=by
 obtain ⟨h1,h2,h3⟩:=Zkd h
 obtain ⟨k,a,b⟩:=s
 simp only at h1 h2 h3 ⊢
 obtain ⟨a,rfl⟩:∃ n:Nat,a=n:=⟨a.toNat,by omega⟩
 rw [Zi Ztn]
 unfold gainA gainB
 simp only [RC]
 by_cases k2:k=2
 ·subst k2
  simp +contextual only [KY,ZcP,Zc,decide_true,go_sem,reduceIte,Ra,Rb,Rc,Rd]
  rfl
 ·have hb:=h2 k2
  obtain ⟨b,rfl⟩:∃ n:Nat,b=n:=⟨b.toNat,by omega⟩
  simp only [RC]
  by_cases k5:k=5
  ·subst k5
   have hlt:=h3 rfl
   have hw1:IntKind.i64.wrap (2*(a:Int))=((2*a:Nat):Int):=by rw [show (2*(a:Int))=((2*a:Nat):Int) by omega];exact Ki (by omega)
   have hw2:IntKind.i64.wrap ((a:Int) - (b:Int))=((a - b:Nat):Int):=by rw [show ((a:Int) - (b:Int))=((a - b:Nat):Int) by omega];exact Ki (by omega)
   have hf:=fun L e'=>KI (pr:=pr) (H:=L) (e:=e') (x:=2*a) (y:=a - b) (by omega) (by omega) (by omega)
   simp +contextual only [KY,ZcP,Zc,show ¬ ((5:Int)=2) by omega,hw1,hw2,hf,decide_true,decide_false,go_sem,reduceIte,Ra,Rb,Rc,Rd]
  ·have hf:=fun L e'=>KI (pr:=pr) (H:=L) (e:=e') (x:=a) (y:=b) (by omega) (by omega) (by omega)
   simp +contextual only [KY,ZcP,Zc,k2,k5,hf,decide_true,decide_false,go_sem,reduceIte,Ra,Rb,Rc,Rd]
theorem Zsn (s:Sg) (h:YJ s=true):call T pr Ziz [.agg [.int .i64 s.1,.int .i64 s.2.1,.int .i64 s.2.2]] ⟨H,e⟩=some (fvV (gainA s) (gainB s),⟨H,e⟩):=by
 obtain ⟨h1,h2,h3⟩:=Zkd h
 obtain ⟨k,a,b⟩:=s
 simp only at h1 h2 h3 ⊢
 obtain ⟨a,rfl⟩:∃ n:Nat,a=n:=⟨a.toNat,by omega⟩
 rw [Zi ZBW]
 unfold gainA gainB
 simp only [RC]
 by_cases k2:k=2
 ·subst k2
  simp +contextual only [Zc2,ZiQ,Zc,decide_true,go_sem,reduceIte,Ra,Rb,Rc,Rd]
  rfl
 ·have hb:=h2 k2
  obtain ⟨b,rfl⟩:∃ n:Nat,b=n:=⟨b.toNat,by omega⟩
  simp only [RC]
  by_cases k5:k=5
  ·subst k5
   have hlt:=h3 rfl
   have hw1:IntKind.i64.wrap (2*(a:Int))=((2*a:Nat):Int):=by rw [show (2*(a:Int))=((2*a:Nat):Int) by omega];exact Ki (by omega)
   have hw2:IntKind.i64.wrap ((a:Int) - (b:Int))=((a - b:Nat):Int):=by rw [show ((a:Int) - (b:Int))=((a - b:Nat):Int) by omega];exact Ki (by omega)
   have hf:=fun L e'=>Zfh (pr:=pr) (H:=L) (e:=e') (x:=2*a) (y:=a - b) (by omega) (by omega) (by omega)
   simp +contextual only [Zc2,ZiQ,Zc,show ¬ ((5:Int)=2) by omega,hw1,hw2,hf,decide_true,decide_false,go_sem,reduceIte,Ra,Rb,Rc,Rd]
  ·have hf:=fun L e'=>Zfh (pr:=pr) (H:=L) (e:=e') (x:=a) (y:=b) (by omega) (by omega) (by omega)
   simp +contextual only [Zc2,ZiQ,Zc,k2,k5,hf,decide_true,decide_false,go_sem,reduceIte,Ra,Rb,Rc,Rd]
def ZB:Nat→Nat→List Sg→Nat
 | P,_,[]=>P
 | P,Q,s::ss=>ZB (fracA (P*gainA s) (Q*gainB s)) (fracB (P*gainA s) (Q*gainB s)) ss
def ZC:Nat→Nat→List Sg→Nat
 | _,Q,[]=>Q
 | P,Q,s::ss=>ZC (fracA (P*gainA s) (Q*gainB s)) (fracB (P*gainA s) (Q*gainB s)) ss
theorem Zls {s:Sg} {P Q i:Nat} (h:YJ s=true) (hP:0<P∧P≤48 ^ i) (hQ:0<Q∧Q≤24 ^ i) (hi:i<5) :
  (0<P*gainA s∧P*gainA s≤48 ^ (i+1))∧(0<Q*gainB s∧Q*gainB s≤24 ^ (i+1))∧48 ^ (i+1)≤254803968∧24 ^ (i+1)≤254803968:=by
 obtain ⟨g1,g2,g3,g4⟩:=Zke h
 refine ⟨⟨Nat.mul_pos hP.1 g1,?_⟩,⟨Nat.mul_pos hQ.1 g3,?_⟩,?_,?_⟩
 ·rw [Nat.pow_succ];exact Nat.mul_le_mul hP.2 g2
 ·rw [Nat.pow_succ];exact Nat.mul_le_mul hQ.2 g4
 ·have:48 ^ (i+1)≤48 ^ 5:=RP (by omega) (by omega)
  have h2:(48:Nat) ^ 5=254803968:=by decide
  omega
 ·have:24 ^ (i+1)≤24 ^ 5:=RP (by omega) (by omega)
  have h2:(24:Nat) ^ 5=7962624:=by decide
  omega
theorem Zes:∀ (ss:List Sg) (i P Q:Nat),ss.all YJ=true→ss.length+i≤5→(0<P∧P≤48 ^ i)→(0<Q∧Q≤24 ^ i)→0<ZB P Q ss∧ZB P Q ss≤254803968∧0<ZC P Q ss∧ZC P Q ss≤254803968
 | [],i,P,Q,_,hi,hP,hQ=>by
  have h1:48 ^ i≤48 ^ 5:=RP (by omega) (by simpa using hi)
  have h2:(48:Nat) ^ 5=254803968:=by decide
  have h3:24 ^ i≤24 ^ 5:=RP (by omega) (by simpa using hi)
  have h4:(24:Nat) ^ 5=7962624:=by decide
  rw [ZB,ZC]
  omega
 | s::ss,i,P,Q,ha,hi,hP,hQ=>by
  rw [Rv,Ru] at ha
  rw [Rl] at hi
  obtain ⟨⟨g1,g2⟩,⟨g3,g4⟩,_,_⟩:=Zls ha.1 hP hQ (by omega)
  obtain ⟨f1,f2,f3,f4⟩:=ZgB g1 g3
  rw [ZB,ZC]
  exact Zes ss (i+1) _ _ ha.2 (by omega) ⟨f1,by omega⟩ ⟨f2,by omega⟩
theorem Zbv:(0:Int)<((2:Nat):Int):=by omega
theorem Zbw:(1:Int)<((2:Nat):Int):=by omega
theorem Za7:(0:Int)≤1:=by omega
theorem Zg2 {q:Nat} {c:Option Nat} {ls:List Sg} {R0:Blk} {y1:AV} (h:Zb H q=some (Zr ls)) (hall:ls.all YJ=true) (hn:ls.length≤5) :
  ∀ (k i P Q:Nat) (G:List Blk) (y3 y4 y8:AV),k+i=ls.length→(0<P∧P≤48 ^ i)→(0<Q∧Q≤24 ^ i)→∃ (G':List Blk) (z3 z4 z8:AV),run T pr (.loop Jy) ⟨[slS q ls.length c,y1,.ptr (some (H.length+1,0)),y3,y4,slS q ls.length c,.int .i64 ls.length,.int .i64 i,y8],⟨H++(R0::.cells [.int .i64 P,.int .i64 Q] true::G),none⟩⟩ =
   some (Ex.exit 0,⟨[slS q ls.length c,y1,.ptr (some (H.length+1,0)),z3,z4,slS q ls.length c,.int .i64 ls.length,.int .i64 ls.length,z8],⟨H++(R0::.cells [.int .i64 (ZB P Q (ls.drop i)),.int .i64 (ZC P Q (ls.drop i))] true::G'),none⟩⟩)
 | 0,i,P,Q,G,y3,y4,y8,hk,hP,hQ=>by
  have hi:i=ls.length:=by omega
  subst hi
  refine ⟨G,y3,y4,.bool false,?_⟩
  rw [Zw]
  generalize run T pr (.loop Jy)=R
  simp +contextual only [Jy,Rh,decide_false,Rp,ZB,ZC,go_sem,reduceIte,Ra,Rb,Rc,Rd]
 | k+1,i,P,Q,G,y3,y4,y8,hk,hP,hQ=>by
  have hi:i<ls.length:=by omega
  have hl:ls[i]?=some ls[i]:=Rj hi
  have hs:YJ ls[i]=true:=(List.all_eq_true.mp hall) _ (List.getElem_mem hi)
  rw [Zw,Rm hi,ZB,ZC]
  generalize hx:ls[i]=s at hl hs ⊢
  obtain ⟨⟨g1,g2⟩,⟨g3,g4⟩,g5,g6⟩:=Zls hs hP hQ (by omega)
  obtain ⟨f1,f2,f3,f4⟩:=ZgB g1 g3
  have w1:IntKind.i64.wrap ((P:Int)*(gainA s:Int))=((P*gainA s:Nat):Int):=by rw [←RD];exact Ki (by omega)
  have w2:IntKind.i64.wrap ((Q:Int)*(gainB s:Int))=((Q*gainB s:Nat):Int):=by rw [←RD];exact Ki (by omega)
  have hf:=fun L=>KI (pr:=pr) (H:=L) (e:=none) (x:=P*gainA s) (y:=Q*gainB s) g3 (by omega) (by omega)
  obtain ⟨G',z3,z4,z8,ih⟩:=Zg2 (c:=c) (R0:=R0) (y1:=y1) h hall hn k (i+1) (fracA (P*gainA s) (Q*gainB s)) (fracB (P*gainA s) (Q*gainB s)) (G++[.cells [.int .i64 s.1,.int .i64 s.2.1,.int .i64 s.2.2] true,.cells [.int .i64 (gainA s:Nat),.int .i64 (gainB s:Nat)] true]) (.ptr (some (H.length+(G.length+1+1),0))) (.ptr (some (H.length+(G.length+1+1+1),0))) (.bool true) (by omega) ⟨f1,by omega⟩ ⟨f2,by omega⟩
  refine ⟨G',z3,z4,z8,?_⟩
  generalize run T pr (.loop Jy)=R at ih ⊢
  simp +contextual only [Jy,Za h,hi,hl,QH hl,Zlr s hs,Zbv,Zbw,Za7,Int.le_refl,RH,RI,Rr,Rq,w1,w2,hf,Zh (show i<9223372036854775807 by omega),decide_true,go_sem,reduceIte,Ra,Rb,Rc,Rd]
  exact ih
theorem ZgC {q:Nat} {c:Option Nat} {ls:List Sg} (h:Zb H q=some (Zr ls)) (hc:ZJ ls=true):call T pr XV [slS q ls.length c] ⟨H,e⟩=some (fvV (ZB 1 1 ls) (ZC 1 1 ls),⟨H,e⟩):=by
 unfold ZJ at hc
 rw [Ru,decide_eq_true_eq] at hc
 obtain ⟨G',z3,z4,z8,hl⟩:=Zg2 (pr:=pr) (c:=c) (R0:=.cells [.int .i64 0,.int .i64 0] true) (y1:=.ptr (some (H.length,0))) h hc.1 hc.2 ls.length 0 1 1 [] .undef .undef .undef rfl (by decide) (by decide)
 have h0:((0:Nat):Int)=0:=rfl
 have h1:((1:Nat):Int)=1:=rfl
 rw [h0,h1,Rk] at hl
 rw [Zi Ztk]
 simp +contextual only [ZcN,ZkZ,Zc,hl,go_sem,reduceIte,Ra,Rb,Rc,Rd]
theorem Zjx {q:Nat} {c:Option Nat} {ls:List Sg} {R0:Blk} {y1:AV} (h:Zb H q=some (Zr ls)) (hall:ls.all YJ=true) (hn:ls.length≤5) :
  ∀ (k i P Q:Nat) (G:List Blk) (y4 y5:AV),k+i=ls.length→(0<P∧P≤48 ^ i)→(0<Q∧Q≤24 ^ i)→∃ (G':List Blk) (z4 z5:AV),run T pr (.loop X2) ⟨[slS q ls.length c,y1,.ptr (some (H.length+1,0)),.int .i64 i,y4,y5],⟨H++(R0::.cells [.int .i64 P,.int .i64 Q] true::G),none⟩⟩ =
   some (Ex.exit 0,⟨[slS q ls.length c,y1,.ptr (some (H.length+1,0)),.int .i64 ls.length,z4,z5],⟨H++(R0::.cells [.int .i64 (ZB P Q (ls.drop i)),.int .i64 (ZC P Q (ls.drop i))] true::G'),none⟩⟩)
 | 0,i,P,Q,G,y4,y5,hk,hP,hQ=>by
  have hi:i=ls.length:=by omega
  subst hi
  refine ⟨G,y4,.bool false,?_⟩
  rw [Zw]
  generalize run T pr (.loop X2)=R
  simp +contextual only [X2,Rh,decide_false,Rp,ZB,ZC,go_sem,reduceIte,Ra,Rb,Rc,Rd]
 | k+1,i,P,Q,G,y4,y5,hk,hP,hQ=>by
  have hi:i<ls.length:=by omega
  have hl:ls[i]?=some ls[i]:=Rj hi
  have hs:YJ ls[i]=true:=(List.all_eq_true.mp hall) _ (List.getElem_mem hi)
  rw [Zw,Rm hi,ZB,ZC]
  generalize hx:ls[i]=s at hl hs ⊢
  obtain ⟨⟨g1,g2⟩,⟨g3,g4⟩,g5,g6⟩:=Zls hs hP hQ (by omega)
  obtain ⟨f1,f2,f3,f4⟩:=ZgB g1 g3
  have w1:IntKind.i64.wrap ((P:Int)*(gainA s:Int))=((P*gainA s:Nat):Int):=by rw [←RD];exact Ki (by omega)
  have w2:IntKind.i64.wrap ((Q:Int)*(gainB s:Int))=((Q*gainB s:Nat):Int):=by rw [←RD];exact Ki (by omega)
  have hf:=fun L=>Zfh (pr:=pr) (H:=L) (e:=none) (x:=P*gainA s) (y:=Q*gainB s) g3 (by omega) (by omega)
  obtain ⟨G',z4,z5,ih⟩:=Zjx (c:=c) (R0:=R0) (y1:=y1) h hall hn k (i+1) (fracA (P*gainA s) (Q*gainB s)) (fracB (P*gainA s) (Q*gainB s)) (G++[.cells [.int .i64 (gainA s:Nat),.int .i64 (gainB s:Nat)] true]) (.ptr (some (H.length+(G.length+1+1),0))) (.bool true) (by omega) ⟨f1,by omega⟩ ⟨f2,by omega⟩
  refine ⟨G',z4,z5,?_⟩
  generalize run T pr (.loop X2)=R at ih ⊢
  simp +contextual only [X2,Za h,hi,hl,QH hl,Zsn s hs,Zbv,Zbw,Za7,Int.le_refl,RH,RI,Rr,Rq,w1,w2,hf,Zh (show i<9223372036854775807 by omega),decide_true,go_sem,reduceIte,Ra,Rb,Rc,Rd]
  exact ih
theorem ZgD {q:Nat} {c:Option Nat} {ls:List Sg} (h:Zb H q=some (Zr ls)) (hc:ZJ ls=true):call T pr Jg [slS q ls.length c] ⟨H,e⟩=some (fvV (ZB 1 1 ls) (ZC 1 1 ls),⟨H,e⟩):=by
 unfold ZJ at hc
 rw [Ru,decide_eq_true_eq] at hc
 obtain ⟨G',z4,z5,hl⟩:=Zjx (pr:=pr) (c:=c) (R0:=.cells [.int .i64 0,.int .i64 0] true) (y1:=.ptr (some (H.length,0))) h hc.1 hc.2 ls.length 0 1 1 [] .undef .undef rfl (by decide) (by decide)
 have h0:((0:Nat):Int)=0:=rfl
 have h1:((1:Nat):Int)=1:=rfl
 rw [h0,h1,Rk] at hl
 rw [Zi Zpu]
 simp +contextual only [Zbp,ZjV,Zc,hl,go_sem,reduceIte,Ra,Rb,Rc,Rd]
def Q6 (ls:List Ld):Int:=ls.foldl (fun a l=>IntKind.i64.wrap (a+l.2)) 0
theorem ZhT {q:Nat} {c:Option Nat} {ls:List Ld} {r:AV} (h:Zb H q=some (Zm ls)) (hn:ls.length≤9223372036854775806) :
  ∀ (k i:Nat) (a:Int) (G:List Blk) (y3 y7:AV),k+i=ls.length→∃ (G':List Blk) (z3 z7:AV),run T pr (.loop Kb) ⟨[slL q ls.length c,r,.int .i64 a,y3,slL q ls.length c,.int .i64 ls.length,.int .i64 i,y7],⟨H++G,e⟩⟩ =
   some (Ex.exit 0,⟨[slL q ls.length c,r,.int .i64 ((ls.drop i).foldl (fun a l=>IntKind.i64.wrap (a+l.2)) a),z3,slL q ls.length c,.int .i64 ls.length,.int .i64 ls.length,z7],⟨H++G',e⟩⟩)
 | 0,i,a,G,y3,y7,hk=>by
  have hi:i=ls.length:=by omega
  subst hi
  refine ⟨G,y3,.bool false,?_⟩
  rw [Zw]
  generalize run T pr (.loop Kb)=R
  simp +contextual only [Kb,Rh,decide_false,Rp,List.foldl_nil,go_sem,reduceIte,Ra,Rb,Rc,Rd]
 | k+1,i,a,G,y3,y7,hk=>by
  have hi:i<ls.length:=by omega
  have hl:ls[i]?=some ls[i]:=Rj hi
  rw [Zw,Rm hi,RF]
  obtain ⟨G',z3,z7,ih⟩:=ZhT (c:=c) (r:=r) h hn k (i+1) (IntKind.i64.wrap (a+ls[i].2)) (G++[.cells [.int .i64 ls[i].1,.int .i64 ls[i].2] true]) (.ptr (some (H.length+G.length,0))) (.bool true) (by omega)
  refine ⟨G',z3,z7,?_⟩
  generalize run T pr (.loop Kb)=R at ih ⊢
  simp +contextual only [Kb,Za h,hi,hl,X6 hl,Zh (show i<9223372036854775807 by omega),decide_true,go_sem,reduceIte,Ra,Rb,Rc,Rd]
  exact ih
theorem Zet {q:Nat} {c:Option Nat} {ls:List Ld} (h:Zb H q=some (Zm ls)) (hn:ls.length≤9223372036854775806):call T pr Kt [slL q ls.length c] ⟨H,e⟩=some (.int .i64 (Q6 ls),⟨H,e⟩):=by
 obtain ⟨G',z3,z7,hl⟩:=ZhT (pr:=pr) (e:=none) (c:=c) (r:=.int .i64 0) h hn ls.length 0 0 [] .undef .undef rfl
 have h0:((0:Nat):Int)=0:=rfl
 rw [h0,RA,Rk] at hl
 rw [Zi Zvf]
 simp +contextual only [Zd7,Zm3,hl,go_sem,reduceIte,Ra,Rb,Rc,Rd]
 rfl
theorem ZhU {q:Nat} {c:Option Nat} {ls:List Ld} {r:AV} (h:Zb H q=some (Zm ls)) (hn:ls.length≤9223372036854775806) :
  ∀ (k i:Nat) (a:Int) (y4:AV),k+i=ls.length→∃ (z4:AV),run T pr (.loop Ke) ⟨[slL q ls.length c,r,.int .i64 a,.int .i64 i,y4],⟨H,e⟩⟩ =
   some (Ex.exit 0,⟨[slL q ls.length c,r,.int .i64 ((ls.drop i).foldl (fun a l=>IntKind.i64.wrap (a+l.2)) a),.int .i64 ls.length,z4],⟨H,e⟩⟩)
 | 0,i,a,y4,hk=>by
  have hi:i=ls.length:=by omega
  subst hi
  refine ⟨.bool false,?_⟩
  rw [Zw]
  generalize run T pr (.loop Ke)=R
  simp +contextual only [Ke,Rh,decide_false,Rp,List.foldl_nil,go_sem,reduceIte,Ra,Rb,Rc,Rd]
 | k+1,i,a,y4,hk=>by
  have hi:i<ls.length:=by omega
  have hl:ls[i]?=some ls[i]:=Rj hi
  rw [Zw,Rm hi,RF]
  obtain ⟨z4,ih⟩:=ZhU (c:=c) (r:=r) h hn k (i+1) (IntKind.i64.wrap (a+ls[i].2)) (.bool true) (by omega)
  refine ⟨z4,?_⟩
  generalize run T pr (.loop Ke)=R at ih ⊢
  simp +contextual only [Ke,h,hi,hl,XO _ hl,Zh (show i<9223372036854775807 by omega),decide_true,go_sem,reduceIte,Ra,Rb,Rc,Rd]
  exact ih
theorem Zeu {q:Nat} {c:Option Nat} {ls:List Ld} (h:Zb H q=some (Zm ls)) (hn:ls.length≤9223372036854775806):call T pr JJ [slL q ls.length c] ⟨H,e⟩=some (.int .i64 (Q6 ls),⟨H,e⟩):=by
 obtain ⟨z4,hl⟩:=ZhU (pr:=pr) (e:=none) (c:=c) (r:=.int .i64 0) h hn ls.length 0 0 .undef rfl
 have h0:((0:Nat):Int)=0:=rfl
 rw [h0,Rk] at hl
 rw [Zi Zvs]
 simp +contextual only [Zei,Znb,hl,go_sem,reduceIte,Ra,Rb,Rc,Rd]
 rfl
theorem ZpT:∀ (ls:List Ld) (a:Nat),ls.all okL=true→a+ls.length*99≤1000000→∃ n:Nat,ls.foldl (fun a l=>IntKind.i64.wrap (a+l.2)) (a:Int)=(n:Int)∧n≤a+ls.length*99
 | [],a,_,_=>⟨a,rfl,by simp⟩
 | l::ls,a,h,hb=>by
  rw [Rv,Ru] at h
  rw [Rl] at hb
  have h1:=h.1
  unfold okL at h1
  simp only [Ru,decide_eq_true_eq] at h1
  have hw:IntKind.i64.wrap ((a:Int)+l.2)=((a+l.2.toNat:Nat):Int):=by rw [show (a:Int)+l.2=((a+l.2.toNat:Nat):Int) by omega];exact Ki (by omega)
  obtain ⟨n,n1,n2⟩:=ZpT ls (a+l.2.toNat) h.2 (by omega)
  refine ⟨n,?_,by rw [Rl];omega⟩
  rw [RF,hw,n1]
theorem ZaV {ls:List Ld} (h:YZ ls=true):∃ n:Nat,Q6 ls=n∧n≤1000000:=by
 unfold YZ at h
 rw [Ru,decide_eq_true_eq] at h
 obtain ⟨n,n1,n2⟩:=ZpT ls 0 h.2 (by omega)
 exact ⟨n,n1,by omega⟩
theorem ZiR (x:Int):call T pr Zaf [.int .i64 x] ⟨H,e⟩=some (.bool (decide (0≤x)&&decide (x≤1000000)),⟨H,e⟩):=by
 rw [Zi ZBU]
 simp +contextual only [ZiP,Zr9,Yd,go_sem,reduceIte,Ra,Rb,Rc,Rd]
theorem ZFa (x y:Nat) (hy:0<y):(fracA x y+fracB x y - 1) / fracB x y=(x+y - 1) / y:=by
 have hg:0<Ri y x:=RO _ hy
 obtain ⟨x',hx'⟩:=Nat.gcd_dvd_right y x
 obtain ⟨y',hy'⟩:=Nat.gcd_dvd_left y x
 unfold fracA fracB
 generalize hgg:Ri y x=g at *
 have h1:x / g=x':=by rw [hx',Nat.mul_div_cancel_left _ hg]
 have h2:y / g=y':=by rw [hy',Nat.mul_div_cancel_left _ hg]
 rw [h1,h2]
 have hy'0:0<y':=by
  rcases Nat.eq_zero_or_pos y' with h | h
  ·rw [h,Nat.mul_zero] at hy';omega
  ·exact h
 have h3:(x+y - 1) / g=x'+y' - 1:=by
  have h5:x+y - 1=g*(x'+y' - 1)+(g - 1):=by
   have e1:g*(x'+y' - 1)=g*(x'+y') - g:=by rw [Nat.mul_sub,Nat.mul_one]
   have e2:g*(x'+y')=g*x'+g*y':=Nat.mul_add _ _ _
   have e3:g*y'≥g:=Nat.le_mul_of_pos_right _ hy'0
   rw [←hx',←hy'] at e2
   omega
  rw [h5,Nat.mul_add_div hg,Nat.div_eq_of_lt (by omega),Nat.add_zero]
 rw [←h3,Nat.div_div_eq_div_mul,←hy']
def pullW (ss:List Sg) (n:Nat):Nat:=(n*ZC 1 1 ss+ZB 1 1 ss - 1) / ZB 1 1 ss
theorem Zt7 {q:Nat} {c:Option Nat} {ss:List Sg} (h:Zb H q=some (Zr ss)) (hc:ZJ ss=true) (n:Nat) (hn:n≤1000000):call T pr Zcw [slS q ss.length c,.int .i64 n] ⟨H,e⟩=some (.tup [.int .i64 (pullW ss n),.bool true],⟨H,e⟩):=by
 have hc':=hc
 unfold ZJ at hc'
 rw [Ru,decide_eq_true_eq] at hc'
 obtain ⟨b1,b2,b3,b4⟩:=Zes ss 0 1 1 hc'.1 (by omega) (by decide) (by decide)
 have hch:=fun G=>KH (pr:=pr) (e:=none) (c:=c) (Za h G) (by omega)
 have hcg:=fun G=>ZgC (pr:=pr) (e:=none) (c:=c) (Za h G) hc
 have hw1:decide ((n:Int)≤1000000)=true:=decide_eq_true (by omega)
 have hpull:pullW ss n=(n*ZC 1 1 ss+ZB 1 1 ss - 1) / ZB 1 1 ss:=rfl
 have hcf:=ZFa (n*ZC 1 1 ss) (ZB 1 1 ss) b1
 rw [←hpull] at hcf
 have hmul:n*ZC 1 1 ss≤1000000*254803968:=Nat.mul_le_mul hn b4
 generalize ZB 1 1 ss=P at *
 generalize ZC 1 1 ss=Q at *
 have hw2:IntKind.i64.wrap ((n:Int)*(Q:Int))=((n*Q:Nat):Int):=by rw [←RD];exact Ki (by omega)
 have hf:=fun L=>KI (pr:=pr) (H:=L) (e:=none) (x:=n*Q) (y:=P) b1 (by omega) (by omega)
 have hfb:0<fracB (n*Q) P:=Nat.div_pos (Nat.le_of_dvd b1 (Nat.gcd_dvd_left _ _)) (RO _ b1)
 have hfa:fracA (n*Q) P≤n*Q:=Rt _ _
 have hfb':fracB (n*Q) P≤P:=Rt _ _
 have hpf:∀ G,call T pr Zf1 [slS q ss.length c,.int .i64 n] ⟨H++G,none⟩=some (.tup [fvV (fracA (n*Q) P) (fracB (n*Q) P),.bool true],⟨H++G,none⟩):=by
  intro G
  have hch':∀ X,call T pr YN [slS q ss.length c] ⟨(H++G)++X,none⟩=some (.bool (ZJ ss),⟨(H++G)++X,none⟩):=fun X=>by rw [Rs];exact hch _
  have hcg':∀ X,call T pr XV [slS q ss.length c] ⟨(H++G)++X,none⟩=some (fvV P Q,⟨(H++G)++X,none⟩):=fun X=>by rw [Rs];exact hcg _
  generalize H++G=L at hch' hcg' ⊢
  rw [Zi ZyN]
  simp +contextual only [Zgv,Zpj,hch',hc,ZiR,hw1,decide_true,hcg',Zc,Zbv,Zbw,Za7,Int.le_refl,RH,RI,Rr,Rq,hw2,hf,go_sem,reduceIte,Ra,Rb,Rc,Rd]
 have hpf0:=hpf []
 rw [RA] at hpf0
 generalize fracA (n*Q) P=x at *
 generalize fracB (n*Q) P=y at *
 have hw3:IntKind.i64.wrap ((x:Int)+(y:Int))=((x+y:Nat):Int):=by rw [←Int.natCast_add];exact Ki (by omega)
 have hw4:IntKind.i64.wrap (((x+y:Nat):Int) - 1)=((x+y - 1:Nat):Int):=by rw [show ((x+y:Nat):Int) - 1=((x+y - 1:Nat):Int) by omega];exact Ki (by omega)
 have hy0:¬ (y:Int)=0:=by omega
 have hd:Int.tdiv ((x+y - 1:Nat):Int) (y:Int)=((pullW ss n:Nat):Int):=by rw [←hcf];rfl
 have hle:(x+y - 1) / y≤x+y - 1:=Rt _ _
 have hw5:IntKind.i64.wrap ((pullW ss n:Nat):Int)=((pullW ss n:Nat):Int):=Ki (by omega)
 rw [Zi Ztm]
 simp +contextual only [ZcO,Zk0,hpf,hpf0,Zbv,Zbw,Za7,Int.le_refl,RH,RI,Rr,Rq,hw3,hw4,hy0,hd,hw5,go_sem,reduceIte,Ra,Rb,Rc,Rd]
theorem Zt8 {q:Nat} {c:Option Nat} {ss:List Sg} (h:Zb H q=some (Zr ss)) (hc:ZJ ss=true) (n:Nat) (hn:n≤1000000):call T pr Zcx [slS q ss.length c,.int .i64 n] ⟨H,e⟩=some (.tup [.int .i64 (pullW ss n),.bool true],⟨H,e⟩):=by
 have hc':=hc
 unfold ZJ at hc'
 rw [Ru,decide_eq_true_eq] at hc'
 obtain ⟨b1,b2,b3,b4⟩:=Zes ss 0 1 1 hc'.1 (by omega) (by decide) (by decide)
 have hst:∀ e',call T pr JI [slS q ss.length c,.int .i64 5] ⟨H,e'⟩=some (.bool (ZJ ss),⟨H,e'⟩):=fun e'=>Zca h (by omega)
 have hcg:=fun G=>ZgD (pr:=pr) (e:=none) (c:=c) (Za h G) hc
 have hcg0:=ZgD (pr:=pr) (e:=none) (c:=c) h hc
 have hw1:decide ((n:Int)≤1000000)=true:=decide_eq_true (by omega)
 have hask:∀ e',call T pr QC [slS q ss.length c,.int .i64 n] ⟨H,e'⟩=some (.bool true,⟨H,e'⟩):=by
  intro e'
  rw [Zi ZvB]
  simp +contextual only [ZhK,Zpk,hst,hc,Ye,hw1,decide_true,go_sem,reduceIte,Ra,Rb,Rc,Rd]
 have hpull:pullW ss n=(n*ZC 1 1 ss+ZB 1 1 ss - 1) / ZB 1 1 ss:=rfl
 have hmul:n*ZC 1 1 ss≤1000000*254803968:=Nat.mul_le_mul hn b4
 generalize ZB 1 1 ss=P at *
 generalize ZC 1 1 ss=Q at *
 have hw2:IntKind.i64.wrap ((n:Int)*(Q:Int))=((n*Q:Nat):Int):=by rw [←RD];exact Ki (by omega)
 generalize n*Q=x at *
 have hw3:IntKind.i64.wrap ((x:Int)+(P:Int))=((x+P:Nat):Int):=by rw [←Int.natCast_add];exact Ki (by omega)
 have hw4:IntKind.i64.wrap (((x+P:Nat):Int) - 1)=((x+P - 1:Nat):Int):=by rw [show ((x+P:Nat):Int) - 1=((x+P - 1:Nat):Int) by omega];exact Ki (by omega)
 have hy0:¬ (P:Int)=0:=by omega
 have hd:Int.tdiv ((x+P - 1:Nat):Int) (P:Int)=((pullW ss n:Nat):Int):=by rw [hpull];rfl
 have hle:(x+P - 1) / P≤x+P - 1:=Rt _ _
 have hw5:IntKind.i64.wrap ((pullW ss n:Nat):Int)=((pullW ss n:Nat):Int):=Ki (by omega)
 rw [Zi Ztp]
 simp +contextual only [ZcR,Zk3,hask,hcg,hcg0,Zbv,Zbw,Za7,Int.le_refl,RH,RI,Rr,Rq,hw2,hw3,hw4,hy0,hd,hw5,go_sem,reduceIte,Ra,Rb,Rc,Rd]
def rowPullW (ls:List Ld) (ss:List Sg) (ok:Bool):Nat:=if ok=true then pullW ss (Q6 ls).toNat else 0
theorem ZzL {q q':Nat} {c c':Option Nat} {ls:List Ld} {ss:List Sg} (h1:Zb H q=some (Zm ls)) (h2:Zb H q'=some (Zr ss)) (hn:ls.length≤9223372036854775806) (hm:ss.length≤9223372036854775806) (a b t k:Int) :
  call T pr ZfU [stV (slL q ls.length c) a b (slS q' ss.length c') t k] ⟨H,e⟩=some (.tup [.int .i64 (rowPullW ls ss (YZ ls&&(ZJ ss&&Zcb a b t k))),.bool (YZ ls&&(ZJ ss&&Zcb a b t k))],⟨H,e⟩):=by
 have his:∀ G,call T pr Je [stV (slL q ls.length c) a b (slS q' ss.length c') t k] ⟨H++G,none⟩=some (.bool (YZ ls&&(ZJ ss&&Zcb a b t k)),⟨H++G,none⟩) :=
  fun G=>Zkb (fun X=>by rw [Rs];exact QG (Za h1 _)) (fun X=>by rw [Rs];exact KH (Za h2 _) hm) a b t k
 rw [Zi ZyC]
 cases hok:(YZ ls&&(ZJ ss&&Zcb a b t k)) with
 | false=>
  have h0:((rowPullW ls ss false:Nat):Int)=0:=rfl
  rw [h0]
  simp +contextual only [Zdk,ZjQ,his,hok,go_sem,reduceIte,Ra,Rb,Rc,Rd]
 | true=>
  obtain ⟨k1,k2⟩:=RG.mp hok
  obtain ⟨k3,k4⟩:=RG.mp k2
  obtain ⟨n,n1,n2⟩:=ZaV k1
  have hr:rowPullW ls ss true=pullW ss n:=by unfold rowPullW;rw [if_pos rfl,n1,RC]
  have hwt:=fun G=>Zet (pr:=pr) (e:=none) (c:=c) (Za h1 G) hn
  rw [n1] at hwt
  rw [hr]
  simp +contextual only [Zdk,ZjQ,his,hok,hwt,Zt7 (Za h2 _) k3 n n2,go_sem,reduceIte,Ra,Rb,Rc,Rd]
theorem ZzM {q q':Nat} {c c':Option Nat} {ls:List Ld} {ss:List Sg} (h1:Zb H q=some (Zm ls)) (h2:Zb H q'=some (Zr ss)) (hn:ls.length≤9223372036854775806) (hm:ss.length≤9223372036854775806) (a b t k:Int) :
  call T pr ZfX [stV (slL q ls.length c) a b (slS q' ss.length c') t k] ⟨H,e⟩=some (.tup [.int .i64 (rowPullW ls ss (YZ ls&&(ZJ ss&&Zcb a b t k))),.bool (YZ ls&&(ZJ ss&&Zcb a b t k))],⟨H,e⟩):=by
 have his:∀ G,call T pr JQ [stV (slL q ls.length c) a b (slS q' ss.length c') t k] ⟨H++G,none⟩=some (.bool (YZ ls&&(ZJ ss&&Zcb a b t k)),⟨H++G,none⟩) :=
  fun G=>Zkc (fun X=>by rw [Rs];exact ZaR (Za h1 _)) (fun X=>by rw [Rs];exact Zca (Za h2 _) hm) a b t k
 rw [Zi ZyF]
 cases hok:(YZ ls&&(ZJ ss&&Zcb a b t k)) with
 | false=>
  have h0:((rowPullW ls ss false:Nat):Int)=0:=rfl
  rw [h0]
  simp +contextual only [Zdn,ZjT,his,hok,go_sem,reduceIte,Ra,Rb,Rc,Rd]
 | true=>
  obtain ⟨k1,k2⟩:=RG.mp hok
  obtain ⟨k3,k4⟩:=RG.mp k2
  obtain ⟨n,n1,n2⟩:=ZaV k1
  have hr:rowPullW ls ss true=pullW ss n:=by unfold rowPullW;rw [if_pos rfl,n1,RC]
  have hwt:=fun G=>Zeu (pr:=pr) (e:=none) (c:=c) (Za h1 G) hn
  rw [n1] at hwt
  rw [hr]
  simp +contextual only [Zdn,ZjT,his,hok,hwt,Zt8 (Za h2 _) k3 n n2,go_sem,reduceIte,Ra,Rb,Rc,Rd]
theorem ZpU:∀ (n k i:Nat),i<n→(Jn k n)[i]?=some (((k+i*2:Nat):Int),((k+i*2+1:Nat):Int))
 | 0,k,i,h=>by omega
 | n+1,k,0,h=>by simp [Jn]
 | n+1,k,i+1,h=>by
  rw [Jn,List.getElem?_cons_succ,ZpU n (k+2) i (by omega),show k+2+i*2=k+(i+1)*2 by omega]
theorem Zg3 {q n k0:Nat} {c:Option Nat} {r:AV} (h:Zb H q=some (Zm (Jn k0 n))) (hn:n≤4194304) (hk0:k0≤16777216) :
  ∀ (k i:Nat) (y4 y5 y6:AV),k+i=n→∃ z4 z5 z6,run T pr (.loop Jv) ⟨[slL q n c,.int .i64 ((k0+i*2:Nat):Int),r,.int .i64 i,y4,y5,y6],⟨H,e⟩⟩ =
   some (Ex.exit 0,⟨[slL q n c,.int .i64 ((k0+n*2:Nat):Int),r,.int .i64 n,z4,z5,z6],⟨H,e⟩⟩)
 | 0,i,y4,y5,y6,hk=>by
  have hi:i=n:=by omega
  subst hi
  refine ⟨.bool false,y5,y6,?_⟩
  rw [Zw]
  generalize run T pr (.loop Jv)=R
  simp +contextual only [Jv,Rh,decide_false,go_sem,reduceIte,Ra,Rb,Rc,Rd]
 | k+1,i,y4,y5,y6,hk=>by
  have hi:i<n:=by omega
  have hl:=ZpU n k0 i hi
  obtain ⟨z4,z5,z6,ih⟩:=Zg3 (c:=c) (r:=r) h hn hk0 k (i+1) (.bool true) (.bool false) (.bool false) (by omega)
  refine ⟨z4,z5,z6,?_⟩
  rw [Zw]
  rw [show k0+(i+1)*2=(k0+i*2)+1+1 by omega] at ih
  have hK:k0+i*2≤33554432:=by omega
  generalize k0+i*2=K at hl ih hK ⊢
  generalize run T pr (.loop Jv)=R at ih ⊢
  simp +contextual only [Jv,h,hi,JC _ hl,XO _ hl,Zh (show K<9223372036854775807 by omega),Zh (show K+1<9223372036854775807 by omega),Zh (show i<9223372036854775807 by omega),decide_true,go_sem,reduceIte,Ra,Rb,Rc,Rd]
  exact ih
theorem Zt9 {q n k:Nat} {c:Option Nat} (h:Zb H q=some (Zm (Jn k n))) (hn:n≤4194304) (hk:k≤16777216):call T pr Zcu [slL q n c,.int .i64 k] ⟨H,e⟩=some (.int .i64 ((k+n*2:Nat):Int),⟨H,e⟩):=by
 obtain ⟨z4,z5,z6,hl⟩:=Zg3 (pr:=pr) (e:=none) (c:=c) (r:=.int .i64 0) h hn hk n 0 .undef .undef .undef rfl
 have h0:((0:Nat):Int)=0:=rfl
 rw [h0,Rr,Nat.add_zero] at hl
 rw [Zi Zth]
 simp +contextual only [ZcK,ZkT,hl,go_sem,reduceIte,Ra,Rb,Rc,Rd]
def Q7 (k:Nat):Nat→List Sg
 | 0=>[]
 | n+1=>((k:Int),((k+1:Nat):Int),((k+2:Nat):Int))::Q7 (k+3) n
theorem ZpV:∀ (n k i:Nat),i<n→(Q7 k n)[i]?=some (((k+i*3:Nat):Int),((k+i*3+1:Nat):Int),((k+i*3+2:Nat):Int))
 | 0,k,i,h=>by omega
 | n+1,k,0,h=>by simp [Q7]
 | n+1,k,i+1,h=>by
  rw [Q7,List.getElem?_cons_succ,ZpV n (k+3) i (by omega),show k+3+i*3=k+(i+1)*3 by omega]
theorem ZCX {ss:List Sg} {i:Nat} {s:Sg} (sz:Nat) (h:ss[i]?=some s):Zco false (Zr ss) (i*3) sz=some (.int .i64 s.1):=by
 induction ss generalizing i with
 | nil=>simp at h
 | cons a ss ih=>
  cases i with
  | zero=>simp at h;subst h;simp [Zr,Zco]
  | succ i=>
   simp at h
   rw [show (i+1)*3=i*3+1+1+1 by omega,Zr,ZaQ,ZaQ,ZaQ]
   exact ih h
theorem ZCY {ss:List Sg} {i:Nat} {s:Sg} (sz:Nat) (h:ss[i]?=some s):Zco false (Zr ss) (i*3+1) sz=some (.int .i64 s.2.1):=by
 induction ss generalizing i with
 | nil=>simp at h
 | cons a ss ih=>
  cases i with
  | zero=>simp at h;subst h;simp [Zr,Zco]
  | succ i=>
   simp at h
   rw [show (i+1)*3+1=i*3+1+1+1+1 by omega,Zr,ZaQ,ZaQ,ZaQ]
   exact ih h
theorem ZCZ {ss:List Sg} {i:Nat} {s:Sg} (sz:Nat) (h:ss[i]?=some s):Zco false (Zr ss) (i*3+2) sz=some (.int .i64 s.2.2):=by
 induction ss generalizing i with
 | nil=>simp at h
 | cons a ss ih=>
  cases i with
  | zero=>simp at h;subst h;simp [Zr,Zco]
  | succ i=>
   simp at h
   rw [show (i+1)*3+2=i*3+2+1+1+1 by omega,Zr,ZaQ,ZaQ,ZaQ]
   exact ih h
theorem Zfi {q n k0:Nat} {c:Option Nat} {r:AV} (h:Zb H q=some (Zr (Q7 k0 n))) (hn:n≤4194304) (hk0:k0≤16777216) :
  ∀ (k i:Nat) (y4 y5 y6 y7:AV),k+i=n→∃ z4 z5 z6 z7,run T pr (.loop XN) ⟨[slS q n c,.int .i64 ((k0+i*3:Nat):Int),r,.int .i64 i,y4,y5,y6,y7],⟨H,e⟩⟩ =
   some (Ex.exit 0,⟨[slS q n c,.int .i64 ((k0+n*3:Nat):Int),r,.int .i64 n,z4,z5,z6,z7],⟨H,e⟩⟩)
 | 0,i,y4,y5,y6,y7,hk=>by
  have hi:i=n:=by omega
  subst hi
  refine ⟨.bool false,y5,y6,y7,?_⟩
  rw [Zw]
  generalize run T pr (.loop XN)=R
  simp +contextual only [XN,Rh,decide_false,go_sem,reduceIte,Ra,Rb,Rc,Rd]
 | k+1,i,y4,y5,y6,y7,hk=>by
  have hi:i<n:=by omega
  have hl:=ZpV n k0 i hi
  obtain ⟨z4,z5,z6,z7,ih⟩:=Zfi (c:=c) (r:=r) h hn hk0 k (i+1) (.bool true) (.bool false) (.bool false) (.bool false) (by omega)
  refine ⟨z4,z5,z6,z7,?_⟩
  rw [Zw]
  rw [show k0+(i+1)*3=(k0+i*3)+1+1+1 by omega] at ih
  have hK:k0+i*3≤33554432:=by omega
  rw [show k0+i*3+2=k0+i*3+1+1 by omega] at hl
  generalize k0+i*3=K at hl ih hK ⊢
  generalize run T pr (.loop XN)=R at ih ⊢
  simp +contextual only [XN,h,hi,ZCX _ hl,ZCY _ hl,ZCZ _ hl,Zh (show K<9223372036854775807 by omega),Zh (show K+1<9223372036854775807 by omega),Zh (show K+1+1<9223372036854775807 by omega),Zh (show i<9223372036854775807 by omega),decide_true,go_sem,reduceIte,Ra,Rb,Rc,Rd]
  exact ih
theorem Zru {q n k:Nat} {c:Option Nat} (h:Zb H q=some (Zr (Q7 k n))) (hn:n≤4194304) (hk:k≤16777216):call T pr ZbE [slS q n c,.int .i64 k] ⟨H,e⟩=some (.int .i64 ((k+n*3:Nat):Int),⟨H,e⟩):=by
 obtain ⟨z4,z5,z6,z7,hl⟩:=Zfi (pr:=pr) (e:=none) (c:=c) (r:=.int .i64 0) h hn hk n 0 .undef .undef .undef .undef rfl
 have h0:((0:Nat):Int)=0:=rfl
 rw [h0,Rr,Nat.add_zero] at hl
 rw [Zi ZqS]
 simp +contextual only [ZbM,Zjm,hl,go_sem,reduceIte,Ra,Rb,Rc,Rd]
theorem Zrv (P R:List Sg) (r:Sg) (a:Int):ZN (Zr (P++r::R)) (P.length*3) [.int .i64 a]=Zr (P++(a,r.2)::R):=by
 induction P with
 | nil=>simp [Zr,ZN]
 | cons p P ih=>
  simp only [Zr,Rn,Rl,Nat.add_mul,Rq] at *
  rw [show P.length*3+3=P.length*3+1+1+1 by omega,Z5,Z5,Z5,ih]
theorem Zrw (P R:List Sg) (r:Sg) (a:Int):ZN (Zr (P++r::R)) (P.length*3+1) [.int .i64 a]=Zr (P++(r.1,a,r.2.2)::R):=by
 induction P with
 | nil=>simp [Zr,ZN]
 | cons p P ih=>
  simp only [Zr,Rn,Rl,Nat.add_mul,Rq] at *
  rw [show P.length*3+3+1=P.length*3+1+1+1+1 by omega,Z5,Z5,Z5,ih]
theorem Zrx (P R:List Sg) (r:Sg) (a:Int):ZN (Zr (P++r::R)) (P.length*3+2) [.int .i64 a]=Zr (P++(r.1,r.2.1,a)::R):=by
 induction P with
 | nil=>simp [Zr,ZN]
 | cons p P ih=>
  simp only [Zr,Rn,Rl,Nat.add_mul,Rq] at *
  rw [show P.length*3+3+2=P.length*3+2+1+1+1 by omega,Z5,Z5,Z5,ih]
theorem Zfj {L:List Blk} {b n:Nat} {c:Option Nat} {r:AV} (hb:b<L.length) (hn:n≤4194304) :
  ∀ (R P:List Sg) (k:Nat) (y4:AV),P.length+R.length=n→k+R.length*3≤33554432→∃ z4,run T pr (.loop XL) ⟨[slS b n c,.int .i64 k,r,.int .i64 P.length,y4],⟨L.set b (.cells (Zr (P++R)) true),e⟩⟩ =
   some (Ex.exit 0,⟨[slS b n c,.int .i64 ((k+R.length*3:Nat):Int),r,.int .i64 n,z4],⟨L.set b (.cells (Zr (P++Q7 k R.length)) true),e⟩⟩)
 | [],P,k,y4,hP,hk=>by
  refine ⟨.bool false,?_⟩
  obtain rfl:n=P.length:=by simp at hP;omega
  rw [Zw]
  generalize run T pr (.loop XL)=R'
  simp +contextual only [XL,Rh,decide_false,Q7,Rr,go_sem,reduceIte,Ra,Rb,Rc,Rd]
 | x::R,P,k,y4,hP,hk=>by
  simp only [Rl] at hP hk
  have hi:P.length<n:=by omega
  obtain ⟨z4,ih⟩:=Zfj (c:=c) (r:=r) hb hn R (P++[((k:Int),((k+1:Nat):Int),((k+2:Nat):Int))]) (k+3) (.bool true) (by simp;omega) (by omega)
  refine ⟨z4,?_⟩
  rw [Zw]
  generalize run T pr (.loop XL)=R' at ih ⊢
  have hg:∀ y:Sg,(L.set b (.cells (Zr (P++y::R)) true))[b]?=some (.cells (Zr (P++y::R)) true):=fun y=>List.getElem?_set_self hb
  have hle1:∀ y:Sg,P.length*3+1≤(Zr (P++y::R)).length:=by intro y;rw [YS];simp;omega
  have hle2:∀ y:Sg,P.length*3+1+1≤(Zr (P++y::R)).length:=by intro y;rw [YS];simp;omega
  have hle2':∀ y:Sg,P.length*3+2≤(Zr (P++y::R)).length:=by intro y;rw [YS];simp;omega
  have hle3:∀ y:Sg,P.length*3+2+1≤(Zr (P++y::R)).length:=by intro y;rw [YS];simp;omega
  have hle3':∀ y:Sg,P.length*3+3≤(Zr (P++y::R)).length:=by intro y;rw [YS];simp;omega
  rw [show k+3+R.length*3=k+(R.length+1)*3 by omega] at ih
  simp only [Rs,List.singleton_append,List.length_append,Rl,RM,Nat.zero_add] at ih
  have hw1:IntKind.i64.wrap ((k:Int)+1)=((k+1:Nat):Int):=Zh (show k<9223372036854775807 by omega)
  have hw2:IntKind.i64.wrap (((k+1:Nat):Int)+1)=((k+2:Nat):Int):=Zh (show k+1<9223372036854775807 by omega)
  have hw3:IntKind.i64.wrap (((k+2:Nat):Int)+1)=((k+3:Nat):Int):=Zh (show k+2<9223372036854775807 by omega)
  simp +contextual only [XL,hi,hg,hle1,hle2,hle2',hle3,hle3',Zrv,Zrw,Zrx,List.set_set,Q7,hw1,hw2,hw3,Zh (show P.length<9223372036854775807 by omega),decide_true,go_sem,reduceIte,Ra,Rb,Rc,Rd]
  exact ih
theorem Zry {L:List Blk} {b:Nat} {c:Option Nat} {ls:List Sg} (h:L[b]?=some (.cells (Zr ls) true)) (hn:ls.length≤4194304) (k:Nat) (hk:k≤16777216):call T pr Qz [slS b ls.length c,.int .i64 k] ⟨L,e⟩ =
  some (.int .i64 ((k+ls.length*3:Nat):Int),⟨L.set b (.cells (Zr (Q7 k ls.length)) true),e⟩):=by
 have hb:=(RB.mp h).1
 obtain ⟨z4,hl⟩:=Zfj (pr:=pr) (e:=none) (c:=c) (r:=.int .i64 0) hb hn ls [] k .undef (by simp) (by omega)
 have h0:((0:Nat):Int)=0:=rfl
 rw [RM,h0,Ro,Ro,ZAF h] at hl
 rw [Zi ZqQ]
 simp +contextual only [ZbI,Zjk,hl,Zjt,go_sem,reduceIte,Ra,Rb,Rc,Rd]
theorem Zjy {L' l:List Blk} {n:Nat} (v:AV) (e0:Option Nat) (hl:L'.length=n) (h:v.under n=true):finish 1 n e0 v ⟨L'++l,none⟩=some (v,⟨L',e0⟩):=by
 subst hl
 simp [finish,h,clean]
theorem Zof {L l:List Blk} {q:Nat} {x:Blk} (h:q<L.length):(L++l).set q x=L.set q x++l:=by
 rw [List.set_append_left _ _ h]
def K7 (L:List Blk) (q1 q2 n m x:Nat):List Blk:=(L.set q1 (.cells (Zm (Jn x n)) true)).set q2 (.cells (Zr (Q7 (x+n*2) m)) true)
theorem Zua {L:List Blk} {q1 q2:Nat} {c1 c2:Option Nat} {ls:List Ld} {ss:List Sg} (h1:L[q1]?=some (.cells (Zm ls) true)) (h2:L[q2]?=some (.cells (Zr ss) true)) (hne:q1≠q2) (hn:ls.length≤1048576) (hm:ss.length≤1048576) (a b t k:Int) (x:Nat) (hx:x≤4194304) :
  call T pr Zaq [stV (slL q1 ls.length c1) a b (slS q2 ss.length c2) t k,.int .i64 x] ⟨L,e⟩=some (.int .i64 ((x+ls.length*2+ss.length*3:Nat):Int),⟨K7 L q1 q2 ls.length ss.length x,e⟩):=by
 have l1:=(RB.mp h1).1
 have l2:=(RB.mp h2).1
 have hM:∀ X,call T pr Zas [slL q1 ls.length c1,.int .i64 x] ⟨L++X,none⟩=some (.int .i64 ((x+ls.length*2:Nat):Int),⟨L.set q1 (.cells (Zm (Jn x ls.length)) true)++X,none⟩):=fun X=>by
  rw [←Zof l1]
  exact Zt5 (by rw [List.getElem?_append_left l1];exact h1) (by omega) x hx
 have l2':q2<(L.set q1 (.cells (Zm (Jn x ls.length)) true)).length:=by rw [RE];exact l2
 have h2':(L.set q1 (.cells (Zm (Jn x ls.length)) true))[q2]?=some (.cells (Zr ss) true):=by rw [List.getElem?_set_ne hne];exact h2
 have hS:∀ X,call T pr Qz [slS q2 ss.length c2,.int .i64 ((x+ls.length*2:Nat):Int)] ⟨L.set q1 (.cells (Zm (Jn x ls.length)) true)++X,none⟩=some (.int .i64 ((x+ls.length*2+ss.length*3:Nat):Int),⟨K7 L q1 q2 ls.length ss.length x++X,none⟩):=fun X=>by
  unfold K7
  rw [←Zof l2']
  exact Zry (by rw [List.getElem?_append_left l2'];exact h2') (by omega) _ (by omega)
 have hlen:(K7 L q1 q2 ls.length ss.length x).length=L.length:=by unfold K7;simp
 have hld:∀ X:List Blk,Zb (L.set q1 (.cells (Zm (Jn x ls.length)) true)++X) L.length=Zb X 0:=fun X=>by
  have:=ZhN (H:=L.set q1 (.cells (Zm (Jn x ls.length)) true)) X
  rwa [RE] at this
 rw [Zi Zta]
 simp +contextual only [ZcD,ZkM,hM,hS,hld,Zjy _ _ hlen,go_sem,reduceIte,Ra,Rb,Rc,Rd]
theorem Zub {L:List Blk} {q1 q2 n m:Nat} {c1 c2:Option Nat} {x:Nat} (h1:Zb L q1=some (Zm (Jn x n))) (h2:Zb L q2=some (Zr (Q7 (x+n*2) m))) (hn:n≤1048576) (hm:m≤1048576) (a b t k:Int) (hx:x≤4194304) :
  call T pr Zcr [stV (slL q1 n c1) a b (slS q2 m c2) t k,.int .i64 x] ⟨L,e⟩=some (.int .i64 ((x+n*2+m*3:Nat):Int),⟨L,e⟩):=by
 have k1:=fun X=>Zt9 (pr:=pr) (e:=none) (c:=c1) (Za h1 X) (by omega) (by omega)
 have k2:=fun X=>Zru (pr:=pr) (e:=none) (c:=c2) (Za h2 X) (by omega) (by omega)
 have h3:¬ (((x+n*2:Nat):Int)<0):=by omega
 have h4:¬ (((x+n*2+m*3:Nat):Int)<0):=by omega
 rw [Zi Ztd]
 simp +contextual only [ZcG,ZkO,k1,k2,h3,h4,decide_false,go_sem,reduceIte,Ra,Rb,Rc,Rd]
theorem Zlt (p:Nat×Nat) (sz n:Nat) (c:Option Nat):Xv 3 .eql (.slice (some p) sz n c) (.slice none 0 0 none)=some (.bool false):=Eq.trans rfl rfl
def ZnT (n b:Nat) (L:List Blk):List Blk:=if n=0 then L.set b .dead else L
theorem ZwC (n k:Nat) (l:List Blk):ZnT n (H.length+k) (H++l)=H++ZnT n k l:=by
 unfold ZnT
 split
 ·rw [Zlm]
 ·rfl
theorem ZiS (n:Nat) (l:List Blk):ZnT n H.length (H++l)=H++ZnT n 0 l:=ZwC n 0 l
theorem ZC0 (n k:Nat) (x:Blk) (l:List Blk):ZnT n (k+1) (x::l)=x::ZnT n k l:=by
 unfold ZnT
 split <;> rfl
theorem ZpW (n:Nat) (x:Blk) (l:List Blk):ZnT n 0 (x::l)=(if n=0 then Blk.dead else x)::l:=by
 unfold ZnT
 split <;> rfl
theorem Zc4 {L:List Blk} {b q n sz bytes:Nat} {c:Option Nat} {cs:List AV} (hb:L[b]?=some (.cells [] true)) (hq:Zb L q=some cs) (hl:cs.length=n*sz) (hm:n*bytes≤maxBytes) :
  Q5 L e false sz bytes (.slice (some (b,0)) sz 0 (some 0)) (.slice (some (q,0)) sz n c)=some (.slice (some (L.length,0)) sz n none,⟨ZnT n b L++[.cells cs true],e⟩):=by
 unfold Q5
 have hs:=Zer L n sz c cs q hq hl
 simp only [hb,hs]
 rw [if_pos (by simp [hm,hl])]
 unfold ZnT
 by_cases hn:n=0
 ·subst hn
  have:cs=[]:=by simpa using hl
  subst this
  simp
 ·rw [if_pos ⟨trivial,by omega⟩,if_neg hn]
  simp
theorem ZwD {q:Nat} {c:Option Nat} {ls:List Ld} (h:Zb H q=some (Zm ls)) (hn:ls.length≤1048576):call T pr Yo [slL q ls.length c] ⟨H,e⟩=some (slL H.length ls.length none,⟨H++[.cells (Zm ls) true],e⟩):=by
 have ha:=fun L b e' (hb:L[b]?=some (.cells [] true)) hq=>Zc4 (e:=e') (L:=L) (b:=b) (q:=q) (n:=ls.length) (sz:=2) (bytes:=16) (c:=c) (cs:=Zm ls) hb hq (Z9 ls) (by unfold maxBytes;omega)
 have hf:∀ (B:Blk) (e0:Option Nat),finish 2 H.length e0 (slL (H.length+1) ls.length none) ⟨H++[B,.cells (Zm ls) true],none⟩=some (slL H.length ls.length none,⟨H++[.cells (Zm ls) true],e0⟩) :=
  fun B e0=>ZcS e0 rfl (ZU _ _)
 rw [Zi Zci]
 simp +contextual only [Yp,J5,Zlt,Zc,ha,Za h,ZiS,ZpW,hf,go_sem,reduceIte,Ra,Rb,Rc,Rd]
theorem Zuc {q:Nat} {c:Option Nat} {ls:List Sg} (h:Zb H q=some (Zr ls)) (hn:ls.length≤1048576):call T pr Yb [slS q ls.length c] ⟨H,e⟩=some (slS H.length ls.length none,⟨H++[.cells (Zr ls) true],e⟩):=by
 have ha:=fun L b e' (hb:L[b]?=some (.cells [] true)) hq=>Zc4 (e:=e') (L:=L) (b:=b) (q:=q) (n:=ls.length) (sz:=3) (bytes:=24) (c:=c) (cs:=Zr ls) hb hq (YS ls) (by unfold maxBytes;omega)
 have hf:∀ (B:Blk) (e0:Option Nat),finish 2 H.length e0 (slS (H.length+1) ls.length none) ⟨H++[B,.cells (Zr ls) true],none⟩=some (slS H.length ls.length none,⟨H++[.cells (Zr ls) true],e0⟩) :=
  fun B e0=>ZcS e0 rfl (Z6 _ _)
 rw [Zi Zbt]
 simp +contextual only [Yc,Ju,Zlt,Zc,ha,Za h,ZiS,ZpW,hf,go_sem,reduceIte,Ra,Rb,Rc,Rd]
theorem Zlu {q1 q2:Nat} {c1 c2:Option Nat} {ls:List Ld} {ss:List Sg} (h1:Zb H q1=some (Zm ls)) (h2:Zb H q2=some (Zr ss)) (hn:ls.length≤1048576) (hm:ss.length≤1048576) (a b t k:Int) :
  call T pr Zar [stV (slL q1 ls.length c1) a b (slS q2 ss.length c2) t k] ⟨H,e⟩=some (stV (slL H.length ls.length none) a b (slS (H.length+1) ss.length none) t k,⟨H++[.cells (Zm ls) true,.cells (Zr ss) true],e⟩):=by
 have hf:∀ (B0 B1:Blk) (e0 e1:Option Nat),clean H.length e1=true→finish 2 H.length e0 (stV (slL (H.length+2) ls.length none) a b (slS (H.length+3) ss.length none) t k) ⟨H++[B0,B1,.cells (Zm ls) true,.cells (Zr ss) true],e1⟩=some (stV (slL H.length ls.length none) a b (slS (H.length+1) ss.length none) t k,⟨H++[.cells (Zm ls) true,.cells (Zr ss) true],e0⟩) :=
  fun B0 B1 e0 e1 hc=>X7 a b t k e0 e1 hc rfl rfl (by decide) (ZU _ _) (Z6 _ _)
 rw [Zi Ztb]
 simp +contextual only [ZcE,ZkN,ZwD (Za h1 _) hn,Zuc (Za h2 _) hm,hf,Zv,Nat.add_assoc,RQ,Rh,decide_false,Zq,Zo,Nat.le_add_right,Rz,decide_true,go_sem,reduceIte,Ra,Rb,Rc,Rd]
theorem Yk {L:List Blk} {w:Nat} {cs:List AV} (h:Zb L w=some cs):w<L.length:=by
 unfold Zb at h
 cases hb:L[w]? with
 | none=>rw [hb] at h;cases h
 | some x=>exact (RB.mp hb).1
theorem Zmw {q1 q2:Nat} {c1 c2:Option Nat} {ls:List Ld} {ss:List Sg} (h1:Zb H q1=some (Zm ls)) (h2:Zb H q2=some (Zr ss)) (hn:ls.length≤1048576) (hm:ss.length≤1048576) (a b t k:Int) :
  call T pr ZcZ [stV (slL q1 ls.length c1) a b (slS q2 ss.length c2) t k] ⟨H,e⟩=some (stV (slL H.length ls.length none) a b (slS (H.length+1) ss.length none) t k,⟨H++[.cells (Zm ls) true,.cells (Zr ss) true],e⟩):=by
 have ha1:=fun L b e' (hb:L[b]?=some (.cells [] true)) hq=>Zc4 (e:=e') (L:=L) (b:=b) (q:=q1) (n:=ls.length) (sz:=2) (bytes:=16) (c:=c1) (cs:=Zm ls) hb hq (Z9 ls) (by unfold maxBytes;omega)
 have ha2:=fun L b e' (hb:L[b]?=some (.cells [] true)) hq=>Zc4 (e:=e') (L:=L) (b:=b) (q:=q2) (n:=ss.length) (sz:=3) (bytes:=24) (c:=c2) (cs:=Zr ss) hb hq (YS ss) (by unfold maxBytes;omega)
 have hf:∀ (B0 B1 B2 B3 B5:Blk) (e0 e1:Option Nat),clean H.length e1=true→finish 2 H.length e0 (stV (slL (H.length+4) ls.length none) a b (slS (H.length+6) ss.length none) t k) ⟨H++[B0,B1,B2,B3,.cells (Zm ls) true,B5,.cells (Zr ss) true],e1⟩=some (stV (slL H.length ls.length none) a b (slS (H.length+1) ss.length none) t k,⟨H++[.cells (Zm ls) true,.cells (Zr ss) true],e0⟩) :=
  fun B0 B1 B2 B3 B5 e0 e1 hc=>X7 a b t k e0 e1 hc rfl rfl (by decide) (ZU _ _) (Z6 _ _)
 have q1l:q1<H.length+3:=by have:=Yk h1;omega
 have q2l:q2<H.length+3:=by have:=Yk h2;omega
 rw [Zi ZBA]
 simp +contextual only [ZiB,ZrU,Zc,ha1,ha2,Za h1,Za h2,ZwC,ZC0,ZpW,hf,q1l,q2l,Zv,ZA,Nat.add_assoc,RQ,Rh,decide_false,Zq,Zo,Nat.le_add_right,Rz,decide_true,go_sem,reduceIte,Ra,Rb,Rc,Rd]
theorem ZzN {L X:List Blk} {q1 q2 n m x:Nat} (h1:q1<L.length) (h2:q2<L.length):K7 (L++X) q1 q2 n m x=K7 L q1 q2 n m x++X:=by
 unfold K7
 rw [Zof h1,Zof (by rw [RE];exact h2)]
theorem Zrz (L:List Blk) (q1 q2 n m x:Nat):(K7 L q1 q2 n m x).length=L.length:=by unfold K7;simp
theorem ZzO {l:List Blk} {k1 k2 n m x:Nat}:K7 (H++l) (H.length+k1) (H.length+k2) n m x=H++(l.set k1 (.cells (Zm (Jn x n)) true)).set k2 (.cells (Zr (Q7 (x+n*2) m)) true):=by
 unfold K7
 rw [Zlm,Zlm]
end Go.Proofs.YtemcdiajejekoaaGreatDoor.Slim
