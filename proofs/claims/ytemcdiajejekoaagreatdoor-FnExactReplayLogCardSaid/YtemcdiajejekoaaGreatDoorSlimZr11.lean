/- Parts of the proof. -/
import Derived.Test.YtemcdiajejekoaaGreatDoorSlimZr10
import Derived.Test.YtemcdiajejekoaaGreatDoorChecked
set_option linter.unusedSimpArgs false
set_option linter.unusedVariables false
namespace Go.Proofs.YtemcdiajejekoaaGreatDoor.Slim
open Go
set_option maxRecDepth 20000
theorem ZhD:Zd Tryz.prog [0,1,2,3,4,5,6,7,8,9,10,15,20,45,50] 1 [(8,[0,2,1,3,4,5,6,7,8,9]),(10,[0,1,2,3,4,5,6,7,8]),(13,[0,1,2,3,4])] Tryz.f7=some YK:=by kernel_rfl
theorem Zpg:Zd Tryz.prog [0,1,2,3,6] 2 [] Tryz.f20=some QH:=by kernel_rfl
theorem Zph:Zd Tryz.prog [0,1,2,3,6] 2 [] Tryz.f21=some QI:=by kernel_rfl
theorem ZjU:Zd Tryz.prog [0,1,2,4,5,6,7,8,15,20,26,39] 2 [(1,[0,1,3,4,2,5,6,7])] Tryz.f25=some YC:=by kernel_rfl
theorem ZjV:Zd Tryz.prog [0,1,2,4,5,6,7,8,9,19,24,29] 2 [(1,[0,1,3,4,2,5,6,7]),(10,[0,2,4,1,3,5,6])] Tryz.f26=some YD:=by kernel_rfl
theorem ZjW:Zd Tryz.prog [0,1,2] 1 [] Tryz.f28=some Kr:=by kernel_rfl
theorem ZjX:Zd Tryz.prog [0,1,2] 1 [] Tryz.f29=some Ks:=by kernel_rfl
theorem Zpi:Zd Tryz.prog [0,1,2,3,4,5,12] 2 [] Tryz.f30=some Kd:=by kernel_rfl
theorem ZqD:Zd Tryz.prog [0,1,2,3,4,5,6,7,8,9,10,11,12,13,29,30,31,32,33,47] 1 [] Tryz.f36=some YZ:=by kernel_rfl
theorem ZqE:Zd Tryz.prog [0,1,2,3,4,5,6,7,8,10,11,12,24,37,57] 1 [(8,[0,1,2,3,4,5,6,7,8,9,10,11,12])] Tryz.f37=some Y0:=by kernel_rfl
theorem Zu6:Zd Tryz.prog [0,2,3,4,6,9,12,14,15,16,17] 1 [] Tryz.f40=some Zbi:=by kernel_rfl
theorem Zny:Zd Tryz.prog [0,1,4,5,13] 1 [] Tryz.f41=some ZaE:=by kernel_rfl
theorem ZqF:Zd Tryz.prog [0,1,4,5,13] 1 [] Tryz.f42=some KW:=by kernel_rfl
theorem Zpj:Zd Tryz.prog [0,2,3,4,5,7,15,23,28,29,30,31,49] 2 [] Tryz.f43=some Xp:=by kernel_rfl
theorem Zu7:Zd Tryz.prog [0,1,2,4,10,16] 1 [] Tryz.f46=some Zbj:=by kernel_rfl
theorem ZBq:Zd Tryz.prog [0,1,2,4,11,18] 1 [] Tryz.f47=some ZeY:=by kernel_rfl
theorem Zu8:Zd Tryz.prog [0,1,2,3] 2 [] Tryz.f48=some ZfZ:=by kernel_rfl
theorem ZBr:Zd Tryz.prog [0,1,2,3] 1 [] Tryz.f49=some ZkA:=by kernel_rfl
theorem Zu9:Zd Tryz.prog [0,1,2,3,4,10,15,20,26,31,36] 1 [] Tryz.f50=some Zf0:=by kernel_rfl
theorem Zva:Zd Tryz.prog [0,1,4,5,6,7,12,19] 2 [] Tryz.f52=some Zf1:=by kernel_rfl
theorem Zvb:Zd Tryz.prog [0,1,2] 1 [] Tryz.f57=some KA:=by kernel_rfl
theorem ZqG:Zd Tryz.prog [0,1,2] 2 [(1,[0,1,3,4,2,6,5,7,8,9])] Tryz.f58=some Zcx:=by kernel_rfl
theorem Zvc:Zd Tryz.prog [0,1,2,16] 1 [] Tryz.f59=some Q0:=by kernel_rfl
theorem Zyl:Zd Tryz.prog [0,1,2,3] 2 [] Tryz.f60=some Zis:=by kernel_rfl
theorem Zk2:Zd Tryz.prog [0,1,2] 1 [] Tryz.f63=some Yp:=by kernel_rfl
theorem Zk3:Zd Tryz.prog [0,1,4,5,6,7,8,10,11,12,13,14,22,23,24,25,34,45,51,58,68,87,96] 0 [(19,[0,1,2,3,4,5,6,7,8,9,10,11,12])] Tryz.f64=some Zo:=by kernel_rfl
theorem Zl7:Zd Tryz.prog [0,1,2,3,4,5,6,8,18] 1 [] Tryz.f65=some Xc:=by kernel_rfl
theorem ZqH:Zd Tryz.prog [0,1,2] 1 [] Tryz.f66=some X2:=by kernel_rfl
theorem Zvd:Zd Tryz.prog [0,1,2,4,5,6,7,8,9,14,25,34] 2 [(3,[0,1,2,3,4,5]),(10,[0,1,2,3,4,5,6,7,8])] Tryz.f67=some Zc8:=by kernel_rfl
theorem Zl8:Zd Tryz.prog [0,1,2,3,4,5,13,17] 1 [(5,[0,1,2,3,4,5,6,7,8])] Tryz.f68=some Xd:=by kernel_rfl
theorem Zpk:Zd Tryz.prog [0,1,2,4] 1 [] Tryz.f69=some QJ:=by kernel_rfl
theorem ZsY:Zd Tryz.prog [0,1,2,3,4,6,14] 1 [] Tryz.f70=some KB:=by kernel_rfl
theorem Zpl:Zd Tryz.prog [0,1,2,3,4,5,6,14] 2 [(6,[0,1,2,3,4,5,6,7,8,9,10,11,12,13,14,15,16,17,18,19,20,21,22,23,24,25])] Tryz.f71=some Jl:=by kernel_rfl
theorem Zve:Zd Tryz.prog [0,2,3,4,5,6,7,8,18,38] 2 [] Tryz.f80=some KC:=by kernel_rfl
theorem ZBs:Zd Tryz.prog [0,2,5] 1 [] Tryz.f81=some Zhk:=by kernel_rfl
theorem Znz:Zd Tryz.prog [0,1,4,5,7,9,10,11,12] 1 [] Tryz.f82=some KD:=by kernel_rfl
theorem Zvf:Zd Tryz.prog [0,2] 1 [] Tryz.f84=some Zf2:=by kernel_rfl
theorem ZnA:Zd Tryz.prog [0,1,4,5,7,8,9,10,11] 1 [] Tryz.f85=some ZaF:=by kernel_rfl
theorem Zpm:Zd Tryz.prog [0,1,4,5,6,7,8,9,10,14,15,16,19,20,21,22,30,46] 0 [] Tryz.f86=some Ke:=by kernel_rfl
theorem ZsZ:Zd Tryz.prog [0,2,3,5,6,7,8,9] 1 [] Tryz.f87=some Zd0:=by kernel_rfl
theorem Zvg:Zd Tryz.prog [0,1,4,10] 1 [] Tryz.f90=some Zf3:=by kernel_rfl
theorem Zs0:Zd Tryz.prog [0,1,4,10] 1 [] Tryz.f91=some ZbW:=by kernel_rfl
theorem Zvh:Zd Tryz.prog [0,2,3,4,11] 2 [] Tryz.f92=some Zf4:=by kernel_rfl
theorem Zs1:Zd Tryz.prog [0,2,3,4,11] 2 [] Tryz.f93=some Zd1:=by kernel_rfl
theorem Zvi:Zd Tryz.prog [0,1,4,5,10,14,26] 1 [(6,[0,1,2,3,4,5,6,7,8,9])] Tryz.f94=some Zf5:=by kernel_rfl
theorem Zs2:Zd Tryz.prog [0,1,4,5,10,14,26] 1 [(6,[0,1,2,3,4,5,6,7,8,9])] Tryz.f95=some Zd2:=by kernel_rfl
theorem Zym:Zd Tryz.prog [0,1,4] 1 [] Tryz.f100=some Zit:=by kernel_rfl
theorem Zvj:Zd Tryz.prog [0,2,4,5,6,7,8,13] 1 [] Tryz.f101=some Zf6:=by kernel_rfl
theorem Zyn:Zd Tryz.prog [0,1,2,6] 1 [] Tryz.f102=some Ziu:=by kernel_rfl
theorem Zb5:Zd Tryz.prog [0,2,4] 2 [] Tryz.f103=some Yo:=by kernel_rfl
theorem Za1:Zd Tryz.prog [0,2,4] 2 [] Tryz.f104=some Yc:=by kernel_rfl
theorem ZDQ:Zd Tryz.prog [0,1,2,6] 1 [] Tryz.f105=some ZkC:=by kernel_rfl
theorem Zs3:Zd Tryz.prog [0,1,4,5,9,17] 1 [] Tryz.f106=some Zd3:=by kernel_rfl
theorem ZDR:Zd Tryz.prog [0,1,2,6] 1 [] Tryz.f107=some ZnZ:=by kernel_rfl
theorem ZBt:Zd Tryz.prog [0,2,4,10] 1 [(5,[0,1,3,4,5,6,7,8,2,9,10])] Tryz.f108=some Ze0:=by kernel_rfl
theorem Zyo:Zd Tryz.prog [0,2,3,5,6,7,24] 1 [] Tryz.f111=some Ziv:=by kernel_rfl
theorem Zs4:Zd Tryz.prog [0,2,3,4,5,23] 1 [] Tryz.f113=some JL:=by kernel_rfl
theorem Zyp:Zd Tryz.prog [0,2,3,4,5,7,9,11,13,15] 1 [] Tryz.f114=some Ziw:=by kernel_rfl
theorem Zk4:Zd Tryz.prog [0,1,2,6,7,8,9,32,41] 0 [(2,[0,1,2,3,4,5,6,7,8,9,10,11,12,13,14,15,16,17,18,19,20]),(8,[0,1,2,3,4,5,6,7,8,9,10,11,12,13,14,15,16,17,18,19])] Tryz.f115=some Yq:=by kernel_rfl
theorem Zpn:Zd Tryz.prog [0,1,4,5] 1 [] Tryz.f116=some ZbG:=by kernel_rfl
theorem Zs5:Zd Tryz.prog [0,1,4,5,6,7,9,12,13,16,17,18,19,25] 1 [] Tryz.f117=some KE:=by kernel_rfl
theorem Zs6:Zd Tryz.prog [0,1,4,5,8] 1 [] Tryz.f118=some Zaj:=by kernel_rfl
theorem Zpo:Zd Tryz.prog [0,1,3,4,5,6,13] 2 [(5,[0,1,2,3,4,5])] Tryz.f119=some Jm:=by kernel_rfl
theorem ZqI:Zd Tryz.prog [0,1,4,5,6,7,16,28,40,60,69,80] 1 [(9,[0,1,2,3,4,5,6,7,8,9,10,11,12,13,14,15,16,17,18,19])] Tryz.f120=some Zcz:=by kernel_rfl
theorem Zl9:Zd Tryz.prog [0,1,2,6,7,8,9,10,11,12,13,14,27,40,52,62,75,94] 1 [] Tryz.f121=some QT:=by kernel_rfl
theorem Zma:Zd Tryz.prog [0,1,3,4,5,6,7,15] 1 [(3,[0,3,4,7,8,1,2,5,6,9,10,11,12,13,14,15])] Tryz.f122=some XS:=by kernel_rfl
theorem Zs7:Zd Tryz.prog [0,1,4,5,9,23] 1 [] Tryz.f123=some Zd5:=by kernel_rfl
theorem Zs8:Zd Tryz.prog [0,1,4,5,9,16] 1 [] Tryz.f124=some Zd6:=by kernel_rfl
theorem Zvk:Zd Tryz.prog [0,1,2,4,5,6,7,8,16,18,24,32,42,47,54] 1 [] Tryz.f125=some Zf7:=by kernel_rfl
theorem Zvl:Zd Tryz.prog [0,2,3,4,5,6,7,12,24] 2 [] Tryz.f126=some Q1:=by kernel_rfl
theorem Zvm:Zd Tryz.prog [0,1,4,5,6,7,8,9,16,33] 1 [(9,[0,1,2,3,4,5,6,7,8,9,10,11,12,13,14])] Tryz.f127=some KF:=by kernel_rfl
theorem Zvn:Zd Tryz.prog [0,1,2,3,4,5,6,7,15,18,19] 2 [(7,[0,1,2,3,4,5,6]),(8,[0,1,2,3,4,5,6,7,8,9,10])] Tryz.f128=some Q2:=by kernel_rfl
theorem Zyq:Zd Tryz.prog [0,1,2,3,6,7,8,15,28] 1 [(5,[0,1,2,3,4,5,6,7,8,9]),(7,[0,1,2,3,4,5,6])] Tryz.f129=some Zix:=by kernel_rfl
theorem Zvo:Zd Tryz.prog [0,1,3,4] 1 [(1,[0,3,4,7,8,1,2,5,6,9,10,11,12])] Tryz.f130=some Zf8:=by kernel_rfl
theorem ZjY:Zd Tryz.prog [0,2,3,4,5,6,7,9,10,11,16,37] 2 [] Tryz.f131=some YE:=by kernel_rfl
theorem Zdl:Zd Tryz.prog [0,1,4] 1 [] Tryz.f132=some Yg:=by kernel_rfl
theorem ZBu:Zd Tryz.prog [0,1,2,3,4,5,6,10,21,30] 2 [] Tryz.f135=some Zda:=by kernel_rfl
theorem ZqJ:Zd Tryz.prog [0,1,4,5,6,7,8,9,10,30,44] 1 [(10,[0,1,2,3,4,5,7,8,6,9,10,11,12])] Tryz.f138=some JU:=by kernel_rfl
theorem Qv:Zd Tryz.prog [0,1,4] 1 [] Tryz.f139=some ZV:=by kernel_rfl
theorem Zvp:Zd Tryz.prog [0,1,2] 1 [] Tryz.f140=some Zf9:=by kernel_rfl
theorem Zs9:Zd Tryz.prog [0,2] 1 [] Tryz.f141=some Zd8:=by kernel_rfl
theorem Zk5:Zd Tryz.prog [0,1,4,9] 1 [] Tryz.f147=some Zbm:=by kernel_rfl
theorem Zyr:Zd Tryz.prog [0,1,2,3] 1 [] Tryz.f148=some Ziy:=by kernel_rfl
theorem Zvq:Zd Tryz.prog [0,1,2,3] 1 [] Tryz.f149=some Zga:=by kernel_rfl
theorem Zys:Zd Tryz.prog [0,1,2,3,4,9,14] 1 [] Tryz.f150=some Ziz:=by kernel_rfl
theorem Zvr:Zd Tryz.prog [0,1,2,3,4,9,14,19] 1 [] Tryz.f151=some Zgb:=by kernel_rfl
theorem Zvs:Zd Tryz.prog [0,1,2,4,5,16,26,43] 1 [] Tryz.f157=some JV:=by kernel_rfl
theorem ZBv:Zd Tryz.prog [0,2,3,11,29] 1 [] Tryz.f158=some ZkF:=by kernel_rfl
theorem Zyt:Zd Tryz.prog [0,1,4] 1 [] Tryz.f159=some ZiA:=by kernel_rfl
theorem Zvt:Zd Tryz.prog [0,1,2,4,5,13,23,37] 1 [] Tryz.f160=some JW:=by kernel_rfl
theorem Zyu:Zd Tryz.prog [0,1,2,3,4,5,6,7,8,9,12,31,32,47,49,67,69,81,92,106,108,136,145] 2 [(4,[0,1,2,3,4,5,7,8,9,10,11,12,6,13,14,15]),(7,[0,1,2,3,4,5,6,9,10,11,7,8,12,13,14]),(10,[0,1,2,3,4,5,6,8,9,10,7,11,12,13,14,15,16,17,18]),(13,[0,1,2,3,4,5,6,7,8,9,10,11,12]),(15,[0,1,2,3,4,5,6,7,8,9,10,11]),(20,[0,1,2,3,4,5,6,8,9,10,7,11,12,13,14,15,16,17,18])] Tryz.f162=some Jy:=by kernel_rfl
theorem Zmb:Zd Tryz.prog [0,1,2,4,5] 1 [] Tryz.f163=some QV:=by kernel_rfl
theorem ZqK:Zd Tryz.prog [0,2,3,6] 1 [] Tryz.f164=some ZcB:=by kernel_rfl
theorem Zvu:Zd Tryz.prog [0,1,2,6,7,16] 1 [] Tryz.f165=some Zgc:=by kernel_rfl
theorem ZBw:Zd Tryz.prog [0,2,3,4,5,6,7,8,27] 1 [] Tryz.f166=some Jz:=by kernel_rfl
theorem Zvv:Zd Tryz.prog [0,1,4,5] 2 [] Tryz.f167=some Zdb:=by kernel_rfl
theorem ZqL:Zd Tryz.prog [0,1,2,3,4,5,6,7] 0 [] Tryz.f168=some JX:=by kernel_rfl
theorem Zmc:Zd Tryz.prog [0,1,2,3,20] 0 [(0,[0,1,2,3,4,5,6,7,8,10,9,11,12,13,14])] Tryz.f169=some Xe:=by kernel_rfl
theorem Zyv:Zd Tryz.prog [0,2,3,5,6,7,8,9,13] 1 [] Tryz.f170=some Ze2:=by kernel_rfl
theorem Ze6:Zd Tryz.prog [0,2,4] 2 [] Tryz.f171=some Xl:=by kernel_rfl
theorem Zta:Zd Tryz.prog [0,2,3,6] 1 [] Tryz.f172=some Zea:=by kernel_rfl
theorem Ztb:Zd Tryz.prog [0,2,3,11] 1 [] Tryz.f173=some ZbX:=by kernel_rfl
theorem Zvw:Zd Tryz.prog [0,1,2,3,6] 1 [(3,[0,1,2,3,4,5,6,7,8,9])] Tryz.f174=some Zdc:=by kernel_rfl
theorem Ztc:Zd Tryz.prog [0,1,4,5,6,7,15] 1 [] Tryz.f175=some ZbY:=by kernel_rfl
theorem ZqM:Zd Tryz.prog [0,1,4,5,6,7,9,10,18,23,24,25,26] 2 [] Tryz.f176=some K0:=by kernel_rfl
theorem Zvx:Zd Tryz.prog [0,1,4,5,6,7,8,9,10,11,19,20,21,22,23,42] 1 [(7,[0,1,2,3,4,5,6,7])] Tryz.f177=some Q5:=by kernel_rfl
theorem Zi0:Zd Tryz.prog [0,2,3,4,5,8,11] 1 [] Tryz.f178=some YT:=by kernel_rfl
theorem ZjZ:Zd Tryz.prog [0,2,3,4,5,6,27] 1 [] Tryz.f179=some YF:=by kernel_rfl
theorem Zvy:Zd Tryz.prog [0,2,3,6] 1 [] Tryz.f180=some Zgf:=by kernel_rfl
theorem Ztd:Zd Tryz.prog [0,2,3,4,8] 1 [] Tryz.f181=some Zeb:=by kernel_rfl
theorem Zvz:Zd Tryz.prog [0,1,2,4,6] 1 [(3,[0,1,4,5,2,3,6,7,8])] Tryz.f182=some Zde:=by kernel_rfl
theorem Zte:Zd Tryz.prog [0,2,3,11] 1 [] Tryz.f183=some ZbZ:=by kernel_rfl
theorem Zyw:Zd Tryz.prog [0,1,2,6,10,14] 1 [] Tryz.f184=some ZiB:=by kernel_rfl
theorem Zyx:Zd Tryz.prog [0,1,4,6] 1 [] Tryz.f185=some ZiC:=by kernel_rfl
theorem ZvA:Zd Tryz.prog [0,1,2,3,6] 1 [(3,[0,1,2,3,4,5,6,7,8,9])] Tryz.f186=some Zdf:=by kernel_rfl
theorem ZvB:Zd Tryz.prog [0,1,4,5,6,10,14,25,27] 1 [] Tryz.f187=some KH:=by kernel_rfl
theorem Zpp:Zd Tryz.prog [0,2,3,4,5,21,33,50] 2 [] Tryz.f188=some Xt:=by kernel_rfl
theorem Zyy:Zd Tryz.prog [0,2,3,4,5,6,15,21,25,37,50,56] 1 [] Tryz.f189=some YU:=by kernel_rfl
theorem ZBx:Zd Tryz.prog [0,2] 2 [] Tryz.f190=some ZkH:=by kernel_rfl
theorem ZvC:Zd Tryz.prog [0,2,3,4,5,10] 1 [] Tryz.f191=some Zbn:=by kernel_rfl
theorem Ztf:Zd Tryz.prog [0,1,4,5,6,7,10,25] 1 [] Tryz.f192=some KI:=by kernel_rfl
theorem Zpq:Zd Tryz.prog [0,1,4,5,6,7,8,9,10,11,18,30,49] 2 [] Tryz.f193=some Jp:=by kernel_rfl
theorem Zyz:Zd Tryz.prog [0,1,2,3,6,7,8,9,10,11,12,13,22,31,40,48,57,72] 1 [] Tryz.f194=some ZiD:=by kernel_rfl
theorem ZyA:Zd Tryz.prog [0,2] 1 [] Tryz.f195=some ZiE:=by kernel_rfl
theorem ZqN:Zd Tryz.prog [0,1,4,5,6] 1 [] Tryz.f196=some ZcC:=by kernel_rfl
theorem ZyB:Zd Tryz.prog [0,1,4,5,6,7,9,11,12,14,15,16] 1 [] Tryz.f197=some Zbo:=by kernel_rfl
theorem Ze7:Zd Tryz.prog [0,1,4,5,7,8,9,16] 1 [] Tryz.f198=some Xm:=by kernel_rfl
theorem ZyC:Zd Tryz.prog [0,1,2,3,4,6,7,13,32,46] 1 [] Tryz.f199=some K1:=by kernel_rfl
theorem ZvD:Zd Tryz.prog [0,1,2,3,4,5,9,10,22,37,47,55,69] 2 [(6,[0,1,2,3,4,5,6,7,8,9,10,11,12,13]),(15,[0,1,2,3,4,5,6,7,8,9,10,11,12,13])] Tryz.f200=some JZ:=by kernel_rfl
theorem ZyD:Zd Tryz.prog [0,1,4,7] 1 [] Tryz.f201=some ZiF:=by kernel_rfl
theorem ZvE:Zd Tryz.prog [0,1,4,7] 1 [] Tryz.f202=some Zdg:=by kernel_rfl
theorem Zan:Zd Tryz.prog [0,1,4,5,7,8,9,16] 1 [] Tryz.f205=some Z5:=by kernel_rfl
theorem ZvF:Zd Tryz.prog [0,2] 1 [] Tryz.f216=some Zgg:=by kernel_rfl
theorem ZDS:Zd Tryz.prog [0,2] 1 [] Tryz.f217=some Zn0:=by kernel_rfl
theorem ZBy:Zd Tryz.prog [0,1,4] 1 [] Tryz.f218=some ZkJ:=by kernel_rfl
theorem ZvG:Zd Tryz.prog [0,1,2,6,7,12] 1 [] Tryz.f223=some Zgh:=by kernel_rfl
theorem ZqO:Zd Tryz.prog [0,2,3,5,6,8,9,10,11] 1 [] Tryz.f224=some ZcD:=by kernel_rfl
theorem ZqP:Zd Tryz.prog [1,2,6] 0 [] Tryz.f225=some K2:=by kernel_rfl
theorem ZnB:Zd Tryz.prog [0,1,2,3,4,5,6,9,13,20] 0 [(6,[0,1,2,3,4,5,6,7,8,9,10,11])] Tryz.f228=some Z9:=by kernel_rfl
theorem Ztg:Zd Tryz.prog [0,1,4,5] 1 [(2,[0,1,2,3,4,5,6,7])] Tryz.f229=some Zec:=by kernel_rfl
theorem ZqQ:Zd Tryz.prog [0,1,4,5,6,7,15] 1 [] Tryz.f230=some ZcE:=by kernel_rfl
theorem ZvH:Zd Tryz.prog [0,1,4,5,6,14] 1 [] Tryz.f231=some Zdh:=by kernel_rfl
theorem ZyE:Zd Tryz.prog [0,2] 1 [] Tryz.f232=some ZiG:=by kernel_rfl
theorem ZqR:Zd Tryz.prog [0,1,2,4,5,10] 1 [] Tryz.f233=some K3:=by kernel_rfl
theorem ZqS:Zd Tryz.prog [0,1,4,5,6,7] 1 [] Tryz.f234=some ZcG:=by kernel_rfl
theorem Zth:Zd Tryz.prog [0,2] 1 [] Tryz.f235=some Zed:=by kernel_rfl
theorem Zti:Zd Tryz.prog [0,2,3,4,5,8,10,11,12] 1 [] Tryz.f236=some Zb0:=by kernel_rfl
theorem ZyF:Zd Tryz.prog [0,2,3,4,8,12,33] 1 [(7,[0,1,2,3,4,5,9,10,11,12,13,6,7,8,14,15,16])] Tryz.f237=some ZcQ:=by kernel_rfl
theorem ZBz:Zd Tryz.prog [0,1,4,5] 1 [(2,[0,1,2,3,4,5,6,7])] Tryz.f238=some ZkN:=by kernel_rfl
theorem Ztj:Zd Tryz.prog [0,1,4,5,6,10] 1 [(5,[0,1,2,3,4,5,6,7,8,9,10,11,12,13,14,15])] Tryz.f239=some Zee:=by kernel_rfl
theorem ZqT:Zd Tryz.prog [0,1,4,5,6,10] 1 [] Tryz.f240=some ZcH:=by kernel_rfl
theorem Ztk:Zd Tryz.prog [0,1,4,5,6,7,8,13,23,32] 0 [] Tryz.f241=some Zb2:=by kernel_rfl
theorem ZBA:Zd Tryz.prog [0,1,4,5,9,17] 1 [] Tryz.f242=some ZkP:=by kernel_rfl
theorem ZyG:Zd Tryz.prog [0,1,2,4,5,10] 1 [] Tryz.f243=some ZcR:=by kernel_rfl
theorem ZBB:Zd Tryz.prog [0,2,3,7,31] 1 [(4,[0,1,2,3,4,5,6,7,8,9,10,11,12,13,14,15,16,17,18,19,20,21])] Tryz.f244=some JC:=by kernel_rfl
theorem ZyH:Zd Tryz.prog [0,1,4,5,6,7,8,9,10,14,33,42,48,63] 2 [] Tryz.f245=some ZcS:=by kernel_rfl
theorem ZBC:Zd Tryz.prog [0,2,3,4,5,6,7,12,19,23] 0 [] Tryz.f246=some Zhx:=by kernel_rfl
theorem ZvI:Zd Tryz.prog [0,1,4,5,6,7,8,12] 1 [(5,[0,1,2,3,4,5,6,7,8,9,10,11]),(6,[0,1,2,3,4,5,6,7,8,9,10,11])] Tryz.f247=some Zdi:=by kernel_rfl
theorem ZnC:Zd Tryz.prog [0,1,4,5,13] 1 [] Tryz.f248=some ZaL:=by kernel_rfl
theorem Ztl:Zd Tryz.prog [0,1,4,5,6,10] 1 [] Tryz.f249=some Zb3:=by kernel_rfl
theorem ZqU:Zd Tryz.prog [0,1,4,5,6,7,8,12,20] 2 [] Tryz.f250=some K4:=by kernel_rfl
theorem ZqV:Zd Tryz.prog [0,1,4,5,13] 1 [] Tryz.f251=some K5:=by kernel_rfl
theorem ZvJ:Zd Tryz.prog [0,1,4,5,6,7,8,9,23,27,40,55] 1 [(8,[0,1,2,3,4,5,6,7,8,9,10,11,12,13])] Tryz.f252=some KK:=by kernel_rfl
theorem Zi1:Zd Tryz.prog [0,2,3,6] 1 [] Tryz.f253=some XC:=by kernel_rfl
theorem ZBD:Zd Tryz.prog [0,2,3,4,8] 1 [] Tryz.f254=some ZkQ:=by kernel_rfl
theorem Zdm:Zd Tryz.prog [0,1,4,5,6,7,12] 1 [(3,[0,1,2,3,4,5,6,7,8,9,10,11])] Tryz.f255=some Yh:=by kernel_rfl
theorem Zj0:Zd Tryz.prog [0,2,3,4,7,8,26] 1 [] Tryz.f256=some Y8:=by kernel_rfl
theorem ZvK:Zd Tryz.prog [0,1,4,6] 1 [(2,[0,1,2,3,4,5])] Tryz.f282=some Zgn:=by kernel_rfl
theorem ZvL:Zd Tryz.prog [0,1,4,5,6,14] 1 [] Tryz.f283=some Zgo:=by kernel_rfl
theorem ZBE:Zd Tryz.prog [0,1,4,6] 1 [(2,[0,1,2,3,4,5])] Tryz.f284=some ZkR:=by kernel_rfl
theorem ZBF:Zd Tryz.prog [0,1,4] 1 [] Tryz.f285=some ZhA:=by kernel_rfl
theorem ZyI:Zd Tryz.prog [0,1,4,5,6,7,8,9,10,15,22,26,39] 0 [] Tryz.f286=some Ze4:=by kernel_rfl
theorem ZyJ:Zd Tryz.prog [0,1,2,6,7,8,12] 1 [(5,[0,1,2,3,4,5,6,7,8,9,10,11,12,13,14,15,16,17,18,19,20,21])] Tryz.f287=some Ze5:=by kernel_rfl
theorem ZvM:Zd Tryz.prog [0,2] 1 [] Tryz.f288=some Zgp:=by kernel_rfl
theorem Ztm:Zd Tryz.prog [0,2,3,4,7] 1 [] Tryz.f289=some Zb4:=by kernel_rfl
theorem ZJ1:ZlY Tryz.prog T:=ZAZ (by
  unfold tab
  exact
    Zf ⟨_,_,_,_,Tryz.func7,ZhD⟩ <|
    Zf ⟨_,_,_,_,Tryz.func20,Zpg⟩ <|
    Zf ⟨_,_,_,_,Tryz.func21,Zph⟩ <|
    Zf ⟨_,_,_,_,Tryz.func25,ZjU⟩ <|
    Zf ⟨_,_,_,_,Tryz.func26,ZjV⟩ <|
    Zf ⟨_,_,_,_,Tryz.func28,ZjW⟩ <|
    Zf ⟨_,_,_,_,Tryz.func29,ZjX⟩ <|
    Zf ⟨_,_,_,_,Tryz.func30,Zpi⟩ <|
    Zf ⟨_,_,_,_,Tryz.func36,ZqD⟩ <|
    Zf ⟨_,_,_,_,Tryz.func37,ZqE⟩ <|
    Zf ⟨_,_,_,_,Tryz.func40,Zu6⟩ <|
    Zf ⟨_,_,_,_,Tryz.func41,Zny⟩ <|
    Zf ⟨_,_,_,_,Tryz.func42,ZqF⟩ <|
    Zf ⟨_,_,_,_,Tryz.func43,Zpj⟩ <|
    Zf ⟨_,_,_,_,Tryz.func46,Zu7⟩ <|
    Zf ⟨_,_,_,_,Tryz.func47,ZBq⟩ <|
    Zf ⟨_,_,_,_,Tryz.func48,Zu8⟩ <|
    Zf ⟨_,_,_,_,Tryz.func49,ZBr⟩ <|
    Zf ⟨_,_,_,_,Tryz.func50,Zu9⟩ <|
    Zf ⟨_,_,_,_,Tryz.func52,Zva⟩ <|
    Zf ⟨_,_,_,_,Tryz.func57,Zvb⟩ <|
    Zf ⟨_,_,_,_,Tryz.func58,ZqG⟩ <|
    Zf ⟨_,_,_,_,Tryz.func59,Zvc⟩ <|
    Zf ⟨_,_,_,_,Tryz.func60,Zyl⟩ <|
    Zf ⟨_,_,_,_,Tryz.func63,Zk2⟩ <|
    Zf ⟨_,_,_,_,Tryz.func64,Zk3⟩ <|
    Zf ⟨_,_,_,_,Tryz.func65,Zl7⟩ <|
    Zf ⟨_,_,_,_,Tryz.func66,ZqH⟩ <|
    Zf ⟨_,_,_,_,Tryz.func67,Zvd⟩ <|
    Zf ⟨_,_,_,_,Tryz.func68,Zl8⟩ <|
    Zf ⟨_,_,_,_,Tryz.func69,Zpk⟩ <|
    Zf ⟨_,_,_,_,Tryz.func70,ZsY⟩ <|
    Zf ⟨_,_,_,_,Tryz.func71,Zpl⟩ <|
    Zf ⟨_,_,_,_,Tryz.func80,Zve⟩ <|
    Zf ⟨_,_,_,_,Tryz.func81,ZBs⟩ <|
    Zf ⟨_,_,_,_,Tryz.func82,Znz⟩ <|
    Zf ⟨_,_,_,_,Tryz.func84,Zvf⟩ <|
    Zf ⟨_,_,_,_,Tryz.func85,ZnA⟩ <|
    Zf ⟨_,_,_,_,Tryz.func86,Zpm⟩ <|
    Zf ⟨_,_,_,_,Tryz.func87,ZsZ⟩ <|
    Zf ⟨_,_,_,_,Tryz.func90,Zvg⟩ <|
    Zf ⟨_,_,_,_,Tryz.func91,Zs0⟩ <|
    Zf ⟨_,_,_,_,Tryz.func92,Zvh⟩ <|
    Zf ⟨_,_,_,_,Tryz.func93,Zs1⟩ <|
    Zf ⟨_,_,_,_,Tryz.func94,Zvi⟩ <|
    Zf ⟨_,_,_,_,Tryz.func95,Zs2⟩ <|
    Zf ⟨_,_,_,_,Tryz.func100,Zym⟩ <|
    Zf ⟨_,_,_,_,Tryz.func101,Zvj⟩ <|
    Zf ⟨_,_,_,_,Tryz.func102,Zyn⟩ <|
    Zf ⟨_,_,_,_,Tryz.func103,Zb5⟩ <|
    Zf ⟨_,_,_,_,Tryz.func104,Za1⟩ <|
    Zf ⟨_,_,_,_,Tryz.func105,ZDQ⟩ <|
    Zf ⟨_,_,_,_,Tryz.func106,Zs3⟩ <|
    Zf ⟨_,_,_,_,Tryz.func107,ZDR⟩ <|
    Zf ⟨_,_,_,_,Tryz.func108,ZBt⟩ <|
    Zf ⟨_,_,_,_,Tryz.func111,Zyo⟩ <|
    Zf ⟨_,_,_,_,Tryz.func113,Zs4⟩ <|
    Zf ⟨_,_,_,_,Tryz.func114,Zyp⟩ <|
    Zf ⟨_,_,_,_,Tryz.func115,Zk4⟩ <|
    Zf ⟨_,_,_,_,Tryz.func116,Zpn⟩ <|
    Zf ⟨_,_,_,_,Tryz.func117,Zs5⟩ <|
    Zf ⟨_,_,_,_,Tryz.func118,Zs6⟩ <|
    Zf ⟨_,_,_,_,Tryz.func119,Zpo⟩ <|
    Zf ⟨_,_,_,_,Tryz.func120,ZqI⟩ <|
    Zf ⟨_,_,_,_,Tryz.func121,Zl9⟩ <|
    Zf ⟨_,_,_,_,Tryz.func122,Zma⟩ <|
    Zf ⟨_,_,_,_,Tryz.func123,Zs7⟩ <|
    Zf ⟨_,_,_,_,Tryz.func124,Zs8⟩ <|
    Zf ⟨_,_,_,_,Tryz.func125,Zvk⟩ <|
    Zf ⟨_,_,_,_,Tryz.func126,Zvl⟩ <|
    Zf ⟨_,_,_,_,Tryz.func127,Zvm⟩ <|
    Zf ⟨_,_,_,_,Tryz.func128,Zvn⟩ <|
    Zf ⟨_,_,_,_,Tryz.func129,Zyq⟩ <|
    Zf ⟨_,_,_,_,Tryz.func130,Zvo⟩ <|
    Zf ⟨_,_,_,_,Tryz.func131,ZjY⟩ <|
    Zf ⟨_,_,_,_,Tryz.func132,Zdl⟩ <|
    Zf ⟨_,_,_,_,Tryz.func135,ZBu⟩ <|
    Zf ⟨_,_,_,_,Tryz.func138,ZqJ⟩ <|
    Zf ⟨_,_,_,_,Tryz.func139,Qv⟩ <|
    Zf ⟨_,_,_,_,Tryz.func140,Zvp⟩ <|
    Zf ⟨_,_,_,_,Tryz.func141,Zs9⟩ <|
    Zf ⟨_,_,_,_,Tryz.func147,Zk5⟩ <|
    Zf ⟨_,_,_,_,Tryz.func148,Zyr⟩ <|
    Zf ⟨_,_,_,_,Tryz.func149,Zvq⟩ <|
    Zf ⟨_,_,_,_,Tryz.func150,Zys⟩ <|
    Zf ⟨_,_,_,_,Tryz.func151,Zvr⟩ <|
    Zf ⟨_,_,_,_,Tryz.func157,Zvs⟩ <|
    Zf ⟨_,_,_,_,Tryz.func158,ZBv⟩ <|
    Zf ⟨_,_,_,_,Tryz.func159,Zyt⟩ <|
    Zf ⟨_,_,_,_,Tryz.func160,Zvt⟩ <|
    Zf ⟨_,_,_,_,Tryz.func162,Zyu⟩ <|
    Zf ⟨_,_,_,_,Tryz.func163,Zmb⟩ <|
    Zf ⟨_,_,_,_,Tryz.func164,ZqK⟩ <|
    Zf ⟨_,_,_,_,Tryz.func165,Zvu⟩ <|
    Zf ⟨_,_,_,_,Tryz.func166,ZBw⟩ <|
    Zf ⟨_,_,_,_,Tryz.func167,Zvv⟩ <|
    Zf ⟨_,_,_,_,Tryz.func168,ZqL⟩ <|
    Zf ⟨_,_,_,_,Tryz.func169,Zmc⟩ <|
    Zf ⟨_,_,_,_,Tryz.func170,Zyv⟩ <|
    Zf ⟨_,_,_,_,Tryz.func171,Ze6⟩ <|
    Zf ⟨_,_,_,_,Tryz.func172,Zta⟩ <|
    Zf ⟨_,_,_,_,Tryz.func173,Ztb⟩ <|
    Zf ⟨_,_,_,_,Tryz.func174,Zvw⟩ <|
    Zf ⟨_,_,_,_,Tryz.func175,Ztc⟩ <|
    Zf ⟨_,_,_,_,Tryz.func176,ZqM⟩ <|
    Zf ⟨_,_,_,_,Tryz.func177,Zvx⟩ <|
    Zf ⟨_,_,_,_,Tryz.func178,Zi0⟩ <|
    Zf ⟨_,_,_,_,Tryz.func179,ZjZ⟩ <|
    Zf ⟨_,_,_,_,Tryz.func180,Zvy⟩ <|
    Zf ⟨_,_,_,_,Tryz.func181,Ztd⟩ <|
    Zf ⟨_,_,_,_,Tryz.func182,Zvz⟩ <|
    Zf ⟨_,_,_,_,Tryz.func183,Zte⟩ <|
    Zf ⟨_,_,_,_,Tryz.func184,Zyw⟩ <|
    Zf ⟨_,_,_,_,Tryz.func185,Zyx⟩ <|
    Zf ⟨_,_,_,_,Tryz.func186,ZvA⟩ <|
    Zf ⟨_,_,_,_,Tryz.func187,ZvB⟩ <|
    Zf ⟨_,_,_,_,Tryz.func188,Zpp⟩ <|
    Zf ⟨_,_,_,_,Tryz.func189,Zyy⟩ <|
    Zf ⟨_,_,_,_,Tryz.func190,ZBx⟩ <|
    Zf ⟨_,_,_,_,Tryz.func191,ZvC⟩ <|
    Zf ⟨_,_,_,_,Tryz.func192,Ztf⟩ <|
    Zf ⟨_,_,_,_,Tryz.func193,Zpq⟩ <|
    Zf ⟨_,_,_,_,Tryz.func194,Zyz⟩ <|
    Zf ⟨_,_,_,_,Tryz.func195,ZyA⟩ <|
    Zf ⟨_,_,_,_,Tryz.func196,ZqN⟩ <|
    Zf ⟨_,_,_,_,Tryz.func197,ZyB⟩ <|
    Zf ⟨_,_,_,_,Tryz.func198,Ze7⟩ <|
    Zf ⟨_,_,_,_,Tryz.func199,ZyC⟩ <|
    Zf ⟨_,_,_,_,Tryz.func200,ZvD⟩ <|
    Zf ⟨_,_,_,_,Tryz.func201,ZyD⟩ <|
    Zf ⟨_,_,_,_,Tryz.func202,ZvE⟩ <|
    Zf ⟨_,_,_,_,Tryz.func205,Zan⟩ <|
    Zf ⟨_,_,_,_,Tryz.func216,ZvF⟩ <|
    Zf ⟨_,_,_,_,Tryz.func217,ZDS⟩ <|
    Zf ⟨_,_,_,_,Tryz.func218,ZBy⟩ <|
    Zf ⟨_,_,_,_,Tryz.func223,ZvG⟩ <|
    Zf ⟨_,_,_,_,Tryz.func224,ZqO⟩ <|
    Zf ⟨_,_,_,_,Tryz.func225,ZqP⟩ <|
    Zf ⟨_,_,_,_,Tryz.func228,ZnB⟩ <|
    Zf ⟨_,_,_,_,Tryz.func229,Ztg⟩ <|
    Zf ⟨_,_,_,_,Tryz.func230,ZqQ⟩ <|
    Zf ⟨_,_,_,_,Tryz.func231,ZvH⟩ <|
    Zf ⟨_,_,_,_,Tryz.func232,ZyE⟩ <|
    Zf ⟨_,_,_,_,Tryz.func233,ZqR⟩ <|
    Zf ⟨_,_,_,_,Tryz.func234,ZqS⟩ <|
    Zf ⟨_,_,_,_,Tryz.func235,Zth⟩ <|
    Zf ⟨_,_,_,_,Tryz.func236,Zti⟩ <|
    Zf ⟨_,_,_,_,Tryz.func237,ZyF⟩ <|
    Zf ⟨_,_,_,_,Tryz.func238,ZBz⟩ <|
    Zf ⟨_,_,_,_,Tryz.func239,Ztj⟩ <|
    Zf ⟨_,_,_,_,Tryz.func240,ZqT⟩ <|
    Zf ⟨_,_,_,_,Tryz.func241,Ztk⟩ <|
    Zf ⟨_,_,_,_,Tryz.func242,ZBA⟩ <|
    Zf ⟨_,_,_,_,Tryz.func243,ZyG⟩ <|
    Zf ⟨_,_,_,_,Tryz.func244,ZBB⟩ <|
    Zf ⟨_,_,_,_,Tryz.func245,ZyH⟩ <|
    Zf ⟨_,_,_,_,Tryz.func246,ZBC⟩ <|
    Zf ⟨_,_,_,_,Tryz.func247,ZvI⟩ <|
    Zf ⟨_,_,_,_,Tryz.func248,ZnC⟩ <|
    Zf ⟨_,_,_,_,Tryz.func249,Ztl⟩ <|
    Zf ⟨_,_,_,_,Tryz.func250,ZqU⟩ <|
    Zf ⟨_,_,_,_,Tryz.func251,ZqV⟩ <|
    Zf ⟨_,_,_,_,Tryz.func252,ZvJ⟩ <|
    Zf ⟨_,_,_,_,Tryz.func253,Zi1⟩ <|
    Zf ⟨_,_,_,_,Tryz.func254,ZBD⟩ <|
    Zf ⟨_,_,_,_,Tryz.func255,Zdm⟩ <|
    Zf ⟨_,_,_,_,Tryz.func256,Zj0⟩ <|
    Zf ⟨_,_,_,_,Tryz.func282,ZvK⟩ <|
    Zf ⟨_,_,_,_,Tryz.func283,ZvL⟩ <|
    Zf ⟨_,_,_,_,Tryz.func284,ZBE⟩ <|
    Zf ⟨_,_,_,_,Tryz.func285,ZBF⟩ <|
    Zf ⟨_,_,_,_,Tryz.func286,ZyI⟩ <|
    Zf ⟨_,_,_,_,Tryz.func287,ZyJ⟩ <|
    Zf ⟨_,_,_,_,Tryz.func288,ZvM⟩ <|
    Zf ⟨_,_,_,_,Tryz.func289,Ztm⟩ <|
    ZIU)
end Go.Proofs.YtemcdiajejekoaaGreatDoor.Slim
namespace Go.Proofs.YtemcdiajejekoaaGreatDoor.Slim
open Go
section
variable {C : FuncId → List AV → Mem → Option (AV × Mem)} {tm loc : List AV} {m : Mem} {g : X → AV} {H : List Blk} {e : Option Nat}
theorem ZGs:ZlP C tm [] loc m=some (loc,m):=Eq.trans rfl rfl
def Za3 {β:Type} (r:Option (AV×Mem)) (f:AV→Mem→Option β):Option β :=
 match r with
 | some (v,m)=>f v m
 | none=>none
theorem Zpr {β:Type} (v:AV) (m:Mem) (f:AV→Mem→Option β):Za3 (some (v,m)) f=f v m:=Eq.trans rfl rfl
theorem Zps {β:Type} (f:AV→Mem→Option β):Za3 none f=none:=Eq.trans rfl rfl
theorem ZBG {β:Type} (c:Prop) [Decidable c] (a b:Option (AV×Mem)) (f:AV→Mem→Option β):Za3 (if c then a else b) f=if c then Za3 a f else Za3 b f:=by split <;> rfl
@[congr] theorem ZHl {β:Type} {r r':Option (AV×Mem)} {f:AV→Mem→Option β} (h:r=r'):Za3 r f=Za3 r' f:=by rw [h]
def Za4 {β:Type} (p:Prop) [Decidable p] (r:Option (AV×Mem)) (m:Mem) (f:AV→Mem→Option β):Option β:=if p then Za3 r f else f (.tup []) m
def JD {β:Type} (c:Option Bool) (r:Option (AV×Mem)) (m:Mem) (f:AV→Mem→Option β):Option β :=
 match c with
 | none=>none
 | some c=>Za4 (c=true) r m f
theorem ZqW {β:Type} (c:Bool) (r:Option (AV×Mem)) (m:Mem) (f:AV→Mem→Option β):JD (some c) r m f=Za4 (c=true) r m f:=Eq.trans rfl rfl
theorem Ztn {β:Type} (p:Prop) [Decidable p] (a b:Option Bool) (r:Option (AV×Mem)) (m:Mem) (f:AV→Mem→Option β) :
  JD (if p then a else b) r m f=if p then JD a r m f else JD b r m f:=by split <;> rfl
theorem Zpt {β:Type} (r:Option (AV×Mem)) (m:Mem) (f:AV→Mem→Option β):Za4 True r m f=Za3 r f:=by simp [Za4]
theorem Zm9 {β:Type} (r:Option (AV×Mem)) (m:Mem) (f:AV→Mem→Option β):Za4 False r m f=f (.tup []) m:=by simp [Za4]
theorem ZyK {β:Type} (p:Prop) [Decidable p] (v:AV) (m:Mem) (f:AV→Mem→Option β):Za4 p (some (v,m)) m f=f (if p then v else .tup []) m:=by
 by_cases h:p <;> simp [Za4,h,Za3]
theorem ZBH {β:Type} (p:Prop) [Decidable p] (q:Prop) [Decidable q] (v:AV) (m:Mem) (f:AV→Mem→Option β) :
  Za4 p (if q then some (v,m) else none) m f=if p→q then f (if p then v else .tup []) m else none:=by
 by_cases h:p <;> by_cases h2:q <;> simp [Za4,Za3,h,h2]
@[congr] theorem ZHm {β:Type} {p q:Prop} {s:Decidable p} [Decidable q] {r r':Option (AV×Mem)} {m:Mem} {f:AV→Mem→Option β} (h:p=q) (h2:q→r=r'):Za4 p r m f=Za4 q r' m f:=by
 subst h
 unfold Za4
 by_cases hp:p
 ·rw [if_pos hp,if_pos hp,h2 hp]
 ·rw [if_neg hp,if_neg hp]
@[congr] theorem ZDT {β:Type} {c c':Option Bool} {r:Option (AV×Mem)} {m:Mem} {f:AV→Mem→Option β} (h:c=c'):JD c r m f=JD c' r m f:=by rw [h]
def Qw (v:AV) (b:Bool):Option Bool :=
 match v with
 | .bool c=>some (c==b)
 | .tup []=>some false
 | _=>none
theorem ZvN (c:Bool):Qw (.bool c) true=some c:=by cases c <;> rfl
theorem Zto (c:Bool):Qw (.bool c) false=some (!c):=by cases c <;> rfl
theorem ZyL (b:Bool):Qw (.tup []) b=some false:=Eq.trans rfl rfl
theorem ZHJ (c:Prop) [Decidable c] (x y:AV) (b:Bool):Qw (if c then x else y) b=if c then Qw x b else Qw y b:=by split <;> rfl
theorem ZDU (op:AO) (rest:List Y6):ZlP C tm (⟨op,none⟩::rest) loc m=Za3 (aop C (get tm loc) m op) fun v m'=>ZlP C tm rest (loc++[v]) m':=by
 rw [ZlP]
 simp only [ZdG]
 cases aop C (get tm loc) m op <;> rfl
theorem ZBI (op:AO) (x:X) (b:Bool) (rest:List Y6) :
  ZlP C tm (⟨op,some (x,b)⟩::rest) loc m=JD (Qw (get tm loc x) b) (aop C (get tm loc) m op) m fun v m'=>ZlP C tm rest (loc++[v]) m':=by
 rw [ZlP]
 have h:ZdG (get tm loc) (some (x,b))=Qw (get tm loc x) b:=rfl
 rw [h]
 cases Qw (get tm loc x) b with
 | none=>rfl
 | some c=>cases c with
  | false=>rfl
  | true=>simp only [JD,Za4,if_true];cases aop C (get tm loc) m op <;> rfl
theorem ZGt:ZiY C tm [] loc m=some (loc,m):=Eq.trans rfl rfl
theorem ZDV (op:AO) (rest:List DE):ZiY C tm (⟨op,none,[]⟩::rest) loc m=Za3 (aop C (get tm loc) m op) fun v m'=>ZiY C tm rest (loc++[v]) m':=by
 rw [ZiY]
 simp only [ZdG]
 cases aop C (get tm loc) m op <;> simp [Za3,XG]
theorem ZBJ (op:AO) (q:Nat×Y6) (qs:List (Nat×Y6)) (rest:List DE):ZiY C tm (⟨op,none,q::qs⟩::rest) loc m =
  Za3 (aop C (get tm loc) m op) fun v m'=>if XG (get tm (loc++[v])) loc m'.H (q::qs)=true then ZiY C tm rest (loc++[v]) m' else none:=by
 rw [ZiY]
 simp only [ZdG]
 cases aop C (get tm loc) m op <;> simp [Za3]
theorem ZBK (op:AO) (x:X) (b:Bool) (rest:List DE) :
  ZiY C tm (⟨op,some (x,b),[]⟩::rest) loc m=JD (Qw (get tm loc x) b) (aop C (get tm loc) m op) m fun v m'=>ZiY C tm rest (loc++[v]) m':=by
 rw [ZiY]
 have h:ZdG (get tm loc) (some (x,b))=Qw (get tm loc x) b:=rfl
 rw [h]
 cases Qw (get tm loc x) b with
 | none=>rfl
 | some c=>cases c with
  | false=>simp [JD,Za4,XG]
  | true=>simp only [JD,Za4,if_true];cases aop C (get tm loc) m op <;> simp [Za3,XG]
theorem ZnD (op:AO) (x:X) (b:Bool) (q:Nat×Y6) (qs:List (Nat×Y6)) (rest:List DE) :
  ZiY C tm (⟨op,some (x,b),q::qs⟩::rest) loc m=JD (Qw (get tm loc x) b) (aop C (get tm loc) m op) m fun v m'=>
   if XG (get tm (loc++[v])) loc m'.H (q::qs)=true then ZiY C tm rest (loc++[v]) m' else none:=by
 rw [ZiY]
 have h:ZdG (get tm loc) (some (x,b))=Qw (get tm loc x) b:=rfl
 rw [h]
 cases Qw (get tm loc x) b with
 | none=>rfl
 | some c=>cases c with
  | false=>rfl
  | true=>simp only [JD,Za4,if_true];cases aop C (get tm loc) m op <;> rfl
theorem ZvO (L:List Blk):XG g loc L []=true:=Eq.trans rfl rfl
theorem Ztp (L:List Blk) (j:Nat) (op:AO) (qs:List (Nat×Y6)):(XG g loc L ((j,⟨op,none⟩)::qs)=true)↔(Zce g L op=some ((loc[j]?).getD .undef)∧XG g loc L qs=true):=by
 simp [XG,ZdG]
theorem ZqX (L:List Blk) (j:Nat) (op:AO) (x:X) (b:Bool) (qs:List (Nat×Y6)):(XG g loc L ((j,⟨op,some (x,b)⟩)::qs)=true)↔((Qw (g x) b=some false∨Zce g L op=some ((loc[j]?).getD .undef))∧XG g loc L qs=true):=by
 simp only [XG,Bool.and_eq_true,Bool.or_eq_true,decide_eq_true_eq]
 rfl
theorem ZBL (L:List Blk) (a:Bool) (sz:Nat) (x:X):Zce g L (.load a sz x)=ZmD L a sz (g x):=Eq.trans rfl rfl
theorem ZJ2 (s:Nat):get tm loc (.t s)=(tm[s]?).getD .undef:=Eq.trans rfl rfl
theorem ZJ3 (s:Nat):get tm loc (.l s)=(loc[s]?).getD .undef:=Eq.trans rfl rfl
theorem ZJ4 (v:AV):get tm loc (.c v)=v:=Eq.trans rfl rfl
def K7 (m:Mem) (r:Option AV):Option (AV×Mem) :=
 match r with
 | some v=>some (v,m)
 | none=>none
theorem ZBM (v:AV):K7 m (some v)=some (v,m):=Eq.trans rfl rfl
theorem ZBN:K7 m none=none:=Eq.trans rfl rfl
theorem ZDW (c:Prop) [Decidable c] (a b:Option AV):K7 m (if c then a else b)=if c then K7 m a else K7 m b:=by split <;> rfl
theorem ZI {op:AO} (h:op.kind=0):aop C g m op=K7 m (JO g op):=by
 unfold aop
 cases e:JO g op with
 | some v=>rfl
 | none=>simp only [];rw [ZcN (by omega),Za6 (by omega),ZcO (by omega)];rfl
theorem Zei {op:AO} (h:op.kind=1):aop C g m op=K7 m (Zce g m.H op):=by
 unfold aop
 rw [ZeP (by omega)]
 simp only []
 cases e:Zce g m.H op with
 | some v=>rfl
 | none=>simp only [];rw [Za6 (by omega),ZcO (by omega)];rfl
theorem Zak {op:AO} (h:op.kind=3):aop C g m op=Zex C g m op:=by
 unfold aop
 rw [ZeP (by omega),ZcN (by omega),Za6 (by omega)]
theorem Zk6 {op:AO} (h:op.kind=2):aop C g m op=match Qy g op with | some (cs,v)=>some (v m.H.length,newBlk m cs) | none=>none:=by
 unfold aop
 rw [ZeP (by omega),ZcN (by omega)]
 simp only []
 cases Qy g op with
 | some p=>rfl
 | none=>simp only [];exact ZcO (by omega)
theorem ZIX (x:X):aop C g m (.mv x)=some (g x,m):=Eq.trans rfl rfl
theorem ZHK (c:Nat) (o:BinOp) (x y:X):aop C g m (.bin c o x y)=K7 m (Xz c o (g x) (g y)):=ZI rfl
def ZIY (c a b:AV):Option AV :=
 match c with
 | .bool true=>some a
 | .bool false=>some b
 | _=>none
theorem ZBO (c:Bool) (a b:AV):ZIY (.bool c) a b=some (if c=true then a else b):=by cases c <;> rfl
theorem ZGu (c a b:X):aop C g m (.pick c a b)=K7 m (ZIY (g c) (g a) (g b)):=ZI rfl
theorem ZIZ (o:UnOp) (x:X):aop C g m (.un o x)=K7 m (ZII o (g x)):=ZI rfl
theorem ZvP (f:FuncId) (a b:List X):aop C g m (.makeFunc f a b)=some (.fn f (a.map g) (b.map g),m):=Eq.trans rfl rfl
def ZI0 (k:IntKind) (v:AV):Option AV :=
 match v with
 | .int _ n=>some (.int k (k.wrap n))
 | _=>none
theorem ZDX (k k':IntKind) (n:Int):ZI0 k (.int k' n)=some (.int k (k.wrap n)):=Eq.trans rfl rfl
theorem ZGv (k:IntKind) (x:X):aop C g m (.conv k x)=K7 m (ZI0 k (g x)):=ZI rfl
def Zz4 (ks:List Nat) (neg:Bool) (a b:AV):Option AV :=
 match a,b with
 | .agg xs,.agg ys=>(Zhb ks xs ys).map fun b=>.bool (if neg then !b else b)
 | _,_=>none
theorem ZvQ (ks:List Nat) (neg:Bool) (xs ys:List AV):Zz4 ks neg (.agg xs) (.agg ys)=(Zhb ks xs ys).map fun b=>.bool (if neg then !b else b):=Eq.trans rfl rfl
theorem ZyM (ks:List Nat) (neg:Bool) (x y:X):aop C g m (.eqCells ks neg x y)=K7 m (Zz4 ks neg (g x) (g y)):=ZI rfl
def ZrQ (off:Nat) (v:AV):Option AV :=
 match v with
 | .ptr (some (b,o))=>some (.ptr (some (b,o+off)))
 | _=>none
theorem ZqY (off b o:Nat):ZrQ off (.ptr (some (b,o)))=some (.ptr (some (b,o+off))):=Eq.trans rfl rfl
theorem Ztq (off:Nat) (x:X):aop C g m (.fieldAddr off x)=K7 m (ZrQ off (g x)):=ZI rfl
def ZHn (agg:Bool) (off sz:Nat) (v:AV):Option AV :=
 match v with
 | .agg cs=>Zcn agg cs off sz
 | _=>none
theorem ZBP (agg:Bool) (off sz:Nat) (cs:List AV):ZHn agg off sz (.agg cs)=Zcn agg cs off sz:=Eq.trans rfl rfl
theorem ZDY (agg:Bool) (off sz:Nat) (x:X):aop C g m (.field agg off sz x)=K7 m (ZHn agg off sz (g x)):=ZI rfl
def Zpu (sz:Nat) (v i:AV):Option AV :=
 match v,i with
 | .slice (some (b,o)) sz' n _,.int _ i=>if 0≤i∧i<n∧sz'=sz then some (.ptr (some (b,o+i.toNat*sz))) else none
 | _,_=>none
theorem Zmd (sz b o sz' n:Nat) (c:Option Nat) (k:IntKind) (i:Int):Zpu sz (.slice (some (b,o)) sz' n c) (.int k i)=if 0≤i∧i<n∧sz'=sz then some (.ptr (some (b,o+i.toNat*sz))) else none:=Eq.trans rfl rfl
theorem ZqZ (sz:Nat) (x i:X):aop C g m (.indexAddrS sz x i)=K7 m (Zpu sz (g x) (g i)):=ZI rfl
def Zpv (n sz:Nat) (v i:AV):Option AV :=
 match v,i with
 | .ptr (some (b,o)),.int _ i=>if 0≤i∧i<n then some (.ptr (some (b,o+i.toNat*sz))) else none
 | _,_=>none
theorem Zpw (n sz b o:Nat) (k:IntKind) (i:Int):Zpv n sz (.ptr (some (b,o))) (.int k i)=if 0≤i∧i<n then some (.ptr (some (b,o+i.toNat*sz))) else none:=Eq.trans rfl rfl
theorem Zq0 (n sz:Nat) (x i:X):aop C g m (.indexAddrA n sz x i)=K7 m (Zpv n sz (g x) (g i)):=ZI rfl
def ZDZ (agg:Bool) (n sz:Nat) (v i:AV):Option AV :=
 match v,i with
 | .agg cs,.int _ i=>if 0≤i∧i<n then Zcn agg cs (i.toNat*sz) sz else none
 | _,_=>none
theorem ZyN (agg:Bool) (n sz:Nat) (cs:List AV) (k:IntKind) (i:Int):ZDZ agg n sz (.agg cs) (.int k i)=if 0≤i∧i<n then Zcn agg cs (i.toNat*sz) sz else none:=Eq.trans rfl rfl
theorem ZBQ (agg:Bool) (n sz:Nat) (x i:X):aop C g m (.indexA agg n sz x i)=K7 m (ZDZ agg n sz (g x) (g i)):=ZI rfl
def ZD0 (v i:AV):Option AV :=
 match v,i with
 | .str s,.int _ i=>if 0≤i then (s[i.toNat]?).map fun b=>.int .u8 b.toNat else none
 | _,_=>none
theorem ZyO (s:ByteArray) (k:IntKind) (i:Int):ZD0 (.str s) (.int k i)=if 0≤i then (s[i.toNat]?).map fun b=>.int .u8 b.toNat else none:=Eq.trans rfl rfl
theorem ZBR (x i:X):aop C g m (.indexS x i)=K7 m (ZD0 (g x) (g i)):=ZI rfl
def Zz5 (i:Nat) (v:AV):Option AV :=
 match v with
 | .tup vs=>vs[i]?
 | _=>none
theorem ZvR (i:Nat) (vs:List AV):Zz5 i (.tup vs)=vs[i]?:=Eq.trans rfl rfl
theorem ZyP (i:Nat) (x:X):aop C g m (.extract i x)=K7 m (Zz5 i (g x)):=ZI rfl
def ZKy (v:AV):Option AV :=
 match v with
 | .slice _ _ n _=>some (.int .i64 n)
 | _=>none
theorem ZBS (p:Option (Nat×Nat)) (sz n:Nat) (c:Option Nat):ZKy (.slice p sz n c)=some (.int .i64 n):=Eq.trans rfl rfl
theorem ZHL (x:X):aop C g m (.len x)=K7 m (ZKy (g x)):=ZI rfl
def ZyQ (v:AV):Option AV :=
 match v with
 | .str s=>some (.int .i64 s.size)
 | _=>none
theorem ZyR (s:ByteArray):ZyQ (.str s)=some (.int .i64 s.size):=Eq.trans rfl rfl
theorem ZBT (x:X):aop C g m (.lenStr x)=K7 m (ZyQ (g x)):=ZI rfl
theorem ZGw (n:Nat):aop C g m (.lenA n)=some (.int .i64 n,m):=Eq.trans rfl rfl
def ZHM (a b:AV):Option AV :=
 match a,b with
 | .int k a,.int k' b=>if k=k' then some (.int k (if b>a then b else a)) else none
 | _,_=>none
theorem ZD1 (k:IntKind) (a b:Int):ZHM (.int k a) (.int k b)=some (.int k (if b>a then b else a)):=by simp [ZHM]
theorem ZGx (x y:X):aop C g m (.max2 x y)=K7 m (ZHM (g x) (g y)):=ZI rfl
def ZHN (a b:AV):Option AV :=
 match a,b with
 | .int k a,.int k' b=>if k=k' then some (.int k (if b<a then b else a)) else none
 | _,_=>none
theorem ZD2 (k:IntKind) (a b:Int):ZHN (.int k a) (.int k b)=some (.int k (if b<a then b else a)):=by simp [ZHN]
theorem ZGy (x y:X):aop C g m (.min2 x y)=K7 m (ZHN (g x) (g y)):=ZI rfl
theorem ZD3 (zero:List AV) (parts:List (Nat×Nat×X)):aop C g m (.build zero parts)=K7 m ((Zc g zero parts).map .agg):=ZI rfl
theorem ZGz (a:Bool) (sz:Nat) (x:X):aop C g m (.load a sz x)=K7 m (ZmD m.H a sz (g x)):=Zei rfl
theorem ZD4 (zero:List AV):aop C g ⟨H,e⟩ (.alloc zero)=some (.ptr (some (H.length,0)),⟨H++[.cells zero true],e⟩):=Eq.trans rfl rfl
def ZKz (H:List Blk) (e:Option Nat) (cs:Option (List AV)):Option (AV×Mem) :=
 match cs with
 | some cs=>some (.ptr (some (H.length,0)),⟨H++[.cells cs true],e⟩)
 | none=>none
theorem ZD5 (cs:List AV):ZKz H e (some cs)=some (.ptr (some (H.length,0)),⟨H++[.cells cs true],e⟩):=Eq.trans rfl rfl
theorem ZHO (x:X):aop C g ⟨H,e⟩ (.box x)=ZKz H e (Ku (g x)):=by
 rw [Zk6 rfl]
 have h:Qy g (.box x)=(Ku (g x)).map fun cs=>(cs,fun b=>.ptr (some (b,0))):=rfl
 rw [h]
 cases Ku (g x) <;> rfl
def Zpx (H:List Blk) (e:Option Nat) (sz len:Nat) (cs:Option (List AV)):Option (AV×Mem) :=
 match cs with
 | some cs=>some (.slice (some (H.length,0)) sz len (some len),⟨H++[.cells cs true],e⟩)
 | none=>none
theorem ZnE (sz len:Nat) (cs:List AV):Zpx H e sz len (some cs)=some (.slice (some (H.length,0)) sz len (some len),⟨H++[.cells cs true],e⟩):=Eq.trans rfl rfl
theorem Zq1 (sz len:Nat) (zero:List AV) (parts:List (Nat×Nat×X)):aop C g ⟨H,e⟩ (.buildSlice sz len zero parts)=Zpx H e sz len (Zc g zero parts):=by
 rw [Zk6 rfl]
 have h:Qy g (.buildSlice sz len zero parts)=(Zc g zero parts).map fun cs=>(cs,fun b=>.slice (some (b,0)) sz len (some len)):=rfl
 rw [h]
 cases Zc g zero parts <;> rfl
def ZD6 (H:List Blk) (e:Option Nat) (sz:Nat) (a x:AV):Option (AV×Mem) :=
 match a,Ku x with
 | .ptr (some (b,o)),some new=>match H[b]? with
  | some (.cells cs true)=>
   if new.length=sz∧0<sz∧o+sz≤cs.length then
    some (.tup [],⟨H.set b (.cells (Z3 cs o new) true),if (new.all fun v=>v.under (b+1)) then e else Z8 e b⟩)
   else none
  | _=>none
 | _,_=>none
theorem ZD7 (sz:Nat) (a x:X):aop C g ⟨H,e⟩ (.store sz a x)=ZD6 H e sz (g a) (g x):=by
 rw [Zak rfl];rfl
def ZI1 (C:FuncId→List AV→Mem→Option (AV×Mem)) (f:AV) (args:List AV) (m:Mem):Option (AV×Mem) :=
 match f with
 | .fn f first captured=>C f (first++args++captured) m
 | _=>none
theorem ZGA (f:FuncId) (first captured args:List AV):ZI1 C (.fn f first captured) args m=C f (first++args++captured) m:=Eq.trans rfl rfl
theorem ZGB (f:X) (args:List X):aop C g m (.call f args)=ZI1 C (g f) (args.map g) m:=by
 rw [Zak rfl]
 rfl
def ZrR (H:List Blk) (e:Option Nat) (sz bytes:Nat) (zero:List AV) (len cap:AV):Option (AV×Mem) :=
 match len,cap with
 | .int .i64 l,.int .i64 c=>if 0≤l∧l=c∧l*bytes≤maxBytes then
   some (.slice (some (H.length,0)) sz l.toNat (some l.toNat),⟨H++[.cells (Zg6 l.toNat zero) true],e⟩) else none
 | _,_=>none
theorem Zq2 (sz bytes:Nat) (zero:List AV) (l c:Int):ZrR H e sz bytes zero (.int .i64 l) (.int .i64 c)=if 0≤l∧l=c∧l*bytes≤maxBytes then
   some (.slice (some (H.length,0)) sz l.toNat (some l.toNat),⟨H++[.cells (Zg6 l.toNat zero) true],e⟩) else none:=rfl
theorem Ztr (sz bytes:Nat) (zero:List AV) (len cap:X):aop C g ⟨H,e⟩ (.makeSlice sz bytes zero len cap)=ZrR H e sz bytes zero (g len) (g cap):=by
 rw [Zak rfl];rfl
def Zaa (H:List Blk) (e:Option Nat) (str:Bool) (sz bytes:Nat) (s x:AV):Option (AV×Mem) :=
 match s with
 | .slice none _ _ _=>match Y7 str H x with
  | some (n,cs)=>if n=0 then some (Z2,⟨H,e⟩)
    else if n*bytes≤maxBytes∧cs.length=n*sz then some (.slice (some (H.length,0)) sz n none,⟨H++[.cells cs true],e⟩) else none
  | none=>none
 | .slice (some (b,o)) sz' n cap=>match H[b]?,Y7 str H x with
  | some (.cells old wr),some (k,cs)=>
   if sz'=sz∧(n+k)*bytes≤maxBytes∧cs.length=k*sz∧o+n*sz≤old.length then
    if cap=some 0∧0<k then some (.slice (some (H.length,0)) sz (n+k) none,⟨H++[.cells cs true],e⟩)
    else if wr then some (.slice (some (H.length,0)) sz (n+k) none,⟨H.set b .dead++[.cells ((old.drop o).take (n*sz)++cs) true],e⟩)
    else none
   else none
  | _,_=>none
 | _=>none
theorem ZBU (str:Bool) (sz bytes:Nat) (s x:X):aop C g ⟨H,e⟩ (.append str sz bytes s x)=Zaa H e str sz bytes (g s) (g x):=by
 rw [Zak rfl];rfl
theorem ZD8 (k:IntKind) (a b:Int):Xz 0 .add (.int k a) (.int k b)=some (.int k (k.wrap (a+b))):=by simp [Xz,Zco]
theorem ZD9 (k:IntKind) (a b:Int):Xz 0 .sub (.int k a) (.int k b)=some (.int k (k.wrap (a - b))):=by simp [Xz,Zco]
theorem ZEa (k:IntKind) (a b:Int):Xz 0 .mul (.int k a) (.int k b)=some (.int k (k.wrap (a*b))):=by simp [Xz,Zco]
theorem ZEb (k:IntKind) (a b:Int):Xz 0 .quo (.int k a) (.int k b)=if b=0 then none else some (.int k (k.wrap (a.tdiv b))):=by simp [Xz,Zco]
theorem ZEc (k:IntKind) (a b:Int):Xz 0 .rem (.int k a) (.int k b)=if b=0 then none else some (.int k (a.tmod b)):=by simp [Xz,Zco]
theorem ZEd (k:IntKind) (a b:Int):Xz 0 .eql (.int k a) (.int k b)=some (.bool (decide (a=b))):=by simp [Xz,Zco]
theorem ZEe (k:IntKind) (a b:Int):Xz 0 .neq (.int k a) (.int k b)=some (.bool (!decide (a=b))):=by simp [Xz,Zco]
theorem ZEf (k:IntKind) (a b:Int):Xz 0 .lss (.int k a) (.int k b)=some (.bool (decide (a<b))):=by simp [Xz,Zco]
theorem ZEg (k:IntKind) (a b:Int):Xz 0 .leq (.int k a) (.int k b)=some (.bool (decide (a≤b))):=by simp [Xz,Zco]
theorem ZEh (k:IntKind) (a b:Int):Xz 0 .gtr (.int k a) (.int k b)=some (.bool (decide (b<a))):=by simp [Xz,Zco]
theorem ZEi (k:IntKind) (a b:Int):Xz 0 .geq (.int k a) (.int k b)=some (.bool (decide (b≤a))):=by simp [Xz,Zco]
def ZJO (k:IntKind) (a b:Int):Int:=k.wrap (a*2 ^ (min b.toNat k.bits))
def ZIJ (k:IntKind) (a b:Int):Int:=a.fdiv (2 ^ (min b.toNat k.bits))
def ZJP (k:IntKind) (a b:Int):Int:=k.wrap (BitVec.ofInt k.bits a &&& BitVec.ofInt k.bits b).toNat
def orI (k:IntKind) (a b:Int):Int:=k.wrap (BitVec.ofInt k.bits a ||| BitVec.ofInt k.bits b).toNat
def ZKA (k:IntKind) (a b:Int):Int:=k.wrap (BitVec.ofInt k.bits a ^^^ BitVec.ofInt k.bits b).toNat
def ZEj (k:IntKind) (a b:Int):Int:=k.wrap (BitVec.ofInt k.bits a &&& ~~~BitVec.ofInt k.bits b).toNat
theorem ZvS (k k':IntKind) (a b:Int):Xz 0 .shl (.int k a) (.int k' b)=if b<0 then none else some (.int k (ZJO k a b)):=by simp [Xz,Zco,ZJO]
theorem ZvT (k k':IntKind) (a b:Int):Xz 0 .shr (.int k a) (.int k' b)=if b<0 then none else some (.int k (ZIJ k a b)):=by simp [Xz,Zco,ZIJ]
theorem ZBV (k:IntKind) (a b:Int):Xz 0 .and (.int k a) (.int k b)=some (.int k (ZJP k a b)):=by simp [Xz,Zco,ZJP]
theorem ZEk (k:IntKind) (a b:Int):Xz 0 .or (.int k a) (.int k b)=some (.int k (orI k a b)):=by simp [Xz,Zco,orI]
theorem ZBW (k:IntKind) (a b:Int):Xz 0 .xor (.int k a) (.int k b)=some (.int k (ZKA k a b)):=by simp [Xz,Zco,ZKA]
theorem Zts (k:IntKind) (a b:Int):Xz 0 .andNot (.int k a) (.int k b)=some (.int k (ZEj k a b)):=by simp [Xz,Zco,ZEj]
theorem ZBX (a b:Bool):Xz 2 .eql (.bool a) (.bool b)=some (.bool (a==b)):=Eq.trans rfl rfl
theorem ZBY (a b:Bool):Xz 2 .neq (.bool a) (.bool b)=some (.bool (!(a==b))):=Eq.trans rfl rfl
theorem ZBZ (a b:ByteArray):Xz 1 .eql (.str a) (.str b)=some (.bool (decide (a=b))):=Eq.trans rfl rfl
theorem ZB0 (a b:ByteArray):Xz 1 .neq (.str a) (.str b)=some (.bool (!decide (a=b))):=Eq.trans rfl rfl
theorem ZGC (k:IntKind) (n:Int):ZII .neg (.int k n)=some (.int k (k.wrap (0 - n))):=Eq.trans rfl rfl
theorem ZGD (b:Bool):ZII .not (.bool b)=some (.bool !b):=Eq.trans rfl rfl
theorem ZyS:setOuts tm loc []=tm:=Eq.trans rfl rfl
theorem ZvU (s j:Nat) (rest:List (Nat×Nat)):setOuts tm loc ((s,j)::rest)=setOuts (tm.set s ((loc[j]?).getD .undef)) loc rest:=Eq.trans rfl rfl
theorem Zna (l:List Blk):Zb (H++l) H.length=Zb l 0:=by simp [Zb,List.getElem?_append_right]
theorem KL (l:List Blk) (k:Nat):Zb (H++l) (H.length+k)=Zb l k:=by simp [Zb,List.getElem?_append_right]
theorem Ztt (cs:List AV) (wr:Bool) (l:List Blk):Zb (.cells cs wr::l) 0=some cs:=Eq.trans rfl rfl
theorem Ztu (b:Blk) (l:List Blk) (k:Nat):Zb (b::l) (k+1)=Zb l k:=Eq.trans rfl rfl
theorem ZyT {b:Nat} {cs:List AV} (l:List Blk) (h:Zb H b=some cs):Zb (H++l) b=some cs:=by
 unfold Zb at *
 cases hb:H[b]? with
 | none=>rw [hb] at h;cases h
 | some x=>
  have hlt:=(List.getElem?_eq_some_iff.mp hb).1
  rw [List.getElem?_append_left hlt,hb]
  rw [hb] at h
  exact h
def ZHo (agg:Bool) (cs:Option (List AV)) (o sz:Nat):Option AV :=
 match cs with
 | some cs=>Zcn agg cs o sz
 | none=>none
theorem ZyU (agg:Bool) (cs:List AV) (o sz:Nat):ZHo agg (some cs) o sz=Zcn agg cs o sz:=Eq.trans rfl rfl
theorem ZB1 (agg:Bool) (sz b o:Nat) (L:List Blk):ZmD L agg sz (.ptr (some (b,o)))=ZHo agg (Zb L b) o sz:=by
 have h:ZmD L agg sz (.ptr (some (b,o)))=match Zb L b with
  | none=>none
  | some cs=>if agg then (if o+sz≤cs.length then some (.agg ((cs.drop o).take sz)) else none) else cs[o]?:=rfl
 rw [h]
 cases Zb L b <;> rfl
theorem ZcT (cs:List AV) (o sz:Nat):Zcn false cs o sz=cs[o]?:=Eq.trans rfl rfl
theorem Zk7 (cs:List AV) (o sz:Nat):Zcn true cs o sz=if o+sz≤cs.length then some (.agg ((cs.drop o).take sz)) else none:=Eq.trans rfl rfl
theorem ZHP (c:AV) (cs:List AV) (sz:Nat):Zcn false (c::cs) 0 sz=some c:=Eq.trans rfl rfl
theorem Zpy (c:AV) (cs:List AV) (k sz:Nat):Zcn false (c::cs) (k+1) sz=Zcn false cs k sz:=Eq.trans rfl rfl
theorem ZHQ (c:AV) (cs:List AV) (sz:Nat):Zcn true (c::cs) 0 sz=if sz≤cs.length+1 then some (.agg ((c::cs).take sz)) else none:=by
 rw [Zk7];simp
theorem Zme (c:AV) (cs:List AV) (k sz:Nat):Zcn true (c::cs) (k+1) sz=Zcn true cs k sz:=by
 rw [Zk7,Zk7]
 have:(k+1+sz≤(c::cs).length)↔(k+sz≤cs.length):=by simp;omega
 simp only [this,List.drop_succ_cons]
theorem ZyV (cs:List AV):Ku (.agg cs)=some cs:=Eq.trans rfl rfl
theorem ZyW (k:IntKind) (n:Int):Ku (.int k n)=some [.int k n]:=Eq.trans rfl rfl
theorem ZvV (b:Bool):Ku (.bool b)=some [.bool b]:=Eq.trans rfl rfl
theorem ZyX (s:ByteArray):Ku (.str s)=some [.str s]:=Eq.trans rfl rfl
theorem ZyY (p:Option (Nat×Nat)):Ku (.ptr p)=some [.ptr p]:=Eq.trans rfl rfl
theorem Ztv (p:Option (Nat×Nat)) (sz n:Nat) (c:Option Nat):Ku (.slice p sz n c)=some [.slice p sz n c]:=Eq.trans rfl rfl
theorem ZB2 (f:FuncId) (a b:List AV):Ku (.fn f a b)=some [.fn f a b]:=Eq.trans rfl rfl
theorem ZvW (c:Prop) [Decidable c] (t t':List AV) (m:Mem):(if c then some (Ex.normal,(⟨t,m⟩:St)) else some (Ex.normal,⟨t',m⟩))=some (Ex.normal,⟨if c then t else t',m⟩):=by split <;> rfl
theorem ZB3 (c:Prop) [Decidable c] (a b:AV) (az bs:List AV):(if c then a::az else b::bs)=(if c then a else b)::(if c then az else bs):=by split <;> rfl
theorem ZB4 (c:Prop) [Decidable c] (a b:Bool):(if c then AV.bool a else AV.bool b)=AV.bool (if c then a else b):=by split <;> rfl
theorem ZEl (c:Prop) [Decidable c] (k:IntKind) (a b:Int):(if c then AV.int k a else AV.int k b)=AV.int k (if c then a else b):=by split <;> rfl
theorem ZI2 (F:ZK) (m:Mem) (st:St):ZoC F m st=match Yj st.tm st.m.H F.results with
 | some vs=>finish F.mode m.H.length m.esc (Zhc vs) st.m
 | none=>none:=rfl
theorem Zq3 (L:List Blk):Yj tm L []=some []:=Eq.trans rfl rfl
def ZHR (a:Option AV) (az:Option (List AV)):Option (List AV) :=
 match a,az with
 | some v,some vs=>some (v::vs)
 | _,_=>none
theorem ZB5 (v:AV) (vs:List AV):ZHR (some v) (some vs)=some (v::vs):=Eq.trans rfl rfl
theorem Zq4 (L:List Blk) (s:Nat) (rs:List AR):Yj tm L (.tmp s::rs)=ZHR (some ((tm[s]?).getD .undef)) (Yj tm L rs):=by
 rw [Yj];cases Yj tm L rs <;> rfl
theorem Zpz (L:List Blk) (s:Nat) (agg:Bool) (sz:Nat) (rs:List AR):Yj tm L (.cell s agg sz::rs)=ZHR (ZmD L agg sz ((tm[s]?).getD .undef)) (Yj tm L rs):=by
 rw [Yj];cases Yj tm L rs <;> simp only [ZzW] <;> cases ZmD L agg sz ((tm[s]?).getD .undef) <;> rfl
def ZKB (F:ZK) (m:Mem) (vs:Option (List AV)) (m':Mem):Option (AV×Mem) :=
 match vs with
 | some vs=>finish F.mode m.H.length m.esc (Zhc vs) m'
 | none=>none
theorem ZyZ (F:ZK) (m:Mem) (st:St):ZoC F m st=ZKB F m (Yj st.tm st.m.H F.results) st.m:=Eq.trans rfl rfl
theorem ZEm (F:ZK) (m:Mem) (vs:List AV) (m':Mem):ZKB F m (some vs) m'=finish F.mode m.H.length m.esc (Zhc vs) m':=Eq.trans rfl rfl
theorem Zy0 (v:AV) (lim:Nat) (e0 e1:Option Nat) (L:List Blk):finish 0 lim e0 v ⟨L,e1⟩=some (v,⟨L,joinEsc e0 e1⟩):=Eq.trans rfl rfl
theorem ZrS (v:AV) (e0:Option Nat) (l:List Blk) (h:v.under H.length=true):finish 1 H.length e0 v ⟨H++l,none⟩=some (v,⟨H,e0⟩):=by
 simp [finish,h,clean]
theorem Zgs (v:AV) (e0:Option Nat) (h:v.under H.length=true):finish 1 H.length e0 v ⟨H,none⟩=some (v,⟨H,e0⟩):=by
 simp [finish,h,clean]
theorem ZnF (sz n:Nat) (c:Option Nat) (cs:List AV) (wr:Bool) (e0:Option Nat) (h:(cs.all fun c=>c.under H.length)=true) :
  finish 2 H.length e0 (.slice (some (H.length,0)) sz n c) ⟨H++[.cells cs wr],none⟩=some (.slice (some (H.length,0)) sz n c,⟨H++[.cells cs wr],e0⟩):=by
 have hr:XL (AV.roots H.length (.slice (some (H.length,0)) sz n c))=[H.length]:=by simp [AV.roots,XL]
 unfold finish
 simp only [hr]
 have h2:([H.length].all fun b=>Xa H.length (H++[Blk.cells cs wr])[b]?)=true:=by
  simp [Xa,List.getElem?_append_right]
  simpa using h
 simp only [clean,h2,and_self,if_true]
 simp [AV.rename,ZbP,List.getElem?_append_right]
theorem ZcI {G:List Blk} {j sz n o:Nat} {c:Option Nat} {cs:List AV} {wr:Bool} (e0:Option Nat) (hG:G[j]?=some (.cells cs wr)) (h:(cs.all fun c=>c.under H.length)=true) :
  finish 2 H.length e0 (.slice (some (H.length+j,o)) sz n c) ⟨H++G,none⟩=some (.slice (some (H.length,o)) sz n c,⟨H++[.cells cs wr],e0⟩):=by
 have hlt:¬ H.length+j<H.length:=by omega
 have hr:XL (AV.roots H.length (.slice (some (H.length+j,o)) sz n c))=[H.length+j]:=by
  unfold AV.roots
  rw [if_neg hlt]
  rfl
 have hb:(H++G)[H.length+j]?=some (.cells cs wr):=by rw [List.getElem?_append_right (by omega)];simpa using hG
 unfold finish
 simp only [hr]
 have h2:([H.length+j].all fun b=>Xa H.length (H++G)[b]?)=true:=by
  simp only [List.all_cons,List.all_nil,Bool.and_true,hb,Xa]
  exact h
 simp only [clean,h2,and_self,if_true]
 simp [AV.rename,ZbP,hb,hlt]
theorem ZB6 (v:AV):Zhc [v]=v:=Eq.trans rfl rfl
theorem ZB7:Zhc []=.tup []:=Eq.trans rfl rfl
theorem ZB8 (a b:AV) (vs:List AV):Zhc (a::b::vs)=.tup (a::b::vs):=Eq.trans rfl rfl
theorem ZEn (n:Nat) (k:IntKind) (x:Int):(AV.int k x).under n=true:=by simp [AV.under]
theorem Zmf (n:Nat) (x:Bool):(AV.bool x).under n=true:=by simp [AV.under]
theorem ZvX (n:Nat) (x:ByteArray):(AV.str x).under n=true:=by simp [AV.under]
theorem ZEo (n:Nat) (x:List AV):(AV.agg x).under n=AV.under.go n x:=by simp [AV.under]
theorem ZEp (n:Nat) (x:List AV):(AV.tup x).under n=AV.under.go n x:=by simp [AV.under]
theorem ZB9 (n:Nat) (a:AV) (x:List AV):AV.under.go n (a::x)=(a.under n&&AV.under.go n x):=Eq.trans rfl rfl
theorem ZEq (n:Nat):AV.under.go n []=true:=Eq.trans rfl rfl
theorem ZQ (l:List Blk):(H++l)[H.length]?=l[0]?:=by simp [List.getElem?_append_right]
theorem ZrT (l:List Blk) (k:Nat):(H++l)[H.length+k]?=l[k]?:=by simp [List.getElem?_append_right]
theorem ZGE (l:List Blk) (b:Blk):(H++l).set H.length b=H++l.set 0 b:=by simp [List.set_append_right]
theorem Ztw (l:List Blk) (b:Blk) (k:Nat):(H++l).set (H.length+k) b=H++l.set k b:=by simp [List.set_append_right]
def Zy1 (H:List Blk) (e:Option Nat) (b:Nat) (blk:Option Blk) (sz o:Nat) (new:Option (List AV)):Option (AV×Mem) :=
 match new,blk with
 | some new,some (Blk.cells cs true)=>if new.length=sz∧0<sz∧o+sz≤cs.length then
    some (.tup [],⟨H.set b (.cells (Z3 cs o new) true),if (new.all fun v=>v.under (b+1)) then e else Z8 e b⟩) else none
 | _,_=>none
theorem ZCa (L:List Blk) (sz b o:Nat) (x:AV):ZD6 L e sz (.ptr (some (b,o))) x=Zy1 L e b L[b]? sz o (Ku x):=by
 unfold ZD6 Zy1
 cases Ku x with
 | none=>rfl
 | some new=>
  simp only []
  cases L[b]? with
  | none=>rfl
  | some B=>cases B with
   | dead=>rfl
   | mp es=>rfl
   | cells cs wr=>cases wr <;> rfl
theorem Ztx (L:List Blk) (b:Nat) (cs new:List AV) (sz o:Nat):Zy1 L e b (some (.cells cs true)) sz o (some new) =
  if new.length=sz∧0<sz∧o+sz≤cs.length then some (.tup [],⟨L.set b (.cells (Z3 cs o new) true),if (new.all fun v=>v.under (b+1)) then e else Z8 e b⟩) else none:=Eq.trans rfl rfl
theorem ZCb (c:AV) (cs:List AV) (x:AV) (xs:List AV):Z3 (c::cs) 0 (x::xs)=x::Z3 cs 0 xs:=by simp [Z3]
theorem K8 (c:AV) (cs:List AV) (k:Nat) (xs:List AV):Z3 (c::cs) (k+1) xs=c::Z3 cs k xs:=by
 simp [Z3,Nat.add_right_comm]
theorem ZvY (cs:List AV):Z3 cs 0 []=cs:=by simp [Z3]
theorem ZGF (p:AV→Bool) (c:AV) (cs:List AV):(c::cs).all p=(p c&&cs.all p):=rfl
theorem ZHS (p:AV→Bool):([]:List AV).all p=true:=Eq.trans rfl rfl
theorem ZN {x:Int} (h1 : -9223372036854775808≤x) (h2:x≤9223372036854775807):IntKind.i64.wrap x=x:=by
 have:IntKind.i64.wrap x=x:=by
  unfold IntKind.wrap
  simp [IntKind.signed,IntKind.bits]
  omega
 exact this
def Ze8 (H:List Blk) (b:Nat):Option (List (List Int×Int)) :=
 match H[b]? with
 | some (.mp es)=>some es
 | _=>none
def ZJQ (ok:Bool) (es:Option (List (List Int×Int))) (z:Option (List Int)):Option AV :=
 match es,z with
 | some es,some z=>some (if ok then .tup [.int .i64 ((Zud es z).getD 0),.bool (Zud es z).isSome] else .int .i64 ((Zud es z).getD 0))
 | _,_=>none
theorem ZEr (ok:Bool) (es:List (List Int×Int)) (z:List Int):ZJQ ok (some es) (some z)=some (if ok then .tup [.int .i64 ((Zud es z).getD 0),.bool (Zud es z).isSome] else .int .i64 ((Zud es z).getD 0)):=Eq.trans rfl rfl
def Zty (H:List Blk) (ok:Bool) (v k:AV):Option AV :=
 match v with
 | .map (some b)=>ZJQ ok (Ze8 H b) (ZDa k)
 | _=>none
theorem Zy2 (L:List Blk) (ok:Bool) (b:Nat) (k:AV):Zty L ok (.map (some b)) k=ZJQ ok (Ze8 L b) (ZDa k):=Eq.trans rfl rfl
theorem Znb (L:List Blk) (ok:Bool) (x k:X):Zce g L (.getMap ok x k)=Zty L ok (g x) (g k):=by
 simp only [Zce,Zty,Ze8]
 generalize g x=v
 generalize ZDa (g k)=z
 cases v with
 | map p=>
  cases p with
  | none=>rfl
  | some b=>
   cases z with
   | none=>simp only [ZJQ];cases L[b]? with
    | none=>rfl
    | some B=>cases B <;> rfl
   | some z=>simp only [];cases L[b]? with
    | none=>rfl
    | some B=>cases B <;> rfl
 | _=>rfl
def Ztz (H:List Blk) (v:AV):Option AV :=
 match v with
 | .map (some b)=>(Ze8 H b).map fun es=>.int .i64 es.length
 | _=>none
theorem Zy3 (L:List Blk) (b:Nat):Ztz L (.map (some b))=(Ze8 L b).map fun es=>.int .i64 es.length:=Eq.trans rfl rfl
theorem Znc (L:List Blk) (x:X):Zce g L (.lenMap x)=Ztz L (g x):=by
 simp only [Zce,Ztz,Ze8]
 generalize g x=v
 cases v with
 | map p=>
  cases p with
  | none=>rfl
  | some b=>simp only [];cases L[b]? with
   | none=>rfl
   | some B=>cases B <;> rfl
 | _=>rfl
def ZJR (H:List Blk) (e:Option Nat) (b:Nat) (es:Option (List (List Int×Int))) (z:Option (List Int)) (v:AV):Option (AV×Mem) :=
 match es,z,v with
 | some es,some z,.int .i64 n=>some (.tup [],⟨H.set b (.mp (mput es z n)),e⟩)
 | _,_,_=>none
theorem ZEs (L:List Blk) (b:Nat) (es:List (List Int×Int)) (z:List Int) (n:Int):ZJR L e b (some es) (some z) (.int .i64 n)=some (.tup [],⟨L.set b (.mp (mput es z n)),e⟩):=Eq.trans rfl rfl
def ZtA (H:List Blk) (e:Option Nat) (x k v:AV):Option (AV×Mem) :=
 match x with
 | .map (some b)=>ZJR H e b (Ze8 H b) (ZDa k) v
 | _=>none
theorem Zy4 (L:List Blk) (b:Nat) (k v:AV):ZtA L e (.map (some b)) k v=ZJR L e b (Ze8 L b) (ZDa k) v:=Eq.trans rfl rfl
theorem ZvZ (x k v:X):Zex C g ⟨H,e⟩ (.putMap x k v)=ZtA H e (g x) (g k) (g v):=by
 simp only [Zex,ZtA,Ze8]
 generalize g x=a
 generalize ZDa (g k)=z
 generalize g v=y
 cases a with
 | map p=>
  cases p with
  | none=>rfl
  | some b=>
   simp only [ZJR]
   cases z with
   | none=>simp only [];cases H[b]? with
    | none=>rfl
    | some B=>cases B <;> rfl
   | some z=>
    cases y with
    | int kk n=>cases kk with
     | i64=>simp only [];cases H[b]? with
      | none=>rfl
      | some B=>cases B <;> rfl
     | _=>simp only [];cases H[b]? with
      | none=>rfl
      | some B=>cases B <;> rfl
    | _=>simp only [];cases H[b]? with
     | none=>rfl
     | some B=>cases B <;> rfl
 | _=>rfl
theorem ZCc:aop C g ⟨H,e⟩ .newMap=some (.map (some H.length),⟨H++[.mp []],e⟩):=by
 rw [Zak rfl];rfl
theorem ZCd (ok:Bool) (x k:X):aop C g m (.getMap ok x k)=K7 m (Zty m.H ok (g x) (g k)):=by
 rw [Zei rfl,Znb]
theorem ZCe (x:X):aop C g m (.lenMap x)=K7 m (Ztz m.H (g x)):=by
 rw [Zei rfl,Znc]
theorem ZCf (x k v:X):aop C g ⟨H,e⟩ (.putMap x k v)=ZtA H e (g x) (g k) (g v):=by
 rw [Zak rfl,ZvZ]
theorem ZIK {a b c:Int} (ha:ZzS a=true) (hb:ZzS b=true) (hc:ZzS c=true):ZDa (.agg [.int .i64 a,.int .i64 b,.int .i64 c])=some [a,b,c]:=by
 simp [ZDa,Zxp,ha,hb,hc]
theorem ZJS {L:List Blk} {b:Nat} {es:List (List Int×Int)} (h:L[b]?=some (.mp es)):Ze8 L b=some es:=by
 unfold Ze8;rw [h]
theorem ZCg (l:List Blk):Ze8 (H++l) H.length=Ze8 l 0:=by simp [Ze8,List.getElem?_append_right]
theorem ZCh (l:List Blk) (k:Nat):Ze8 (H++l) (H.length+k)=Ze8 l k:=by simp [Ze8,List.getElem?_append_right]
theorem Zy5 (es:List (List Int×Int)) (l:List Blk):Ze8 (.mp es::l) 0=some es:=Eq.trans rfl rfl
theorem Zy6 (b:Blk) (l:List Blk) (k:Nat):Ze8 (b::l) (k+1)=Ze8 l k:=Eq.trans rfl rfl
end
attribute [go_sem] ZCc ZCd Zy2 ZEr ZCe Zy3 ZCf Zy4 ZEs Znb Znc ZCg ZCh Zy5 Zy6
attribute [go_sem] Nat.mul_one
attribute [go_sem] ZHH ZGm ZDC ZAY ZGn ZGk ZGl ZHG Zi9 Zoz ZmK ZmL ZxD Zja ZoA ZmM ZmN ZxE ZxF Zuw ZxG ZoB ZAX Zjb ZoD ZmO ZmP ZxH ZGs ZDU ZBI Zpr Zps ZBG Zpt Zm9 ZyK ZBH ZqW Ztn ZvN Zto ZyL ZGt ZDV ZBJ ZBK ZnD ZvO Ztp ZqX ZBL ZJ2 ZJ3 ZJ4 ZBM ZBN ZDW ZIX ZHK ZBO ZGu ZIZ ZvP ZDX ZGv ZvQ ZyM ZqY Ztq ZBP ZDY Zmd ZqZ Zpw Zq0 ZyN ZBQ ZyO ZBR ZvR ZyP ZBS ZHL ZyR ZBT ZGw ZD1 ZGx ZD2 ZGy ZD3 ZGz ZD4 ZD5 ZHO ZnE Zq1 ZD7 ZGA ZGB Zq2 Ztr ZBU ZD8 ZD9 ZEa ZEb ZEc ZEd ZEe ZEf ZEg ZEh ZEi ZvS ZvT ZBV ZEk ZBW Zts ZBX ZBY ZBZ ZB0 ZGC ZGD ZyS ZvU Zna KL Ztt Ztu ZyU ZB1 ZHP Zpy ZHQ Zme ZQ ZrT ZGE Ztw ZCa Ztx ZCb K8 ZvY ZGF ZHS ZyV ZyW ZvV ZyX ZyY Ztv ZB2 ZvW ZB3 ZB4 ZEl Zq3 ZB5 Zq4 Zpz ZyZ ZEm Zy0 ZrS Zgs ZnF ZB6 ZB7 ZB8 ZEn Zmf ZvX ZEo ZEp ZB9 ZEq List.map_cons List.map_nil List.getElem?_cons_zero List.getElem?_cons_succ List.getElem?_nil Option.getD_some Option.getD_none List.nil_append List.cons_append List.append_nil List.append_assoc List.set_cons_zero List.set_cons_succ List.length_cons List.length_nil List.length_append Nat.zero_add Nat.add_zero List.take_succ_cons List.take_zero List.drop_succ_cons List.drop_zero if_true if_false Bool.not_true Bool.not_false Bool.true_eq_false Bool.false_and Bool.and_false Bool.or_true Bool.or_false Bool.true_or Bool.false_or Nat.lt_add_one Nat.succ_pos Bool.if_false_right Bool.if_true_left Bool.if_true_right Bool.if_false_left Bool.decide_eq_true Int.toNat_natCast Int.natCast_nonneg Int.ofNat_lt ite_self Bool.true_and Bool.and_true Bool.false_eq_true Bool.not_eq_true' decide_eq_true_eq true_and and_true Option.map_some Option.map_none
@[go_sem] theorem ZJT:type_of% @entry.eq_1:=@entry.eq_1
@[go_sem] theorem ZJU:type_of% @joinEsc.eq_1:=@joinEsc.eq_1
@[go_sem] theorem ZJV:type_of% @joinEsc.eq_2:=@joinEsc.eq_2
@[go_sem] theorem ZKD:type_of% @if_pos:=@if_pos
end Go.Proofs.YtemcdiajejekoaaGreatDoor.Slim
namespace Go.Proofs.YtemcdiajejekoaaGreatDoor.Slim
open Go
open Nat renaming reduceAdd → Ra, reduceLeDiff → Rb, reduceLT → Rc, reduceEqDiff → Rd
open Nat renaming lt_irrefl → Rh, gcd → Ri, le_refl → Rq, div_le_self → Rr, one_mul → Rx, add_assoc → RD, add_lt_add_iff_left → RE, le_add_right → RF, zero_mul → RJ, gcd_pos_of_pos_left → RO, pow_le_pow_right → RP
open List renaming getElem?_eq_getElem → Rj, append_assoc → Rk, drop_zero → Rl, drop_eq_getElem_cons → Rm, drop_length → Rn, all_cons → Ro, cons_append → Rp, all_nil → Rt, nil_append → Ru, append_nil → Rv, replicate → Rw, getElem?_append_right → Ry, take_of_length_le → RB, foldl_cons → RC, replicate_succ → RK, flatten_cons → RL, take_succ_eq_append_getElem → RM, length_cons → RN
open Bool renaming and_eq_true → Rs, and_eq_true_iff → RG
open Int renaming toNat_natCast → Rz, natCast_mul → RA, toNat_zero → RH, toNat_one → RI
variable {pr : Zt} {H : List Blk} {e : Option Nat}
abbrev Ld:=Int×Int
def Zn:List Ld→List AV
 | []=>[]
 | l::ls=>.int .i64 l.1::.int .i64 l.2::Zn ls
theorem YG:∀ ls:List Ld,(Zn ls).length=ls.length*2
 | []=>rfl
 | l::ls=>by simp [Zn,YG ls];omega
theorem Zdn:∀ a b:List Ld,Zn (a++b)=Zn a++Zn b
 | [],b=>rfl
 | l::a,b=>by simp [Zn,Zdn a b]
theorem Ja {ls:List Ld} {i:Nat} {l:Ld} (h:ls[i]?=some l):Zcn true (Zn ls) (i*2) 2=some (.agg [.int .i64 l.1,.int .i64 l.2]):=by
 induction ls generalizing i with
 | nil=>simp at h
 | cons a ls ih=>
  cases i with
  | zero=>simp at h;subst h;simp [Zn,Zcn]
  | succ i=>
   simp at h
   rw [show (i+1)*2=i*2+1+1 by omega,Zn,Zme,Zme]
   exact ih h
theorem Kk {ls:List Ld} {i:Nat} {l:Ld} (sz:Nat) (h:ls[i]?=some l):Zcn false (Zn ls) (i*2) sz=some (.int .i64 l.1):=by
 induction ls generalizing i with
 | nil=>simp at h
 | cons a ls ih=>
  cases i with
  | zero=>simp at h;subst h;simp [Zn,Zcn]
  | succ i=>
   simp at h
   rw [show (i+1)*2=i*2+1+1 by omega,Zn,Zpy,Zpy]
   exact ih h
theorem JE {ls:List Ld} {i:Nat} {l:Ld} (sz:Nat) (h:ls[i]?=some l):Zcn false (Zn ls) (i*2+1) sz=some (.int .i64 l.2):=by
 induction ls generalizing i with
 | nil=>simp at h
 | cons a ls ih=>
  cases i with
  | zero=>simp at h;subst h;simp [Zn,Zcn]
  | succ i=>
   simp at h
   rw [show (i+1)*2+1=i*2+1+1+1 by omega,Zn,Zpy,Zpy]
   exact ih h
abbrev slL (b n:Nat) (c:Option Nat):AV:=.slice (some (b,0)) 2 n c
theorem Za {H:List Blk} {b:Nat} {cs:List AV} (h:Zb H b=some cs) (G:List Blk):Zb (H++G) b=some cs:=ZyT G h
theorem Zi {i:Nat} (h:i<9223372036854775807):IntKind.i64.wrap ((i:Int)+1)=((i+1:Nat):Int):=by
 rw [ZN (by omega) (by omega)];omega
theorem ZCi (x a:Int):call T pr Zih [.agg [.int .i64 x,.int .i64 a]] ⟨H,e⟩=some (.agg [.int .i64 x,.int .i64 a],⟨H,e⟩):=by
 rw [Zh ZA7]
 simp +contextual only [Ziy,ZrC,go_sem,reduceIte,Ra,Rb,Rc,Rd]
theorem ZCj (x a y b:Int):call T pr Zii [.agg [.int .i64 x,.int .i64 a],.agg [.int .i64 y,.int .i64 b]] ⟨H,e⟩=some (.bool (decide (x=y)&&decide (a=b)),⟨H,e⟩):=by
 rw [Zh ZA8]
 simp +contextual only [Ziz,ZrD,go_sem,reduceIte,Ra,Rb,Rc,Rd]
 by_cases h1:x=y <;> by_cases h2:a=b <;> simp [h1,h2]
theorem Zj1 (n:Nat) (p:Option (Nat×Nat)) (sz:Nat) (c:Option Nat) (hn:n≤maxLen):call T pr ZfC [.slice p sz n c,.int .i64 1048576] ⟨H,e⟩=some (.int .i64 (if n≤1048576 then 1048576 - n else -1),⟨H,e⟩):=by
 rw [Zh ZxS]
 have hm:maxLen=9223372036854775807:=by decide
 simp +contextual only [Zf3,ZoK,go_sem,reduceIte,Ra,Rb,Rc,Rd]
 rw [ZN (by omega) (by omega)]
 by_cases h1:n≤1048576
 ·rw [if_neg (by omega),if_pos h1]
 ·rw [if_pos (by omega),if_neg h1]
theorem Zjk {b1 b2:Nat} {c1 c2:Option Nat} {ls:List Ld} (h1:Zb H b1=some (Zn ls)) (h2:Zb H b2=some (Zn ls)) (hn:ls.length≤9223372036854775806) :
  ∀ (k i:Nat) (x5 x6 x7:AV),k+i=ls.length→∃ y5 y6,run T pr (.loop Zcy) ⟨[slL b1 ls.length c1,slL b2 ls.length c2,.bool false,.int .i64 i,x7,x5,x6],⟨H,e⟩⟩ =
   some (.exit 0,⟨[slL b1 ls.length c1,slL b2 ls.length c2,.bool false,.int .i64 ls.length,x7,y5,y6],⟨H,e⟩⟩)
 | 0,i,x5,x6,x7,hk=>by
  have hi:i=ls.length:=by omega
  subst hi
  refine ⟨.bool false,x6,?_⟩
  rw [ZG]
  simp +contextual only [Zcy,Rh,decide_false,go_sem,reduceIte,Ra,Rb,Rc,Rd]
 | k+1,i,x5,x6,x7,hk=>by
  have hi:i<ls.length:=by omega
  obtain ⟨y5,y6,ih⟩:=Zjk (c1:=c1) (c2:=c2) h1 h2 hn k (i+1) (.bool true) (.bool false) x7 (by omega)
  refine ⟨y5,y6,?_⟩
  rw [ZG]
  have hl:ls[i]?=some ls[i]:=Rj hi
  simp +contextual only [Zcy,h1,h2,hi,hl,Ja hl,ZCj,Zi (show i<9223372036854775807 by omega),decide_true,Bool.not_true,go_sem,reduceIte,Ra,Rb,Rc,Rd]
  exact ih
theorem Yd (x a b:Int):call T pr YJ [.int .i64 x,.int .i64 a,.int .i64 b] ⟨H,e⟩=some (.bool (decide (a≤x)&&decide (x≤b)),⟨H,e⟩):=by
 rw [Zh ZA2]
 simp +contextual only [Ziu,Zry,go_sem,reduceIte,Ra,Rb,Rc,Rd]
theorem Ye (x a b:Int):call T pr YX [.int .i64 x,.int .i64 a,.int .i64 b] ⟨H,e⟩=some (.bool (decide (a≤x)&&decide (x≤b)),⟨H,e⟩):=by
 rw [Zh ZGq]
 simp +contextual only [ZnZ,Zz2,go_sem,reduceIte,Ra,Rb,Rc,Rd]
theorem Zgt (x:Int):call T pr Zax [.int .i64 x] ⟨H,e⟩=some (.bool (decide (0≤x)&&decide (x≤60)),⟨H,e⟩):=by
 rw [Zh ZGr]
 simp +contextual only [Zn0,Zz3,Ye,go_sem,reduceIte,Ra,Rb,Rc,Rd]
theorem Zdo (x:Int):call T pr Ji [.int .i64 x] ⟨H,e⟩=some (.bool (decide (0≤x)&&decide (x≤60)),⟨H,e⟩):=by
 rw [Zh ZxR]
 simp +contextual only [Zf2,ZoJ,Yd,go_sem,reduceIte,Ra,Rb,Rc,Rd]
theorem ZhE (x:Int):call T pr Kz [.int .i64 x] ⟨H,e⟩=some (.bool (decide (1≤x)&&decide (x≤99)),⟨H,e⟩):=by
 rw [Zh ZuR]
 simp +contextual only [Zd8,ZmY,Yd,go_sem,reduceIte,Ra,Rb,Rc,Rd]
def okL (l:Ld):Bool:=(decide (0≤l.1)&&decide (l.1≤60))&&(decide (1≤l.2)&&decide (l.2≤99))
def Yu (ls:List Ld):Bool:=decide (ls.length≤12)&&ls.all okL
theorem Zy7 (x y:Int):call T pr Zc1 [.agg [.int .i64 x,.int .i64 y]] ⟨H,e⟩=some (.bool (!okL (x,y)),⟨H,e⟩):=by
 rw [Zh Zx1]
 simp +contextual only [Zf9,ZoS,Zdo,ZhE,go_sem,reduceIte,Ra,Rb,Rc,Rd]
 unfold okL
 by_cases h1:(decide (0≤x)&&decide (x≤60))=true <;> simp [h1,ZrS,Zgs,Zmf]
theorem Znd {b:Nat} {c:Option Nat} {ls:List Ld} (h:Zb H b=some (Zn ls)) :
  ∀ (k i:Nat) (y3 y4:AV),k+i=13→∃ z2 z3 z4,run T pr (.loop Jo) ⟨[slL b ls.length c,.bool false,.int .i64 i,y3,y4],⟨H,e⟩⟩ =
   some (if ((ls.drop i).take k).all okL=true then Ex.exit 0 else Ex.ret,⟨[slL b ls.length c,.bool false,z2,z3,z4],⟨H,e⟩⟩)
 | 0,i,y3,y4,hk=>by
  have hi:i=13:=by omega
  subst hi
  refine ⟨.int .i64 13,.bool false,y4,?_⟩
  rw [ZG]
  generalize run T pr (.loop Jo)=R
  have h12:¬ ((13:Nat):Int)≤12:=by omega
  simp +contextual only [Jo,List.take_zero,Rt,h12,decide_false,go_sem,reduceIte,Ra,Rb,Rc,Rd]
  rfl
 | k+1,i,y3,y4,hk=>by
  by_cases hi:i<ls.length
  ·have hl:ls[i]?=some ls[i]:=Rj hi
   have h12:((i:Nat):Int)≤12:=by omega
   obtain ⟨z2,z3,z4,ih⟩:=Znd (c:=c) h k (i+1) (.bool true) (.bool false) (by omega)
   rw [Rm hi,List.take_succ_cons,Ro]
   have hok:okL ls[i]=((decide (0≤ls[i].1)&&decide (ls[i].1≤60))&&(decide (1≤ls[i].2)&&decide (ls[i].2≤99))):=rfl
   rw [hok,ZG]
   generalize run T pr (.loop Jo)=R at ih ⊢
   cases h1:(decide (0≤ls[i].1)&&decide (ls[i].1≤60)) with
   | false=>
    refine ⟨.int .i64 i,.bool true,.bool true,?_⟩
    simp +contextual only [Jo,h,hi,hl,h1,h12,Kk _ hl,JE _ hl,Zgt,Ye,decide_true,go_sem,reduceIte,Ra,Rb,Rc,Rd]
   | true=>
    cases h2:(decide (1≤ls[i].2)&&decide (ls[i].2≤99)) with
    | false=>
     refine ⟨.int .i64 i,.bool true,.bool true,?_⟩
     simp +contextual only [Jo,h,hi,hl,h1,h2,h12,Kk _ hl,JE _ hl,Zgt,Ye,decide_true,go_sem,reduceIte,Ra,Rb,Rc,Rd]
    | true=>
     refine ⟨z2,z3,z4,?_⟩
     simp +contextual only [Jo,h,hi,hl,h1,h2,h12,Kk _ hl,JE _ hl,Zgt,Ye,Zi (show i<9223372036854775807 by omega),decide_true,go_sem,reduceIte,Ra,Rb,Rc,Rd]
     exact ih
  ·refine ⟨.int .i64 i,.bool false,y4,?_⟩
   rw [ZG]
   generalize run T pr (.loop Jo)=R
   have hd:ls.drop i=[]:=List.drop_eq_nil_of_le (by omega)
   simp +contextual only [Jo,hd,List.take_nil,Rt,hi,decide_false,go_sem,reduceIte,Ra,Rb,Rc,Rd]
theorem KM {b:Nat} {c:Option Nat} {ls:List Ld} (h:Zb H b=some (Zn ls)):call T pr Jw [slL b ls.length c] ⟨H,e⟩=some (.bool (Yu ls),⟨H,e⟩):=by
 obtain ⟨z2,z3,z4,hl⟩:=Znd (pr:=pr) (e:=none) (c:=c) h 13 0 .undef .undef rfl
 rw [Zh ZDI]
 have h0:((0:Nat):Int)=0:=rfl
 rw [h0] at hl
 simp +contextual only [ZkF,Zuz,hl,Rl,go_sem,reduceIte,Ra,Rb,Rc,Rd]
 have hr:Yu ls=(decide (ls.length≤12)&&(ls.take 13).all okL):=by
  unfold Yu
  by_cases h12:ls.length≤12
  ·rw [RB (by omega)]
  ·simp [h12]
 rw [hr]
 have hi:((ls.length:Nat):Int)≤12↔ls.length≤12:=by omega
 cases h3:(ls.take 13).all okL <;> simp +contextual only [hi,go_sem,reduceIte,Ra,Rb,Rc,Rd] <;> simp [Zgs]
theorem ZtB {X:List Ld} {i:Nat} {a b:Int} (h:i<X.length):Z3 (Zn X) (i*2) [.int .i64 a,.int .i64 b]=Zn (X.set i (a,b)):=by
 induction X generalizing i with
 | nil=>simp at h
 | cons x X ih=>
  cases i with
  | zero=>simp [Zn,Z3]
  | succ i=>
   rw [show (i+1)*2=i*2+1+1 by omega,Zn,K8,K8,ih (by simpa using h)]
   rfl
theorem ZS (n:Nat):∀ ls:List Ld,((Zn ls).all fun c=>c.under n)=true
 | []=>rfl
 | l::ls=>by simp [Zn,AV.under,ZS n ls]
theorem ZrU:∀ n,Zg6 n [.int .i64 0,.int .i64 0]=Zn (Rw n (0,0))
 | 0=>rfl
 | n+1=>by
  have:=ZrU n
  unfold Zg6 at *
  simp only [RK,RL,Zn,Rp,Ru,this]
theorem ZtC {X ls:List Ld} {i:Nat} (hi:i<ls.length) (hX:X.length=ls.length) (h:X.take i=ls.take i):(X.set i ls[i]).take (i+1)=ls.take (i+1):=by
 rw [RM (by rw [List.length_set];omega),RM hi]
 rw [List.take_set_of_le (Rq _),h]
 simp
def ZHT (H:List Blk) (av:AV) (ls:List Ld):Prop :=
 ∃ p sz c,av=.slice p sz ls.length c∧ls.length≤maxLen∧(ls≠[]→sz=2∧∃ b,p=some (b,0)∧Zb H b=some (Zn ls))
theorem Zjl {p:Option (Nat×Nat)} {sz:Nat} {c:Option Nat} {ls:List Ld} {r:AV} (ha:ls≠[]→sz=2∧∃ b,p=some (b,0)∧Zb H b=some (Zn ls)) (hn:ls.length≤1048576) :
  ∀ (k i:Nat) (X:List Ld) (y4:AV),k+i=ls.length→X.length=ls.length→X.take i=ls.take i→∃ z4,run T pr (.loop KZ) ⟨[.slice p sz ls.length c,r,slL H.length ls.length (some ls.length),.int .i64 i,y4],⟨H++[.cells (Zn X) true],e⟩⟩ =
   some (Ex.exit 0,⟨[.slice p sz ls.length c,r,slL H.length ls.length (some ls.length),.int .i64 ls.length,z4],⟨H++[.cells (Zn ls) true],e⟩⟩)
 | 0,i,X,y4,hk,hX,ht=>by
  have hi:i=ls.length:=by omega
  subst hi
  rw [RB (by omega),RB (by omega)] at ht
  subst ht
  refine ⟨.bool false,?_⟩
  rw [ZG]
  generalize run T pr (.loop KZ)=R
  simp +contextual only [KZ,Rh,decide_false,go_sem,reduceIte,Ra,Rb,Rc,Rd]
 | k+1,i,X,y4,hk,hX,ht=>by
  have hi:i<ls.length:=by omega
  have hl:ls[i]?=some ls[i]:=Rj hi
  obtain ⟨rfl,b,rfl,hb⟩:=ha (by intro h;subst h;simp at hi)
  obtain ⟨z4,ih⟩:=Zjl (c:=c) (r:=r) ha hn k (i+1) (X.set i ls[i]) (.bool true) (by omega) (by simpa using hX) (ZtC hi hX ht)
  refine ⟨z4,?_⟩
  rw [ZG]
  generalize run T pr (.loop KZ)=R at ih ⊢
  have hle:i*2+2≤(Zn X).length:=by rw [YG];omega
  simp +contextual only [KZ,Za hb,hi,hl,Ja hl,ZCi,hle,ZtB (show i<X.length by omega),Zi (show i<9223372036854775807 by omega),decide_true,go_sem,reduceIte,Ra,Rb,Rc,Rd]
  exact ih
theorem Zy8 {av:AV} {ls:List Ld} (ha:ZHT H av ls) (hn:ls.length≤1048576):call T pr ZfD [av] ⟨H,e⟩=some (slL H.length ls.length (some ls.length),⟨H++[.cells (Zn ls) true],e⟩):=by
 obtain ⟨p,sz,c,rfl,_,ha⟩:=ha
 obtain ⟨z4,hl⟩:=Zjl (pr:=pr) (e:=none) (c:=c) (r:=.slice none 0 0 none) ha hn ls.length 0 (Rw ls.length (0,0)) .undef (by omega) (by simp) (by simp)
 rw [Zh ZxT]
 have h0:((0:Nat):Int)=0:=rfl
 have hmb:(ls.length:Int)*((16:Nat):Int)≤((maxBytes:Nat):Int):=by unfold maxBytes;omega
 rw [h0,←ZrU] at hl
 simp +contextual only [Zf4,ZoL,hmb,hl,ZS,go_sem,reduceIte,Ra,Rb,Rc,Rd]
theorem Zjm {b:Nat} {c:Option Nat} {ls:List Ld} {g:FuncId} {first cap:List AV} {p:Ld→Bool} {r:AV} (h:Zb H b=some (Zn ls)) (hn:ls.length≤9223372036854775806)
  (hf:∀ l∈ls,call T pr g (first++AV.agg [.int .i64 l.1,.int .i64 l.2]::cap) ⟨H,e⟩=some (.bool (p l),⟨H,e⟩)) :
  ∀ (k i:Nat) (y3 y6 y7:AV),k+i=ls.length→∃ (j:Nat) (z3 z5 z6 z7:AV),run T pr (.loop Zx) ⟨[slL b ls.length c,.fn g first cap,r,y3,.int .i64 ls.length,.int .i64 i,y6,y7],⟨H,e⟩⟩ =
   some (if (ls.drop i).any p=true then Ex.ret else Ex.exit 0,⟨[slL b ls.length c,.fn g first cap,if (ls.drop i).any p=true then .int .i64 j else r,z3,.int .i64 ls.length,z5,z6,z7],⟨H,e⟩⟩)
 | 0,i,y3,y6,y7,hk=>by
  have hi:i=ls.length:=by omega
  subst hi
  refine ⟨0,y3,.int .i64 ls.length,.bool false,y7,?_⟩
  rw [ZG]
  generalize run T pr (.loop Zx)=R
  simp +contextual only [Zx,Rh,decide_false,Rn,List.any_nil,go_sem,reduceIte,Ra,Rb,Rc,Rd]
 | k+1,i,y3,y6,y7,hk=>by
  have hi:i<ls.length:=by omega
  have hl:ls[i]?=some ls[i]:=Rj hi
  have hc:=hf ls[i] (List.getElem_mem hi)
  rw [ZG,Rm hi,List.any_cons]
  obtain ⟨j,z3,z5,z6,z7,ih⟩:=Zjm (c:=c) (r:=r) h hn hf k (i+1) (.int .i64 i) (.bool true) (.bool false) (by omega)
  generalize run T pr (.loop Zx)=R at ih ⊢
  cases hp:p ls[i] with
  | true=>
   refine ⟨i,.int .i64 i,.int .i64 i,.bool true,.bool true,?_⟩
   rw [hp] at hc
   simp +contextual only [Zx,h,hi,hl,Ja hl,hc,decide_true,go_sem,reduceIte,Ra,Rb,Rc,Rd]
  | false=>
   refine ⟨j,z3,z5,z6,z7,?_⟩
   rw [hp] at hc
   simp +contextual only [Zx,h,hi,hl,Ja hl,hc,Zi (show i<9223372036854775807 by omega),decide_true,go_sem,reduceIte,Ra,Rb,Rc,Rd]
   exact ih
theorem Zy9 {b:Nat} {c:Option Nat} {ls:List Ld} {g:FuncId} {first cap:List AV} {p:Ld→Bool} (h:Zb H b=some (Zn ls)) (hn:ls.length≤9223372036854775806)
  (hf:∀ l∈ls,call T pr g (first++AV.agg [.int .i64 l.1,.int .i64 l.2]::cap) ⟨H,none⟩=some (.bool (p l),⟨H,none⟩)) :
  ∃ j:Nat,call T pr Z4 [slL b ls.length c,.fn g first cap] ⟨H,e⟩=some (.int .i64 (if ls.any p=true then j else -1),⟨H,e⟩):=by
 obtain ⟨j,z3,z5,z6,z7,hl⟩:=Zjm (pr:=pr) (e:=none) (c:=c) (r:=.int .i64 0) h hn hf ls.length 0 .undef .undef .undef rfl
 refine ⟨j,?_⟩
 have h0:((0:Nat):Int)=0:=rfl
 rw [h0] at hl
 rw [Zh ZaN]
 simp +contextual only [Z5,X9,hl,go_sem,reduceIte,Ra,Rb,Rc,Rd]
 cases hp:ls.any p <;> simp +contextual only [go_sem,reduceIte,Ra,Rb,Rc,Rd]
theorem Zq5 {b:Nat} {c:Option Nat} {ls:List Ld} {g:FuncId} {first cap:List AV} {p:Ld→Bool} (h:Zb H b=some (Zn ls)) (hn:ls.length≤9223372036854775806)
  (hf:∀ l∈ls,call T pr g (first++AV.agg [.int .i64 l.1,.int .i64 l.2]::cap) ⟨H,none⟩=some (.bool (p l),⟨H,none⟩)) :
  call T pr ZU [slL b ls.length c,.fn g first cap] ⟨H,e⟩=some (.bool (ls.any p),⟨H,e⟩):=by
 obtain ⟨j,hl⟩:=Zy9 (pr:=pr) (e:=none) (c:=c) h hn hf
 rw [Zh QL]
 simp +contextual only [ZV,Xs,hl,go_sem,reduceIte,Ra,Rb,Rc,Rd]
 cases hp:ls.any p <;> simp +contextual [Zgs,Zmf]
theorem Ka {b:Nat} {c:Option Nat} {ls:List Ld} (h:Zb H b=some (Zn ls)):call T pr Jv [slL b ls.length c] ⟨H,e⟩=some (.bool (Yu ls),⟨H,e⟩):=by
 rw [Zh ZDG]
 have hi:(12:Int)<((ls.length:Nat):Int)↔12<ls.length:=by omega
 by_cases h12:ls.length≤12
 ·have hc:=Zq5 (pr:=pr) (e:=none) (c:=c) (g:=Zc1) (first:=[]) (cap:=[]) (p:=fun l => !okL l) h (by omega) (fun l _=>Zy7 l.1 l.2)
  have h12':¬ 12<ls.length:=by omega
  have hr:Yu ls = !(ls.any fun l => !okL l):=by
   unfold Yu
   rw [List.any_eq_not_all_not]
   simp [h12]
  rw [hr]
  simp +contextual only [Zhk,ZoI,hc,hi,h12',decide_false,go_sem,reduceIte,Ra,Rb,Rc,Rd]
 ·have h12':12<ls.length:=by omega
  have hr:Yu ls=false:=by unfold Yu;simp [h12]
  rw [hr]
  simp +contextual only [Zhk,ZoI,hi,h12',decide_true,go_sem,reduceIte,Ra,Rb,Rc,Rd]
def ZaP (p:Int) (a:Int) (l:Ld):Int:=IntKind.i64.wrap (a+IntKind.i64.wrap (l.2*IntKind.i64.wrap (l.1 - p)))
def Zk8 (ls:List Ld) (p:Int):Int:=ls.foldl (ZaP p) 0
theorem Zej {b:Nat} {c:Option Nat} {ls:List Ld} {p:Int} {r:AV} (h:Zb H b=some (Zn ls)) (hn:ls.length≤9223372036854775806) :
  ∀ (k i:Nat) (a:Int) (G:List Blk) (y4 y8:AV),k+i=ls.length→∃ (G':List Blk) (z4 z8:AV),run T pr (.loop Xx) ⟨[slL b ls.length c,.int .i64 p,r,.int .i64 a,y4,slL b ls.length c,.int .i64 ls.length,.int .i64 i,y8],⟨H++G,e⟩⟩ =
   some (Ex.exit 0,⟨[slL b ls.length c,.int .i64 p,r,.int .i64 ((ls.drop i).foldl (ZaP p) a),z4,slL b ls.length c,.int .i64 ls.length,.int .i64 ls.length,z8],⟨H++G',e⟩⟩)
 | 0,i,a,G,y4,y8,hk=>by
  have hi:i=ls.length:=by omega
  subst hi
  refine ⟨G,y4,.bool false,?_⟩
  rw [ZG]
  generalize run T pr (.loop Xx)=R
  simp +contextual only [Xx,Rh,decide_false,Rn,List.foldl_nil,go_sem,reduceIte,Ra,Rb,Rc,Rd]
 | k+1,i,a,G,y4,y8,hk=>by
  have hi:i<ls.length:=by omega
  have hl:ls[i]?=some ls[i]:=Rj hi
  rw [ZG,Rm hi,RC]
  obtain ⟨G',z4,z8,ih⟩:=Zej (c:=c) (p:=p) (r:=r) h hn k (i+1) (ZaP p a ls[i]) (G++[.cells [.int .i64 ls[i].1,.int .i64 ls[i].2] true]) (.ptr (some (H.length+G.length,0))) (.bool true) (by omega)
  refine ⟨G',z4,z8,?_⟩
  generalize run T pr (.loop Xx)=R at ih ⊢
  simp +contextual only [Xx,Za h,hi,hl,Ja hl,Zi (show i<9223372036854775807 by omega),decide_true,go_sem,reduceIte,Ra,Rb,Rc,Rd]
  exact ih
theorem ZaQ {b:Nat} {c:Option Nat} {ls:List Ld} (h:Zb H b=some (Zn ls)) (hn:ls.length≤9223372036854775806) (p:Int):call T pr Y3 [slL b ls.length c,.int .i64 p] ⟨H,e⟩=some (.int .i64 (Zk8 ls p),⟨H,e⟩):=by
 obtain ⟨G',z4,z8,hl⟩:=Zej (pr:=pr) (e:=none) (c:=c) (p:=p) (r:=.int .i64 0) h hn ls.length 0 0 [] .undef .undef rfl
 have h0:((0:Nat):Int)=0:=rfl
 rw [h0,Rv,Rl] at hl
 rw [Zh Zo9]
 simp +contextual only [ZaF,Zhm,hl,go_sem,reduceIte,Ra,Rb,Rc,Rd]
 rfl
theorem ZhF {b:Nat} {c:Option Nat} {ls:List Ld} {p:Int} {r:AV} (h:Zb H b=some (Zn ls)) (hn:ls.length≤9223372036854775806) :
  ∀ (k i:Nat) (a:Int) (y5:AV),k+i=ls.length→∃ (z5:AV),run T pr (.loop Kj) ⟨[slL b ls.length c,.int .i64 p,r,.int .i64 a,.int .i64 i,y5],⟨H,e⟩⟩ =
   some (Ex.exit 0,⟨[slL b ls.length c,.int .i64 p,r,.int .i64 ((ls.drop i).foldl (ZaP p) a),.int .i64 ls.length,z5],⟨H,e⟩⟩)
 | 0,i,a,y5,hk=>by
  have hi:i=ls.length:=by omega
  subst hi
  refine ⟨.bool false,?_⟩
  rw [ZG]
  generalize run T pr (.loop Kj)=R
  simp +contextual only [Kj,Rh,decide_false,Rn,List.foldl_nil,go_sem,reduceIte,Ra,Rb,Rc,Rd]
 | k+1,i,a,y5,hk=>by
  have hi:i<ls.length:=by omega
  have hl:ls[i]?=some ls[i]:=Rj hi
  rw [ZG,Rm hi,RC]
  obtain ⟨z5,ih⟩:=ZhF (c:=c) (p:=p) (r:=r) h hn k (i+1) (ZaP p a ls[i]) (.bool true) (by omega)
  refine ⟨z5,?_⟩
  generalize run T pr (.loop Kj)=R at ih ⊢
  simp +contextual only [Kj,h,hi,hl,Kk _ hl,JE _ hl,Zi (show i<9223372036854775807 by omega),decide_true,go_sem,reduceIte,Ra,Rb,Rc,Rd]
  exact ih
theorem Zb6 {b:Nat} {c:Option Nat} {ls:List Ld} (h:Zb H b=some (Zn ls)) (hn:ls.length≤9223372036854775806) (p:Int):call T pr YL [slL b ls.length c,.int .i64 p] ⟨H,e⟩=some (.int .i64 (Zk8 ls p),⟨H,e⟩):=by
 obtain ⟨z5,hl⟩:=ZhF (pr:=pr) (e:=none) (c:=c) (p:=p) (r:=.int .i64 0) h hn ls.length 0 0 .undef rfl
 have h0:((0:Nat):Int)=0:=rfl
 rw [h0,Rl] at hl
 rw [Zh Zu0]
 simp +contextual only [Zee,Zm3,hl,go_sem,reduceIte,Ra,Rb,Rc,Rd]
 rfl
def Zdp (ls:List Ld) (a b:Int):Int:=if Zk8 ls a<0 then -1 else if 0<Zk8 ls b then 1 else 0
theorem Zmg {b:Nat} {c:Option Nat} {ls:List Ld} (h:Zb H b=some (Zn ls)) (hn:ls.length≤9223372036854775806) (p q:Int):call T pr Zbf [slL b ls.length c,.int .i64 p,.int .i64 q] ⟨H,e⟩=some (.int .i64 (Zdp ls p q),⟨H,e⟩):=by
 rw [Zh ZBc]
 simp +contextual only [ZiB,ZrG,Zb6 h hn,go_sem,reduceIte,Ra,Rb,Rc,Rd]
 unfold Zdp
 split
 ·rfl
 ·split <;> rfl
theorem ZpA {b:Nat} {c:Option Nat} {ls:List Ld} (h:Zb H b=some (Zn ls)) (hn:ls.length≤9223372036854775806) (p q:Int):call T pr Zbg [slL b ls.length c,.int .i64 p,.int .i64 q] ⟨H,e⟩=some (.int .i64 (Zdp ls p q),⟨H,e⟩):=by
 rw [Zh Zyf]
 simp +contextual only [Zgh,Zo0,ZaQ h hn,go_sem,reduceIte,Ra,Rb,Rc,Rd]
 unfold Zdp
 split
 ·rfl
 ·split <;> rfl
variable {pr : Zt} {H : List Blk} {e : Option Nat}
theorem ZHT.more {av:AV} {ls:List Ld} (h:ZHT H av ls) (G:List Blk):ZHT (H++G) av ls:=by
 obtain ⟨p,sz,c,h1,h2,h3⟩:=h
 refine ⟨p,sz,c,h1,h2,fun hne => ?_⟩
 obtain ⟨h4,b,h5,h6⟩:=h3 hne
 exact ⟨h4,b,h5,Za h6 G⟩
theorem Zz6:∀ (es:List (List Int)),(∀ e∈es,e.length=2)→∃ ls:List Ld,es.flatten.map (AV.int .i64)=Zn ls∧ls.length=es.length
 | [],_=>⟨[],rfl,rfl⟩
 | e::es,h=>by
  obtain ⟨ls,h1,h2⟩:=Zz6 es (fun e' h'=>h e' (by simp [h']))
  have h0:=h e (by simp)
  match e,h0 with
  | [x,y],_=>exact ⟨(x,y)::ls,by simp [Zn,h1],by simp [h2]⟩
theorem ZHU {av:AV} {es:List (List Int)} (h:Zl2 H av .i64 2 es):∃ ls,ZHT H av ls:=by
 obtain ⟨h1,h2⟩:=h
 rcases h2 with ⟨rfl,rfl⟩|⟨b,cap,rfl,h3,h4,h5⟩
 ·exact ⟨[],none,0,none,rfl,Nat.zero_le _,fun h=>absurd rfl h⟩
 ·obtain ⟨ls,h6,h7⟩:=Zz6 es (fun e he=>(h1 e he).1)
  refine ⟨ls,some (b,0),2,some cap,by rw [h7],by omega,fun _=>⟨rfl,b,rfl,?_⟩⟩
  unfold Zb
  rw [h5,h6]
theorem Zza {b1 b2:Nat} {c1 c2:Option Nat} {ls:List Ld} (h1:Zb H b1=some (Zn ls)) (h2:Zb H b2=some (Zn ls)) (hn:ls.length≤9223372036854775806) :
  call T pr ZcZ [slL b1 ls.length c1,slL b2 ls.length c2] ⟨H,e⟩=some (.bool true,⟨H,e⟩):=by
 obtain ⟨z5,z6,hl⟩:=Zjk (pr:=pr) (e:=none) (c1:=c1) (c2:=c2) h1 h2 hn ls.length 0 .undef .undef (.bool false) rfl
 have h0:((0:Nat):Int)=0:=rfl
 rw [h0] at hl
 rw [Zh ZxU]
 simp +contextual only [Zf5,ZoM,hl,decide_true,go_sem,reduceIte,Ra,Rb,Rc,Rd]
def Zcl (cap:Option Nat) (j:Nat) (G:List Blk):List Blk:=if cap=some 0 then G else G.set j .dead
theorem YH (cap:Option Nat) (j:Nat) (G:List Blk):(Zcl cap j G).length=G.length:=by unfold Zcl;split <;> simp
theorem Zv0 {G:List Blk} {j k n sz bytes:Nat} {cs new:List AV} {cap:Option Nat} {str:Bool} {x:AV} (hb:G[j]?=some (.cells cs true)) (hx:Y7 str (H++G) x=some (k,new)) (hk:0<k)
  (hcs:cs.length=n*sz) (hnew:new.length=k*sz) (hmax:(n+k)*bytes≤maxBytes) (hcap:cap=some 0→n=0) :
  Zaa (H++G) e str sz bytes (.slice (some (H.length+j,0)) sz n cap) x=some (.slice (some (H.length+G.length,0)) sz (n+k) none,⟨H++(Zcl cap j G++[.cells (cs++new) true]),e⟩):=by
 unfold Zaa
 simp only [ZrT,hb,hx]
 rw [if_pos ⟨trivial,hmax,hnew,by omega⟩]
 unfold Zcl
 by_cases hc:cap=some 0
 ·have hn:=hcap hc
  subst hn
  have:cs=[]:=by simpa using hcs
  subst this
  rw [if_pos ⟨hc,hk⟩,if_pos hc]
  simp
 ·rw [if_neg (fun h=>hc h.1),if_pos trivial,if_neg hc]
  have h1:List.take (n*sz) (List.drop 0 cs)=cs:=by rw [Rl,←hcs,List.take_length]
  rw [h1,Ztw]
  simp
theorem Zek (L:List Blk) (n sz:Nat) (cap:Option Nat) (cs:List AV) (b:Nat) (h:Zb L b=some cs) (hl:cs.length=n*sz):Y7 false L (.slice (some (b,0)) sz n cap)=some (n,cs):=by
 unfold Y7
 simp only [Bool.false_eq_true,if_false,h]
 rw [if_pos (by omega),Rl,←hl,List.take_length]
abbrev ZR (ls:List Int):List AV:=ls.map (AV.int .i64)
abbrev slI (b n:Nat) (c:Option Nat):AV:=.slice (some (b,0)) 1 n c
theorem Zu {ls:List Int} {i:Nat} {x:Int} (sz:Nat) (h:ls[i]?=some x):Zcn false (ZR ls) i sz=some (.int .i64 x):=by
 rw [ZcT,List.getElem?_map,h];rfl
theorem K9 (n:Nat):∀ ls:List Int,((ZR ls).all fun c=>c.under n)=true
 | []=>rfl
 | l::ls=>by simp [ZR,AV.under]
theorem Zmh:∀ n,Zg6 n [.int .i64 0]=ZR (Rw n 0)
 | 0=>rfl
 | n+1=>by
  have:=Zmh n
  unfold Zg6 ZR at *
  simp only [RK,RL,List.map_cons,Rp,Ru,this]
theorem Zk9 {X:List Int} {i:Nat} {a:Int} (h:i<X.length):Z3 (ZR X) i [.int .i64 a]=ZR (X.set i a):=by
 induction X generalizing i with
 | nil=>simp at h
 | cons x X ih=>
  cases i with
  | zero=>simp [ZR,Z3]
  | succ i=>
   have:=ih (i:=i) (by simpa using h)
   simp only [ZR,List.map_cons,List.set_cons_succ] at *
   rw [K8,this]
theorem Zne {q:Nat} {c:Option Nat} {ls:List Int} {x:Int} (h:Zb H q=some (ZR ls)) (hn:ls.length≤9223372036854775806) :
  ∀ (k i:Nat) (y4 y5:AV),k+i=ls.length→∃ (z3 z4 z5:AV),run T pr (.loop Q8) ⟨[slI q ls.length c,.int .i64 x,.bool false,.int .i64 i,y4,y5],⟨H,e⟩⟩ =
   some (if x∈ls.drop i then Ex.ret else Ex.exit 0,⟨[slI q ls.length c,.int .i64 x,.bool (decide (x∈ls.drop i)),z3,z4,z5],⟨H,e⟩⟩)
 | 0,i,y4,y5,hk=>by
  have hi:i=ls.length:=by omega
  subst hi
  refine ⟨.int .i64 ls.length,.bool false,y5,?_⟩
  rw [ZG]
  generalize run T pr (.loop Q8)=R
  simp +contextual only [Q8,Rh,decide_false,Rn,List.not_mem_nil,go_sem,reduceIte,Ra,Rb,Rc,Rd]
 | k+1,i,y4,y5,hk=>by
  have hi:i<ls.length:=by omega
  have hl:ls[i]?=some ls[i]:=Rj hi
  obtain ⟨z3,z4,z5,ih⟩:=Zne (c:=c) (x:=x) h hn k (i+1) (.bool true) (.bool false) (by omega)
  rw [ZG,Rm hi]
  generalize run T pr (.loop Q8)=R at ih ⊢
  by_cases hx:ls[i]=x
  ·refine ⟨.int .i64 i,.bool true,.bool true,?_⟩
   simp +contextual only [Q8,h,hi,hl,Zu _ hl,hx,decide_true,List.mem_cons,true_or,go_sem,reduceIte,Ra,Rb,Rc,Rd]
  ·refine ⟨z3,z4,z5,?_⟩
   have hx':¬ x=ls[i]:=fun h=>hx h.symm
   simp +contextual only [Q8,h,hi,hl,Zu _ hl,hx,hx',decide_true,decide_false,List.mem_cons,false_or,Zi (show i<9223372036854775807 by omega),go_sem,reduceIte,Ra,Rb,Rc,Rd]
   exact ih
theorem ZEt {q:Nat} {c:Option Nat} {ls:List Int} (h:Zb H q=some (ZR ls)) (hn:ls.length≤9223372036854775806) (x:Int):call T pr Zhi [slI q ls.length c,.int .i64 x] ⟨H,e⟩=some (.bool (decide (x∈ls)),⟨H,e⟩):=by
 obtain ⟨z3,z4,z5,hl⟩:=Zne (pr:=pr) (e:=none) (c:=c) (x:=x) h hn ls.length 0 .undef .undef rfl
 have h0:((0:Nat):Int)=0:=rfl
 rw [h0,Rl] at hl
 rw [Zh ZDM]
 by_cases hx:x∈ls <;> simp only [hx,if_true,if_false,decide_true,decide_false] at hl ⊢ <;> simp +contextual only [ZkP,ZuD,hl,go_sem,reduceIte,Ra,Rb,Rc,Rd]
def ZgX (a b:Int):Bool:=((decide (0≤a)&&decide (a≤60))&&(decide (0≤b)&&decide (b≤60)))&&decide (a≤b)
theorem Ze9 (a b:Int):call T pr ZeS [.int .i64 a,.int .i64 b] ⟨H,e⟩=some (.bool (ZgX a b),⟨H,e⟩):=by
 rw [Zh ZA1]
 simp +contextual only [Zit,Zrx,Zdo,go_sem,reduceIte,Ra,Rb,Rc,Rd]
 rfl
theorem ZCk (a b:Int):call T pr Zij [.int .i64 a,.int .i64 b] ⟨H,e⟩=some (.bool (ZgX a b),⟨H,e⟩):=by
 rw [Zh ZA9]
 simp +contextual only [ZiA,ZrE,Zgt,go_sem,reduceIte,Ra,Rb,Rc,Rd]
 rfl
abbrev wr (x:Int):Int:=IntKind.i64.wrap x
variable {pr : Zt} {H : List Blk} {e : Option Nat}
variable {pr : Zt} {H : List Blk} {e : Option Nat}
variable {pr : Zt} {H : List Blk} {e : Option Nat}
variable {pr : Zt} {H : List Blk} {e : Option Nat}
theorem Zq6 (P R:List Ld) (r:Ld) (a:Int):Z3 (Zn (P++r::R)) (P.length*2) [.int .i64 a]=Zn (P++(a,r.2)::R):=by
 induction P with
 | nil=>simp [Zn,Z3]
 | cons p P ih=>
  simp only [Zn,Rp,RN,Nat.add_mul,Rx] at *
  rw [K8,K8,ih]
abbrev ZHp (ls:List Bool):List AV:=ls.map AV.bool
theorem ZKE {B:List Bool} {c:Nat} (h:c<B.length):B[c]?=some (B.getD c false):=by
 rw [List.getD_eq_getElem?_getD,Rj h];rfl
theorem ZEu {B:List Bool} {i:Nat} (sz:Nat) (h:i<B.length):Zcn false (ZHp B) i sz=some (.bool (B.getD i false)):=by
 rw [ZcT,List.getElem?_map,ZKE h];rfl
theorem ZCl (n:Nat):∀ ls:List Bool,((ZHp ls).all fun c=>c.under n)=true
 | []=>rfl
 | l::ls=>by simp [ZHp,AV.under]
theorem ZrV:∀ n,Zg6 n [.bool false]=ZHp (Rw n false)
 | 0=>rfl
 | n+1=>by
  have:=ZrV n
  unfold Zg6 ZHp at *
  simp only [RK,RL,List.map_cons,Rp,Ru,this]
def before (os:List Int) (i:Nat) (lo:Int):Prop:=(i=0∧lo = -1)∨∃ i',i=i'+1∧os[i']?=some lo∧0≤lo
def ZaR (x:Int):Bool:=decide (1≤x)&&decide (x≤24)
theorem Zbs (x:Int):call T pr Jk [.int .i64 x] ⟨H,e⟩=some (.bool (ZaR x),⟨H,e⟩):=by
 rw [Zh Zye]
 simp +contextual only [Zgg,ZoZ,Yd,go_sem,reduceIte,Ra,Rb,Rc,Rd]
 rfl
theorem Zfa (x y:Int):call T pr ZeV [.int .i64 x,.int .i64 y] ⟨H,e⟩=some (.bool (ZaR x&&ZaR y),⟨H,e⟩):=by
 rw [Zh ZDK]
 simp +contextual only [ZkJ,ZuB,Ye,go_sem,reduceIte,Ra,Rb,Rc,Rd]
 rfl
abbrev Sg:=Int×Int×Int
def YM (s:Sg):Bool :=
 if s.1=1 then ZaR s.2.1&&ZaR s.2.2 else if s.1=3 then ZaR s.2.1&&ZaR s.2.2 else if s.1=2 then ZaR s.2.1&&decide (s.2.2=0)
 else if s.1=4 then (ZaR s.2.1&&ZaR s.2.2)&&decide (s.2.2≤s.2.1) else if s.1=5 then (ZaR s.2.1&&ZaR s.2.2)&&decide (s.2.2<s.2.1) else false
theorem ZpB (k a b:Int):call T pr ZfK [.agg [.int .i64 k,.int .i64 a,.int .i64 b]] ⟨H,e⟩=some (.bool (YM (k,a,b)),⟨H,e⟩):=by
 rw [Zh Zx4]
 unfold YM
 by_cases h1:k=1
 ·simp +contextual only [JV,Q3,Zbs,h1,decide_true,go_sem,reduceIte,Ra,Rb,Rc,Rd]
 by_cases h3:k=3
 ·simp +contextual only [JV,Q3,Zbs,h3,show ¬ ((3:Int)=1) by omega,decide_true,decide_false,go_sem,reduceIte,Ra,Rb,Rc,Rd]
 by_cases h2:k=2
 ·simp +contextual only [JV,Q3,Zbs,h2,show ¬ ((2:Int)=1) by omega,show ¬ ((2:Int)=3) by omega,decide_true,decide_false,go_sem,reduceIte,Ra,Rb,Rc,Rd]
 by_cases h4:k=4
 ·simp +contextual only [JV,Q3,Zbs,h4,show ¬ ((4:Int)=1) by omega,show ¬ ((4:Int)=3) by omega,show ¬ ((4:Int)=2) by omega,decide_true,decide_false,go_sem,reduceIte,Ra,Rb,Rc,Rd]
 by_cases h5:k=5
 ·simp +contextual only [JV,Q3,Zbs,h5,show ¬ ((5:Int)=1) by omega,show ¬ ((5:Int)=3) by omega,show ¬ ((5:Int)=2) by omega,show ¬ ((5:Int)=4) by omega,decide_true,decide_false,go_sem,reduceIte,Ra,Rb,Rc,Rd]
 ·simp +contextual only [JV,Q3,Zbs,h1,h2,h3,h4,h5,decide_true,decide_false,go_sem,reduceIte,Ra,Rb,Rc,Rd]
theorem ZpC (k a b:Int):call T pr ZfL [.agg [.int .i64 k,.int .i64 a,.int .i64 b]] ⟨H,e⟩=some (.bool (YM (k,a,b)),⟨H,e⟩):=by
 rw [Zh Zx5]
 have hr:∀ x:Int,(decide (1≤x)&&decide (x≤24))=ZaR x:=fun x=>rfl
 unfold YM
 by_cases h1:k=1
 ·simp +contextual only [JW,Q4,Zfa,Ye,hr,h1,decide_true,go_sem,reduceIte,Ra,Rb,Rc,Rd]
 by_cases h3:k=3
 ·simp +contextual only [JW,Q4,Zfa,Ye,hr,h3,show ¬ ((3:Int)=1) by omega,decide_true,decide_false,go_sem,reduceIte,Ra,Rb,Rc,Rd]
 by_cases h2:k=2
 ·simp +contextual only [JW,Q4,Zfa,Ye,hr,h2,show ¬ ((2:Int)=1) by omega,show ¬ ((2:Int)=3) by omega,decide_true,decide_false,go_sem,reduceIte,Ra,Rb,Rc,Rd]
 by_cases h4:k=4
 ·simp +contextual only [JW,Q4,Zfa,Ye,hr,h4,show ¬ ((4:Int)=1) by omega,show ¬ ((4:Int)=3) by omega,show ¬ ((4:Int)=2) by omega,decide_true,decide_false,go_sem,reduceIte,Ra,Rb,Rc,Rd]
 by_cases h5:k=5
 ·simp +contextual only [JW,Q4,Zfa,Ye,hr,h5,show ¬ ((5:Int)=1) by omega,show ¬ ((5:Int)=3) by omega,show ¬ ((5:Int)=2) by omega,show ¬ ((5:Int)=4) by omega,decide_true,decide_false,go_sem,reduceIte,Ra,Rb,Rc,Rd]
 ·simp +contextual only [JW,Q4,Zfa,Ye,hr,h1,h2,h3,h4,h5,decide_true,decide_false,go_sem,reduceIte,Ra,Rb,Rc,Rd]
def Zw:List Sg→List AV
 | []=>[]
 | s::ss=>.int .i64 s.1::.int .i64 s.2.1::.int .i64 s.2.2::Zw ss
theorem KN:∀ ss:List Sg,(Zw ss).length=ss.length*3
 | []=>rfl
 | s::ss=>by simp [Zw,KN ss];omega
theorem QM {ss:List Sg} {i:Nat} {s:Sg} (h:ss[i]?=some s):Zcn true (Zw ss) (i*3) 3=some (.agg [.int .i64 s.1,.int .i64 s.2.1,.int .i64 s.2.2]):=by
 induction ss generalizing i with
 | nil=>simp at h
 | cons a ss ih=>
  cases i with
  | zero=>simp at h;subst h;simp [Zw,Zcn]
  | succ i=>
   simp at h
   rw [show (i+1)*3=i*3+1+1+1 by omega,Zw,Zme,Zme,Zme]
   exact ih h
theorem ZtD {X:List Sg} {i:Nat} {k a b:Int} (h:i<X.length):Z3 (Zw X) (i*3) [.int .i64 k,.int .i64 a,.int .i64 b]=Zw (X.set i (k,a,b)):=by
 induction X generalizing i with
 | nil=>simp at h
 | cons x X ih=>
  cases i with
  | zero=>simp [Zw,Z3]
  | succ i=>
   rw [show (i+1)*3=i*3+1+1+1 by omega,Zw,K8,K8,K8,ih (by simpa using h)]
   rfl
theorem Z0 (n:Nat):∀ ss:List Sg,((Zw ss).all fun c=>c.under n)=true
 | []=>rfl
 | s::ss=>by simp [Zw,AV.under,Z0 n ss]
theorem ZrW:∀ n,Zg6 n [.int .i64 0,.int .i64 0,.int .i64 0]=Zw (Rw n (0,0,0))
 | 0=>rfl
 | n+1=>by
  have:=ZrW n
  unfold Zg6 at *
  simp only [RK,RL,Zw,Rp,Ru,this]
theorem Zq7 {X ss:List Sg} {i:Nat} (hi:i<ss.length) (hX:X.length=ss.length) (h:X.take i=ss.take i):(X.set i ss[i]).take (i+1)=ss.take (i+1):=by
 rw [RM (by rw [List.length_set];omega),RM hi]
 rw [List.take_set_of_le (Rq _),h]
 simp
abbrev slS (b n:Nat) (c:Option Nat):AV:=.slice (some (b,0)) 3 n c
def ZHV (H:List Blk) (av:AV) (ss:List Sg):Prop :=
 ∃ p sz c,av=.slice p sz ss.length c∧ss.length≤maxLen∧(ss≠[]→sz=3∧∃ b,p=some (b,0)∧Zb H b=some (Zw ss))
theorem ZHV.more {av:AV} {ss:List Sg} (h:ZHV H av ss) (G:List Blk):ZHV (H++G) av ss:=by
 obtain ⟨p,sz,c,h1,h2,h3⟩:=h
 refine ⟨p,sz,c,h1,h2,fun hne => ?_⟩
 obtain ⟨h4,b,h5,h6⟩:=h3 hne
 exact ⟨h4,b,h5,Za h6 G⟩
theorem Zv1:∀ (es:List (List Int)),(∀ e∈es,e.length=3)→∃ ss:List Sg,es.flatten.map (AV.int .i64)=Zw ss∧ss.length=es.length
 | [],_=>⟨[],rfl,rfl⟩
 | e::es,h=>by
  obtain ⟨ss,h1,h2⟩:=Zv1 es (fun e' h'=>h e' (by simp [h']))
  have h0:=h e (by simp)
  match e,h0 with
  | [x,y,z],_=>exact ⟨(x,y,z)::ss,by simp [Zw,h1],by simp [h2]⟩
theorem ZHW {av:AV} {es:List (List Int)} (h:Zl2 H av .i64 3 es):∃ ss,ZHV H av ss:=by
 obtain ⟨h1,h2⟩:=h
 rcases h2 with ⟨rfl,rfl⟩|⟨b,cap,rfl,h3,h4,h5⟩
 ·exact ⟨[],none,0,none,rfl,Nat.zero_le _,fun h=>absurd rfl h⟩
 ·obtain ⟨ss,h6,h7⟩:=Zv1 es (fun e he=>(h1 e he).1)
  refine ⟨ss,some (b,0),3,some cap,by rw [h7],by omega,fun _=>⟨rfl,b,rfl,?_⟩⟩
  unfold Zb
  rw [h5,h6]
theorem Zzb (k a b:Int):call T pr ZfI [.agg [.int .i64 k,.int .i64 a,.int .i64 b]] ⟨H,e⟩=some (.agg [.int .i64 k,.int .i64 a,.int .i64 b],⟨H,e⟩):=by
 rw [Zh Zx2]
 simp +contextual only [Zga,ZoT,go_sem,reduceIte,Ra,Rb,Rc,Rd]
theorem Zzc (k a b:Int):call T pr ZfJ [.agg [.int .i64 k,.int .i64 a,.int .i64 b],.agg [.int .i64 k,.int .i64 a,.int .i64 b]] ⟨H,e⟩=some (.bool true,⟨H,e⟩):=by
 rw [Zh Zx3]
 simp +contextual only [Zgb,ZoU,decide_true,go_sem,reduceIte,Ra,Rb,Rc,Rd]
theorem ZhG {p:Option (Nat×Nat)} {sz:Nat} {c:Option Nat} {ls:List Sg} {r:AV} (ha:ls≠[]→sz=3∧∃ b,p=some (b,0)∧Zb H b=some (Zw ls)) (hn:ls.length≤1048576) :
  ∀ (k i:Nat) (X:List Sg) (y4:AV),k+i=ls.length→X.length=ls.length→X.take i=ls.take i→∃ z4,run T pr (.loop Kg) ⟨[.slice p sz ls.length c,r,slS H.length ls.length (some ls.length),.int .i64 i,y4],⟨H++[.cells (Zw X) true],e⟩⟩ =
   some (Ex.exit 0,⟨[.slice p sz ls.length c,r,slS H.length ls.length (some ls.length),.int .i64 ls.length,z4],⟨H++[.cells (Zw ls) true],e⟩⟩)
 | 0,i,X,y4,hk,hX,ht=>by
  have hi:i=ls.length:=by omega
  subst hi
  rw [RB (by omega),RB (by omega)] at ht
  subst ht
  refine ⟨.bool false,?_⟩
  rw [ZG]
  generalize run T pr (.loop Kg)=R
  simp +contextual only [Kg,Rh,decide_false,go_sem,reduceIte,Ra,Rb,Rc,Rd]
 | k+1,i,X,y4,hk,hX,ht=>by
  have hi:i<ls.length:=by omega
  have hl:ls[i]?=some ls[i]:=Rj hi
  obtain ⟨rfl,b,rfl,hb⟩:=ha (by intro h;subst h;simp at hi)
  obtain ⟨z4,ih⟩:=ZhG (c:=c) (r:=r) ha hn k (i+1) (X.set i ls[i]) (.bool true) (by omega) (by simpa using hX) (Zq7 hi hX ht)
  refine ⟨z4,?_⟩
  rw [ZG]
  generalize run T pr (.loop Kg)=R at ih ⊢
  have hle:i*3+3≤(Zw X).length:=by rw [KN];omega
  simp +contextual only [Kg,Za hb,hi,hl,QM hl,Zzb,hle,ZtD (show i<X.length by omega),Zi (show i<9223372036854775807 by omega),decide_true,go_sem,reduceIte,Ra,Rb,Rc,Rd]
  exact ih
theorem Zv2 {av:AV} {ls:List Sg} (ha:ZHV H av ls) (hn:ls.length≤1048576):call T pr ZdL [av] ⟨H,e⟩=some (slS H.length ls.length (some ls.length),⟨H++[.cells (Zw ls) true],e⟩):=by
 obtain ⟨p,sz,c,rfl,_,ha⟩:=ha
 obtain ⟨z4,hl⟩:=ZhG (pr:=pr) (e:=none) (c:=c) (r:=.slice none 0 0 none) ha hn ls.length 0 (Rw ls.length (0,0,0)) .undef (by omega) (by simp) (by simp)
 rw [Zh ZuK]
 have h0:((0:Nat):Int)=0:=rfl
 have hmb:(ls.length:Int)*((24:Nat):Int)≤((maxBytes:Nat):Int):=by unfold maxBytes;omega
 rw [h0,←ZrW] at hl
 simp +contextual only [Zd1,ZmT,hmb,hl,Z0,go_sem,reduceIte,Ra,Rb,Rc,Rd]
theorem ZhH {b1 b2:Nat} {c1 c2:Option Nat} {ls:List Sg} (h1:Zb H b1=some (Zw ls)) (h2:Zb H b2=some (Zw ls)) (hn:ls.length≤9223372036854775806) :
  ∀ (k i:Nat) (x5 x6 x7:AV),k+i=ls.length→∃ y5 y6,run T pr (.loop Kh) ⟨[slS b1 ls.length c1,slS b2 ls.length c2,.bool false,.int .i64 i,x7,x5,x6],⟨H,e⟩⟩ =
   some (.exit 0,⟨[slS b1 ls.length c1,slS b2 ls.length c2,.bool false,.int .i64 ls.length,x7,y5,y6],⟨H,e⟩⟩)
 | 0,i,x5,x6,x7,hk=>by
  have hi:i=ls.length:=by omega
  subst hi
  refine ⟨.bool false,x6,?_⟩
  rw [ZG]
  generalize run T pr (.loop Kh)=R
  simp +contextual only [Kh,Rh,decide_false,go_sem,reduceIte,Ra,Rb,Rc,Rd]
 | k+1,i,x5,x6,x7,hk=>by
  have hi:i<ls.length:=by omega
  obtain ⟨y5,y6,ih⟩:=ZhH (c1:=c1) (c2:=c2) h1 h2 hn k (i+1) (.bool true) (.bool false) x7 (by omega)
  refine ⟨y5,y6,?_⟩
  rw [ZG]
  have hl:ls[i]?=some ls[i]:=Rj hi
  generalize run T pr (.loop Kh)=R at ih ⊢
  simp +contextual only [Kh,h1,h2,hi,hl,QM hl,Zzc,Zi (show i<9223372036854775807 by omega),decide_true,Bool.not_true,go_sem,reduceIte,Ra,Rb,Rc,Rd]
  exact ih
theorem Zv3 {b1 b2:Nat} {c1 c2:Option Nat} {ls:List Sg} (h1:Zb H b1=some (Zw ls)) (h2:Zb H b2=some (Zw ls)) (hn:ls.length≤9223372036854775806) :
  call T pr ZbR [slS b1 ls.length c1,slS b2 ls.length c2] ⟨H,e⟩=some (.bool true,⟨H,e⟩):=by
 obtain ⟨z5,z6,hl⟩:=ZhH (pr:=pr) (e:=none) (c1:=c1) (c2:=c2) h1 h2 hn ls.length 0 .undef .undef (.bool false) rfl
 have h0:((0:Nat):Int)=0:=rfl
 rw [h0] at hl
 rw [Zh ZuL]
 simp +contextual only [Zd2,ZmU,hl,decide_true,go_sem,reduceIte,Ra,Rb,Rc,Rd]
def ZA (ls:List Sg):Bool:=ls.all YM&&decide (ls.length≤5)
theorem Zjn {q:Nat} {c:Option Nat} {ls:List Sg} (h:Zb H q=some (Zw ls)) (hn:ls.length≤9223372036854775806) :
  ∀ (k i:Nat) (G:List Blk) (y2 y6 y7:AV),k+i=ls.length→∃ (G':List Blk) (z2 z5 z6 z7:AV),run T pr (.loop X5) ⟨[slS q ls.length c,.bool false,y2,slS q ls.length c,.int .i64 ls.length,.int .i64 i,y6,y7],⟨H++G,e⟩⟩ =
   some (if (ls.drop i).all YM=true then Ex.exit 0 else Ex.ret,⟨[slS q ls.length c,.bool false,z2,slS q ls.length c,.int .i64 ls.length,z5,z6,z7],⟨H++G',e⟩⟩)
 | 0,i,G,y2,y6,y7,hk=>by
  have hi:i=ls.length:=by omega
  subst hi
  refine ⟨G,y2,.int .i64 ls.length,.bool false,y7,?_⟩
  rw [ZG]
  generalize run T pr (.loop X5)=R
  simp +contextual only [X5,Rh,decide_false,Rn,Rt,go_sem,reduceIte,Ra,Rb,Rc,Rd]
 | k+1,i,G,y2,y6,y7,hk=>by
  have hi:i<ls.length:=by omega
  have hl:ls[i]?=some ls[i]:=Rj hi
  rw [ZG,Rm hi,Ro]
  cases h1:YM ls[i] with
  | false=>
   refine ⟨G++[.cells [.int .i64 ls[i].1,.int .i64 ls[i].2.1,.int .i64 ls[i].2.2] true],.ptr (some (H.length+G.length,0)),.int .i64 i,.bool true,.bool true,?_⟩
   generalize run T pr (.loop X5)=R
   simp +contextual only [X5,Za h,hi,hl,QM hl,ZpB,h1,decide_true,go_sem,reduceIte,Ra,Rb,Rc,Rd]
  | true=>
   obtain ⟨G',z2,z5,z6,z7,ih⟩:=Zjn (c:=c) h hn k (i+1) (G++[.cells [.int .i64 ls[i].1,.int .i64 ls[i].2.1,.int .i64 ls[i].2.2] true]) (.ptr (some (H.length+G.length,0))) (.bool true) (.bool false) (by omega)
   refine ⟨G',z2,z5,z6,z7,?_⟩
   generalize run T pr (.loop X5)=R at ih ⊢
   simp +contextual only [X5,Za h,hi,hl,QM hl,ZpB,h1,Zi (show i<9223372036854775807 by omega),decide_true,go_sem,reduceIte,Ra,Rb,Rc,Rd]
   exact ih
theorem Jq {q:Nat} {c:Option Nat} {ls:List Sg} (h:Zb H q=some (Zw ls)) (hn:ls.length≤9223372036854775806):call T pr YR [slS q ls.length c] ⟨H,e⟩=some (.bool (ZA ls),⟨H,e⟩):=by
 obtain ⟨G',z2,z5,z6,z7,hl⟩:=Zjn (pr:=pr) (e:=none) (c:=c) h hn ls.length 0 [] .undef .undef .undef rfl
 have h0:((0:Nat):Int)=0:=rfl
 have hi:decide (((ls.length:Nat):Int)≤5)=decide (ls.length≤5):=decide_eq_decide.mpr (by omega)
 rw [h0,Rv,Rl] at hl
 rw [Zh ZxV]
 unfold ZA
 cases h1:ls.all YM <;> rw [h1] at hl <;> simp +contextual only [Zf6,ZoN,hl,hi,go_sem,reduceIte,Ra,Rb,Rc,Rd]
theorem ZhI {q:Nat} {c:Option Nat} {ls:List Sg} {x:AV} (h:Zb H q=some (Zw ls)) (hn:ls.length≤9223372036854775806) :
  ∀ (k i:Nat) (y4 y5:AV),k+i=ls.length→∃ (z3 z4 z5:AV),run T pr (.loop Xq) ⟨[slS q ls.length c,x,.bool false,.int .i64 i,y4,y5],⟨H,e⟩⟩ =
   some (if (ls.drop i).all YM=true then Ex.exit 0 else Ex.ret,⟨[slS q ls.length c,x,.bool false,z3,z4,z5],⟨H,e⟩⟩)
 | 0,i,y4,y5,hk=>by
  have hi:i=ls.length:=by omega
  subst hi
  refine ⟨.int .i64 ls.length,.bool false,y5,?_⟩
  rw [ZG]
  generalize run T pr (.loop Xq)=R
  simp +contextual only [Xq,Rh,decide_false,Rn,Rt,go_sem,reduceIte,Ra,Rb,Rc,Rd]
 | k+1,i,y4,y5,hk=>by
  have hi:i<ls.length:=by omega
  have hl:ls[i]?=some ls[i]:=Rj hi
  rw [ZG,Rm hi,Ro]
  cases h1:YM ls[i] with
  | false=>
   refine ⟨.int .i64 i,.bool true,.bool true,?_⟩
   generalize run T pr (.loop Xq)=R
   simp +contextual only [Xq,h,hi,hl,QM hl,ZpC,h1,decide_true,go_sem,reduceIte,Ra,Rb,Rc,Rd]
  | true=>
   obtain ⟨z3,z4,z5,ih⟩:=ZhI (c:=c) (x:=x) h hn k (i+1) (.bool true) (.bool false) (by omega)
   refine ⟨z3,z4,z5,?_⟩
   generalize run T pr (.loop Xq)=R at ih ⊢
   simp +contextual only [Xq,h,hi,hl,QM hl,ZpC,h1,Zi (show i<9223372036854775807 by omega),decide_true,go_sem,reduceIte,Ra,Rb,Rc,Rd]
   exact ih
theorem KO {q:Nat} {c:Option Nat} {ls:List Sg} (h:Zb H q=some (Zw ls)) (hn:ls.length≤9223372036854775806):call T pr JJ [slS q ls.length c,.int .i64 5] ⟨H,e⟩=some (.bool (ZA ls),⟨H,e⟩):=by
 obtain ⟨z3,z4,z5,hl⟩:=ZhI (pr:=pr) (e:=none) (c:=c) (x:=.int .i64 5) h hn ls.length 0 .undef .undef rfl
 have h0:((0:Nat):Int)=0:=rfl
 have hi:decide (((ls.length:Nat):Int)≤5)=decide (ls.length≤5):=decide_eq_decide.mpr (by omega)
 rw [h0,Rl] at hl
 rw [Zh ZuM]
 unfold ZA
 cases h1:ls.all YM <;> rw [h1] at hl <;> simp +contextual only [Zd3,ZmV,hl,hi,go_sem,reduceIte,Ra,Rb,Rc,Rd]
abbrev stV (row:AV) (a b:Int) (chain:AV) (t k:Int):AV:=.agg [row,.int .i64 a,.int .i64 b,chain,.int .i64 t,.int .i64 k]
theorem Zq (lim b:Nat) (e:Option Nat):clean lim (Z8 e b)=(clean lim e&&decide (lim≤b)):=by
 cases e with
 | none=>simp [clean,Z8]
 | some x=>simp [clean,Z8,Nat.le_min]
theorem Zm (lim:Nat):clean lim none=true:=Eq.trans rfl rfl
theorem Zv (n b o sz k:Nat) (c:Option Nat):(AV.slice (some (b,o)) sz k c).under n=decide (b<n):=by simp [AV.under]
theorem Zz (n sz k:Nat) (c:Option Nat):(AV.slice none sz k c).under n=true:=by simp [AV.under]
theorem Jb {G:List Blk} {j1 j2 n1 n2:Nat} {c1 c2:Option Nat} {cs1 cs2:List AV} {w1 w2:Bool} (a b t k:Int) (e0 e1:Option Nat) (hc:clean H.length e1=true) (h1:G[j1]?=some (.cells cs1 w1)) (h2:G[j2]?=some (.cells cs2 w2)) (hne:j1≠j2)
  (u1:(cs1.all fun c=>c.under H.length)=true) (u2:(cs2.all fun c=>c.under H.length)=true) :
  finish 2 H.length e0 (stV (slL (H.length+j1) n1 c1) a b (slS (H.length+j2) n2 c2) t k) ⟨H++G,e1⟩=some (stV (slL H.length n1 c1) a b (slS (H.length+1) n2 c2) t k,⟨H++[.cells cs1 w1,.cells cs2 w2],e0⟩):=by
 have hlt1:¬ H.length+j1<H.length:=by omega
 have hlt2:¬ H.length+j2<H.length:=by omega
 have hne':¬ H.length+j2=H.length+j1:=by omega
 have hr:XL (AV.roots H.length (stV (slL (H.length+j1) n1 c1) a b (slS (H.length+j2) n2 c2) t k))=[H.length+j1,H.length+j2]:=by
  simp only [AV.roots,AV.roots.go,if_neg hlt1,if_neg hlt2,Ru,Rp,Rv]
  simp [XL,hne',hne,Ne.symm hne]
 have hb1:(H++G)[H.length+j1]?=some (.cells cs1 w1):=by rw [Ry (by omega)];simpa using h1
 have hb2:(H++G)[H.length+j2]?=some (.cells cs2 w2):=by rw [Ry (by omega)];simpa using h2
 unfold finish
 simp only [hr]
 have h3:([H.length+j1,H.length+j2].all fun b=>Xa H.length (H++G)[b]?)=true:=by
  simp only [Ro,Rt,Bool.and_true,hb1,hb2,Xa,u1,u2,Bool.and_self]
 simp only [hc,h3,and_self,if_true]
 have hq:(H.length+j1==H.length+j2)=false:=by simpa using hne
 simp [AV.rename,AV.rename.go,ZbP,hb1,hb2,List.idxOf_cons]
 refine ⟨fun h=>by omega,?_⟩
 rw [if_neg hlt2,hq]
 rfl
theorem Zla {G:List Blk} {j1 j2 n1 n2:Nat} {c1 c2:Option Nat} {cs1 cs2:List AV} {w1 w2:Bool} (a b t k:Int) (x:Bool) (e0 e1:Option Nat) (hc:clean H.length e1=true) (h1:G[j1]?=some (.cells cs1 w1)) (h2:G[j2]?=some (.cells cs2 w2)) (hne:j1≠j2)
  (u1:(cs1.all fun c=>c.under H.length)=true) (u2:(cs2.all fun c=>c.under H.length)=true) :
  finish 2 H.length e0 (.tup [stV (slL (H.length+j1) n1 c1) a b (slS (H.length+j2) n2 c2) t k,.bool x]) ⟨H++G,e1⟩=some (.tup [stV (slL H.length n1 c1) a b (slS (H.length+1) n2 c2) t k,.bool x],⟨H++[.cells cs1 w1,.cells cs2 w2],e0⟩):=by
 have hlt1:¬ H.length+j1<H.length:=by omega
 have hlt2:¬ H.length+j2<H.length:=by omega
 have hne':¬ H.length+j2=H.length+j1:=by omega
 have hr:XL (AV.roots H.length (.tup [stV (slL (H.length+j1) n1 c1) a b (slS (H.length+j2) n2 c2) t k,.bool x]))=[H.length+j1,H.length+j2]:=by
  simp only [AV.roots,AV.roots.go,if_neg hlt1,if_neg hlt2,Ru,Rp,Rv]
  simp [XL,hne',hne,Ne.symm hne]
 have hb1:(H++G)[H.length+j1]?=some (.cells cs1 w1):=by rw [Ry (by omega)];simpa using h1
 have hb2:(H++G)[H.length+j2]?=some (.cells cs2 w2):=by rw [Ry (by omega)];simpa using h2
 unfold finish
 simp only [hr]
 have h3:([H.length+j1,H.length+j2].all fun b=>Xa H.length (H++G)[b]?)=true:=by
  simp only [Ro,Rt,Bool.and_true,hb1,hb2,Xa,u1,u2,Bool.and_self]
 simp only [hc,h3,and_self,if_true]
 have hq:(H.length+j1==H.length+j2)=false:=by simpa using hne
 simp [AV.rename,AV.rename.go,ZbP,hb1,hb2,List.idxOf_cons]
 refine ⟨fun h=>by omega,?_⟩
 rw [if_neg hlt2,hq]
 rfl
theorem Zlb {G:List Blk} {s1 s2 n1 n2:Nat} {c1 c2:Option Nat} (a b t k:Int) (x:Bool) (e0 e1:Option Nat) (hc:clean H.length e1=true) :
  finish 2 H.length e0 (.tup [stV (.slice none s1 n1 c1) a b (.slice none s2 n2 c2) t k,.bool x]) ⟨H++G,e1⟩=some (.tup [stV (.slice none s1 n1 c1) a b (.slice none s2 n2 c2) t k,.bool x],⟨H,e0⟩):=by
 have hr:XL (AV.roots H.length (.tup [stV (.slice none s1 n1 c1) a b (.slice none s2 n2 c2) t k,.bool x]))=[]:=rfl
 unfold finish
 simp only [hr]
 simp [AV.rename,AV.rename.go,hc]
theorem Zv4 (n:Nat) (p:Option (Nat×Nat)) (sz:Nat) (c:Option Nat) (hn:n≤maxLen) (left:Int) (h0:0≤left) (h1:left≤1048576):call T pr ZdK [.slice p sz n c,.int .i64 left] ⟨H,e⟩=some (.int .i64 (if (n:Int)≤left then left - n else -1),⟨H,e⟩):=by
 rw [Zh ZuJ]
 have hm:maxLen=9223372036854775807:=by decide
 have hw:IntKind.i64.wrap (left - n)=left - n:=ZN (by omega) (by omega)
 by_cases h2:(n:Int)≤left
 ·have h3:¬ (left - n<0):=by omega
  simp +contextual only [ZbW,Zhn,hw,h2,h3,decide_false,go_sem,reduceIte,Ra,Rb,Rc,Rd]
 ·have h3:left - n<0:=by omega
  simp +contextual only [ZbW,Zhn,hw,h2,h3,decide_true,go_sem,reduceIte,Ra,Rb,Rc,Rd]
theorem Zzd {p1 p2:Option (Nat×Nat)} {s1 s2 n1 n2:Nat} {c1 c2:Option Nat} (hn1:n1≤maxLen) (hn2:n2≤maxLen) (a b t k:Int):call T pr ZcY [stV (.slice p1 s1 n1 c1) a b (.slice p2 s2 n2 c2) t k,.int .i64 1048576] ⟨H,e⟩ =
  some (.int .i64 (if n1+n2≤1048576 then 1048576 - ((n1+n2:Nat):Int) else -1),⟨H,e⟩):=by
 rw [Zh ZxJ]
 by_cases h1:n1≤1048576
 ·have hz:=fun G e'=>Zv4 (pr:=pr) (H:=G) (e:=e') n2 p2 s2 c2 hn2 (1048576 - (n1:Int)) (by omega) (by omega)
  have h2:¬ (1048576 - (n1:Int)<0):=by omega
  by_cases h3:n1+n2≤1048576
  ·have h4:(n2:Int)≤1048576 - (n1:Int):=by omega
   have h5:¬ (1048576 - (n1:Int) - (n2:Int)<0):=by omega
   have h6:1048576 - (n1:Int) - (n2:Int)=1048576 - ((n1+n2:Nat):Int):=by omega
   simp +contextual only [Zbj,ZfY,Zj1 _ _ _ _ hn1,h1,h2,hz,h3,h4,h5,decide_false,go_sem,reduceIte,Ra,Rb,Rc,Rd]
   rw [h6]
  ·have h4:¬ ((n2:Int)≤1048576 - (n1:Int)):=by omega
   simp +contextual only [Zbj,ZfY,Zj1 _ _ _ _ hn1,h1,h2,hz,h3,h4,decide_false,decide_true,show ((-1:Int)<0) by omega,go_sem,reduceIte,Ra,Rb,Rc,Rd]
 ·have h3:¬ (n1+n2≤1048576):=by omega
  simp +contextual only [Zbj,ZfY,Zj1 _ _ _ _ hn1,h1,h3,decide_true,show ((-1:Int)<0) by omega,go_sem,reduceIte,Ra,Rb,Rc,Rd]
theorem Zze {row chain:AV} {ls:List Ld} {ss:List Sg} (ha:ZHT H row ls) (hs:ZHV H chain ss) (hn:ls.length≤1048576) (hm:ss.length≤1048576) (a b t k:Int):call T pr Zba [stV row a b chain t k] ⟨H,e⟩ =
  some (stV (slL H.length ls.length (some ls.length)) a b (slS (H.length+1) ss.length (some ss.length)) t k,⟨H++[.cells (Zn ls) true,.cells (Zw ss) true],e⟩):=by
 have h1:=fun G e'=>Zy8 (pr:=pr) (e:=e') (ha.more G) hn
 have h2:=fun G e'=>Zv2 (pr:=pr) (e:=e') (hs.more G) hm
 have hf:∀ (B1 B2 B3:Blk) (e0 e1:Option Nat),clean H.length e1=true→finish 2 H.length e0 (stV (slL (H.length+3) ls.length (some ls.length)) a b (slS (H.length+4) ss.length (some ss.length)) t k) ⟨H++[B1,B2,B3,.cells (Zn ls) true,.cells (Zw ss) true],e1⟩=some (stV (slL H.length ls.length (some ls.length)) a b (slS (H.length+1) ss.length (some ss.length)) t k,⟨H++[.cells (Zn ls) true,.cells (Zw ss) true],e0⟩) :=
  fun B1 B2 B3 e0 e1 hc=>Jb a b t k e0 e1 hc rfl rfl (by decide) (ZS _ _) (Z0 _ _)
 rw [Zh ZxK]
 simp +contextual only [ZfZ,ZoE,h1,h2,hf,Zv,RD,RE,Rh,decide_false,Zq,Zm,RF,decide_true,go_sem,reduceIte,Ra,Rb,Rc,Rd]
def JN (a b t k:Int):Bool:=ZgX a b&&((decide (0≤k)&&decide (k≤1000))&&(decide (0≤t)&&decide (t≤k)))
theorem Zdq {row chain:AV} {x y:Bool} (hr:∀ G,call T pr Jv [row] ⟨H++G,none⟩=some (.bool x,⟨H++G,none⟩)) (hc:∀ G,call T pr YR [chain] ⟨H++G,none⟩=some (.bool y,⟨H++G,none⟩)) (a b t k:Int) :
  call T pr YQ [stV row a b chain t k] ⟨H,e⟩=some (.bool (x&&(y&&JN a b t k)),⟨H,e⟩):=by
 rw [Zh ZxN]
 cases x with
 | false=>simp +contextual only [KA,Zbk,hr,go_sem,reduceIte,Ra,Rb,Rc,Rd]
 | true=>
  unfold JN
  cases h1:ZgX a b with
  | false=>simp +contextual only [KA,Zbk,hr,Ze9,h1,go_sem,reduceIte,Ra,Rb,Rc,Rd]
  | true=>
   cases y with
   | false=>simp +contextual only [KA,Zbk,hr,hc,Ze9,h1,go_sem,reduceIte,Ra,Rb,Rc,Rd]
   | true=>
    cases h2:(decide (0≤k)&&decide (k≤1000)) with
    | false=>simp +contextual only [KA,Zbk,hr,hc,Ze9,Yd,h1,h2,go_sem,reduceIte,Ra,Rb,Rc,Rd]
    | true=>simp +contextual only [KA,Zbk,hr,hc,Ze9,Yd,h1,h2,go_sem,reduceIte,Ra,Rb,Rc,Rd]
theorem Zdr {row chain:AV} {x y:Bool} (hr:∀ G,call T pr Jw [row] ⟨H++G,none⟩=some (.bool x,⟨H++G,none⟩)) (hc:∀ G,call T pr JJ [chain,.int .i64 5] ⟨H++G,none⟩=some (.bool y,⟨H++G,none⟩)) (a b t k:Int) :
  call T pr Xb [stV row a b chain t k] ⟨H,e⟩=some (.bool (x&&(y&&JN a b t k)),⟨H,e⟩):=by
 have h0:∀ G,call T pr ZnY [row,.int .i64 a,.int .i64 b] ⟨H++G,none⟩=some (.bool (x&&ZgX a b),⟨H++G,none⟩):=by
  intro G
  have hrG:=hr G
  generalize H++G=L at hrG ⊢
  rw [Zh ZGp]
  cases x with
  | false=>simp +contextual only [ZkC,ZsH,hrG,go_sem,reduceIte,Ra,Rb,Rc,Rd]
  | true=>simp +contextual only [ZkC,ZsH,hrG,ZCk,go_sem,reduceIte,Ra,Rb,Rc,Rd]
 rw [Zh ZxO]
 unfold JN
 cases h2:(x&&ZgX a b) with
 | false=>
  have h3:(x&&(y&&(ZgX a b&&((decide (0≤k)&&decide (k≤1000))&&(decide (0≤t)&&decide (t≤k))))))=false:=by
   cases x <;> cases hb:ZgX a b <;> simp_all
  rw [h3]
  simp +contextual only [Q0,Zc7,h0,h2,go_sem,reduceIte,Ra,Rb,Rc,Rd]
 | true=>
  obtain ⟨rfl,h4⟩:=RG.mp h2
  rw [h4]
  cases y with
  | false=>simp +contextual only [Q0,Zc7,h0,h2,hc,go_sem,reduceIte,Ra,Rb,Rc,Rd]
  | true=>
   cases h5:(decide (0≤k)&&decide (k≤1000)) with
   | false=>simp +contextual only [Q0,Zc7,h0,h2,hc,Ye,h5,go_sem,reduceIte,Ra,Rb,Rc,Rd]
   | true=>simp +contextual only [Q0,Zc7,h0,h2,hc,Ye,h5,go_sem,reduceIte,Ra,Rb,Rc,Rd]
theorem Zzf {r1 r2 c1 c2:AV} (h1:∀ G,call T pr ZcZ [r1,r2] ⟨H++G,none⟩=some (.bool true,⟨H++G,none⟩)) (h2:∀ G,call T pr ZbR [c1,c2] ⟨H++G,none⟩=some (.bool true,⟨H++G,none⟩)) (a b t k:Int) :
  call T pr ZfA [stV r1 a b c1 t k,stV r2 a b c2 t k] ⟨H,e⟩=some (.bool true,⟨H,e⟩):=by
 rw [Zh ZxL]
 simp +contextual only [Zf0,ZoF,h1,h2,decide_true,go_sem,reduceIte,Ra,Rb,Rc,Rd]
theorem Kn {x:Nat} (h:x≤9223372036854775807):IntKind.i64.wrap (x:Int)=(x:Int):=ZN (by omega) (by omega)
theorem Zjo {r:AV}:∀ (k b a:Nat) (y:AV),b≤k→∃ z,run T pr (.loop K6) ⟨[.int .i64 a,.int .i64 b,r,y],⟨H,e⟩⟩=some (Ex.exit 0,⟨[.int .i64 (Ri b a:Nat),.int .i64 0,r,z],⟨H,e⟩⟩)
 | k,0,a,y,hk=>by
  refine ⟨.bool false,?_⟩
  have h0:((0:Nat):Int)=0:=rfl
  rw [ZG,Nat.gcd_zero_left,h0]
  generalize run T pr (.loop K6)=R
  simp +contextual only [K6,Int.lt_irrefl,decide_false,go_sem,reduceIte,Ra,Rb,Rc,Rd]
 | 0,b+1,a,y,hk=>by omega
 | k+1,b+1,a,y,hk=>by
  have hm:a % (b+1)<b+1:=Nat.mod_lt _ (by omega)
  obtain ⟨z,ih⟩:=Zjo (r:=r) k (a % (b+1)) (b+1) (.bool true) (by omega)
  refine ⟨z,?_⟩
  have hg:Ri (b+1) a=Ri (a % (b+1)) (b+1):=Nat.gcd_rec _ _
  have ht:Int.tmod (a:Int) ((b+1:Nat):Int)=((a % (b+1):Nat):Int):=rfl
  have hp:(0:Int)<((b+1:Nat):Int):=by omega
  have hne:¬ ((b+1:Nat):Int)=0:=by omega
  rw [ZG,hg]
  generalize run T pr (.loop K6)=R at ih ⊢
  simp +contextual only [K6,hp,hne,ht,decide_true,go_sem,reduceIte,Ra,Rb,Rc,Rd]
  exact ih
theorem Zzg (a b:Nat):call T pr ZfT [.int .i64 a,.int .i64 b] ⟨H,e⟩=some (.int .i64 (Ri b a:Nat),⟨H,e⟩):=by
 obtain ⟨z,hl⟩:=Zjo (pr:=pr) (H:=H) (e:=none) (r:=.int .i64 0) b b a .undef (Rq _)
 rw [Zh Zyi]
 simp +contextual only [Zgn,Zo3,hl,go_sem,reduceIte,Ra,Rb,Rc,Rd]
theorem Znf {r:AV}:∀ (k b a:Nat) (y:AV),b≤k→∃ z,run T pr (.loop Zbq) ⟨[.int .i64 a,.int .i64 b,r,y],⟨H,e⟩⟩=some (Ex.exit 0,⟨[.int .i64 (Ri b a:Nat),.int .i64 0,r,z],⟨H,e⟩⟩)
 | k,0,a,y,hk=>by
  refine ⟨.bool false,?_⟩
  have h0:((0:Nat):Int)=0:=rfl
  rw [ZG,Nat.gcd_zero_left,h0]
  generalize run T pr (.loop Zbq)=R
  simp +contextual only [Zbq,Int.lt_irrefl,decide_false,go_sem,reduceIte,Ra,Rb,Rc,Rd]
 | 0,b+1,a,y,hk=>by omega
 | k+1,b+1,a,y,hk=>by
  have hm:a % (b+1)<b+1:=Nat.mod_lt _ (by omega)
  obtain ⟨z,ih⟩:=Znf (r:=r) k (a % (b+1)) (b+1) (.bool true) (by omega)
  refine ⟨z,?_⟩
  have hg:Ri (b+1) a=Ri (a % (b+1)) (b+1):=Nat.gcd_rec _ _
  have ht:Int.tmod (a:Int) ((b+1:Nat):Int)=((a % (b+1):Nat):Int):=rfl
  have hp:(0:Int)<((b+1:Nat):Int):=by omega
  have hne:¬ ((b+1:Nat):Int)=0:=by omega
  rw [ZG,hg]
  generalize run T pr (.loop Zbq)=R at ih ⊢
  simp +contextual only [Zbq,hp,hne,ht,decide_true,go_sem,reduceIte,Ra,Rb,Rc,Rd]
  exact ih
theorem ZEv (a b:Nat):call T pr Zkw [.int .i64 a,.int .i64 b] ⟨H,e⟩=some (.int .i64 (Ri b a:Nat),⟨H,e⟩):=by
 obtain ⟨z,hl⟩:=Znf (pr:=pr) (H:=H) (e:=none) (r:=.int .i64 0) b b a .undef (Rq _)
 rw [Zh ZDP]
 simp +contextual only [ZkR,ZuG,hl,go_sem,reduceIte,Ra,Rb,Rc,Rd]
theorem ZrX (a b:Int):call T pr ZcP [.int .i64 a,.int .i64 b] ⟨H,e⟩=some (.int .i64 (if b<a then a else b),⟨H,e⟩):=by
 rw [Zh ZBj]
 by_cases h:b<a <;> simp +contextual only [ZiF,ZrK,h,decide_true,decide_false,go_sem,reduceIte,Ra,Rb,Rc,Rd]
def fracA (x y:Nat):Nat:=x / Ri y x
def fracB (x y:Nat):Nat:=y / Ri y x
abbrev fvV (x y:Nat):AV:=.agg [.int .i64 x,.int .i64 y]
theorem ZrY {x y:Nat} (hy:0<y) (hx1:x≤4611686018427387904) (hy1:y≤4611686018427387904) :
  ¬ ((Ri y x:Nat):Int)=0∧IntKind.i64.wrap (Int.tdiv (x:Int) (Ri y x:Nat))=(fracA x y:Int)∧IntKind.i64.wrap (Int.tdiv (y:Int) (Ri y x:Nat))=(fracB x y:Int):=by
 have hg:0<Ri y x:=RO _ hy
 have h1:fracA x y≤x:=Rr _ _
 have h2:fracB x y≤y:=Rr _ _
 refine ⟨by omega,?_,?_⟩
 ·have:Int.tdiv (x:Int) (Ri y x:Nat)=(fracA x y:Int):=rfl
  rw [this];exact Kn (by omega)
 ·have:Int.tdiv (y:Int) (Ri y x:Nat)=(fracB x y:Int):=rfl
  rw [this];exact Kn (by omega)
theorem KP {x y:Nat} (hy:0<y) (hx1:x≤4611686018427387904) (hy1:y≤4611686018427387904):call T pr Xo [.int .i64 x,.int .i64 y] ⟨H,e⟩=some (fvV (fracA x y) (fracB x y),⟨H,e⟩):=by
 obtain ⟨h1,h2,h3⟩:=ZrY hy hx1 hy1
 have hw:IntKind.i64.wrap (0 - (x:Int))=0 - (x:Int):=ZN (by omega) (by omega)
 have hm:¬ (0 - (x:Int)>(x:Int)):=by omega
 have hm':¬ ((x:Int)<0 - (x:Int)):=by omega
 rw [Zh ZuY]
 simp +contextual only [Zec,Zm1,hw,hm,hm',Zzg,Zc,h1,h2,h3,go_sem,reduceIte,Ra,Rb,Rc,Rd]
theorem Zfb {x y:Nat} (hy:0<y) (hx1:x≤4611686018427387904) (hy1:y≤4611686018427387904):call T pr ZbT [.int .i64 x,.int .i64 y] ⟨H,e⟩=some (fvV (fracA x y) (fracB x y),⟨H,e⟩):=by
 obtain ⟨h1,h2,h3⟩:=ZrY hy hx1 hy1
 have hw:IntKind.i64.wrap (0 - (x:Int))=0 - (x:Int):=ZN (by omega) (by omega)
 have hm:(if 0 - (x:Int)<(x:Int) then (x:Int) else 0 - (x:Int))=(x:Int):=by
  split
  ·rfl
  ·omega
 rw [Zh ZDL]
 simp +contextual only [ZkN,ZuC,hw,ZrX,hm,ZEv,Zc,h1,h2,h3,go_sem,reduceIte,Ra,Rb,Rc,Rd]
theorem Zgu {x y:Nat} (hx:0<x) (hy:0<y):0<fracA x y∧0<fracB x y∧fracA x y≤x∧fracB x y≤y:=by
 have hg:0<Ri y x:=RO _ hy
 refine ⟨Nat.div_pos (Nat.le_of_dvd hx (Nat.gcd_dvd_right _ _)) hg,Nat.div_pos (Nat.le_of_dvd hy (Nat.gcd_dvd_left _ _)) hg,Rr _ _,Rr _ _⟩
def gainA (s:Sg):Nat:=if s.1=2 then s.2.1.toNat else if s.1=5 then fracA (2*s.2.1.toNat) (s.2.1.toNat - s.2.2.toNat) else fracA s.2.1.toNat s.2.2.toNat
def gainB (s:Sg):Nat:=if s.1=2 then 1 else if s.1=5 then fracB (2*s.2.1.toNat) (s.2.1.toNat - s.2.2.toNat) else fracB s.2.1.toNat s.2.2.toNat
theorem Zj2 {s:Sg} (h:YM s=true):(1≤s.2.1∧s.2.1≤24)∧(s.1≠2→1≤s.2.2∧s.2.2≤24)∧(s.1=5→s.2.2<s.2.1):=by
 unfold YM ZaR at h
 by_cases h1:s.1=1
 ·rw [if_pos h1] at h
  simp at h
  exact ⟨h.1,fun _=>h.2,fun h5=>by omega⟩
 rw [if_neg h1] at h
 by_cases h3:s.1=3
 ·rw [if_pos h3] at h
  simp at h
  exact ⟨h.1,fun _=>h.2,fun h5=>by omega⟩
 rw [if_neg h3] at h
 by_cases h2:s.1=2
 ·rw [if_pos h2] at h
  simp at h
  exact ⟨h.1,fun hn=>absurd h2 hn,fun h5=>by omega⟩
 rw [if_neg h2] at h
 by_cases h4:s.1=4
 ·rw [if_pos h4] at h
  simp at h
  exact ⟨h.1.1,fun _=>h.1.2,fun h5=>by omega⟩
 rw [if_neg h4] at h
 by_cases h5:s.1=5
 ·rw [if_pos h5] at h
  simp at h
  exact ⟨h.1.1,fun _=>h.1.2,fun _=>h.2⟩
 rw [if_neg h5] at h
 cases h
theorem Zj3 {s:Sg} (h:YM s=true):0<gainA s∧gainA s≤48∧0<gainB s∧gainB s≤24:=by
 obtain ⟨h1,h2,h3⟩:=Zj2 h
 unfold gainA gainB
 by_cases k2:s.1=2
 ·simp only [if_pos k2];omega
 ·simp only [if_neg k2]
  have:=h2 k2
  by_cases k5:s.1=5
  ·simp only [if_pos k5]
   have:=h3 k5
   obtain ⟨f1,f2,f3,f4⟩:=Zgu (x:=2*s.2.1.toNat) (y:=s.2.1.toNat - s.2.2.toNat) (by omega) (by omega)
   omega
  ·simp only [if_neg k5]
   obtain ⟨f1,f2,f3,f4⟩:=Zgu (x:=s.2.1.toNat) (y:=s.2.2.toNat) (by omega) (by omega)
   omega
theorem Zlc (s:Sg) (h:YM s=true):call T pr Zaz [.agg [.int .i64 s.1,.int .i64 s.2.1,.int .i64 s.2.2]] ⟨H,e⟩=some (fvV (gainA s) (gainB s),⟨H,e⟩):=by
 obtain ⟨h1,h2,h3⟩:=Zj2 h
 obtain ⟨k,a,b⟩:=s
 simp only at h1 h2 h3 ⊢
 obtain ⟨a,rfl⟩:∃ n:Nat,a=n:=⟨a.toNat,by omega⟩
 rw [Zh ZsU]
 unfold gainA gainB
 simp only [Rz]
 by_cases k2:k=2
 ·subst k2
  simp +contextual only [K3,ZcF,Zc,decide_true,go_sem,reduceIte,Ra,Rb,Rc,Rd]
  rfl
 ·have hb:=h2 k2
  obtain ⟨b,rfl⟩:∃ n:Nat,b=n:=⟨b.toNat,by omega⟩
  simp only [Rz]
  by_cases k5:k=5
  ·subst k5
   have hlt:=h3 rfl
   have hw1:IntKind.i64.wrap (2*(a:Int))=((2*a:Nat):Int):=by rw [show (2*(a:Int))=((2*a:Nat):Int) by omega];exact Kn (by omega)
   have hw2:IntKind.i64.wrap ((a:Int) - (b:Int))=((a - b:Nat):Int):=by rw [show ((a:Int) - (b:Int))=((a - b:Nat):Int) by omega];exact Kn (by omega)
   have hf:=fun L e'=>KP (pr:=pr) (H:=L) (e:=e') (x:=2*a) (y:=a - b) (by omega) (by omega) (by omega)
   simp +contextual only [K3,ZcF,Zc,show ¬ ((5:Int)=2) by omega,hw1,hw2,hf,decide_true,decide_false,go_sem,reduceIte,Ra,Rb,Rc,Rd]
  ·have hf:=fun L e'=>KP (pr:=pr) (H:=L) (e:=e') (x:=a) (y:=b) (by omega) (by omega) (by omega)
   simp +contextual only [K3,ZcF,Zc,k2,k5,hf,decide_true,decide_false,go_sem,reduceIte,Ra,Rb,Rc,Rd]
theorem ZrZ (s:Sg) (h:YM s=true):call T pr Ziq [.agg [.int .i64 s.1,.int .i64 s.2.1,.int .i64 s.2.2]] ⟨H,e⟩=some (fvV (gainA s) (gainB s),⟨H,e⟩):=by
 obtain ⟨h1,h2,h3⟩:=Zj2 h
 obtain ⟨k,a,b⟩:=s
 simp only at h1 h2 h3 ⊢
 obtain ⟨a,rfl⟩:∃ n:Nat,a=n:=⟨a.toNat,by omega⟩
 rw [Zh ZBm]
 unfold gainA gainB
 simp only [Rz]
 by_cases k2:k=2
 ·subst k2
  simp +contextual only [ZcR,ZiH,Zc,decide_true,go_sem,reduceIte,Ra,Rb,Rc,Rd]
  rfl
 ·have hb:=h2 k2
  obtain ⟨b,rfl⟩:∃ n:Nat,b=n:=⟨b.toNat,by omega⟩
  simp only [Rz]
  by_cases k5:k=5
  ·subst k5
   have hlt:=h3 rfl
   have hw1:IntKind.i64.wrap (2*(a:Int))=((2*a:Nat):Int):=by rw [show (2*(a:Int))=((2*a:Nat):Int) by omega];exact Kn (by omega)
   have hw2:IntKind.i64.wrap ((a:Int) - (b:Int))=((a - b:Nat):Int):=by rw [show ((a:Int) - (b:Int))=((a - b:Nat):Int) by omega];exact Kn (by omega)
   have hf:=fun L e'=>Zfb (pr:=pr) (H:=L) (e:=e') (x:=2*a) (y:=a - b) (by omega) (by omega) (by omega)
   simp +contextual only [ZcR,ZiH,Zc,show ¬ ((5:Int)=2) by omega,hw1,hw2,hf,decide_true,decide_false,go_sem,reduceIte,Ra,Rb,Rc,Rd]
  ·have hf:=fun L e'=>Zfb (pr:=pr) (H:=L) (e:=e') (x:=a) (y:=b) (by omega) (by omega) (by omega)
   simp +contextual only [ZcR,ZiH,Zc,k2,k5,hf,decide_true,decide_false,go_sem,reduceIte,Ra,Rb,Rc,Rd]
def ZB:Nat→Nat→List Sg→Nat
 | P,_,[]=>P
 | P,Q,s::ss=>ZB (fracA (P*gainA s) (Q*gainB s)) (fracB (P*gainA s) (Q*gainB s)) ss
def ZC:Nat→Nat→List Sg→Nat
 | _,Q,[]=>Q
 | P,Q,s::ss=>ZC (fracA (P*gainA s) (Q*gainB s)) (fracB (P*gainA s) (Q*gainB s)) ss
theorem Zld {s:Sg} {P Q i:Nat} (h:YM s=true) (hP:0<P∧P≤48 ^ i) (hQ:0<Q∧Q≤24 ^ i) (hi:i<5) :
  (0<P*gainA s∧P*gainA s≤48 ^ (i+1))∧(0<Q*gainB s∧Q*gainB s≤24 ^ (i+1))∧48 ^ (i+1)≤254803968∧24 ^ (i+1)≤254803968:=by
 obtain ⟨g1,g2,g3,g4⟩:=Zj3 h
 refine ⟨⟨Nat.mul_pos hP.1 g1,?_⟩,⟨Nat.mul_pos hQ.1 g3,?_⟩,?_,?_⟩
 ·rw [Nat.pow_succ];exact Nat.mul_le_mul hP.2 g2
 ·rw [Nat.pow_succ];exact Nat.mul_le_mul hQ.2 g4
 ·have:48 ^ (i+1)≤48 ^ 5:=RP (by omega) (by omega)
  have h2:(48:Nat) ^ 5=254803968:=by decide
  omega
 ·have:24 ^ (i+1)≤24 ^ 5:=RP (by omega) (by omega)
  have h2:(24:Nat) ^ 5=7962624:=by decide
  omega
theorem Zel:∀ (ss:List Sg) (i P Q:Nat),ss.all YM=true→ss.length+i≤5→(0<P∧P≤48 ^ i)→(0<Q∧Q≤24 ^ i)→0<ZB P Q ss∧ZB P Q ss≤254803968∧0<ZC P Q ss∧ZC P Q ss≤254803968
 | [],i,P,Q,_,hi,hP,hQ=>by
  have h1:48 ^ i≤48 ^ 5:=RP (by omega) (by simpa using hi)
  have h2:(48:Nat) ^ 5=254803968:=by decide
  have h3:24 ^ i≤24 ^ 5:=RP (by omega) (by simpa using hi)
  have h4:(24:Nat) ^ 5=7962624:=by decide
  rw [ZB,ZC]
  omega
 | s::ss,i,P,Q,ha,hi,hP,hQ=>by
  rw [Ro,Rs] at ha
  rw [RN] at hi
  obtain ⟨⟨g1,g2⟩,⟨g3,g4⟩,_,_⟩:=Zld ha.1 hP hQ (by omega)
  obtain ⟨f1,f2,f3,f4⟩:=Zgu g1 g3
  rw [ZB,ZC]
  exact Zel ss (i+1) _ _ ha.2 (by omega) ⟨f1,by omega⟩ ⟨f2,by omega⟩
theorem Zbt:(0:Int)<((2:Nat):Int):=by omega
theorem Zbu:(1:Int)<((2:Nat):Int):=by omega
theorem Za2:(0:Int)≤1:=by omega
theorem ZgY {q:Nat} {c:Option Nat} {ls:List Sg} {R0:Blk} {y1:AV} (h:Zb H q=some (Zw ls)) (hall:ls.all YM=true) (hn:ls.length≤5) :
  ∀ (k i P Q:Nat) (G:List Blk) (y3 y4 y8:AV),k+i=ls.length→(0<P∧P≤48 ^ i)→(0<Q∧Q≤24 ^ i)→∃ (G':List Blk) (z3 z4 z8:AV),run T pr (.loop JA) ⟨[slS q ls.length c,y1,.ptr (some (H.length+1,0)),y3,y4,slS q ls.length c,.int .i64 ls.length,.int .i64 i,y8],⟨H++(R0::.cells [.int .i64 P,.int .i64 Q] true::G),none⟩⟩ =
   some (Ex.exit 0,⟨[slS q ls.length c,y1,.ptr (some (H.length+1,0)),z3,z4,slS q ls.length c,.int .i64 ls.length,.int .i64 ls.length,z8],⟨H++(R0::.cells [.int .i64 (ZB P Q (ls.drop i)),.int .i64 (ZC P Q (ls.drop i))] true::G'),none⟩⟩)
 | 0,i,P,Q,G,y3,y4,y8,hk,hP,hQ=>by
  have hi:i=ls.length:=by omega
  subst hi
  refine ⟨G,y3,y4,.bool false,?_⟩
  rw [ZG]
  generalize run T pr (.loop JA)=R
  simp +contextual only [JA,Rh,decide_false,Rn,ZB,ZC,go_sem,reduceIte,Ra,Rb,Rc,Rd]
 | k+1,i,P,Q,G,y3,y4,y8,hk,hP,hQ=>by
  have hi:i<ls.length:=by omega
  have hl:ls[i]?=some ls[i]:=Rj hi
  have hs:YM ls[i]=true:=(List.all_eq_true.mp hall) _ (List.getElem_mem hi)
  rw [ZG,Rm hi,ZB,ZC]
  generalize hx:ls[i]=s at hl hs ⊢
  obtain ⟨⟨g1,g2⟩,⟨g3,g4⟩,g5,g6⟩:=Zld hs hP hQ (by omega)
  obtain ⟨f1,f2,f3,f4⟩:=Zgu g1 g3
  have w1:IntKind.i64.wrap ((P:Int)*(gainA s:Int))=((P*gainA s:Nat):Int):=by rw [←RA];exact Kn (by omega)
  have w2:IntKind.i64.wrap ((Q:Int)*(gainB s:Int))=((Q*gainB s:Nat):Int):=by rw [←RA];exact Kn (by omega)
  have hf:=fun L=>KP (pr:=pr) (H:=L) (e:=none) (x:=P*gainA s) (y:=Q*gainB s) g3 (by omega) (by omega)
  obtain ⟨G',z3,z4,z8,ih⟩:=ZgY (c:=c) (R0:=R0) (y1:=y1) h hall hn k (i+1) (fracA (P*gainA s) (Q*gainB s)) (fracB (P*gainA s) (Q*gainB s)) (G++[.cells [.int .i64 s.1,.int .i64 s.2.1,.int .i64 s.2.2] true,.cells [.int .i64 (gainA s:Nat),.int .i64 (gainB s:Nat)] true]) (.ptr (some (H.length+(G.length+1+1),0))) (.ptr (some (H.length+(G.length+1+1+1),0))) (.bool true) (by omega) ⟨f1,by omega⟩ ⟨f2,by omega⟩
  refine ⟨G',z3,z4,z8,?_⟩
  generalize run T pr (.loop JA)=R at ih ⊢
  simp +contextual only [JA,Za h,hi,hl,QM hl,Zlc s hs,Zbt,Zbu,Za2,Int.le_refl,RH,RI,RJ,Rx,w1,w2,hf,Zi (show i<9223372036854775807 by omega),decide_true,go_sem,reduceIte,Ra,Rb,Rc,Rd]
  exact ih
theorem Zgv {q:Nat} {c:Option Nat} {ls:List Sg} (h:Zb H q=some (Zw ls)) (hc:ZA ls=true):call T pr XZ [slS q ls.length c] ⟨H,e⟩=some (fvV (ZB 1 1 ls) (ZC 1 1 ls),⟨H,e⟩):=by
 unfold ZA at hc
 rw [Rs,decide_eq_true_eq] at hc
 obtain ⟨G',z3,z4,z8,hl⟩:=ZgY (pr:=pr) (c:=c) (R0:=.cells [.int .i64 0,.int .i64 0] true) (y1:=.ptr (some (H.length,0))) h hc.1 hc.2 ls.length 0 1 1 [] .undef .undef .undef rfl (by decide) (by decide)
 have h0:((0:Nat):Int)=0:=rfl
 have h1:((1:Nat):Int)=1:=rfl
 rw [h0,h1,Rl] at hl
 rw [Zh ZsR]
 simp +contextual only [ZcD,ZkK,Zc,hl,go_sem,reduceIte,Ra,Rb,Rc,Rd]
theorem Zjp {q:Nat} {c:Option Nat} {ls:List Sg} {R0:Blk} {y1:AV} (h:Zb H q=some (Zw ls)) (hall:ls.all YM=true) (hn:ls.length≤5) :
  ∀ (k i P Q:Nat) (G:List Blk) (y4 y5:AV),k+i=ls.length→(0<P∧P≤48 ^ i)→(0<Q∧Q≤24 ^ i)→∃ (G':List Blk) (z4 z5:AV),run T pr (.loop X8) ⟨[slS q ls.length c,y1,.ptr (some (H.length+1,0)),.int .i64 i,y4,y5],⟨H++(R0::.cells [.int .i64 P,.int .i64 Q] true::G),none⟩⟩ =
   some (Ex.exit 0,⟨[slS q ls.length c,y1,.ptr (some (H.length+1,0)),.int .i64 ls.length,z4,z5],⟨H++(R0::.cells [.int .i64 (ZB P Q (ls.drop i)),.int .i64 (ZC P Q (ls.drop i))] true::G'),none⟩⟩)
 | 0,i,P,Q,G,y4,y5,hk,hP,hQ=>by
  have hi:i=ls.length:=by omega
  subst hi
  refine ⟨G,y4,.bool false,?_⟩
  rw [ZG]
  generalize run T pr (.loop X8)=R
  simp +contextual only [X8,Rh,decide_false,Rn,ZB,ZC,go_sem,reduceIte,Ra,Rb,Rc,Rd]
 | k+1,i,P,Q,G,y4,y5,hk,hP,hQ=>by
  have hi:i<ls.length:=by omega
  have hl:ls[i]?=some ls[i]:=Rj hi
  have hs:YM ls[i]=true:=(List.all_eq_true.mp hall) _ (List.getElem_mem hi)
  rw [ZG,Rm hi,ZB,ZC]
  generalize hx:ls[i]=s at hl hs ⊢
  obtain ⟨⟨g1,g2⟩,⟨g3,g4⟩,g5,g6⟩:=Zld hs hP hQ (by omega)
  obtain ⟨f1,f2,f3,f4⟩:=Zgu g1 g3
  have w1:IntKind.i64.wrap ((P:Int)*(gainA s:Int))=((P*gainA s:Nat):Int):=by rw [←RA];exact Kn (by omega)
  have w2:IntKind.i64.wrap ((Q:Int)*(gainB s:Int))=((Q*gainB s:Nat):Int):=by rw [←RA];exact Kn (by omega)
  have hf:=fun L=>Zfb (pr:=pr) (H:=L) (e:=none) (x:=P*gainA s) (y:=Q*gainB s) g3 (by omega) (by omega)
  obtain ⟨G',z4,z5,ih⟩:=Zjp (c:=c) (R0:=R0) (y1:=y1) h hall hn k (i+1) (fracA (P*gainA s) (Q*gainB s)) (fracB (P*gainA s) (Q*gainB s)) (G++[.cells [.int .i64 (gainA s:Nat),.int .i64 (gainB s:Nat)] true]) (.ptr (some (H.length+(G.length+1+1),0))) (.bool true) (by omega) ⟨f1,by omega⟩ ⟨f2,by omega⟩
  refine ⟨G',z4,z5,?_⟩
  generalize run T pr (.loop X8)=R at ih ⊢
  simp +contextual only [X8,Za h,hi,hl,QM hl,ZrZ s hs,Zbt,Zbu,Za2,Int.le_refl,RH,RI,RJ,Rx,w1,w2,hf,Zi (show i<9223372036854775807 by omega),decide_true,go_sem,reduceIte,Ra,Rb,Rc,Rd]
  exact ih
theorem Zgw {q:Nat} {c:Option Nat} {ls:List Sg} (h:Zb H q=some (Zw ls)) (hc:ZA ls=true):call T pr Jj [slS q ls.length c] ⟨H,e⟩=some (fvV (ZB 1 1 ls) (ZC 1 1 ls),⟨H,e⟩):=by
 unfold ZA at hc
 rw [Rs,decide_eq_true_eq] at hc
 obtain ⟨G',z4,z5,hl⟩:=Zjp (pr:=pr) (c:=c) (R0:=.cells [.int .i64 0,.int .i64 0] true) (y1:=.ptr (some (H.length,0))) h hc.1 hc.2 ls.length 0 1 1 [] .undef .undef rfl (by decide) (by decide)
 have h0:((0:Nat):Int)=0:=rfl
 have h1:((1:Nat):Int)=1:=rfl
 rw [h0,h1,Rl] at hl
 rw [Zh Zpd]
 simp +contextual only [Zbn,ZjM,Zc,hl,go_sem,reduceIte,Ra,Rb,Rc,Rd]
def Zab (ls:List Ld):Int:=ls.foldl (fun a l=>IntKind.i64.wrap (a+l.2)) 0
theorem ZhJ {q:Nat} {c:Option Nat} {ls:List Ld} {r:AV} (h:Zb H q=some (Zn ls)) (hn:ls.length≤9223372036854775806) :
  ∀ (k i:Nat) (a:Int) (G:List Blk) (y3 y7:AV),k+i=ls.length→∃ (G':List Blk) (z3 z7:AV),run T pr (.loop Kf) ⟨[slL q ls.length c,r,.int .i64 a,y3,slL q ls.length c,.int .i64 ls.length,.int .i64 i,y7],⟨H++G,e⟩⟩ =
   some (Ex.exit 0,⟨[slL q ls.length c,r,.int .i64 ((ls.drop i).foldl (fun a l=>IntKind.i64.wrap (a+l.2)) a),z3,slL q ls.length c,.int .i64 ls.length,.int .i64 ls.length,z7],⟨H++G',e⟩⟩)
 | 0,i,a,G,y3,y7,hk=>by
  have hi:i=ls.length:=by omega
  subst hi
  refine ⟨G,y3,.bool false,?_⟩
  rw [ZG]
  generalize run T pr (.loop Kf)=R
  simp +contextual only [Kf,Rh,decide_false,Rn,List.foldl_nil,go_sem,reduceIte,Ra,Rb,Rc,Rd]
 | k+1,i,a,G,y3,y7,hk=>by
  have hi:i<ls.length:=by omega
  have hl:ls[i]?=some ls[i]:=Rj hi
  rw [ZG,Rm hi,RC]
  obtain ⟨G',z3,z7,ih⟩:=ZhJ (c:=c) (r:=r) h hn k (i+1) (IntKind.i64.wrap (a+ls[i].2)) (G++[.cells [.int .i64 ls[i].1,.int .i64 ls[i].2] true]) (.ptr (some (H.length+G.length,0))) (.bool true) (by omega)
  refine ⟨G',z3,z7,?_⟩
  generalize run T pr (.loop Kf)=R at ih ⊢
  simp +contextual only [Kf,Za h,hi,hl,Ja hl,Zi (show i<9223372036854775807 by omega),decide_true,go_sem,reduceIte,Ra,Rb,Rc,Rd]
  exact ih
theorem Zem {q:Nat} {c:Option Nat} {ls:List Ld} (h:Zb H q=some (Zn ls)) (hn:ls.length≤9223372036854775806):call T pr Ky [slL q ls.length c] ⟨H,e⟩=some (.int .i64 (Zab ls),⟨H,e⟩):=by
 obtain ⟨G',z3,z7,hl⟩:=ZhJ (pr:=pr) (e:=none) (c:=c) (r:=.int .i64 0) h hn ls.length 0 0 [] .undef .undef rfl
 have h0:((0:Nat):Int)=0:=rfl
 rw [h0,Rv,Rl] at hl
 rw [Zh ZuI]
 simp +contextual only [Zd0,ZmS,hl,go_sem,reduceIte,Ra,Rb,Rc,Rd]
 rfl
theorem ZhK {q:Nat} {c:Option Nat} {ls:List Ld} {r:AV} (h:Zb H q=some (Zn ls)) (hn:ls.length≤9223372036854775806) :
  ∀ (k i:Nat) (a:Int) (y4:AV),k+i=ls.length→∃ (z4:AV),run T pr (.loop Ki) ⟨[slL q ls.length c,r,.int .i64 a,.int .i64 i,y4],⟨H,e⟩⟩ =
   some (Ex.exit 0,⟨[slL q ls.length c,r,.int .i64 ((ls.drop i).foldl (fun a l=>IntKind.i64.wrap (a+l.2)) a),.int .i64 ls.length,z4],⟨H,e⟩⟩)
 | 0,i,a,y4,hk=>by
  have hi:i=ls.length:=by omega
  subst hi
  refine ⟨.bool false,?_⟩
  rw [ZG]
  generalize run T pr (.loop Ki)=R
  simp +contextual only [Ki,Rh,decide_false,Rn,List.foldl_nil,go_sem,reduceIte,Ra,Rb,Rc,Rd]
 | k+1,i,a,y4,hk=>by
  have hi:i<ls.length:=by omega
  have hl:ls[i]?=some ls[i]:=Rj hi
  rw [ZG,Rm hi,RC]
  obtain ⟨z4,ih⟩:=ZhK (c:=c) (r:=r) h hn k (i+1) (IntKind.i64.wrap (a+ls[i].2)) (.bool true) (by omega)
  refine ⟨z4,?_⟩
  generalize run T pr (.loop Ki)=R at ih ⊢
  simp +contextual only [Ki,h,hi,hl,JE _ hl,Zi (show i<9223372036854775807 by omega),decide_true,go_sem,reduceIte,Ra,Rb,Rc,Rd]
  exact ih
theorem Zen {q:Nat} {c:Option Nat} {ls:List Ld} (h:Zb H q=some (Zn ls)) (hn:ls.length≤9223372036854775806):call T pr JK [slL q ls.length c] ⟨H,e⟩=some (.int .i64 (Zab ls),⟨H,e⟩):=by
 obtain ⟨z4,hl⟩:=ZhK (pr:=pr) (e:=none) (c:=c) (r:=.int .i64 0) h hn ls.length 0 0 .undef rfl
 have h0:((0:Nat):Int)=0:=rfl
 rw [h0,Rl] at hl
 rw [Zh ZuV]
 simp +contextual only [Zeb,Zm0,hl,go_sem,reduceIte,Ra,Rb,Rc,Rd]
 rfl
theorem ZpD:∀ (ls:List Ld) (a:Nat),ls.all okL=true→a+ls.length*99≤1000000→∃ n:Nat,ls.foldl (fun a l=>IntKind.i64.wrap (a+l.2)) (a:Int)=(n:Int)∧n≤a+ls.length*99
 | [],a,_,_=>⟨a,rfl,by simp⟩
 | l::ls,a,h,hb=>by
  rw [Ro,Rs] at h
  rw [RN] at hb
  have h1:=h.1
  unfold okL at h1
  simp only [Rs,decide_eq_true_eq] at h1
  have hw:IntKind.i64.wrap ((a:Int)+l.2)=((a+l.2.toNat:Nat):Int):=by rw [show (a:Int)+l.2=((a+l.2.toNat:Nat):Int) by omega];exact Kn (by omega)
  obtain ⟨n,n1,n2⟩:=ZpD ls (a+l.2.toNat) h.2 (by omega)
  refine ⟨n,?_,by rw [RN];omega⟩
  rw [RC,hw,n1]
theorem ZaS {ls:List Ld} (h:Yu ls=true):∃ n:Nat,Zab ls=n∧n≤1000000:=by
 unfold Yu at h
 rw [Rs,decide_eq_true_eq] at h
 obtain ⟨n,n1,n2⟩:=ZpD ls 0 h.2 (by omega)
 exact ⟨n,n1,by omega⟩
theorem ZiI (x:Int):call T pr Zah [.int .i64 x] ⟨H,e⟩=some (.bool (decide (0≤x)&&decide (x≤1000000)),⟨H,e⟩):=by
 rw [Zh ZBk]
 simp +contextual only [ZiG,ZrL,Yd,go_sem,reduceIte,Ra,Rb,Rc,Rd]
theorem ZEw (x y:Nat) (hy:0<y):(fracA x y+fracB x y - 1) / fracB x y=(x+y - 1) / y:=by
 have hg:0<Ri y x:=RO _ hy
 obtain ⟨x',hx'⟩:=Nat.gcd_dvd_right y x
 obtain ⟨y',hy'⟩:=Nat.gcd_dvd_left y x
 unfold fracA fracB
 generalize hgg:Ri y x=g at *
 have h1:x / g=x':=by rw [hx',Nat.mul_div_cancel_left _ hg]
 have h2:y / g=y':=by rw [hy',Nat.mul_div_cancel_left _ hg]
 rw [h1,h2]
 have hy'0:0<y':=by
  rcases Nat.eq_zero_or_pos y' with h | h
  ·rw [h,Nat.mul_zero] at hy';omega
  ·exact h
 have h3:(x+y - 1) / g=x'+y' - 1:=by
  have h5:x+y - 1=g*(x'+y' - 1)+(g - 1):=by
   have e1:g*(x'+y' - 1)=g*(x'+y') - g:=by rw [Nat.mul_sub,Nat.mul_one]
   have e2:g*(x'+y')=g*x'+g*y':=Nat.mul_add _ _ _
   have e3:g*y'≥g:=Nat.le_mul_of_pos_right _ hy'0
   rw [←hx',←hy'] at e2
   omega
  rw [h5,Nat.mul_add_div hg,Nat.div_eq_of_lt (by omega),Nat.add_zero]
 rw [←h3,Nat.div_div_eq_div_mul,←hy']
def pullW (ss:List Sg) (n:Nat):Nat:=(n*ZC 1 1 ss+ZB 1 1 ss - 1) / ZB 1 1 ss
theorem ZtE {q:Nat} {c:Option Nat} {ss:List Sg} (h:Zb H q=some (Zw ss)) (hc:ZA ss=true) (n:Nat) (hn:n≤1000000):call T pr Zct [slS q ss.length c,.int .i64 n] ⟨H,e⟩=some (.tup [.int .i64 (pullW ss n),.bool true],⟨H,e⟩):=by
 have hc':=hc
 unfold ZA at hc'
 rw [Rs,decide_eq_true_eq] at hc'
 obtain ⟨b1,b2,b3,b4⟩:=Zel ss 0 1 1 hc'.1 (by omega) (by decide) (by decide)
 have hch:=fun G=>Jq (pr:=pr) (e:=none) (c:=c) (Za h G) (by omega)
 have hcg:=fun G=>Zgv (pr:=pr) (e:=none) (c:=c) (Za h G) hc
 have hw1:decide ((n:Int)≤1000000)=true:=decide_eq_true (by omega)
 have hpull:pullW ss n=(n*ZC 1 1 ss+ZB 1 1 ss - 1) / ZB 1 1 ss:=rfl
 have hcf:=ZEw (n*ZC 1 1 ss) (ZB 1 1 ss) b1
 rw [←hpull] at hcf
 have hmul:n*ZC 1 1 ss≤1000000*254803968:=Nat.mul_le_mul hn b4
 generalize ZB 1 1 ss=P at *
 generalize ZC 1 1 ss=Q at *
 have hw2:IntKind.i64.wrap ((n:Int)*(Q:Int))=((n*Q:Nat):Int):=by rw [←RA];exact Kn (by omega)
 have hf:=fun L=>KP (pr:=pr) (H:=L) (e:=none) (x:=n*Q) (y:=P) b1 (by omega) (by omega)
 have hfb:0<fracB (n*Q) P:=Nat.div_pos (Nat.le_of_dvd b1 (Nat.gcd_dvd_left _ _)) (RO _ b1)
 have hfa:fracA (n*Q) P≤n*Q:=Rr _ _
 have hfb':fracB (n*Q) P≤P:=Rr _ _
 have hpf:∀ G,call T pr ZfU [slS q ss.length c,.int .i64 n] ⟨H++G,none⟩=some (.tup [fvV (fracA (n*Q) P) (fracB (n*Q) P),.bool true],⟨H++G,none⟩):=by
  intro G
  have hch':∀ X,call T pr YR [slS q ss.length c] ⟨(H++G)++X,none⟩=some (.bool (ZA ss),⟨(H++G)++X,none⟩):=fun X=>by rw [Rk];exact hch _
  have hcg':∀ X,call T pr XZ [slS q ss.length c] ⟨(H++G)++X,none⟩=some (fvV P Q,⟨(H++G)++X,none⟩):=fun X=>by rw [Rk];exact hcg _
  generalize H++G=L at hch' hcg' ⊢
  rw [Zh Zyj]
  simp +contextual only [Zgo,Zo4,hch',hc,ZiI,hw1,decide_true,hcg',Zc,Zbt,Zbu,Za2,Int.le_refl,RH,RI,RJ,Rx,hw2,hf,go_sem,reduceIte,Ra,Rb,Rc,Rd]
 have hpf0:=hpf []
 rw [Rv] at hpf0
 generalize fracA (n*Q) P=x at *
 generalize fracB (n*Q) P=y at *
 have hw3:IntKind.i64.wrap ((x:Int)+(y:Int))=((x+y:Nat):Int):=by rw [←Int.natCast_add];exact Kn (by omega)
 have hw4:IntKind.i64.wrap (((x+y:Nat):Int) - 1)=((x+y - 1:Nat):Int):=by rw [show ((x+y:Nat):Int) - 1=((x+y - 1:Nat):Int) by omega];exact Kn (by omega)
 have hy0:¬ (y:Int)=0:=by omega
 have hd:Int.tdiv ((x+y - 1:Nat):Int) (y:Int)=((pullW ss n:Nat):Int):=by rw [←hcf];rfl
 have hle:(x+y - 1) / y≤x+y - 1:=Rr _ _
 have hw5:IntKind.i64.wrap ((pullW ss n:Nat):Int)=((pullW ss n:Nat):Int):=Kn (by omega)
 rw [Zh ZsT]
 simp +contextual only [ZcE,ZkL,hpf,hpf0,Zbt,Zbu,Za2,Int.le_refl,RH,RI,RJ,Rx,hw3,hw4,hy0,hd,hw5,go_sem,reduceIte,Ra,Rb,Rc,Rd]
theorem ZtF {q:Nat} {c:Option Nat} {ss:List Sg} (h:Zb H q=some (Zw ss)) (hc:ZA ss=true) (n:Nat) (hn:n≤1000000):call T pr Zcu [slS q ss.length c,.int .i64 n] ⟨H,e⟩=some (.tup [.int .i64 (pullW ss n),.bool true],⟨H,e⟩):=by
 have hc':=hc
 unfold ZA at hc'
 rw [Rs,decide_eq_true_eq] at hc'
 obtain ⟨b1,b2,b3,b4⟩:=Zel ss 0 1 1 hc'.1 (by omega) (by decide) (by decide)
 have hst:∀ e',call T pr JJ [slS q ss.length c,.int .i64 5] ⟨H,e'⟩=some (.bool (ZA ss),⟨H,e'⟩):=fun e'=>KO h (by omega)
 have hcg:=fun G=>Zgw (pr:=pr) (e:=none) (c:=c) (Za h G) hc
 have hcg0:=Zgw (pr:=pr) (e:=none) (c:=c) h hc
 have hw1:decide ((n:Int)≤1000000)=true:=decide_eq_true (by omega)
 have hask:∀ e',call T pr QG [slS q ss.length c,.int .i64 n] ⟨H,e'⟩=some (.bool true,⟨H,e'⟩):=by
  intro e'
  rw [Zh Zu4]
  simp +contextual only [ZhA,Zo5,hst,hc,Ye,hw1,decide_true,go_sem,reduceIte,Ra,Rb,Rc,Rd]
 have hpull:pullW ss n=(n*ZC 1 1 ss+ZB 1 1 ss - 1) / ZB 1 1 ss:=rfl
 have hmul:n*ZC 1 1 ss≤1000000*254803968:=Nat.mul_le_mul hn b4
 generalize ZB 1 1 ss=P at *
 generalize ZC 1 1 ss=Q at *
 have hw2:IntKind.i64.wrap ((n:Int)*(Q:Int))=((n*Q:Nat):Int):=by rw [←RA];exact Kn (by omega)
 generalize n*Q=x at *
 have hw3:IntKind.i64.wrap ((x:Int)+(P:Int))=((x+P:Nat):Int):=by rw [←Int.natCast_add];exact Kn (by omega)
 have hw4:IntKind.i64.wrap (((x+P:Nat):Int) - 1)=((x+P - 1:Nat):Int):=by rw [show ((x+P:Nat):Int) - 1=((x+P - 1:Nat):Int) by omega];exact Kn (by omega)
 have hy0:¬ (P:Int)=0:=by omega
 have hd:Int.tdiv ((x+P - 1:Nat):Int) (P:Int)=((pullW ss n:Nat):Int):=by rw [hpull];rfl
 have hle:(x+P - 1) / P≤x+P - 1:=Rr _ _
 have hw5:IntKind.i64.wrap ((pullW ss n:Nat):Int)=((pullW ss n:Nat):Int):=Kn (by omega)
 rw [Zh ZsW]
 simp +contextual only [ZcH,ZkO,hask,hcg,hcg0,Zbt,Zbu,Za2,Int.le_refl,RH,RI,RJ,Rx,hw2,hw3,hw4,hy0,hd,hw5,go_sem,reduceIte,Ra,Rb,Rc,Rd]
def rowPullW (ls:List Ld) (ss:List Sg) (ok:Bool):Nat:=if ok=true then pullW ss (Zab ls).toNat else 0
theorem Zzh {q q':Nat} {c c':Option Nat} {ls:List Ld} {ss:List Sg} (h1:Zb H q=some (Zn ls)) (h2:Zb H q'=some (Zw ss)) (hn:ls.length≤9223372036854775806) (hm:ss.length≤9223372036854775806) (a b t k:Int) :
  call T pr ZfN [stV (slL q ls.length c) a b (slS q' ss.length c') t k] ⟨H,e⟩=some (.tup [.int .i64 (rowPullW ls ss (Yu ls&&(ZA ss&&JN a b t k))),.bool (Yu ls&&(ZA ss&&JN a b t k))],⟨H,e⟩):=by
 have his:∀ G,call T pr YQ [stV (slL q ls.length c) a b (slS q' ss.length c') t k] ⟨H++G,none⟩=some (.bool (Yu ls&&(ZA ss&&JN a b t k)),⟨H++G,none⟩) :=
  fun G=>Zdq (fun X=>by rw [Rk];exact Ka (Za h1 _)) (fun X=>by rw [Rk];exact Jq (Za h2 _) hm) a b t k
 rw [Zh Zx8]
 cases hok:(Yu ls&&(ZA ss&&JN a b t k)) with
 | false=>
  have h0:((rowPullW ls ss false:Nat):Int)=0:=rfl
  rw [h0]
  simp +contextual only [Zdc,ZjH,his,hok,go_sem,reduceIte,Ra,Rb,Rc,Rd]
 | true=>
  obtain ⟨k1,k2⟩:=RG.mp hok
  obtain ⟨k3,k4⟩:=RG.mp k2
  obtain ⟨n,n1,n2⟩:=ZaS k1
  have hr:rowPullW ls ss true=pullW ss n:=by unfold rowPullW;rw [if_pos rfl,n1,Rz]
  have hwt:=fun G=>Zem (pr:=pr) (e:=none) (c:=c) (Za h1 G) hn
  rw [n1] at hwt
  rw [hr]
  simp +contextual only [Zdc,ZjH,his,hok,hwt,ZtE (Za h2 _) k3 n n2,go_sem,reduceIte,Ra,Rb,Rc,Rd]
theorem Zzi {q q':Nat} {c c':Option Nat} {ls:List Ld} {ss:List Sg} (h1:Zb H q=some (Zn ls)) (h2:Zb H q'=some (Zw ss)) (hn:ls.length≤9223372036854775806) (hm:ss.length≤9223372036854775806) (a b t k:Int) :
  call T pr ZfQ [stV (slL q ls.length c) a b (slS q' ss.length c') t k] ⟨H,e⟩=some (.tup [.int .i64 (rowPullW ls ss (Yu ls&&(ZA ss&&JN a b t k))),.bool (Yu ls&&(ZA ss&&JN a b t k))],⟨H,e⟩):=by
 have his:∀ G,call T pr Xb [stV (slL q ls.length c) a b (slS q' ss.length c') t k] ⟨H++G,none⟩=some (.bool (Yu ls&&(ZA ss&&JN a b t k)),⟨H++G,none⟩) :=
  fun G=>Zdr (fun X=>by rw [Rk];exact KM (Za h1 _)) (fun X=>by rw [Rk];exact KO (Za h2 _) hm) a b t k
 rw [Zh Zyb]
 cases hok:(Yu ls&&(ZA ss&&JN a b t k)) with
 | false=>
  have h0:((rowPullW ls ss false:Nat):Int)=0:=rfl
  rw [h0]
  simp +contextual only [Zdf,ZjK,his,hok,go_sem,reduceIte,Ra,Rb,Rc,Rd]
 | true=>
  obtain ⟨k1,k2⟩:=RG.mp hok
  obtain ⟨k3,k4⟩:=RG.mp k2
  obtain ⟨n,n1,n2⟩:=ZaS k1
  have hr:rowPullW ls ss true=pullW ss n:=by unfold rowPullW;rw [if_pos rfl,n1,Rz]
  have hwt:=fun G=>Zen (pr:=pr) (e:=none) (c:=c) (Za h1 G) hn
  rw [n1] at hwt
  rw [hr]
  simp +contextual only [Zdf,ZjK,his,hok,hwt,ZtF (Za h2 _) k3 n n2,go_sem,reduceIte,Ra,Rb,Rc,Rd]
theorem Zle (p:Nat×Nat) (sz n:Nat) (c:Option Nat):Xz 3 .eql (.slice (some p) sz n c) (.slice none 0 0 none)=some (.bool false):=Eq.trans rfl rfl
def ZnG (n b:Nat) (L:List Blk):List Blk:=if n=0 then L.set b .dead else L
theorem Zv5 (n k:Nat) (l:List Blk):ZnG n (H.length+k) (H++l)=H++ZnG n k l:=by
 unfold ZnG
 split
 ·rw [Ztw]
 ·rfl
theorem ZiJ (n:Nat) (l:List Blk):ZnG n H.length (H++l)=H++ZnG n 0 l:=Zv5 n 0 l
theorem ZCm (n k:Nat) (x:Blk) (l:List Blk):ZnG n (k+1) (x::l)=x::ZnG n k l:=by
 unfold ZnG
 split <;> rfl
theorem ZpE (n:Nat) (x:Blk) (l:List Blk):ZnG n 0 (x::l)=(if n=0 then Blk.dead else x)::l:=by
 unfold ZnG
 split <;> rfl
theorem ZcU {L:List Blk} {b q n sz bytes:Nat} {c:Option Nat} {cs:List AV} (hb:L[b]?=some (.cells [] true)) (hq:Zb L q=some cs) (hl:cs.length=n*sz) (hm:n*bytes≤maxBytes) :
  Zaa L e false sz bytes (.slice (some (b,0)) sz 0 (some 0)) (.slice (some (q,0)) sz n c)=some (.slice (some (L.length,0)) sz n none,⟨ZnG n b L++[.cells cs true],e⟩):=by
 unfold Zaa
 have hs:=Zek L n sz c cs q hq hl
 simp only [hb,hs]
 rw [if_pos (by simp [hm,hl])]
 unfold ZnG
 by_cases hn:n=0
 ·subst hn
  have:cs=[]:=by simpa using hl
  subst this
  simp
 ·rw [if_pos ⟨trivial,by omega⟩,if_neg hn]
  simp
theorem Zv6 {q:Nat} {c:Option Nat} {ls:List Ld} (h:Zb H q=some (Zn ls)) (hn:ls.length≤1048576):call T pr Yn [slL q ls.length c] ⟨H,e⟩=some (slL H.length ls.length none,⟨H++[.cells (Zn ls) true],e⟩):=by
 have ha:=fun L b e' (hb:L[b]?=some (.cells [] true)) hq=>ZcU (e:=e') (L:=L) (b:=b) (q:=q) (n:=ls.length) (sz:=2) (bytes:=16) (c:=c) (cs:=Zn ls) hb hq (YG ls) (by unfold maxBytes;omega)
 have hf:∀ (B:Blk) (e0:Option Nat),finish 2 H.length e0 (slL (H.length+1) ls.length none) ⟨H++[B,.cells (Zn ls) true],none⟩=some (slL H.length ls.length none,⟨H++[.cells (Zn ls) true],e0⟩) :=
  fun B e0=>ZcI e0 rfl (ZS _ _)
 rw [Zh Zcg]
 simp +contextual only [Yo,J6,Zle,Zc,ha,Za h,ZiJ,ZpE,hf,go_sem,reduceIte,Ra,Rb,Rc,Rd]
theorem ZtG {q:Nat} {c:Option Nat} {ls:List Sg} (h:Zb H q=some (Zw ls)) (hn:ls.length≤1048576):call T pr Yb [slS q ls.length c] ⟨H,e⟩=some (slS H.length ls.length none,⟨H++[.cells (Zw ls) true],e⟩):=by
 have ha:=fun L b e' (hb:L[b]?=some (.cells [] true)) hq=>ZcU (e:=e') (L:=L) (b:=b) (q:=q) (n:=ls.length) (sz:=3) (bytes:=24) (c:=c) (cs:=Zw ls) hb hq (KN ls) (by unfold maxBytes;omega)
 have hf:∀ (B:Blk) (e0:Option Nat),finish 2 H.length e0 (slS (H.length+1) ls.length none) ⟨H++[B,.cells (Zw ls) true],none⟩=some (slS H.length ls.length none,⟨H++[.cells (Zw ls) true],e0⟩) :=
  fun B e0=>ZcI e0 rfl (Z0 _ _)
 rw [Zh Zbr]
 simp +contextual only [Yc,Jx,Zle,Zc,ha,Za h,ZiJ,ZpE,hf,go_sem,reduceIte,Ra,Rb,Rc,Rd]
theorem Zgx {q1 q2:Nat} {c1 c2:Option Nat} {ls:List Ld} {ss:List Sg} (h1:Zb H q1=some (Zn ls)) (h2:Zb H q2=some (Zw ss)) (hn:ls.length≤1048576) (hm:ss.length≤1048576) (a b t k:Int) :
  call T pr KQ [stV (slL q1 ls.length c1) a b (slS q2 ss.length c2) t k] ⟨H,e⟩=some (stV (slL H.length ls.length none) a b (slS (H.length+1) ss.length none) t k,⟨H++[.cells (Zn ls) true,.cells (Zw ss) true],e⟩):=by
 have hf:∀ (B0 B1:Blk) (e0 e1:Option Nat),clean H.length e1=true→finish 2 H.length e0 (stV (slL (H.length+2) ls.length none) a b (slS (H.length+3) ss.length none) t k) ⟨H++[B0,B1,.cells (Zn ls) true,.cells (Zw ss) true],e1⟩=some (stV (slL H.length ls.length none) a b (slS (H.length+1) ss.length none) t k,⟨H++[.cells (Zn ls) true,.cells (Zw ss) true],e0⟩) :=
  fun B0 B1 e0 e1 hc=>Jb a b t k e0 e1 hc rfl rfl (by decide) (ZS _ _) (Z0 _ _)
 rw [Zh ZsL]
 simp +contextual only [Zcx,ZkB,Zv6 (Za h1 _) hn,ZtG (Za h2 _) hm,hf,Zv,RD,RE,Rh,decide_false,Zq,Zm,RF,Rq,decide_true,go_sem,reduceIte,Ra,Rb,Rc,Rd]
theorem ZW {L:List Blk} {w:Nat} {cs:List AV} (h:Zb L w=some cs):w<L.length:=by
 unfold Zb at h
 cases hb:L[w]? with
 | none=>rw [hb] at h;cases h
 | some x=>exact (List.getElem?_eq_some_iff.mp hb).1
theorem ZiK {q1 q2:Nat} {c1 c2:Option Nat} {ls:List Ld} {ss:List Sg} (h1:Zb H q1=some (Zn ls)) (h2:Zb H q2=some (Zw ss)) (hn:ls.length≤1048576) (hm:ss.length≤1048576) (a b t k:Int) :
  call T pr Zbb [stV (slL q1 ls.length c1) a b (slS q2 ss.length c2) t k] ⟨H,e⟩=some (stV (slL H.length ls.length none) a b (slS (H.length+1) ss.length none) t k,⟨H++[.cells (Zn ls) true,.cells (Zw ss) true],e⟩):=by
 have ha1:=fun L b e' (hb:L[b]?=some (.cells [] true)) hq=>ZcU (e:=e') (L:=L) (b:=b) (q:=q1) (n:=ls.length) (sz:=2) (bytes:=16) (c:=c1) (cs:=Zn ls) hb hq (YG ls) (by unfold maxBytes;omega)
 have ha2:=fun L b e' (hb:L[b]?=some (.cells [] true)) hq=>ZcU (e:=e') (L:=L) (b:=b) (q:=q2) (n:=ss.length) (sz:=3) (bytes:=24) (c:=c2) (cs:=Zw ss) hb hq (KN ss) (by unfold maxBytes;omega)
 have hf:∀ (B0 B1 B2 B3 B5:Blk) (e0 e1:Option Nat),clean H.length e1=true→finish 2 H.length e0 (stV (slL (H.length+4) ls.length none) a b (slS (H.length+6) ss.length none) t k) ⟨H++[B0,B1,B2,B3,.cells (Zn ls) true,B5,.cells (Zw ss) true],e1⟩=some (stV (slL H.length ls.length none) a b (slS (H.length+1) ss.length none) t k,⟨H++[.cells (Zn ls) true,.cells (Zw ss) true],e0⟩) :=
  fun B0 B1 B2 B3 B5 e0 e1 hc=>Jb a b t k e0 e1 hc rfl rfl (by decide) (ZS _ _) (Z0 _ _)
 have q1l:q1<H.length+3:=by have:=ZW h1;omega
 have q2l:q2<H.length+3:=by have:=ZW h2;omega
 rw [Zh ZA0]
 simp +contextual only [Zis,Zrw,Zc,ha1,ha2,Za h1,Za h2,Zv5,ZCm,ZpE,hf,q1l,q2l,Zv,Zz,RD,RE,Rh,decide_false,Zq,Zm,RF,Rq,decide_true,go_sem,reduceIte,Ra,Rb,Rc,Rd]
abbrev csV (row:AV) (a b:Int) (chain:AV) (t k:Int):AV:=.agg [row,.int .i64 a,.int .i64 b,chain,.int .i64 t,.int .i64 k,.str ⟨#[]⟩,.str ⟨#[]⟩,.int .i64 0]
theorem ZhL {G:List Blk} {j1 j2 n1 n2:Nat} {c1 c2:Option Nat} {cs1 cs2:List AV} {w1 w2:Bool} (a b t k:Int) (x:Bool) (e0 e1:Option Nat) (hc:clean H.length e1=true) (h1:G[j1]?=some (.cells cs1 w1)) (h2:G[j2]?=some (.cells cs2 w2)) (hne:j1≠j2)
  (u1:(cs1.all fun c=>c.under H.length)=true) (u2:(cs2.all fun c=>c.under H.length)=true) :
  finish 2 H.length e0 (.tup [csV (slL (H.length+j1) n1 c1) a b (slS (H.length+j2) n2 c2) t k,.bool x]) ⟨H++G,e1⟩=some (.tup [csV (slL H.length n1 c1) a b (slS (H.length+1) n2 c2) t k,.bool x],⟨H++[.cells cs1 w1,.cells cs2 w2],e0⟩):=by
 have hlt1:¬ H.length+j1<H.length:=by omega
 have hlt2:¬ H.length+j2<H.length:=by omega
 have hne':¬ H.length+j2=H.length+j1:=by omega
 have hr:XL (AV.roots H.length (.tup [csV (slL (H.length+j1) n1 c1) a b (slS (H.length+j2) n2 c2) t k,.bool x]))=[H.length+j1,H.length+j2]:=by
  simp only [AV.roots,AV.roots.go,if_neg hlt1,if_neg hlt2,Ru,Rp,Rv]
  simp [XL,hne',hne,Ne.symm hne]
 have hb1:(H++G)[H.length+j1]?=some (.cells cs1 w1):=by rw [Ry (by omega)];simpa using h1
 have hb2:(H++G)[H.length+j2]?=some (.cells cs2 w2):=by rw [Ry (by omega)];simpa using h2
 unfold finish
 simp only [hr]
 have h3:([H.length+j1,H.length+j2].all fun b=>Xa H.length (H++G)[b]?)=true:=by
  simp only [Ro,Rt,Bool.and_true,hb1,hb2,Xa,u1,u2,Bool.and_self]
 simp only [hc,h3,and_self,if_true]
 have hq:(H.length+j1==H.length+j2)=false:=by simpa using hne
 simp [AV.rename,AV.rename.go,ZbP,hb1,hb2,List.idxOf_cons]
 refine ⟨fun h=>by omega,?_⟩
 rw [if_neg hlt2,hq]
 rfl
theorem ZhM {G:List Blk} {s1 s2 n1 n2:Nat} {c1 c2:Option Nat} (a b t k:Int) (x:Bool) (e0 e1:Option Nat) (hc:clean H.length e1=true) :
  finish 2 H.length e0 (.tup [csV (.slice none s1 n1 c1) a b (.slice none s2 n2 c2) t k,.bool x]) ⟨H++G,e1⟩=some (.tup [csV (.slice none s1 n1 c1) a b (.slice none s2 n2 c2) t k,.bool x],⟨H,e0⟩):=by
 have hr:XL (AV.roots H.length (.tup [csV (.slice none s1 n1 c1) a b (.slice none s2 n2 c2) t k,.bool x]))=[]:=rfl
 unfold finish
 simp only [hr]
 simp [AV.rename,AV.rename.go,hc]
theorem Zq8 {q1 q2:Nat} {c1 c2:Option Nat} {ls:List Ld} {ss:List Sg} (h1:Zb H q1=some (Zn ls)) (h2:Zb H q2=some (Zw ss)) (hn:ls.length≤1048576) (hm:ss.length≤1048576) (a b t k:Int) (hok:(Yu ls&&(ZA ss&&JN a b t k))=true) :
  call T pr Jg [stV (slL q1 ls.length c1) a b (slS q2 ss.length c2) t k] ⟨H,e⟩=some (.tup [csV (slL H.length ls.length none) a b (slS (H.length+1) ss.length none) t k,.bool true],⟨H++[.cells (Zn ls) true,.cells (Zw ss) true],e⟩):=by
 have his:∀ G,call T pr YQ [stV (slL q1 ls.length c1) a b (slS q2 ss.length c2) t k] ⟨H++G,none⟩=some (.bool (Yu ls&&(ZA ss&&JN a b t k)),⟨H++G,none⟩) :=
  fun G=>Zdq (fun X=>by rw [Rk];exact Ka (Za h1 _)) (fun X=>by rw [Rk];exact Jq (Za h2 _) (by omega)) a b t k
 have hf:∀ (B0 B1:Blk) (e0 e1:Option Nat),clean H.length e1=true→finish 2 H.length e0 (.tup [csV (slL (H.length+2) ls.length none) a b (slS (H.length+3) ss.length none) t k,.bool true]) ⟨H++[B0,B1,.cells (Zn ls) true,.cells (Zw ss) true],e1⟩=some (.tup [csV (slL H.length ls.length none) a b (slS (H.length+1) ss.length none) t k,.bool true],⟨H++[.cells (Zn ls) true,.cells (Zw ss) true],e0⟩) :=
  fun B0 B1 e0 e1 hc=>ZhL a b t k true e0 e1 hc rfl rfl (by decide) (ZS _ _) (Z0 _ _)
 rw [Zh Zje]
 simp +contextual only [QH,ZeE,his,hok,Zgx (Za h1 _) (Za h2 _) hn hm,Zc,hf,Zv,RD,RE,Rh,decide_false,Zq,Zm,RF,Rq,decide_true,go_sem,reduceIte,Ra,Rb,Rc,Rd]
theorem Zq9 {q1 q2:Nat} {c1 c2:Option Nat} {ls:List Ld} {ss:List Sg} (h1:Zb H q1=some (Zn ls)) (h2:Zb H q2=some (Zw ss)) (hn:ls.length≤1048576) (hm:ss.length≤1048576) (a b t k:Int) (hok:(Yu ls&&(ZA ss&&JN a b t k))=true) :
  call T pr Jh [stV (slL q1 ls.length c1) a b (slS q2 ss.length c2) t k] ⟨H,e⟩=some (.tup [csV (slL H.length ls.length none) a b (slS (H.length+1) ss.length none) t k,.bool true],⟨H++[.cells (Zn ls) true,.cells (Zw ss) true],e⟩):=by
 have his:∀ G,call T pr Xb [stV (slL q1 ls.length c1) a b (slS q2 ss.length c2) t k] ⟨H++G,none⟩=some (.bool (Yu ls&&(ZA ss&&JN a b t k)),⟨H++G,none⟩) :=
  fun G=>Zdr (fun X=>by rw [Rk];exact KM (Za h1 _)) (fun X=>by rw [Rk];exact KO (Za h2 _) (by omega)) a b t k
 have hf:∀ (B0 B1:Blk) (e0 e1:Option Nat),clean H.length e1=true→finish 2 H.length e0 (.tup [csV (slL (H.length+2) ls.length none) a b (slS (H.length+3) ss.length none) t k,.bool true]) ⟨H++[B0,B1,.cells (Zn ls) true,.cells (Zw ss) true],e1⟩=some (.tup [csV (slL H.length ls.length none) a b (slS (H.length+1) ss.length none) t k,.bool true],⟨H++[.cells (Zn ls) true,.cells (Zw ss) true],e0⟩) :=
  fun B0 B1 e0 e1 hc=>ZhL a b t k true e0 e1 hc rfl rfl (by decide) (ZS _ _) (Z0 _ _)
 rw [Zh Zjf]
 simp +contextual only [QI,ZeF,his,hok,ZiK (Za h1 _) (Za h2 _) hn hm,Zc,hf,Zv,RD,RE,Rh,decide_false,Zq,Zm,RF,Rq,decide_true,go_sem,reduceIte,Ra,Rb,Rc,Rd]
theorem Zmi {q1 q2:Nat} {c1 c2:Option Nat} {ls:List Ld} {ss:List Sg} (h1:Zb H q1=some (Zn ls)) (h2:Zb H q2=some (Zw ss)) (hm:ss.length≤1048576) (a b t k:Int) (hok:(Yu ls&&(ZA ss&&JN a b t k))=false) :
  call T pr Jg [stV (slL q1 ls.length c1) a b (slS q2 ss.length c2) t k] ⟨H,e⟩=some (.tup [csV (.slice none 0 0 none) 0 0 (.slice none 0 0 none) 0 0,.bool false],⟨H,e⟩):=by
 have his:∀ G,call T pr YQ [stV (slL q1 ls.length c1) a b (slS q2 ss.length c2) t k] ⟨H++G,none⟩=some (.bool (Yu ls&&(ZA ss&&JN a b t k)),⟨H++G,none⟩) :=
  fun G=>Zdq (fun X=>by rw [Rk];exact Ka (Za h1 _)) (fun X=>by rw [Rk];exact Jq (Za h2 _) (by omega)) a b t k
 rw [Zh Zje]
 simp +contextual only [QH,ZeE,his,hok,Zc,ZhM,Zz,Zm,go_sem,reduceIte,Ra,Rb,Rc,Rd]
theorem Zmj {q1 q2:Nat} {c1 c2:Option Nat} {ls:List Ld} {ss:List Sg} (h1:Zb H q1=some (Zn ls)) (h2:Zb H q2=some (Zw ss)) (hm:ss.length≤1048576) (a b t k:Int) (hok:(Yu ls&&(ZA ss&&JN a b t k))=false) :
  call T pr Jh [stV (slL q1 ls.length c1) a b (slS q2 ss.length c2) t k] ⟨H,e⟩=some (.tup [csV (.slice none 0 0 none) 0 0 (.slice none 0 0 none) 0 0,.bool false],⟨H,e⟩):=by
 have his:∀ G,call T pr Xb [stV (slL q1 ls.length c1) a b (slS q2 ss.length c2) t k] ⟨H++G,none⟩=some (.bool (Yu ls&&(ZA ss&&JN a b t k)),⟨H++G,none⟩) :=
  fun G=>Zdr (fun X=>by rw [Rk];exact KM (Za h1 _)) (fun X=>by rw [Rk];exact KO (Za h2 _) (by omega)) a b t k
 rw [Zh Zjf]
 simp +contextual only [QI,ZeF,his,hok,Zc,ZhM,Zz,Zm,go_sem,reduceIte,Ra,Rb,Rc,Rd]
end Go.Proofs.YtemcdiajejekoaaGreatDoor.Slim
