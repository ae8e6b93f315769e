/- Parts of the proof. -/
import Derived.Test.YtemcdiajejekoaaGreatDoorSlimZw10
import Derived.Test.YtemcdiajejekoaaGreatDoorChecked
set_option linter.unusedSimpArgs false
set_option linter.unusedVariables false
namespace Go.Proofs.YtemcdiajejekoaaGreatDoor.Slim
open Go
set_option maxRecDepth 20000
theorem ZfE:Zd Tryz.prog [0,2,3,4,5,7,9,11,13,15,17,18,19,20,21,22,23,24,25,27,36,121] 1 [] Tryz.f6=some Zy:=by kernel_rfl
theorem Zvq:Zd Tryz.prog [0,2] 1 [] Tryz.f18=some Zjd:=by kernel_rfl
theorem Zka:Zd Tryz.prog [0,1,2,3,6] 2 [] Tryz.f20=some Ki:=by kernel_rfl
theorem ZfF:Zd Tryz.prog [0,1,2,4,5,6,7,8,15,20,26,39] 2 [(1,[0,1,3,4,2,5,6,7])] Tryz.f25=some Ys:=by kernel_rfl
theorem ZfG:Zd Tryz.prog [0,1,2] 1 [] Tryz.f28=some Jz:=by kernel_rfl
theorem ZiL:Zd Tryz.prog [0,2,3] 2 [] Tryz.f38=some JG:=by kernel_rfl
theorem ZoO:Zd Tryz.prog [0,1,2] 1 [] Tryz.f39=some Zc5:=by kernel_rfl
theorem ZoP:Zd Tryz.prog [0,2,3,4,6,9,12,14,15,16,17] 1 [] Tryz.f40=some QQ:=by kernel_rfl
theorem ZiM:Zd Tryz.prog [0,1,4,5,13] 1 [] Tryz.f41=some K9:=by kernel_rfl
theorem Zls:Zd Tryz.prog [0,1,4,5,13] 1 [] Tryz.f42=some JY:=by kernel_rfl
theorem Zkb:Zd Tryz.prog [0,2,3,4,5,7,15,23,28,29,30,31,49] 2 [] Tryz.f43=some Y7:=by kernel_rfl
theorem Ztq:Zd Tryz.prog [0,1,4,5,8] 1 [] Tryz.f44=some Zga:=by kernel_rfl
theorem ZqW:Zd Tryz.prog [0,1,4,5,6,7,10,15,28] 1 [] Tryz.f45=some QR:=by kernel_rfl
theorem ZoQ:Zd Tryz.prog [0,1,2] 1 [] Tryz.f57=some JH:=by kernel_rfl
theorem Zlt:Zd Tryz.prog [0,1,2] 2 [(1,[0,1,3,4,2,6,5,7,8,9])] Tryz.f58=some Zaz:=by kernel_rfl
theorem ZoR:Zd Tryz.prog [0,1,2,16] 1 [] Tryz.f59=some KC:=by kernel_rfl
theorem ZqX:Zd Tryz.prog [0,1,2,3] 2 [] Tryz.f60=some Zcq:=by kernel_rfl
theorem Zgu:Zd Tryz.prog [0,1,2] 1 [] Tryz.f63=some Yi:=by kernel_rfl
theorem Zgv:Zd Tryz.prog [0,1,4,5,6,7,8,10,11,12,13,14,22,23,24,25,34,45,51,58,68,87,96] 0 [(19,[0,1,2,3,4,5,6,7,8,9,10,11,12])] Tryz.f64=some Zm:=by kernel_rfl
theorem Zhx:Zd Tryz.prog [0,1,2,3,4,5,6,8,18] 1 [] Tryz.f65=some YU:=by kernel_rfl
theorem Zkc:Zd Tryz.prog [0,1,2,4] 1 [] Tryz.f69=some Kj:=by kernel_rfl
theorem Zkd:Zd Tryz.prog [0,1,2,3,4,5,6,14] 2 [(6,[0,1,2,3,4,5,6,7,8,9,10,11,12,13,14,15,16,17,18,19,20,21,22,23,24,25])] Tryz.f71=some XK:=by kernel_rfl
theorem ZiN:Zd Tryz.prog [0,1,4] 1 [] Tryz.f74=some JI:=by kernel_rfl
theorem Zke:Zd Tryz.prog [0,1,4,5,7,11] 1 [] Tryz.f75=some XL:=by kernel_rfl
theorem ZiO:Zd Tryz.prog [0,2,3,4,5,6,7,8,28,39,42,43,49,58,64] 2 [(6,[0,1,2,3,4,5,6,7,8,9,10])] Tryz.f76=some Xi:=by kernel_rfl
theorem Ztr:Zd Tryz.prog [0,2,5] 1 [] Tryz.f81=some Zd4:=by kernel_rfl
theorem ZiP:Zd Tryz.prog [0,1,4,5,7,9,10,11,12] 1 [] Tryz.f82=some JJ:=by kernel_rfl
theorem ZoS:Zd Tryz.prog [0,2] 1 [] Tryz.f84=some Zc8:=by kernel_rfl
theorem ZiQ:Zd Tryz.prog [0,1,4,5,7,8,9,10,11] 1 [] Tryz.f85=some Qk:=by kernel_rfl
theorem Zkf:Zd Tryz.prog [0,1,4,5,6,7,8,9,10,14,15,16,19,20,21,22,30,46] 0 [] Tryz.f86=some Jr:=by kernel_rfl
theorem Znk:Zd Tryz.prog [0,2,3,5,6,7,8,9] 1 [] Tryz.f87=some ZbD:=by kernel_rfl
theorem Zlu:Zd Tryz.prog [0,2,3,6] 1 [] Tryz.f88=some ZaA:=by kernel_rfl
theorem ZiR:Zd Tryz.prog [0,1,4,5,6,8,16,20,21,22,23,36] 1 [] Tryz.f89=some JK:=by kernel_rfl
theorem ZqY:Zd Tryz.prog [0,1,4] 1 [] Tryz.f100=some ZeH:=by kernel_rfl
theorem ZoT:Zd Tryz.prog [0,2,4,5,6,7,8,13] 1 [] Tryz.f101=some Zc9:=by kernel_rfl
theorem ZqZ:Zd Tryz.prog [0,1,2,6] 1 [] Tryz.f102=some ZeI:=by kernel_rfl
theorem Zak:Zd Tryz.prog [0,2,4] 2 [] Tryz.f103=some Yg:=by kernel_rfl
theorem QH:Zd Tryz.prog [0,2,4] 2 [] Tryz.f104=some Z5:=by kernel_rfl
theorem Zvr:Zd Tryz.prog [0,1,2,6] 1 [] Tryz.f105=some Zgd:=by kernel_rfl
theorem Znl:Zd Tryz.prog [0,1,4,5,9,17] 1 [] Tryz.f106=some ZbE:=by kernel_rfl
theorem Zvs:Zd Tryz.prog [0,1,2,6] 1 [] Tryz.f107=some Zje:=by kernel_rfl
theorem Zq0:Zd Tryz.prog [0,2,3,5,6,7,24] 1 [] Tryz.f111=some ZeJ:=by kernel_rfl
theorem Znm:Zd Tryz.prog [0,2,3,4,5,23] 1 [] Tryz.f113=some X7:=by kernel_rfl
theorem Zq1:Zd Tryz.prog [0,2,3,4,5,7,9,11,13,15] 1 [] Tryz.f114=some ZeK:=by kernel_rfl
theorem Zgw:Zd Tryz.prog [0,1,2,6,7,8,9,32,41] 0 [(2,[0,1,2,3,4,5,6,7,8,9,10,11,12,13,14,15,16,17,18,19,20]),(8,[0,1,2,3,4,5,6,7,8,9,10,11,12,13,14,15,16,17,18,19])] Tryz.f115=some Yj:=by kernel_rfl
theorem Zkg:Zd Tryz.prog [0,1,4,5] 1 [] Tryz.f116=some Zab:=by kernel_rfl
theorem Znn:Zd Tryz.prog [0,1,4,5,6,7,9,12,13,16,17,18,19,25] 1 [] Tryz.f117=some JL:=by kernel_rfl
theorem Zno:Zd Tryz.prog [0,1,4,5,8] 1 [] Tryz.f118=some KQ:=by kernel_rfl
theorem Zkh:Zd Tryz.prog [0,1,3,4,5,6,13] 2 [(5,[0,1,2,3,4,5])] Tryz.f119=some XM:=by kernel_rfl
theorem Zlv:Zd Tryz.prog [0,1,4,5,6,7,16,28,40,60,69,80] 1 [(9,[0,1,2,3,4,5,6,7,8,9,10,11,12,13,14,15,16,17,18,19])] Tryz.f120=some ZaB:=by kernel_rfl
theorem Zhy:Zd Tryz.prog [0,1,2,6,7,8,9,10,11,12,13,14,27,40,52,62,75,94] 1 [] Tryz.f121=some Kv:=by kernel_rfl
theorem Zhz:Zd Tryz.prog [0,1,3,4,5,6,7,15] 1 [(3,[0,3,4,7,8,1,2,5,6,9,10,11,12,13,14,15])] Tryz.f122=some Xw:=by kernel_rfl
theorem ZfH:Zd Tryz.prog [0,2,3,4,5,6,7,9,10,11,16,37] 2 [] Tryz.f131=some Yt:=by kernel_rfl
theorem Za7:Zd Tryz.prog [0,1,4] 1 [] Tryz.f132=some Z7:=by kernel_rfl
theorem Zki:Zd Tryz.prog [0,2,3,13,53] 1 [(2,[0,1,2,3,4,5,6,7,8,9]),(3,[0,1,2,3,4,5,6,7,8,9,10,11]),(6,[0,1,2,3,4,5,6,7,8,9])] Tryz.f133=some Kl:=by kernel_rfl
theorem Znp:Zd Tryz.prog [0,1,4,5,9] 2 [] Tryz.f134=some ZbH:=by kernel_rfl
theorem Zts:Zd Tryz.prog [0,1,2,3,4,5,6,10,21,30] 2 [] Tryz.f135=some Za2:=by kernel_rfl
theorem ZhA:Zd Tryz.prog [0,1,3,4,5,6,7,18,19,29,35,45,57,70,81,82,88,94,100] 1 [(14,[0,1,2,3,4,5,6])] Tryz.f136=some YV:=by kernel_rfl
theorem J6:Zd Tryz.prog [0,1,4] 1 [] Tryz.f139=some ZR:=by kernel_rfl
theorem ZoU:Zd Tryz.prog [0,1,2] 1 [] Tryz.f140=some Zda:=by kernel_rfl
theorem Znq:Zd Tryz.prog [0,2] 1 [] Tryz.f141=some ZbI:=by kernel_rfl
theorem Zgx:Zd Tryz.prog [0,1,4,9] 1 [] Tryz.f147=some QW:=by kernel_rfl
theorem ZoV:Zd Tryz.prog [0,1,2,4,5,16,26,43] 1 [] Tryz.f157=some Jc:=by kernel_rfl
theorem Ztt:Zd Tryz.prog [0,2,3,11,29] 1 [] Tryz.f158=some Zgf:=by kernel_rfl
theorem Zq2:Zd Tryz.prog [0,1,4] 1 [] Tryz.f159=some ZeL:=by kernel_rfl
theorem ZoW:Zd Tryz.prog [0,1,2,4,5,13,23,37] 1 [] Tryz.f160=some Jd:=by kernel_rfl
theorem Zq3:Zd Tryz.prog [0,1,2,3,4,5,6,7,8,9,12,31,32,47,49,67,69,81,92,106,108,136,145] 2 [(4,[0,1,2,3,4,5,7,8,9,10,11,12,6,13,14,15]),(7,[0,1,2,3,4,5,6,9,10,11,7,8,12,13,14]),(10,[0,1,2,3,4,5,6,8,9,10,7,11,12,13,14,15,16,17,18]),(13,[0,1,2,3,4,5,6,7,8,9,10,11,12]),(15,[0,1,2,3,4,5,6,7,8,9,10,11]),(20,[0,1,2,3,4,5,6,8,9,10,7,11,12,13,14,15,16,17,18])] Tryz.f162=some XV:=by kernel_rfl
theorem ZhB:Zd Tryz.prog [0,1,2,4,5] 1 [] Tryz.f163=some Kx:=by kernel_rfl
theorem Zlw:Zd Tryz.prog [0,2,3,6] 1 [] Tryz.f164=some ZaC:=by kernel_rfl
theorem ZoX:Zd Tryz.prog [0,1,2,6,7,16] 1 [] Tryz.f165=some Zdb:=by kernel_rfl
theorem Ztu:Zd Tryz.prog [0,2,3,4,5,6,7,8,27] 1 [] Tryz.f166=some XW:=by kernel_rfl
theorem ZoY:Zd Tryz.prog [0,1,4,5] 2 [] Tryz.f167=some Za3:=by kernel_rfl
theorem Zlx:Zd Tryz.prog [0,1,2,3,4,5,6,7] 0 [] Tryz.f168=some Je:=by kernel_rfl
theorem ZhC:Zd Tryz.prog [0,1,2,3,20] 0 [(0,[0,1,2,3,4,5,6,7,8,10,9,11,12,13,14])] Tryz.f169=some YW:=by kernel_rfl
theorem Zq4:Zd Tryz.prog [0,2,3,5,6,7,8,9,13] 1 [] Tryz.f170=some Zct:=by kernel_rfl
theorem Zcv:Zd Tryz.prog [0,2,4] 2 [] Tryz.f171=some Y3:=by kernel_rfl
theorem Znr:Zd Tryz.prog [0,2,3,6] 1 [] Tryz.f172=some ZbK:=by kernel_rfl
theorem Zns:Zd Tryz.prog [0,2,3,11] 1 [] Tryz.f173=some Zah:=by kernel_rfl
theorem ZoZ:Zd Tryz.prog [0,1,2,3,6] 1 [(3,[0,1,2,3,4,5,6,7,8,9])] Tryz.f174=some Za4:=by kernel_rfl
theorem Znt:Zd Tryz.prog [0,1,4,5,6,7,15] 1 [] Tryz.f175=some Zai:=by kernel_rfl
theorem Zly:Zd Tryz.prog [0,1,4,5,6,7,9,10,18,23,24,25,26] 2 [] Tryz.f176=some JZ:=by kernel_rfl
theorem Zo0:Zd Tryz.prog [0,1,4,5,6,7,8,9,10,11,19,20,21,22,23,42] 1 [(7,[0,1,2,3,4,5,6,7])] Tryz.f177=some KF:=by kernel_rfl
theorem Ze0:Zd Tryz.prog [0,2,3,4,5,8,11] 1 [] Tryz.f178=some YG:=by kernel_rfl
theorem ZfI:Zd Tryz.prog [0,2,3,4,5,6,27] 1 [] Tryz.f179=some Yu:=by kernel_rfl
theorem Zq5:Zd Tryz.prog [0,1,2,6,10,14] 1 [] Tryz.f184=some ZeM:=by kernel_rfl
theorem Zlz:Zd Tryz.prog [0,1,4,5,6] 1 [] Tryz.f196=some ZaD:=by kernel_rfl
theorem Zq6:Zd Tryz.prog [0,1,4,5,6,7,9,11,12,14,15,16] 1 [] Tryz.f197=some QX:=by kernel_rfl
theorem Zcw:Zd Tryz.prog [0,1,4,5,7,8,9,16] 1 [] Tryz.f198=some Y4:=by kernel_rfl
theorem Zq7:Zd Tryz.prog [0,1,2,3,4,6,7,13,32,46] 1 [] Tryz.f199=some J0:=by kernel_rfl
theorem Zo1:Zd Tryz.prog [0,1,2,3,4,5,9,10,22,37,47,55,69] 2 [(6,[0,1,2,3,4,5,6,7,8,9,10,11,12,13]),(15,[0,1,2,3,4,5,6,7,8,9,10,11,12,13])] Tryz.f200=some Jf:=by kernel_rfl
theorem Zq8:Zd Tryz.prog [0,1,4,7] 1 [] Tryz.f201=some ZeN:=by kernel_rfl
theorem Zo2:Zd Tryz.prog [0,1,4,7] 1 [] Tryz.f202=some Zde:=by kernel_rfl
theorem ZhD:Zd Tryz.prog [0,2,3,15,16,19,27,36,37,43,49] 1 [] Tryz.f203=some YX:=by kernel_rfl
theorem KS:Zd Tryz.prog [0,1,4,5,7,8,9,16] 1 [] Tryz.f205=some ZW:=by kernel_rfl
theorem Zo3:Zd Tryz.prog [0,2] 1 [] Tryz.f216=some Zdf:=by kernel_rfl
theorem Zvt:Zd Tryz.prog [0,2] 1 [] Tryz.f217=some Zjf:=by kernel_rfl
theorem Ztv:Zd Tryz.prog [0,1,4] 1 [] Tryz.f218=some Zgi:=by kernel_rfl
theorem Zo4:Zd Tryz.prog [0,1,2,6,7,12] 1 [] Tryz.f223=some Zdg:=by kernel_rfl
theorem ZlA:Zd Tryz.prog [0,2,3,5,6,8,9,10,11] 1 [] Tryz.f224=some ZaE:=by kernel_rfl
theorem ZlB:Zd Tryz.prog [1,2,6] 0 [] Tryz.f225=some J1:=by kernel_rfl
theorem ZiS:Zd Tryz.prog [0,1,2,3,4,5,6,9,13,20] 0 [(6,[0,1,2,3,4,5,6,7,8,9,10,11])] Tryz.f228=some Z1:=by kernel_rfl
theorem Znu:Zd Tryz.prog [0,1,4,5] 1 [(2,[0,1,2,3,4,5,6,7])] Tryz.f229=some ZbL:=by kernel_rfl
theorem ZlC:Zd Tryz.prog [0,1,4,5,6,7,15] 1 [] Tryz.f230=some ZaF:=by kernel_rfl
theorem Zo5:Zd Tryz.prog [0,1,4,5,6,14] 1 [] Tryz.f231=some Za6:=by kernel_rfl
theorem Zq9:Zd Tryz.prog [0,2] 1 [] Tryz.f232=some ZeO:=by kernel_rfl
theorem ZlD:Zd Tryz.prog [0,1,2,4,5,10] 1 [] Tryz.f233=some J2:=by kernel_rfl
theorem ZlE:Zd Tryz.prog [0,1,4,5,6,7] 1 [] Tryz.f234=some ZaH:=by kernel_rfl
theorem Znv:Zd Tryz.prog [0,2] 1 [] Tryz.f235=some ZbM:=by kernel_rfl
theorem Znw:Zd Tryz.prog [0,2,3,4,5,8,10,11,12] 1 [] Tryz.f236=some Zaj:=by kernel_rfl
theorem Znx:Zd Tryz.prog [0,1,4,5,6,10] 1 [(5,[0,1,2,3,4,5,6,7,8,9,10,11,12,13,14,15])] Tryz.f239=some ZbN:=by kernel_rfl
theorem Za8:Zd Tryz.prog [0,1,4,5,6,7,12] 1 [(3,[0,1,2,3,4,5,6,7,8,9,10,11])] Tryz.f255=some Z8:=by kernel_rfl
theorem ZfJ:Zd Tryz.prog [0,2,3,4,7,8,26] 1 [] Tryz.f256=some YT:=by kernel_rfl
theorem Zo6:Zd Tryz.prog [0,1,4,6] 1 [(2,[0,1,2,3,4,5])] Tryz.f282=some Zdi:=by kernel_rfl
theorem Zo7:Zd Tryz.prog [0,1,4,5,6,14] 1 [] Tryz.f283=some Zdj:=by kernel_rfl
theorem ZB0:Zhn Tryz.prog T:=Ztb (by
  unfold tab
  exact
    Zh ⟨_,_,_,_,Tryz.func6,ZfE⟩ <|
    Zh ⟨_,_,_,_,Tryz.func18,Zvq⟩ <|
    Zh ⟨_,_,_,_,Tryz.func20,Zka⟩ <|
    Zh ⟨_,_,_,_,Tryz.func25,ZfF⟩ <|
    Zh ⟨_,_,_,_,Tryz.func28,ZfG⟩ <|
    Zh ⟨_,_,_,_,Tryz.func38,ZiL⟩ <|
    Zh ⟨_,_,_,_,Tryz.func39,ZoO⟩ <|
    Zh ⟨_,_,_,_,Tryz.func40,ZoP⟩ <|
    Zh ⟨_,_,_,_,Tryz.func41,ZiM⟩ <|
    Zh ⟨_,_,_,_,Tryz.func42,Zls⟩ <|
    Zh ⟨_,_,_,_,Tryz.func43,Zkb⟩ <|
    Zh ⟨_,_,_,_,Tryz.func44,Ztq⟩ <|
    Zh ⟨_,_,_,_,Tryz.func45,ZqW⟩ <|
    Zh ⟨_,_,_,_,Tryz.func57,ZoQ⟩ <|
    Zh ⟨_,_,_,_,Tryz.func58,Zlt⟩ <|
    Zh ⟨_,_,_,_,Tryz.func59,ZoR⟩ <|
    Zh ⟨_,_,_,_,Tryz.func60,ZqX⟩ <|
    Zh ⟨_,_,_,_,Tryz.func63,Zgu⟩ <|
    Zh ⟨_,_,_,_,Tryz.func64,Zgv⟩ <|
    Zh ⟨_,_,_,_,Tryz.func65,Zhx⟩ <|
    Zh ⟨_,_,_,_,Tryz.func69,Zkc⟩ <|
    Zh ⟨_,_,_,_,Tryz.func71,Zkd⟩ <|
    Zh ⟨_,_,_,_,Tryz.func74,ZiN⟩ <|
    Zh ⟨_,_,_,_,Tryz.func75,Zke⟩ <|
    Zh ⟨_,_,_,_,Tryz.func76,ZiO⟩ <|
    Zh ⟨_,_,_,_,Tryz.func81,Ztr⟩ <|
    Zh ⟨_,_,_,_,Tryz.func82,ZiP⟩ <|
    Zh ⟨_,_,_,_,Tryz.func84,ZoS⟩ <|
    Zh ⟨_,_,_,_,Tryz.func85,ZiQ⟩ <|
    Zh ⟨_,_,_,_,Tryz.func86,Zkf⟩ <|
    Zh ⟨_,_,_,_,Tryz.func87,Znk⟩ <|
    Zh ⟨_,_,_,_,Tryz.func88,Zlu⟩ <|
    Zh ⟨_,_,_,_,Tryz.func89,ZiR⟩ <|
    Zh ⟨_,_,_,_,Tryz.func100,ZqY⟩ <|
    Zh ⟨_,_,_,_,Tryz.func101,ZoT⟩ <|
    Zh ⟨_,_,_,_,Tryz.func102,ZqZ⟩ <|
    Zh ⟨_,_,_,_,Tryz.func103,Zak⟩ <|
    Zh ⟨_,_,_,_,Tryz.func104,QH⟩ <|
    Zh ⟨_,_,_,_,Tryz.func105,Zvr⟩ <|
    Zh ⟨_,_,_,_,Tryz.func106,Znl⟩ <|
    Zh ⟨_,_,_,_,Tryz.func107,Zvs⟩ <|
    Zh ⟨_,_,_,_,Tryz.func111,Zq0⟩ <|
    Zh ⟨_,_,_,_,Tryz.func113,Znm⟩ <|
    Zh ⟨_,_,_,_,Tryz.func114,Zq1⟩ <|
    Zh ⟨_,_,_,_,Tryz.func115,Zgw⟩ <|
    Zh ⟨_,_,_,_,Tryz.func116,Zkg⟩ <|
    Zh ⟨_,_,_,_,Tryz.func117,Znn⟩ <|
    Zh ⟨_,_,_,_,Tryz.func118,Zno⟩ <|
    Zh ⟨_,_,_,_,Tryz.func119,Zkh⟩ <|
    Zh ⟨_,_,_,_,Tryz.func120,Zlv⟩ <|
    Zh ⟨_,_,_,_,Tryz.func121,Zhy⟩ <|
    Zh ⟨_,_,_,_,Tryz.func122,Zhz⟩ <|
    Zh ⟨_,_,_,_,Tryz.func131,ZfH⟩ <|
    Zh ⟨_,_,_,_,Tryz.func132,Za7⟩ <|
    Zh ⟨_,_,_,_,Tryz.func133,Zki⟩ <|
    Zh ⟨_,_,_,_,Tryz.func134,Znp⟩ <|
    Zh ⟨_,_,_,_,Tryz.func135,Zts⟩ <|
    Zh ⟨_,_,_,_,Tryz.func136,ZhA⟩ <|
    Zh ⟨_,_,_,_,Tryz.func139,J6⟩ <|
    Zh ⟨_,_,_,_,Tryz.func140,ZoU⟩ <|
    Zh ⟨_,_,_,_,Tryz.func141,Znq⟩ <|
    Zh ⟨_,_,_,_,Tryz.func147,Zgx⟩ <|
    Zh ⟨_,_,_,_,Tryz.func157,ZoV⟩ <|
    Zh ⟨_,_,_,_,Tryz.func158,Ztt⟩ <|
    Zh ⟨_,_,_,_,Tryz.func159,Zq2⟩ <|
    Zh ⟨_,_,_,_,Tryz.func160,ZoW⟩ <|
    Zh ⟨_,_,_,_,Tryz.func162,Zq3⟩ <|
    Zh ⟨_,_,_,_,Tryz.func163,ZhB⟩ <|
    Zh ⟨_,_,_,_,Tryz.func164,Zlw⟩ <|
    Zh ⟨_,_,_,_,Tryz.func165,ZoX⟩ <|
    Zh ⟨_,_,_,_,Tryz.func166,Ztu⟩ <|
    Zh ⟨_,_,_,_,Tryz.func167,ZoY⟩ <|
    Zh ⟨_,_,_,_,Tryz.func168,Zlx⟩ <|
    Zh ⟨_,_,_,_,Tryz.func169,ZhC⟩ <|
    Zh ⟨_,_,_,_,Tryz.func170,Zq4⟩ <|
    Zh ⟨_,_,_,_,Tryz.func171,Zcv⟩ <|
    Zh ⟨_,_,_,_,Tryz.func172,Znr⟩ <|
    Zh ⟨_,_,_,_,Tryz.func173,Zns⟩ <|
    Zh ⟨_,_,_,_,Tryz.func174,ZoZ⟩ <|
    Zh ⟨_,_,_,_,Tryz.func175,Znt⟩ <|
    Zh ⟨_,_,_,_,Tryz.func176,Zly⟩ <|
    Zh ⟨_,_,_,_,Tryz.func177,Zo0⟩ <|
    Zh ⟨_,_,_,_,Tryz.func178,Ze0⟩ <|
    Zh ⟨_,_,_,_,Tryz.func179,ZfI⟩ <|
    Zh ⟨_,_,_,_,Tryz.func184,Zq5⟩ <|
    Zh ⟨_,_,_,_,Tryz.func196,Zlz⟩ <|
    Zh ⟨_,_,_,_,Tryz.func197,Zq6⟩ <|
    Zh ⟨_,_,_,_,Tryz.func198,Zcw⟩ <|
    Zh ⟨_,_,_,_,Tryz.func199,Zq7⟩ <|
    Zh ⟨_,_,_,_,Tryz.func200,Zo1⟩ <|
    Zh ⟨_,_,_,_,Tryz.func201,Zq8⟩ <|
    Zh ⟨_,_,_,_,Tryz.func202,Zo2⟩ <|
    Zh ⟨_,_,_,_,Tryz.func203,ZhD⟩ <|
    Zh ⟨_,_,_,_,Tryz.func205,KS⟩ <|
    Zh ⟨_,_,_,_,Tryz.func216,Zo3⟩ <|
    Zh ⟨_,_,_,_,Tryz.func217,Zvt⟩ <|
    Zh ⟨_,_,_,_,Tryz.func218,Ztv⟩ <|
    Zh ⟨_,_,_,_,Tryz.func223,Zo4⟩ <|
    Zh ⟨_,_,_,_,Tryz.func224,ZlA⟩ <|
    Zh ⟨_,_,_,_,Tryz.func225,ZlB⟩ <|
    Zh ⟨_,_,_,_,Tryz.func228,ZiS⟩ <|
    Zh ⟨_,_,_,_,Tryz.func229,Znu⟩ <|
    Zh ⟨_,_,_,_,Tryz.func230,ZlC⟩ <|
    Zh ⟨_,_,_,_,Tryz.func231,Zo5⟩ <|
    Zh ⟨_,_,_,_,Tryz.func232,Zq9⟩ <|
    Zh ⟨_,_,_,_,Tryz.func233,ZlD⟩ <|
    Zh ⟨_,_,_,_,Tryz.func234,ZlE⟩ <|
    Zh ⟨_,_,_,_,Tryz.func235,Znv⟩ <|
    Zh ⟨_,_,_,_,Tryz.func236,Znw⟩ <|
    Zh ⟨_,_,_,_,Tryz.func239,Znx⟩ <|
    Zh ⟨_,_,_,_,Tryz.func255,Za8⟩ <|
    Zh ⟨_,_,_,_,Tryz.func256,ZfJ⟩ <|
    Zh ⟨_,_,_,_,Tryz.func282,Zo6⟩ <|
    Zh ⟨_,_,_,_,Tryz.func283,Zo7⟩ <|
    ZAS)
end Go.Proofs.YtemcdiajejekoaaGreatDoor.Slim
namespace Go.Proofs.YtemcdiajejekoaaGreatDoor.Slim
open Go
section
variable {C : FuncId → List AV → Mem → Option (AV × Mem)} {tm loc : List AV} {m : Mem} {g : X → AV} {H : List Blk} {e : Option Nat}
theorem Zyh:Zhe C tm [] loc m=some (loc,m):=Eq.trans rfl rfl
def QI {β:Type} (r:Option (AV×Mem)) (f:AV→Mem→Option β):Option β :=
 match r with
 | some (v,m)=>f v m
 | none=>none
theorem Zkj {β:Type} (v:AV) (m:Mem) (f:AV→Mem→Option β):QI (some (v,m)) f=f v m:=Eq.trans rfl rfl
theorem Zkk {β:Type} (f:AV→Mem→Option β):QI none f=none:=Eq.trans rfl rfl
theorem Ztw {β:Type} (c:Prop) [Decidable c] (a b:Option (AV×Mem)) (f:AV→Mem→Option β):QI (if c then a else b) f=if c then QI a f else QI b f:=by split <;> rfl
@[congr] theorem Zzk {β:Type} {r r':Option (AV×Mem)} {f:AV→Mem→Option β} (h:r=r'):QI r f=QI r' f:=by rw [h]
def QJ {β:Type} (p:Prop) [Decidable p] (r:Option (AV×Mem)) (m:Mem) (f:AV→Mem→Option β):Option β:=if p then QI r f else f (.tup []) m
def XZ {β:Type} (c:Option Bool) (r:Option (AV×Mem)) (m:Mem) (f:AV→Mem→Option β):Option β :=
 match c with
 | none=>none
 | some c=>QJ (c=true) r m f
theorem ZlF {β:Type} (c:Bool) (r:Option (AV×Mem)) (m:Mem) (f:AV→Mem→Option β):XZ (some c) r m f=QJ (c=true) r m f:=Eq.trans rfl rfl
theorem Zny {β:Type} (p:Prop) [Decidable p] (a b:Option Bool) (r:Option (AV×Mem)) (m:Mem) (f:AV→Mem→Option β) :
  XZ (if p then a else b) r m f=if p then XZ a r m f else XZ b r m f:=by split <;> rfl
theorem Zkl {β:Type} (r:Option (AV×Mem)) (m:Mem) (f:AV→Mem→Option β):QJ True r m f=QI r f:=by simp [QJ]
theorem Zim {β:Type} (r:Option (AV×Mem)) (m:Mem) (f:AV→Mem→Option β):QJ False r m f=f (.tup []) m:=by simp [QJ]
theorem Zra {β:Type} (p:Prop) [Decidable p] (v:AV) (m:Mem) (f:AV→Mem→Option β):QJ p (some (v,m)) m f=f (if p then v else .tup []) m:=by
 by_cases h:p <;> simp [QJ,h,QI]
theorem Ztx {β:Type} (p:Prop) [Decidable p] (q:Prop) [Decidable q] (v:AV) (m:Mem) (f:AV→Mem→Option β) :
  QJ p (if q then some (v,m) else none) m f=if p→q then f (if p then v else .tup []) m else none:=by
 by_cases h:p <;> by_cases h2:q <;> simp [QJ,QI,h,h2]
@[congr] theorem Zzl {β:Type} {p q:Prop} {s:Decidable p} [Decidable q] {r r':Option (AV×Mem)} {m:Mem} {f:AV→Mem→Option β} (h:p=q) (h2:q→r=r'):QJ p r m f=QJ q r' m f:=by
 subst h
 unfold QJ
 by_cases hp:p
 ·rw [if_pos hp,if_pos hp,h2 hp]
 ·rw [if_neg hp,if_neg hp]
@[congr] theorem Zvu {β:Type} {c c':Option Bool} {r:Option (AV×Mem)} {m:Mem} {f:AV→Mem→Option β} (h:c=c'):XZ c r m f=XZ c' r m f:=by rw [h]
def J7 (v:AV) (b:Bool):Option Bool :=
 match v with
 | .bool c=>some (c==b)
 | .tup []=>some false
 | _=>none
theorem Zo8 (c:Bool):J7 (.bool c) true=some c:=by cases c <;> rfl
theorem Znz (c:Bool):J7 (.bool c) false=some (!c):=by cases c <;> rfl
theorem Zrb (b:Bool):J7 (.tup []) b=some false:=Eq.trans rfl rfl
theorem ZzN (c:Prop) [Decidable c] (x y:AV) (b:Bool):J7 (if c then x else y) b=if c then J7 x b else J7 y b:=by split <;> rfl
theorem Zvv (op:AO) (rest:List YS):Zhe C tm (⟨op,none⟩::rest) loc m=QI (aop C (get tm loc) m op) fun v m'=>Zhe C tm rest (loc++[v]) m':=by
 rw [Zhe]
 simp only [Zbp]
 cases aop C (get tm loc) m op <;> rfl
theorem Zty (op:AO) (x:X) (b:Bool) (rest:List YS) :
  Zhe C tm (⟨op,some (x,b)⟩::rest) loc m=XZ (J7 (get tm loc x) b) (aop C (get tm loc) m op) m fun v m'=>Zhe C tm rest (loc++[v]) m':=by
 rw [Zhe]
 have h:Zbp (get tm loc) (some (x,b))=J7 (get tm loc x) b:=rfl
 rw [h]
 cases J7 (get tm loc x) b with
 | none=>rfl
 | some c=>cases c with
  | false=>rfl
  | true=>simp only [XZ,QJ,if_true];cases aop C (get tm loc) m op <;> rfl
theorem Zyi:ZeZ C tm [] loc m=some (loc,m):=Eq.trans rfl rfl
theorem Zvw (op:AO) (rest:List DE):ZeZ C tm (⟨op,none,[]⟩::rest) loc m=QI (aop C (get tm loc) m op) fun v m'=>ZeZ C tm rest (loc++[v]) m':=by
 rw [ZeZ]
 simp only [Zbp]
 cases aop C (get tm loc) m op <;> simp [QI,Xm]
theorem Ztz (op:AO) (q:Nat×YS) (qs:List (Nat×YS)) (rest:List DE):ZeZ C tm (⟨op,none,q::qs⟩::rest) loc m =
  QI (aop C (get tm loc) m op) fun v m'=>if Xm (get tm (loc++[v])) loc m'.H (q::qs)=true then ZeZ C tm rest (loc++[v]) m' else none:=by
 rw [ZeZ]
 simp only [Zbp]
 cases aop C (get tm loc) m op <;> simp [QI]
theorem ZtA (op:AO) (x:X) (b:Bool) (rest:List DE) :
  ZeZ C tm (⟨op,some (x,b),[]⟩::rest) loc m=XZ (J7 (get tm loc x) b) (aop C (get tm loc) m op) m fun v m'=>ZeZ C tm rest (loc++[v]) m':=by
 rw [ZeZ]
 have h:Zbp (get tm loc) (some (x,b))=J7 (get tm loc x) b:=rfl
 rw [h]
 cases J7 (get tm loc x) b with
 | none=>rfl
 | some c=>cases c with
  | false=>simp [XZ,QJ,Xm]
  | true=>simp only [XZ,QJ,if_true];cases aop C (get tm loc) m op <;> simp [QI,Xm]
theorem ZiT (op:AO) (x:X) (b:Bool) (q:Nat×YS) (qs:List (Nat×YS)) (rest:List DE) :
  ZeZ C tm (⟨op,some (x,b),q::qs⟩::rest) loc m=XZ (J7 (get tm loc x) b) (aop C (get tm loc) m op) m fun v m'=>
   if Xm (get tm (loc++[v])) loc m'.H (q::qs)=true then ZeZ C tm rest (loc++[v]) m' else none:=by
 rw [ZeZ]
 have h:Zbp (get tm loc) (some (x,b))=J7 (get tm loc x) b:=rfl
 rw [h]
 cases J7 (get tm loc x) b with
 | none=>rfl
 | some c=>cases c with
  | false=>rfl
  | true=>simp only [XZ,QJ,if_true];cases aop C (get tm loc) m op <;> rfl
theorem Zo9 (L:List Blk):Xm g loc L []=true:=Eq.trans rfl rfl
theorem ZnA (L:List Blk) (j:Nat) (op:AO) (qs:List (Nat×YS)):(Xm g loc L ((j,⟨op,none⟩)::qs)=true)↔(Zao g L op=some ((loc[j]?).getD .undef)∧Xm g loc L qs=true):=by
 simp [Xm,Zbp]
theorem ZlG (L:List Blk) (j:Nat) (op:AO) (x:X) (b:Bool) (qs:List (Nat×YS)):(Xm g loc L ((j,⟨op,some (x,b)⟩)::qs)=true)↔((J7 (g x) b=some false∨Zao g L op=some ((loc[j]?).getD .undef))∧Xm g loc L qs=true):=by
 simp only [Xm,Bool.and_eq_true,Bool.or_eq_true,decide_eq_true_eq]
 rfl
theorem ZtB (L:List Blk) (a:Bool) (sz:Nat) (x:X):Zao g L (.load a sz x)=ZhX L a sz (g x):=Eq.trans rfl rfl
theorem ZB1 (s:Nat):get tm loc (.t s)=(tm[s]?).getD .undef:=Eq.trans rfl rfl
theorem ZB2 (s:Nat):get tm loc (.l s)=(loc[s]?).getD .undef:=Eq.trans rfl rfl
theorem ZB3 (v:AV):get tm loc (.c v)=v:=Eq.trans rfl rfl
def J8 (m:Mem) (r:Option AV):Option (AV×Mem) :=
 match r with
 | some v=>some (v,m)
 | none=>none
theorem ZtC (v:AV):J8 m (some v)=some (v,m):=Eq.trans rfl rfl
theorem ZtD:J8 m none=none:=Eq.trans rfl rfl
theorem Zvx (c:Prop) [Decidable c] (a b:Option AV):J8 m (if c then a else b)=if c then J8 m a else J8 m b:=by split <;> rfl
theorem ZF {op:AO} (h:op.kind=0):aop C g m op=J8 m (Ji g op):=by
 unfold aop
 cases e:Ji g op with
 | some v=>rfl
 | none=>simp only [];rw [ZaM (by omega),QK (by omega),ZaN (by omega)];rfl
theorem ZbO {op:AO} (h:op.kind=1):aop C g m op=J8 m (Zao g m.H op):=by
 unfold aop
 rw [Zcf (by omega)]
 simp only []
 cases e:Zao g m.H op with
 | some v=>rfl
 | none=>simp only [];rw [QK (by omega),ZaN (by omega)];rfl
theorem KR {op:AO} (h:op.kind=3):aop C g m op=ZbY C g m op:=by
 unfold aop
 rw [Zcf (by omega),ZaM (by omega),QK (by omega)]
theorem Zgy {op:AO} (h:op.kind=2):aop C g m op=match Ka g op with | some (cs,v)=>some (v m.H.length,newBlk m cs) | none=>none:=by
 unfold aop
 rw [Zcf (by omega),ZaM (by omega)]
 simp only []
 cases Ka g op with
 | some p=>rfl
 | none=>simp only [];exact ZaN (by omega)
theorem ZAU (x:X):aop C g m (.mv x)=some (g x,m):=Eq.trans rfl rfl
theorem ZzO (c:Nat) (o:BinOp) (x y:X):aop C g m (.bin c o x y)=J8 m (Xg c o (g x) (g y)):=ZF rfl
def ZAV (c a b:AV):Option AV :=
 match c with
 | .bool true=>some a
 | .bool false=>some b
 | _=>none
theorem ZtE (c:Bool) (a b:AV):ZAV (.bool c) a b=some (if c=true then a else b):=by cases c <;> rfl
theorem Zyj (c a b:X):aop C g m (.pick c a b)=J8 m (ZAV (g c) (g a) (g b)):=ZF rfl
theorem ZAW (o:UnOp) (x:X):aop C g m (.un o x)=J8 m (ZAI o (g x)):=ZF rfl
theorem Zpa (f:FuncId) (a b:List X):aop C g m (.makeFunc f a b)=some (.fn f (a.map g) (b.map g),m):=Eq.trans rfl rfl
def ZAX (k:IntKind) (v:AV):Option AV :=
 match v with
 | .int _ n=>some (.int k (k.wrap n))
 | _=>none
theorem Zvy (k k':IntKind) (n:Int):ZAX k (.int k' n)=some (.int k (k.wrap n)):=Eq.trans rfl rfl
theorem Zyk (k:IntKind) (x:X):aop C g m (.conv k x)=J8 m (ZAX k (g x)):=ZF rfl
def Zsb (ks:List Nat) (neg:Bool) (a b:AV):Option AV :=
 match a,b with
 | .agg xs,.agg ys=>(ZdW ks xs ys).map fun b=>.bool (if neg then !b else b)
 | _,_=>none
theorem Zpb (ks:List Nat) (neg:Bool) (xs ys:List AV):Zsb ks neg (.agg xs) (.agg ys)=(ZdW ks xs ys).map fun b=>.bool (if neg then !b else b):=Eq.trans rfl rfl
theorem Zrc (ks:List Nat) (neg:Bool) (x y:X):aop C g m (.eqCells ks neg x y)=J8 m (Zsb ks neg (g x) (g y)):=ZF rfl
def Zmn (off:Nat) (v:AV):Option AV :=
 match v with
 | .ptr (some (b,o))=>some (.ptr (some (b,o+off)))
 | _=>none
theorem ZlH (off b o:Nat):Zmn off (.ptr (some (b,o)))=some (.ptr (some (b,o+off))):=Eq.trans rfl rfl
theorem ZnB (off:Nat) (x:X):aop C g m (.fieldAddr off x)=J8 m (Zmn off (g x)):=ZF rfl
def Zzm (agg:Bool) (off sz:Nat) (v:AV):Option AV :=
 match v with
 | .agg cs=>ZdV agg cs off sz
 | _=>none
theorem ZtF (agg:Bool) (off sz:Nat) (cs:List AV):Zzm agg off sz (.agg cs)=ZdV agg cs off sz:=Eq.trans rfl rfl
theorem Zvz (agg:Bool) (off sz:Nat) (x:X):aop C g m (.field agg off sz x)=J8 m (Zzm agg off sz (g x)):=ZF rfl
def Zkm (sz:Nat) (v i:AV):Option AV :=
 match v,i with
 | .slice (some (b,o)) sz' n _,.int _ i=>if 0≤i∧i<n∧sz'=sz then some (.ptr (some (b,o+i.toNat*sz))) else none
 | _,_=>none
theorem ZhE (sz b o sz' n:Nat) (c:Option Nat) (k:IntKind) (i:Int):Zkm sz (.slice (some (b,o)) sz' n c) (.int k i)=if 0≤i∧i<n∧sz'=sz then some (.ptr (some (b,o+i.toNat*sz))) else none:=Eq.trans rfl rfl
theorem ZlI (sz:Nat) (x i:X):aop C g m (.indexAddrS sz x i)=J8 m (Zkm sz (g x) (g i)):=ZF rfl
def Zkn (n sz:Nat) (v i:AV):Option AV :=
 match v,i with
 | .ptr (some (b,o)),.int _ i=>if 0≤i∧i<n then some (.ptr (some (b,o+i.toNat*sz))) else none
 | _,_=>none
theorem Zko (n sz b o:Nat) (k:IntKind) (i:Int):Zkn n sz (.ptr (some (b,o))) (.int k i)=if 0≤i∧i<n then some (.ptr (some (b,o+i.toNat*sz))) else none:=Eq.trans rfl rfl
theorem ZlJ (n sz:Nat) (x i:X):aop C g m (.indexAddrA n sz x i)=J8 m (Zkn n sz (g x) (g i)):=ZF rfl
def ZvA (agg:Bool) (n sz:Nat) (v i:AV):Option AV :=
 match v,i with
 | .agg cs,.int _ i=>if 0≤i∧i<n then ZdV agg cs (i.toNat*sz) sz else none
 | _,_=>none
theorem Zrd (agg:Bool) (n sz:Nat) (cs:List AV) (k:IntKind) (i:Int):ZvA agg n sz (.agg cs) (.int k i)=if 0≤i∧i<n then ZdV agg cs (i.toNat*sz) sz else none:=Eq.trans rfl rfl
theorem ZtG (agg:Bool) (n sz:Nat) (x i:X):aop C g m (.indexA agg n sz x i)=J8 m (ZvA agg n sz (g x) (g i)):=ZF rfl
def ZvB (v i:AV):Option AV :=
 match v,i with
 | .str s,.int _ i=>if 0≤i then (s[i.toNat]?).map fun b=>.int .u8 b.toNat else none
 | _,_=>none
theorem Zre (s:ByteArray) (k:IntKind) (i:Int):ZvB (.str s) (.int k i)=if 0≤i then (s[i.toNat]?).map fun b=>.int .u8 b.toNat else none:=Eq.trans rfl rfl
theorem ZtH (x i:X):aop C g m (.indexS x i)=J8 m (ZvB (g x) (g i)):=ZF rfl
def Zsc (i:Nat) (v:AV):Option AV :=
 match v with
 | .tup vs=>vs[i]?
 | _=>none
theorem Zpc (i:Nat) (vs:List AV):Zsc i (.tup vs)=vs[i]?:=Eq.trans rfl rfl
theorem Zrf (i:Nat) (x:X):aop C g m (.extract i x)=J8 m (Zsc i (g x)):=ZF rfl
def ZCv (v:AV):Option AV :=
 match v with
 | .slice _ _ n _=>some (.int .i64 n)
 | _=>none
theorem ZtI (p:Option (Nat×Nat)) (sz n:Nat) (c:Option Nat):ZCv (.slice p sz n c)=some (.int .i64 n):=Eq.trans rfl rfl
theorem ZzP (x:X):aop C g m (.len x)=J8 m (ZCv (g x)):=ZF rfl
def ZvC (v:AV):Option AV :=
 match v with
 | .str s=>some (.int .i64 s.size)
 | _=>none
theorem Zrg (s:ByteArray):ZvC (.str s)=some (.int .i64 s.size):=Eq.trans rfl rfl
theorem ZtJ (x:X):aop C g m (.lenStr x)=J8 m (ZvC (g x)):=ZF rfl
theorem Zyl (n:Nat):aop C g m (.lenA n)=some (.int .i64 n,m):=Eq.trans rfl rfl
def ZzQ (a b:AV):Option AV :=
 match a,b with
 | .int k a,.int k' b=>if k=k' then some (.int k (if b>a then b else a)) else none
 | _,_=>none
theorem ZvD (k:IntKind) (a b:Int):ZzQ (.int k a) (.int k b)=some (.int k (if b>a then b else a)):=by simp [ZzQ]
theorem Zym (x y:X):aop C g m (.max2 x y)=J8 m (ZzQ (g x) (g y)):=ZF rfl
def ZzR (a b:AV):Option AV :=
 match a,b with
 | .int k a,.int k' b=>if k=k' then some (.int k (if b<a then b else a)) else none
 | _,_=>none
theorem ZvE (k:IntKind) (a b:Int):ZzR (.int k a) (.int k b)=some (.int k (if b<a then b else a)):=by simp [ZzR]
theorem Zyn (x y:X):aop C g m (.min2 x y)=J8 m (ZzR (g x) (g y)):=ZF rfl
theorem ZvF (zero:List AV) (parts:List (Nat×Nat×X)):aop C g m (.build zero parts)=J8 m ((Zb g zero parts).map .agg):=ZF rfl
theorem Zyo (a:Bool) (sz:Nat) (x:X):aop C g m (.load a sz x)=J8 m (ZhX m.H a sz (g x)):=ZbO rfl
theorem ZvG (zero:List AV):aop C g ⟨H,e⟩ (.alloc zero)=some (.ptr (some (H.length,0)),⟨H++[.cells zero true],e⟩):=Eq.trans rfl rfl
def ZCw (H:List Blk) (e:Option Nat) (cs:Option (List AV)):Option (AV×Mem) :=
 match cs with
 | some cs=>some (.ptr (some (H.length,0)),⟨H++[.cells cs true],e⟩)
 | none=>none
theorem ZvH (cs:List AV):ZCw H e (some cs)=some (.ptr (some (H.length,0)),⟨H++[.cells cs true],e⟩):=Eq.trans rfl rfl
theorem ZzS (x:X):aop C g ⟨H,e⟩ (.box x)=ZCw H e (JB (g x)):=by
 rw [Zgy rfl]
 have h:Ka g (.box x)=(JB (g x)).map fun cs=>(cs,fun b=>.ptr (some (b,0))):=rfl
 rw [h]
 cases JB (g x) <;> rfl
def Zkp (H:List Blk) (e:Option Nat) (sz len:Nat) (cs:Option (List AV)):Option (AV×Mem) :=
 match cs with
 | some cs=>some (.slice (some (H.length,0)) sz len (some len),⟨H++[.cells cs true],e⟩)
 | none=>none
theorem ZiU (sz len:Nat) (cs:List AV):Zkp H e sz len (some cs)=some (.slice (some (H.length,0)) sz len (some len),⟨H++[.cells cs true],e⟩):=Eq.trans rfl rfl
theorem ZlK (sz len:Nat) (zero:List AV) (parts:List (Nat×Nat×X)):aop C g ⟨H,e⟩ (.buildSlice sz len zero parts)=Zkp H e sz len (Zb g zero parts):=by
 rw [Zgy rfl]
 have h:Ka g (.buildSlice sz len zero parts)=(Zb g zero parts).map fun cs=>(cs,fun b=>.slice (some (b,0)) sz len (some len)):=rfl
 rw [h]
 cases Zb g zero parts <;> rfl
def ZvI (H:List Blk) (e:Option Nat) (sz:Nat) (a x:AV):Option (AV×Mem) :=
 match a,JB x with
 | .ptr (some (b,o)),some new=>match H[b]? with
  | some (.cells cs true)=>
   if new.length=sz∧0<sz∧o+sz≤cs.length then
    some (.tup [],⟨H.set b (.cells (Yz cs o new) true),if (new.all fun v=>v.under (b+1)) then e else Z6 e b⟩)
   else none
  | _=>none
 | _,_=>none
theorem ZvJ (sz:Nat) (a x:X):aop C g ⟨H,e⟩ (.store sz a x)=ZvI H e sz (g a) (g x):=by
 rw [KR rfl];rfl
def ZAY (C:FuncId→List AV→Mem→Option (AV×Mem)) (f:AV) (args:List AV) (m:Mem):Option (AV×Mem) :=
 match f with
 | .fn f first captured=>C f (first++args++captured) m
 | _=>none
theorem Zyp (f:FuncId) (first captured args:List AV):ZAY C (.fn f first captured) args m=C f (first++args++captured) m:=Eq.trans rfl rfl
theorem Zyq (f:X) (args:List X):aop C g m (.call f args)=ZAY C (g f) (args.map g) m:=by
 rw [KR rfl]
 rfl
def Zmo (H:List Blk) (e:Option Nat) (sz bytes:Nat) (zero:List AV) (len cap:AV):Option (AV×Mem) :=
 match len,cap with
 | .int .i64 l,.int .i64 c=>if 0≤l∧l=c∧l*bytes≤maxBytes then
   some (.slice (some (H.length,0)) sz l.toNat (some l.toNat),⟨H++[.cells (Zjl l.toNat zero) true],e⟩) else none
 | _,_=>none
theorem ZlL (sz bytes:Nat) (zero:List AV) (l c:Int):Zmo H e sz bytes zero (.int .i64 l) (.int .i64 c)=if 0≤l∧l=c∧l*bytes≤maxBytes then
   some (.slice (some (H.length,0)) sz l.toNat (some l.toNat),⟨H++[.cells (Zjl l.toNat zero) true],e⟩) else none:=rfl
theorem ZnC (sz bytes:Nat) (zero:List AV) (len cap:X):aop C g ⟨H,e⟩ (.makeSlice sz bytes zero len cap)=Zmo H e sz bytes zero (g len) (g cap):=by
 rw [KR rfl];rfl
def XO (H:List Blk) (e:Option Nat) (str:Bool) (sz bytes:Nat) (s x:AV):Option (AV×Mem) :=
 match s with
 | .slice none _ _ _=>match YK str H x with
  | some (n,cs)=>if n=0 then some (Kp,⟨H,e⟩)
    else if n*bytes≤maxBytes∧cs.length=n*sz then some (.slice (some (H.length,0)) sz n none,⟨H++[.cells cs true],e⟩) else none
  | none=>none
 | .slice (some (b,o)) sz' n cap=>match H[b]?,YK str H x with
  | some (.cells old wr),some (k,cs)=>
   if sz'=sz∧(n+k)*bytes≤maxBytes∧cs.length=k*sz∧o+n*sz≤old.length then
    if cap=some 0∧0<k then some (.slice (some (H.length,0)) sz (n+k) none,⟨H++[.cells cs true],e⟩)
    else if wr then some (.slice (some (H.length,0)) sz (n+k) none,⟨H.set b .dead++[.cells ((old.drop o).take (n*sz)++cs) true],e⟩)
    else none
   else none
  | _,_=>none
 | _=>none
theorem ZtK (str:Bool) (sz bytes:Nat) (s x:X):aop C g ⟨H,e⟩ (.append str sz bytes s x)=XO H e str sz bytes (g s) (g x):=by
 rw [KR rfl];rfl
theorem ZvK (k:IntKind) (a b:Int):Xg 0 .add (.int k a) (.int k b)=some (.int k (k.wrap (a+b))):=by simp [Xg,Zau]
theorem ZvL (k:IntKind) (a b:Int):Xg 0 .sub (.int k a) (.int k b)=some (.int k (k.wrap (a - b))):=by simp [Xg,Zau]
theorem ZvM (k:IntKind) (a b:Int):Xg 0 .mul (.int k a) (.int k b)=some (.int k (k.wrap (a*b))):=by simp [Xg,Zau]
theorem ZvN (k:IntKind) (a b:Int):Xg 0 .quo (.int k a) (.int k b)=if b=0 then none else some (.int k (k.wrap (a.tdiv b))):=by simp [Xg,Zau]
theorem ZvO (k:IntKind) (a b:Int):Xg 0 .rem (.int k a) (.int k b)=if b=0 then none else some (.int k (a.tmod b)):=by simp [Xg,Zau]
theorem ZvP (k:IntKind) (a b:Int):Xg 0 .eql (.int k a) (.int k b)=some (.bool (decide (a=b))):=by simp [Xg,Zau]
theorem ZvQ (k:IntKind) (a b:Int):Xg 0 .neq (.int k a) (.int k b)=some (.bool (!decide (a=b))):=by simp [Xg,Zau]
theorem ZvR (k:IntKind) (a b:Int):Xg 0 .lss (.int k a) (.int k b)=some (.bool (decide (a<b))):=by simp [Xg,Zau]
theorem ZvS (k:IntKind) (a b:Int):Xg 0 .leq (.int k a) (.int k b)=some (.bool (decide (a≤b))):=by simp [Xg,Zau]
theorem ZvT (k:IntKind) (a b:Int):Xg 0 .gtr (.int k a) (.int k b)=some (.bool (decide (b<a))):=by simp [Xg,Zau]
theorem ZvU (k:IntKind) (a b:Int):Xg 0 .geq (.int k a) (.int k b)=some (.bool (decide (b≤a))):=by simp [Xg,Zau]
def ZBK (k:IntKind) (a b:Int):Int:=k.wrap (a*2 ^ (min b.toNat k.bits))
def ZAJ (k:IntKind) (a b:Int):Int:=a.fdiv (2 ^ (min b.toNat k.bits))
def Zyr (k:IntKind) (a b:Int):Int:=k.wrap (BitVec.ofInt k.bits a &&& BitVec.ofInt k.bits b).toNat
def orI (k:IntKind) (a b:Int):Int:=k.wrap (BitVec.ofInt k.bits a ||| BitVec.ofInt k.bits b).toNat
def ZCx (k:IntKind) (a b:Int):Int:=k.wrap (BitVec.ofInt k.bits a ^^^ BitVec.ofInt k.bits b).toNat
def ZvV (k:IntKind) (a b:Int):Int:=k.wrap (BitVec.ofInt k.bits a &&& ~~~BitVec.ofInt k.bits b).toNat
theorem Zpd (k k':IntKind) (a b:Int):Xg 0 .shl (.int k a) (.int k' b)=if b<0 then none else some (.int k (ZBK k a b)):=by simp [Xg,Zau,ZBK]
theorem Zpe (k k':IntKind) (a b:Int):Xg 0 .shr (.int k a) (.int k' b)=if b<0 then none else some (.int k (ZAJ k a b)):=by simp [Xg,Zau,ZAJ]
theorem ZtL (k:IntKind) (a b:Int):Xg 0 .and (.int k a) (.int k b)=some (.int k (Zyr k a b)):=by simp [Xg,Zau,Zyr]
theorem ZvW (k:IntKind) (a b:Int):Xg 0 .or (.int k a) (.int k b)=some (.int k (orI k a b)):=by simp [Xg,Zau,orI]
theorem ZtM (k:IntKind) (a b:Int):Xg 0 .xor (.int k a) (.int k b)=some (.int k (ZCx k a b)):=by simp [Xg,Zau,ZCx]
theorem ZnD (k:IntKind) (a b:Int):Xg 0 .andNot (.int k a) (.int k b)=some (.int k (ZvV k a b)):=by simp [Xg,Zau,ZvV]
theorem ZtN (a b:Bool):Xg 2 .eql (.bool a) (.bool b)=some (.bool (a==b)):=Eq.trans rfl rfl
theorem ZtO (a b:Bool):Xg 2 .neq (.bool a) (.bool b)=some (.bool (!(a==b))):=Eq.trans rfl rfl
theorem ZtP (a b:ByteArray):Xg 1 .eql (.str a) (.str b)=some (.bool (decide (a=b))):=Eq.trans rfl rfl
theorem ZtQ (a b:ByteArray):Xg 1 .neq (.str a) (.str b)=some (.bool (!decide (a=b))):=Eq.trans rfl rfl
theorem Zys (k:IntKind) (n:Int):ZAI .neg (.int k n)=some (.int k (k.wrap (0 - n))):=Eq.trans rfl rfl
theorem Zyt (b:Bool):ZAI .not (.bool b)=some (.bool !b):=Eq.trans rfl rfl
theorem Zrh:setOuts tm loc []=tm:=Eq.trans rfl rfl
theorem Zpf (s j:Nat) (rest:List (Nat×Nat)):setOuts tm loc ((s,j)::rest)=setOuts (tm.set s ((loc[j]?).getD .undef)) loc rest:=Eq.trans rfl rfl
theorem Zin (l:List Blk):Za (H++l) H.length=Za l 0:=by simp [Za,List.getElem?_append_right]
theorem JO (l:List Blk) (k:Nat):Za (H++l) (H.length+k)=Za l k:=by simp [Za,List.getElem?_append_right]
theorem ZnE (cs:List AV) (wr:Bool) (l:List Blk):Za (.cells cs wr::l) 0=some cs:=Eq.trans rfl rfl
theorem ZnF (b:Blk) (l:List Blk) (k:Nat):Za (b::l) (k+1)=Za l k:=Eq.trans rfl rfl
theorem Zri {b:Nat} {cs:List AV} (l:List Blk) (h:Za H b=some cs):Za (H++l) b=some cs:=by
 unfold Za at *
 cases hb:H[b]? with
 | none=>rw [hb] at h;cases h
 | some x=>
  have hlt:=(List.getElem?_eq_some_iff.mp hb).1
  rw [List.getElem?_append_left hlt,hb]
  rw [hb] at h
  exact h
def Zzn (agg:Bool) (cs:Option (List AV)) (o sz:Nat):Option AV :=
 match cs with
 | some cs=>ZdV agg cs o sz
 | none=>none
theorem Zrj (agg:Bool) (cs:List AV) (o sz:Nat):Zzn agg (some cs) o sz=ZdV agg cs o sz:=Eq.trans rfl rfl
theorem ZtR (agg:Bool) (sz b o:Nat) (L:List Blk):ZhX L agg sz (.ptr (some (b,o)))=Zzn agg (Za L b) o sz:=by
 have h:ZhX L agg sz (.ptr (some (b,o)))=match Za L b with
  | none=>none
  | some cs=>if agg then (if o+sz≤cs.length then some (.agg ((cs.drop o).take sz)) else none) else cs[o]?:=rfl
 rw [h]
 cases Za L b <;> rfl
theorem ZaQ (cs:List AV) (o sz:Nat):ZdV false cs o sz=cs[o]?:=Eq.trans rfl rfl
theorem Zkq (cs:List AV) (o sz:Nat):ZdV true cs o sz=if o+sz≤cs.length then some (.agg ((cs.drop o).take sz)) else none:=Eq.trans rfl rfl
theorem ZzT (c:AV) (cs:List AV) (sz:Nat):ZdV false (c::cs) 0 sz=some c:=Eq.trans rfl rfl
theorem Zkr (c:AV) (cs:List AV) (k sz:Nat):ZdV false (c::cs) (k+1) sz=ZdV false cs k sz:=Eq.trans rfl rfl
theorem ZzU (c:AV) (cs:List AV) (sz:Nat):ZdV true (c::cs) 0 sz=if sz≤cs.length+1 then some (.agg ((c::cs).take sz)) else none:=by
 rw [Zkq];simp
theorem ZhF (c:AV) (cs:List AV) (k sz:Nat):ZdV true (c::cs) (k+1) sz=ZdV true cs k sz:=by
 rw [Zkq,Zkq]
 have:(k+1+sz≤(c::cs).length)↔(k+sz≤cs.length):=by simp;omega
 simp only [this,List.drop_succ_cons]
theorem Zrk (cs:List AV):JB (.agg cs)=some cs:=Eq.trans rfl rfl
theorem Zrl (k:IntKind) (n:Int):JB (.int k n)=some [.int k n]:=Eq.trans rfl rfl
theorem Zpg (b:Bool):JB (.bool b)=some [.bool b]:=Eq.trans rfl rfl
theorem Zrm (s:ByteArray):JB (.str s)=some [.str s]:=Eq.trans rfl rfl
theorem Zrn (p:Option (Nat×Nat)):JB (.ptr p)=some [.ptr p]:=Eq.trans rfl rfl
theorem ZnG (p:Option (Nat×Nat)) (sz n:Nat) (c:Option Nat):JB (.slice p sz n c)=some [.slice p sz n c]:=Eq.trans rfl rfl
theorem ZtS (f:FuncId) (a b:List AV):JB (.fn f a b)=some [.fn f a b]:=Eq.trans rfl rfl
theorem Zph (c:Prop) [Decidable c] (t t':List AV) (m:Mem):(if c then some (Ex.normal,(⟨t,m⟩:St)) else some (Ex.normal,⟨t',m⟩))=some (Ex.normal,⟨if c then t else t',m⟩):=by split <;> rfl
theorem ZtT (c:Prop) [Decidable c] (a b:AV) (az bs:List AV):(if c then a::az else b::bs)=(if c then a else b)::(if c then az else bs):=by split <;> rfl
theorem ZtU (c:Prop) [Decidable c] (a b:Bool):(if c then AV.bool a else AV.bool b)=AV.bool (if c then a else b):=by split <;> rfl
theorem ZvX (c:Prop) [Decidable c] (k:IntKind) (a b:Int):(if c then AV.int k a else AV.int k b)=AV.int k (if c then a else b):=by split <;> rfl
theorem ZAZ (F:ZZ) (m:Mem) (st:St):ZjM F m st=match Yd st.tm st.m.H F.results with
 | some vs=>finish F.mode m.H.length m.esc (ZdX vs) st.m
 | none=>none:=rfl
theorem ZlM (L:List Blk):Yd tm L []=some []:=Eq.trans rfl rfl
def ZzV (a:Option AV) (az:Option (List AV)):Option (List AV) :=
 match a,az with
 | some v,some vs=>some (v::vs)
 | _,_=>none
theorem ZtV (v:AV) (vs:List AV):ZzV (some v) (some vs)=some (v::vs):=Eq.trans rfl rfl
theorem ZlN (L:List Blk) (s:Nat) (rs:List AR):Yd tm L (.tmp s::rs)=ZzV (some ((tm[s]?).getD .undef)) (Yd tm L rs):=by
 rw [Yd];cases Yd tm L rs <;> rfl
theorem Zks (L:List Blk) (s:Nat) (agg:Bool) (sz:Nat) (rs:List AR):Yd tm L (.cell s agg sz::rs)=ZzV (ZhX L agg sz ((tm[s]?).getD .undef)) (Yd tm L rs):=by
 rw [Yd];cases Yd tm L rs <;> simp only [Zr3] <;> cases ZhX L agg sz ((tm[s]?).getD .undef) <;> rfl
def ZCy (F:ZZ) (m:Mem) (vs:Option (List AV)) (m':Mem):Option (AV×Mem) :=
 match vs with
 | some vs=>finish F.mode m.H.length m.esc (ZdX vs) m'
 | none=>none
theorem Zro (F:ZZ) (m:Mem) (st:St):ZjM F m st=ZCy F m (Yd st.tm st.m.H F.results) st.m:=Eq.trans rfl rfl
theorem ZvY (F:ZZ) (m:Mem) (vs:List AV) (m':Mem):ZCy F m (some vs) m'=finish F.mode m.H.length m.esc (ZdX vs) m':=Eq.trans rfl rfl
theorem Zrp (v:AV) (lim:Nat) (e0 e1:Option Nat) (L:List Blk):finish 0 lim e0 v ⟨L,e1⟩=some (v,⟨L,joinEsc e0 e1⟩):=Eq.trans rfl rfl
theorem Zmp (v:AV) (e0:Option Nat) (l:List Blk) (h:v.under H.length=true):finish 1 H.length e0 v ⟨H++l,none⟩=some (v,⟨H,e0⟩):=by
 simp [finish,h,clean]
theorem Zdm (v:AV) (e0:Option Nat) (h:v.under H.length=true):finish 1 H.length e0 v ⟨H,none⟩=some (v,⟨H,e0⟩):=by
 simp [finish,h,clean]
theorem ZiV (sz n:Nat) (c:Option Nat) (cs:List AV) (wr:Bool) (e0:Option Nat) (h:(cs.all fun c=>c.under H.length)=true) :
  finish 2 H.length e0 (.slice (some (H.length,0)) sz n c) ⟨H++[.cells cs wr],none⟩=some (.slice (some (H.length,0)) sz n c,⟨H++[.cells cs wr],e0⟩):=by
 have hr:X6 (AV.roots H.length (.slice (some (H.length,0)) sz n c))=[H.length]:=by simp [AV.roots,X6]
 unfold finish
 simp only [hr]
 have h2:([H.length].all fun b=>XG H.length (H++[Blk.cells cs wr])[b]?)=true:=by
  simp [XG,List.getElem?_append_right]
  simpa using h
 simp only [clean,h2,and_self,if_true]
 simp [AV.rename,ZaT,List.getElem?_append_right]
theorem Zdn {G:List Blk} {j sz n o:Nat} {c:Option Nat} {cs:List AV} {wr:Bool} (e0:Option Nat) (hG:G[j]?=some (.cells cs wr)) (h:(cs.all fun c=>c.under H.length)=true) :
  finish 2 H.length e0 (.slice (some (H.length+j,o)) sz n c) ⟨H++G,none⟩=some (.slice (some (H.length,o)) sz n c,⟨H++[.cells cs wr],e0⟩):=by
 have hlt:¬ H.length+j<H.length:=by omega
 have hr:X6 (AV.roots H.length (.slice (some (H.length+j,o)) sz n c))=[H.length+j]:=by
  unfold AV.roots
  rw [if_neg hlt]
  rfl
 have hb:(H++G)[H.length+j]?=some (.cells cs wr):=by rw [List.getElem?_append_right (by omega)];simpa using hG
 unfold finish
 simp only [hr]
 have h2:([H.length+j].all fun b=>XG H.length (H++G)[b]?)=true:=by
  simp only [List.all_cons,List.all_nil,Bool.and_true,hb,XG]
  exact h
 simp only [clean,h2,and_self,if_true]
 simp [AV.rename,ZaT,hb,hlt]
theorem ZtW (v:AV):ZdX [v]=v:=Eq.trans rfl rfl
theorem ZtX:ZdX []=.tup []:=Eq.trans rfl rfl
theorem ZtY (a b:AV) (vs:List AV):ZdX (a::b::vs)=.tup (a::b::vs):=Eq.trans rfl rfl
theorem ZvZ (n:Nat) (k:IntKind) (x:Int):(AV.int k x).under n=true:=by simp [AV.under]
theorem Zcx (n:Nat) (x:Bool):(AV.bool x).under n=true:=by simp [AV.under]
theorem Zgz (n:Nat) (x:ByteArray):(AV.str x).under n=true:=by simp [AV.under]
theorem Zv0 (n:Nat) (x:List AV):(AV.agg x).under n=AV.under.go n x:=by simp [AV.under]
theorem Zv1 (n:Nat) (x:List AV):(AV.tup x).under n=AV.under.go n x:=by simp [AV.under]
theorem ZtZ (n:Nat) (a:AV) (x:List AV):AV.under.go n (a::x)=(a.under n&&AV.under.go n x):=Eq.trans rfl rfl
theorem Zv2 (n:Nat):AV.under.go n []=true:=Eq.trans rfl rfl
theorem Xe (l:List Blk):(H++l)[H.length]?=l[0]?:=by simp [List.getElem?_append_right]
theorem Zcy (l:List Blk) (k:Nat):(H++l)[H.length+k]?=l[k]?:=by simp [List.getElem?_append_right]
theorem Zyu (l:List Blk) (b:Blk):(H++l).set H.length b=H++l.set 0 b:=by simp [List.set_append_right]
theorem ZnH (l:List Blk) (b:Blk) (k:Nat):(H++l).set (H.length+k) b=H++l.set k b:=by simp [List.set_append_right]
def Zrq (H:List Blk) (e:Option Nat) (b:Nat) (blk:Option Blk) (sz o:Nat) (new:Option (List AV)):Option (AV×Mem) :=
 match new,blk with
 | some new,some (Blk.cells cs true)=>if new.length=sz∧0<sz∧o+sz≤cs.length then
    some (.tup [],⟨H.set b (.cells (Yz cs o new) true),if (new.all fun v=>v.under (b+1)) then e else Z6 e b⟩) else none
 | _,_=>none
theorem Zt0 (L:List Blk) (sz b o:Nat) (x:AV):ZvI L e sz (.ptr (some (b,o))) x=Zrq L e b L[b]? sz o (JB x):=by
 unfold ZvI Zrq
 cases JB x with
 | none=>rfl
 | some new=>
  simp only []
  cases L[b]? with
  | none=>rfl
  | some B=>cases B with
   | dead=>rfl
   | mp es=>rfl
   | cells cs wr=>cases wr <;> rfl
theorem ZnI (L:List Blk) (b:Nat) (cs new:List AV) (sz o:Nat):Zrq L e b (some (.cells cs true)) sz o (some new) =
  if new.length=sz∧0<sz∧o+sz≤cs.length then some (.tup [],⟨L.set b (.cells (Yz cs o new) true),if (new.all fun v=>v.under (b+1)) then e else Z6 e b⟩) else none:=Eq.trans rfl rfl
theorem Zt1 (c:AV) (cs:List AV) (x:AV) (xs:List AV):Yz (c::cs) 0 (x::xs)=x::Yz cs 0 xs:=by simp [Yz]
theorem ZeP (c:AV) (cs:List AV) (k:Nat) (xs:List AV):Yz (c::cs) (k+1) xs=c::Yz cs k xs:=by
 simp [Yz,Nat.add_right_comm]
theorem Zpi (cs:List AV):Yz cs 0 []=cs:=by simp [Yz]
theorem Zyv (p:AV→Bool) (c:AV) (cs:List AV):(c::cs).all p=(p c&&cs.all p):=rfl
theorem ZzW (p:AV→Bool):([]:List AV).all p=true:=Eq.trans rfl rfl
theorem Yc {x:Int} (h1 : -9223372036854775808≤x) (h2:x≤9223372036854775807):IntKind.i64.wrap x=x:=by
 have:IntKind.i64.wrap x=x:=by
  unfold IntKind.wrap
  simp [IntKind.signed,IntKind.bits]
  omega
 exact this
def Zcz (H:List Blk) (b:Nat):Option (List (List Int×Int)) :=
 match H[b]? with
 | some (.mp es)=>some es
 | _=>none
def ZBL (ok:Bool) (es:Option (List (List Int×Int))) (z:Option (List Int)):Option AV :=
 match es,z with
 | some es,some z=>some (if ok then .tup [.int .i64 ((Zoe es z).getD 0),.bool (Zoe es z).isSome] else .int .i64 ((Zoe es z).getD 0))
 | _,_=>none
theorem Zv3 (ok:Bool) (es:List (List Int×Int)) (z:List Int):ZBL ok (some es) (some z)=some (if ok then .tup [.int .i64 ((Zoe es z).getD 0),.bool (Zoe es z).isSome] else .int .i64 ((Zoe es z).getD 0)):=Eq.trans rfl rfl
def ZnJ (H:List Blk) (ok:Bool) (v k:AV):Option AV :=
 match v with
 | .map (some b)=>ZBL ok (Zcz H b) (ZuQ k)
 | _=>none
theorem Zrr (L:List Blk) (ok:Bool) (b:Nat) (k:AV):ZnJ L ok (.map (some b)) k=ZBL ok (Zcz L b) (ZuQ k):=Eq.trans rfl rfl
theorem Zio (L:List Blk) (ok:Bool) (x k:X):Zao g L (.getMap ok x k)=ZnJ L ok (g x) (g k):=by
 simp only [Zao,ZnJ,Zcz]
 generalize g x=v
 generalize ZuQ (g k)=z
 cases v with
 | map p=>
  cases p with
  | none=>rfl
  | some b=>
   cases z with
   | none=>simp only [ZBL];cases L[b]? with
    | none=>rfl
    | some B=>cases B <;> rfl
   | some z=>simp only [];cases L[b]? with
    | none=>rfl
    | some B=>cases B <;> rfl
 | _=>rfl
def ZnK (H:List Blk) (v:AV):Option AV :=
 match v with
 | .map (some b)=>(Zcz H b).map fun es=>.int .i64 es.length
 | _=>none
theorem Zrs (L:List Blk) (b:Nat):ZnK L (.map (some b))=(Zcz L b).map fun es=>.int .i64 es.length:=Eq.trans rfl rfl
theorem Zip (L:List Blk) (x:X):Zao g L (.lenMap x)=ZnK L (g x):=by
 simp only [Zao,ZnK,Zcz]
 generalize g x=v
 cases v with
 | map p=>
  cases p with
  | none=>rfl
  | some b=>simp only [];cases L[b]? with
   | none=>rfl
   | some B=>cases B <;> rfl
 | _=>rfl
def ZBM (H:List Blk) (e:Option Nat) (b:Nat) (es:Option (List (List Int×Int))) (z:Option (List Int)) (v:AV):Option (AV×Mem) :=
 match es,z,v with
 | some es,some z,.int .i64 n=>some (.tup [],⟨H.set b (.mp (mput es z n)),e⟩)
 | _,_,_=>none
theorem Zv4 (L:List Blk) (b:Nat) (es:List (List Int×Int)) (z:List Int) (n:Int):ZBM L e b (some es) (some z) (.int .i64 n)=some (.tup [],⟨L.set b (.mp (mput es z n)),e⟩):=Eq.trans rfl rfl
def ZnL (H:List Blk) (e:Option Nat) (x k v:AV):Option (AV×Mem) :=
 match x with
 | .map (some b)=>ZBM H e b (Zcz H b) (ZuQ k) v
 | _=>none
theorem Zrt (L:List Blk) (b:Nat) (k v:AV):ZnL L e (.map (some b)) k v=ZBM L e b (Zcz L b) (ZuQ k) v:=Eq.trans rfl rfl
theorem Zpj (x k v:X):ZbY C g ⟨H,e⟩ (.putMap x k v)=ZnL H e (g x) (g k) (g v):=by
 simp only [ZbY,ZnL,Zcz]
 generalize g x=a
 generalize ZuQ (g k)=z
 generalize g v=y
 cases a with
 | map p=>
  cases p with
  | none=>rfl
  | some b=>
   simp only [ZBM]
   cases z with
   | none=>simp only [];cases H[b]? with
    | none=>rfl
    | some B=>cases B <;> rfl
   | some z=>
    cases y with
    | int kk n=>cases kk with
     | i64=>simp only [];cases H[b]? with
      | none=>rfl
      | some B=>cases B <;> rfl
     | _=>simp only [];cases H[b]? with
      | none=>rfl
      | some B=>cases B <;> rfl
    | _=>simp only [];cases H[b]? with
     | none=>rfl
     | some B=>cases B <;> rfl
 | _=>rfl
theorem Zt2:aop C g ⟨H,e⟩ .newMap=some (.map (some H.length),⟨H++[.mp []],e⟩):=by
 rw [KR rfl];rfl
theorem Zt3 (ok:Bool) (x k:X):aop C g m (.getMap ok x k)=J8 m (ZnJ m.H ok (g x) (g k)):=by
 rw [ZbO rfl,Zio]
theorem Zt4 (x:X):aop C g m (.lenMap x)=J8 m (ZnK m.H (g x)):=by
 rw [ZbO rfl,Zip]
theorem Zt5 (x k v:X):aop C g ⟨H,e⟩ (.putMap x k v)=ZnL H e (g x) (g k) (g v):=by
 rw [KR rfl,Zpj]
theorem ZAK {a b c:Int} (ha:ZrZ a=true) (hb:ZrZ b=true) (hc:ZrZ c=true):ZuQ (.agg [.int .i64 a,.int .i64 b,.int .i64 c])=some [a,b,c]:=by
 simp [ZuQ,Zql,ha,hb,hc]
theorem ZBN {L:List Blk} {b:Nat} {es:List (List Int×Int)} (h:L[b]?=some (.mp es)):Zcz L b=some es:=by
 unfold Zcz;rw [h]
theorem Zt6 (l:List Blk):Zcz (H++l) H.length=Zcz l 0:=by simp [Zcz,List.getElem?_append_right]
theorem Zt7 (l:List Blk) (k:Nat):Zcz (H++l) (H.length+k)=Zcz l k:=by simp [Zcz,List.getElem?_append_right]
theorem Zru (es:List (List Int×Int)) (l:List Blk):Zcz (.mp es::l) 0=some es:=Eq.trans rfl rfl
theorem Zrv (b:Blk) (l:List Blk) (k:Nat):Zcz (b::l) (k+1)=Zcz l k:=Eq.trans rfl rfl
end
attribute [go_sem] Zt2 Zt3 Zrr Zv3 Zt4 Zrs Zt5 Zrt Zv4 Zio Zip Zt6 Zt7 Zru Zrv
attribute [go_sem] Nat.mul_one
attribute [go_sem] ZzM Zx9 Zvj Zta Zya Zx7 Zx8 ZzL Ze7 ZjJ Zh4 Zh5 Zqz Ze8 ZjK Zh6 Zh7 ZqA ZqB Zox ZqC ZjL Zs9 Ze9 ZjN Zh8 Zh9 ZqD Zyh Zvv Zty Zkj Zkk Ztw Zkl Zim Zra Ztx ZlF Zny Zo8 Znz Zrb Zyi Zvw Ztz ZtA ZiT Zo9 ZnA ZlG ZtB ZB1 ZB2 ZB3 ZtC ZtD Zvx ZAU ZzO ZtE Zyj ZAW Zpa Zvy Zyk Zpb Zrc ZlH ZnB ZtF Zvz ZhE ZlI Zko ZlJ Zrd ZtG Zre ZtH Zpc Zrf ZtI ZzP Zrg ZtJ Zyl ZvD Zym ZvE Zyn ZvF Zyo ZvG ZvH ZzS ZiU ZlK ZvJ Zyp Zyq ZlL ZnC ZtK ZvK ZvL ZvM ZvN ZvO ZvP ZvQ ZvR ZvS ZvT ZvU Zpd Zpe ZtL ZvW ZtM ZnD ZtN ZtO ZtP ZtQ Zys Zyt Zrh Zpf Zin JO ZnE ZnF Zrj ZtR ZzT Zkr ZzU ZhF Xe Zcy Zyu ZnH Zt0 ZnI Zt1 ZeP Zpi Zyv ZzW Zrk Zrl Zpg Zrm Zrn ZnG ZtS Zph ZtT ZtU ZvX ZlM ZtV ZlN Zks Zro ZvY Zrp Zmp Zdm ZiV ZtW ZtX ZtY ZvZ Zcx Zgz Zv0 Zv1 ZtZ Zv2 List.map_cons List.map_nil List.getElem?_cons_zero List.getElem?_cons_succ List.getElem?_nil Option.getD_some Option.getD_none List.nil_append List.cons_append List.append_nil List.append_assoc List.set_cons_zero List.set_cons_succ List.length_cons List.length_nil List.length_append Nat.zero_add Nat.add_zero List.take_succ_cons List.take_zero List.drop_succ_cons List.drop_zero if_true if_false Bool.not_true Bool.not_false Bool.true_eq_false Bool.false_and Bool.and_false Bool.or_true Bool.or_false Bool.true_or Bool.false_or Nat.lt_add_one Nat.succ_pos Bool.if_false_right Bool.if_true_left Bool.if_true_right Bool.if_false_left Bool.decide_eq_true Int.toNat_natCast Int.natCast_nonneg Int.ofNat_lt ite_self Bool.true_and Bool.and_true Bool.false_eq_true Bool.not_eq_true' decide_eq_true_eq true_and and_true Option.map_some Option.map_none
@[go_sem] theorem ZBO:type_of% @entry.eq_1:=@entry.eq_1
@[go_sem] theorem ZBP:type_of% @joinEsc.eq_1:=@joinEsc.eq_1
@[go_sem] theorem ZBQ:type_of% @joinEsc.eq_2:=@joinEsc.eq_2
@[go_sem] theorem ZCz:type_of% @if_pos:=@if_pos
end Go.Proofs.YtemcdiajejekoaaGreatDoor.Slim
namespace Go.Proofs.YtemcdiajejekoaaGreatDoor.Slim
open Go
open Nat renaming reduceAdd → Ra, reduceLeDiff → Rb, reduceLT → Rc, reduceEqDiff → Rd
open Nat renaming gcd → Rh, lt_irrefl → Ri, div_le_self → Rr, le_refl → Rt, add_assoc → Rw, add_lt_add_iff_left → Rx, le_add_right → Ry, gcd_pos_of_pos_left → RC, pow_le_pow_right → RD
open List renaming append_assoc → Rj, drop_zero → Rk, getElem?_eq_getElem → Rl, drop_eq_getElem_cons → Rm, all_cons → Rn, all_nil → Ro, drop_length → Rp, append_nil → Rq, getElem?_append_right → Rs, cons_append → Rv, foldl_cons → Rz, nil_append → RA, length_cons → RB
open Bool renaming and_eq_true → Ru, and_eq_true_iff → RE
variable {pr : Zq} {H : List Blk} {e : Option Nat}
abbrev Ld:=Int×Int
def Zu:List Ld→List AV
 | []=>[]
 | l::ls=>.int .i64 l.1::.int .i64 l.2::Zu ls
theorem Yv:∀ ls:List Ld,(Zu ls).length=ls.length*2
 | []=>rfl
 | l::ls=>by simp [Zu,Yv ls];omega
theorem Q0:∀ a b:List Ld,Zu (a++b)=Zu a++Zu b
 | [],b=>rfl
 | l::a,b=>by simp [Zu,Q0 a b]
theorem JP {ls:List Ld} {i:Nat} {l:Ld} (h:ls[i]?=some l):ZdV true (Zu ls) (i*2) 2=some (.agg [.int .i64 l.1,.int .i64 l.2]):=by
 induction ls generalizing i with
 | nil=>simp at h
 | cons a ls ih=>
  cases i with
  | zero=>simp at h;subst h;simp [Zu,ZdV]
  | succ i=>
   simp at h
   rw [show (i+1)*2=i*2+1+1 by omega,Zu,ZhF,ZhF]
   exact ih h
theorem ZeQ {ls:List Ld} {i:Nat} {l:Ld} (sz:Nat) (h:ls[i]?=some l):ZdV false (Zu ls) (i*2) sz=some (.int .i64 l.1):=by
 induction ls generalizing i with
 | nil=>simp at h
 | cons a ls ih=>
  cases i with
  | zero=>simp at h;subst h;simp [Zu,ZdV]
  | succ i=>
   simp at h
   rw [show (i+1)*2=i*2+1+1 by omega,Zu,Zkr,Zkr]
   exact ih h
theorem ZeR {ls:List Ld} {i:Nat} {l:Ld} (sz:Nat) (h:ls[i]?=some l):ZdV false (Zu ls) (i*2+1) sz=some (.int .i64 l.2):=by
 induction ls generalizing i with
 | nil=>simp at h
 | cons a ls ih=>
  cases i with
  | zero=>simp at h;subst h;simp [Zu,ZdV]
  | succ i=>
   simp at h
   rw [show (i+1)*2+1=i*2+1+1+1 by omega,Zu,Zkr,Zkr]
   exact ih h
abbrev slL (b n:Nat) (c:Option Nat):AV:=.slice (some (b,0)) 2 n c
theorem Zc {H:List Blk} {b:Nat} {cs:List AV} (h:Za H b=some cs) (G:List Blk):Za (H++G) b=some cs:=Zri G h
theorem Zw {i:Nat} (h:i<9223372036854775807):IntKind.i64.wrap ((i:Int)+1)=((i+1:Nat):Int):=by
 rw [Yc (by omega) (by omega)];omega
variable {pr : Zq} {H : List Blk} {e : Option Nat}
theorem Z0 (x a b:Int):call T pr Yh [.int .i64 x,.int .i64 a,.int .i64 b] ⟨H,e⟩=some (.bool (decide (a≤x)&&decide (x≤b)),⟨H,e⟩):=by
 rw [Zl Zte]
 simp +contextual only [ZeI,Zmd,go_sem,reduceIte,Ra,Rb,Rc,Rd]
theorem XS (x a b:Int):call T pr JV [.int .i64 x,.int .i64 a,.int .i64 b] ⟨H,e⟩=some (.bool (decide (a≤x)&&decide (x≤b)),⟨H,e⟩):=by
 rw [Zl Zyf]
 simp +contextual only [Zje,Zr9,go_sem,reduceIte,Ra,Rb,Rc,Rd]
theorem Zjg (x:Int):call T pr ZeG [.int .i64 x] ⟨H,e⟩=some (.bool (decide (0≤x)&&decide (x≤60)),⟨H,e⟩):=by
 rw [Zl Zyg]
 simp +contextual only [Zjf,Zsa,XS,go_sem,reduceIte,Ra,Rb,Rc,Rd]
theorem Za9 (x:Int):call T pr XI [.int .i64 x] ⟨H,e⟩=some (.bool (decide (0≤x)&&decide (x≤60)),⟨H,e⟩):=by
 rw [Zl ZqI]
 simp +contextual only [Zc8,ZjQ,Z0,go_sem,reduceIte,Ra,Rb,Rc,Rd]
theorem Zed (x:Int):call T pr JF [.int .i64 x] ⟨H,e⟩=some (.bool (decide (1≤x)&&decide (x≤99)),⟨H,e⟩):=by
 rw [Zl ZoH]
 simp +contextual only [ZbI,Zie,Z0,go_sem,reduceIte,Ra,Rb,Rc,Rd]
def okL (l:Ld):Bool:=(decide (0≤l.1)&&decide (l.1≤60))&&(decide (1≤l.2)&&decide (l.2≤99))
def Y1 (ls:List Ld):Bool:=decide (ls.length≤12)&&ls.all okL
theorem Zrw (x y:Int):call T pr ZaX [.agg [.int .i64 x,.int .i64 y]] ⟨H,e⟩=some (.bool (!okL (x,y)),⟨H,e⟩):=by
 rw [Zl ZqK]
 simp +contextual only [Zda,ZjS,Za9,Zed,go_sem,reduceIte,Ra,Rb,Rc,Rd]
 unfold okL
 by_cases h1:(decide (0≤x)&&decide (x≤60))=true <;> simp [h1,Zmp,Zdm,Zcx]
theorem Ziq {b:Nat} {c:Option Nat} {ls:List Ld} (h:Za H b=some (Zu ls)) :
  ∀ (k i:Nat) (y3 y4:AV),k+i=13→∃ z2 z3 z4,run T pr (.loop XN) ⟨[slL b ls.length c,.bool false,.int .i64 i,y3,y4],⟨H,e⟩⟩ =
   some (if ((ls.drop i).take k).all okL=true then Ex.exit 0 else Ex.ret,⟨[slL b ls.length c,.bool false,z2,z3,z4],⟨H,e⟩⟩)
 | 0,i,y3,y4,hk=>by
  have hi:i=13:=by omega
  subst hi
  refine ⟨.int .i64 13,.bool false,y4,?_⟩
  rw [YA]
  generalize run T pr (.loop XN)=R
  have h12:¬ ((13:Nat):Int)≤12:=by omega
  simp +contextual only [XN,List.take_zero,Ro,h12,decide_false,go_sem,reduceIte,Ra,Rb,Rc,Rd]
  rfl
 | k+1,i,y3,y4,hk=>by
  by_cases hi:i<ls.length
  ·have hl:ls[i]?=some ls[i]:=Rl hi
   have h12:((i:Nat):Int)≤12:=by omega
   obtain ⟨z2,z3,z4,ih⟩:=Ziq (c:=c) h k (i+1) (.bool true) (.bool false) (by omega)
   rw [Rm hi,List.take_succ_cons,Rn]
   have hok:okL ls[i]=((decide (0≤ls[i].1)&&decide (ls[i].1≤60))&&(decide (1≤ls[i].2)&&decide (ls[i].2≤99))):=rfl
   rw [hok,YA]
   generalize run T pr (.loop XN)=R at ih ⊢
   cases h1:(decide (0≤ls[i].1)&&decide (ls[i].1≤60)) with
   | false=>
    refine ⟨.int .i64 i,.bool true,.bool true,?_⟩
    simp +contextual only [XN,h,hi,hl,h1,h12,ZeQ _ hl,ZeR _ hl,Zjg,XS,decide_true,go_sem,reduceIte,Ra,Rb,Rc,Rd]
   | true=>
    cases h2:(decide (1≤ls[i].2)&&decide (ls[i].2≤99)) with
    | false=>
     refine ⟨.int .i64 i,.bool true,.bool true,?_⟩
     simp +contextual only [XN,h,hi,hl,h1,h2,h12,ZeQ _ hl,ZeR _ hl,Zjg,XS,decide_true,go_sem,reduceIte,Ra,Rb,Rc,Rd]
    | true=>
     refine ⟨z2,z3,z4,?_⟩
     simp +contextual only [XN,h,hi,hl,h1,h2,h12,ZeQ _ hl,ZeR _ hl,Zjg,XS,Zw (show i<9223372036854775807 by omega),decide_true,go_sem,reduceIte,Ra,Rb,Rc,Rd]
     exact ih
  ·refine ⟨.int .i64 i,.bool false,y4,?_⟩
   rw [YA]
   generalize run T pr (.loop XN)=R
   have hd:ls.drop i=[]:=List.drop_eq_nil_of_le (by omega)
   simp +contextual only [XN,hd,List.take_nil,Ro,hi,decide_false,go_sem,reduceIte,Ra,Rb,Rc,Rd]
theorem Zpk {b:Nat} {c:Option Nat} {ls:List Ld} (h:Za H b=some (Zu ls)):call T pr Zcm [slL b ls.length c] ⟨H,e⟩=some (.bool (Y1 ls),⟨H,e⟩):=by
 obtain ⟨z2,z3,z4,hl⟩:=Ziq (pr:=pr) (e:=none) (c:=c) h 13 0 .undef .undef rfl
 rw [Zl Zvo]
 have h0:((0:Nat):Int)=0:=rfl
 rw [h0] at hl
 simp +contextual only [Zgf,ZoA,hl,Rk,go_sem,reduceIte,Ra,Rb,Rc,Rd]
 have hr:Y1 ls=(decide (ls.length≤12)&&(ls.take 13).all okL):=by
  unfold Y1
  by_cases h12:ls.length≤12
  ·rw [List.take_of_length_le (by omega)]
  ·simp [h12]
 rw [hr]
 have hi:((ls.length:Nat):Int)≤12↔ls.length≤12:=by omega
 cases h3:(ls.take 13).all okL <;> simp +contextual only [hi,go_sem,reduceIte,Ra,Rb,Rc,Rd] <;> simp [Zdm]
theorem Yk (n:Nat):∀ ls:List Ld,((Zu ls).all fun c=>c.under n)=true
 | []=>rfl
 | l::ls=>by simp [Zu,AV.under,Yk n ls]
theorem Zff {b:Nat} {c:Option Nat} {ls:List Ld} {g:FuncId} {first cap:List AV} {p:Ld→Bool} {r:AV} (h:Za H b=some (Zu ls)) (hn:ls.length≤9223372036854775806)
  (hf:∀ l∈ls,call T pr g (first++AV.agg [.int .i64 l.1,.int .i64 l.2]::cap) ⟨H,e⟩=some (.bool (p l),⟨H,e⟩)) :
  ∀ (k i:Nat) (y3 y6 y7:AV),k+i=ls.length→∃ (j:Nat) (z3 z5 z6 z7:AV),run T pr (.loop Zv) ⟨[slL b ls.length c,.fn g first cap,r,y3,.int .i64 ls.length,.int .i64 i,y6,y7],⟨H,e⟩⟩ =
   some (if (ls.drop i).any p=true then Ex.ret else Ex.exit 0,⟨[slL b ls.length c,.fn g first cap,if (ls.drop i).any p=true then .int .i64 j else r,z3,.int .i64 ls.length,z5,z6,z7],⟨H,e⟩⟩)
 | 0,i,y3,y6,y7,hk=>by
  have hi:i=ls.length:=by omega
  subst hi
  refine ⟨0,y3,.int .i64 ls.length,.bool false,y7,?_⟩
  rw [YA]
  generalize run T pr (.loop Zv)=R
  simp +contextual only [Zv,Ri,decide_false,Rp,List.any_nil,go_sem,reduceIte,Ra,Rb,Rc,Rd]
 | k+1,i,y3,y6,y7,hk=>by
  have hi:i<ls.length:=by omega
  have hl:ls[i]?=some ls[i]:=Rl hi
  have hc:=hf ls[i] (List.getElem_mem hi)
  rw [YA,Rm hi,List.any_cons]
  obtain ⟨j,z3,z5,z6,z7,ih⟩:=Zff (c:=c) (r:=r) h hn hf k (i+1) (.int .i64 i) (.bool true) (.bool false) (by omega)
  generalize run T pr (.loop Zv)=R at ih ⊢
  cases hp:p ls[i] with
  | true=>
   refine ⟨i,.int .i64 i,.int .i64 i,.bool true,.bool true,?_⟩
   rw [hp] at hc
   simp +contextual only [Zv,h,hi,hl,JP hl,hc,decide_true,go_sem,reduceIte,Ra,Rb,Rc,Rd]
  | false=>
   refine ⟨j,z3,z5,z6,z7,?_⟩
   rw [hp] at hc
   simp +contextual only [Zv,h,hi,hl,JP hl,hc,Zw (show i<9223372036854775807 by omega),decide_true,go_sem,reduceIte,Ra,Rb,Rc,Rd]
   exact ih
theorem Zrx {b:Nat} {c:Option Nat} {ls:List Ld} {g:FuncId} {first cap:List AV} {p:Ld→Bool} (h:Za H b=some (Zu ls)) (hn:ls.length≤9223372036854775806)
  (hf:∀ l∈ls,call T pr g (first++AV.agg [.int .i64 l.1,.int .i64 l.2]::cap) ⟨H,none⟩=some (.bool (p l),⟨H,none⟩)) :
  ∃ j:Nat,call T pr ZV [slL b ls.length c,.fn g first cap] ⟨H,e⟩=some (.int .i64 (if ls.any p=true then j else -1),⟨H,e⟩):=by
 obtain ⟨j,z3,z5,z6,z7,hl⟩:=Zff (pr:=pr) (e:=none) (c:=c) (r:=.int .i64 0) h hn hf ls.length 0 .undef .undef .undef rfl
 refine ⟨j,?_⟩
 have h0:((0:Nat):Int)=0:=rfl
 rw [h0] at hl
 rw [Zl Qx]
 simp +contextual only [ZW,XE,hl,go_sem,reduceIte,Ra,Rb,Rc,Rd]
 cases hp:ls.any p <;> simp +contextual only [go_sem,reduceIte,Ra,Rb,Rc,Rd]
theorem ZlO {b:Nat} {c:Option Nat} {ls:List Ld} {g:FuncId} {first cap:List AV} {p:Ld→Bool} (h:Za H b=some (Zu ls)) (hn:ls.length≤9223372036854775806)
  (hf:∀ l∈ls,call T pr g (first++AV.agg [.int .i64 l.1,.int .i64 l.2]::cap) ⟨H,none⟩=some (.bool (p l),⟨H,none⟩)) :
  call T pr ZQ [slL b ls.length c,.fn g first cap] ⟨H,e⟩=some (.bool (ls.any p),⟨H,e⟩):=by
 obtain ⟨j,hl⟩:=Zrx (pr:=pr) (e:=none) (c:=c) h hn hf
 rw [Zl Km]
 simp +contextual only [ZR,Y9,hl,go_sem,reduceIte,Ra,Rb,Rc,Rd]
 cases hp:ls.any p <;> simp +contextual [Zdm,Zcx]
theorem Jo {b:Nat} {c:Option Nat} {ls:List Ld} (h:Za H b=some (Zu ls)):call T pr XT [slL b ls.length c] ⟨H,e⟩=some (.bool (Y1 ls),⟨H,e⟩):=by
 rw [Zl Zvm]
 have hi:(12:Int)<((ls.length:Nat):Int)↔12<ls.length:=by omega
 by_cases h12:ls.length≤12
 ·have hc:=ZlO (pr:=pr) (e:=none) (c:=c) (g:=ZaX) (first:=[]) (cap:=[]) (p:=fun l => !okL l) h (by omega) (fun l _=>Zrw l.1 l.2)
  have h12':¬ 12<ls.length:=by omega
  have hr:Y1 ls = !(ls.any fun l => !okL l):=by
   unfold Y1
   rw [List.any_eq_not_all_not]
   simp [h12]
  rw [hr]
  simp +contextual only [Zd4,ZjP,hc,hi,h12',decide_false,go_sem,reduceIte,Ra,Rb,Rc,Rd]
 ·have h12':12<ls.length:=by omega
  have hr:Y1 ls=false:=by unfold Y1;simp [h12]
  rw [hr]
  simp +contextual only [Zd4,ZjP,hi,h12',decide_true,go_sem,reduceIte,Ra,Rb,Rc,Rd]
def Qz (p:Int) (a:Int) (l:Ld):Int:=IntKind.i64.wrap (a+IntKind.i64.wrap (l.2*IntKind.i64.wrap (l.1 - p)))
def Zf2 (ls:List Ld) (p:Int):Int:=ls.foldl (Qz p) 0
theorem ZbP {b:Nat} {c:Option Nat} {ls:List Ld} {p:Int} {r:AV} (h:Za H b=some (Zu ls)) (hn:ls.length≤9223372036854775806) :
  ∀ (k i:Nat) (a:Int) (G:List Blk) (y4 y8:AV),k+i=ls.length→∃ (G':List Blk) (z4 z8:AV),run T pr (.loop Xd) ⟨[slL b ls.length c,.int .i64 p,r,.int .i64 a,y4,slL b ls.length c,.int .i64 ls.length,.int .i64 i,y8],⟨H++G,e⟩⟩ =
   some (Ex.exit 0,⟨[slL b ls.length c,.int .i64 p,r,.int .i64 ((ls.drop i).foldl (Qz p) a),z4,slL b ls.length c,.int .i64 ls.length,.int .i64 ls.length,z8],⟨H++G',e⟩⟩)
 | 0,i,a,G,y4,y8,hk=>by
  have hi:i=ls.length:=by omega
  subst hi
  refine ⟨G,y4,.bool false,?_⟩
  rw [YA]
  generalize run T pr (.loop Xd)=R
  simp +contextual only [Xd,Ri,decide_false,Rp,List.foldl_nil,go_sem,reduceIte,Ra,Rb,Rc,Rd]
 | k+1,i,a,G,y4,y8,hk=>by
  have hi:i<ls.length:=by omega
  have hl:ls[i]?=some ls[i]:=Rl hi
  rw [YA,Rm hi,Rz]
  obtain ⟨G',z4,z8,ih⟩:=ZbP (c:=c) (p:=p) (r:=r) h hn k (i+1) (Qz p a ls[i]) (G++[.cells [.int .i64 ls[i].1,.int .i64 ls[i].2] true]) (.ptr (some (H.length+G.length,0))) (.bool true) (by omega)
  refine ⟨G',z4,z8,?_⟩
  generalize run T pr (.loop Xd)=R at ih ⊢
  simp +contextual only [Xd,Zc h,hi,hl,JP hl,Zw (show i<9223372036854775807 by omega),decide_true,go_sem,reduceIte,Ra,Rb,Rc,Rd]
  exact ih
theorem QA {b:Nat} {c:Option Nat} {ls:List Ld} (h:Za H b=some (Zu ls)) (hn:ls.length≤9223372036854775806) (p:Int):call T pr YP [slL b ls.length c,.int .i64 p] ⟨H,e⟩=some (.int .i64 (Zf2 ls p),⟨H,e⟩):=by
 obtain ⟨G',z4,z8,hl⟩:=ZbP (pr:=pr) (e:=none) (c:=c) (p:=p) (r:=.int .i64 0) h hn ls.length 0 0 [] .undef .undef rfl
 have h0:((0:Nat):Int)=0:=rfl
 rw [h0,Rq,Rk] at hl
 rw [Zl Zj6]
 simp +contextual only [Qk,Zd6,hl,go_sem,reduceIte,Ra,Rb,Rc,Rd]
 rfl
theorem Zee {b:Nat} {c:Option Nat} {ls:List Ld} {p:Int} {r:AV} (h:Za H b=some (Zu ls)) (hn:ls.length≤9223372036854775806) :
  ∀ (k i:Nat) (a:Int) (y5:AV),k+i=ls.length→∃ (z5:AV),run T pr (.loop Jt) ⟨[slL b ls.length c,.int .i64 p,r,.int .i64 a,.int .i64 i,y5],⟨H,e⟩⟩ =
   some (Ex.exit 0,⟨[slL b ls.length c,.int .i64 p,r,.int .i64 ((ls.drop i).foldl (Qz p) a),.int .i64 ls.length,z5],⟨H,e⟩⟩)
 | 0,i,a,y5,hk=>by
  have hi:i=ls.length:=by omega
  subst hi
  refine ⟨.bool false,?_⟩
  rw [YA]
  generalize run T pr (.loop Jt)=R
  simp +contextual only [Jt,Ri,decide_false,Rp,List.foldl_nil,go_sem,reduceIte,Ra,Rb,Rc,Rd]
 | k+1,i,a,y5,hk=>by
  have hi:i<ls.length:=by omega
  have hl:ls[i]?=some ls[i]:=Rl hi
  rw [YA,Rm hi,Rz]
  obtain ⟨z5,ih⟩:=Zee (c:=c) (p:=p) (r:=r) h hn k (i+1) (Qz p a ls[i]) (.bool true) (by omega)
  refine ⟨z5,?_⟩
  generalize run T pr (.loop Jt)=R at ih ⊢
  simp +contextual only [Jt,h,hi,hl,ZeQ _ hl,ZeR _ hl,Zw (show i<9223372036854775807 by omega),decide_true,go_sem,reduceIte,Ra,Rb,Rc,Rd]
  exact ih
theorem Zpl {b:Nat} {c:Option Nat} {ls:List Ld} (h:Za H b=some (Zu ls)) (hn:ls.length≤9223372036854775806) (p:Int):call T pr Zag [slL b ls.length c,.int .i64 p] ⟨H,e⟩=some (.int .i64 (Zf2 ls p),⟨H,e⟩):=by
 obtain ⟨z5,hl⟩:=Zee (pr:=pr) (e:=none) (c:=c) (p:=p) (r:=.int .i64 0) h hn ls.length 0 0 .undef rfl
 have h0:((0:Nat):Int)=0:=rfl
 rw [h0,Rk] at hl
 rw [Zl ZoN]
 simp +contextual only [ZbN,Zii,hl,go_sem,reduceIte,Ra,Rb,Rc,Rd]
 rfl
def ZcA (ls:List Ld) (a b:Int):Int:=if Zf2 ls a<0 then -1 else if 0<Zf2 ls b then 1 else 0
theorem Zt8 {b:Nat} {c:Option Nat} {ls:List Ld} (h:Za H b=some (Zu ls)) (hn:ls.length≤9223372036854775806) (p q:Int):call T pr Zco [slL b ls.length c,.int .i64 p,.int .i64 q] ⟨H,e⟩=some (.int .i64 (ZcA ls p q),⟨H,e⟩):=by
 rw [Zl Ztl]
 simp +contextual only [ZeM,Zmi,Zpl h hn,go_sem,reduceIte,Ra,Rb,Rc,Rd]
 unfold ZcA
 split
 ·rfl
 ·split <;> rfl
theorem Zkt {b:Nat} {c:Option Nat} {ls:List Ld} (h:Za H b=some (Zu ls)) (hn:ls.length≤9223372036854775806) (p q:Int):call T pr QP [slL b ls.length c,.int .i64 p,.int .i64 q] ⟨H,e⟩=some (.int .i64 (ZcA ls p q),⟨H,e⟩):=by
 rw [Zl ZqT]
 simp +contextual only [Zdg,ZjY,QA h hn,go_sem,reduceIte,Ra,Rb,Rc,Rd]
 unfold ZcA
 split
 ·rfl
 ·split <;> rfl
variable {pr : Zq} {H : List Blk} {e : Option Nat}
variable {pr : Zq} {H : List Blk} {e : Option Nat}
def ZdJ (cap:Option Nat) (j:Nat) (G:List Blk):List Blk:=if cap=some 0 then G else G.set j .dead
theorem YO (cap:Option Nat) (j:Nat) (G:List Blk):(ZdJ cap j G).length=G.length:=by unfold ZdJ;split <;> simp
theorem Zpm {G:List Blk} {j k n sz bytes:Nat} {cs new:List AV} {cap:Option Nat} {str:Bool} {x:AV} (hb:G[j]?=some (.cells cs true)) (hx:YK str (H++G) x=some (k,new)) (hk:0<k)
  (hcs:cs.length=n*sz) (hnew:new.length=k*sz) (hmax:(n+k)*bytes≤maxBytes) (hcap:cap=some 0→n=0) :
  XO (H++G) e str sz bytes (.slice (some (H.length+j,0)) sz n cap) x=some (.slice (some (H.length+G.length,0)) sz (n+k) none,⟨H++(ZdJ cap j G++[.cells (cs++new) true]),e⟩):=by
 unfold XO
 simp only [Zcy,hb,hx]
 rw [if_pos ⟨trivial,hmax,hnew,by omega⟩]
 unfold ZdJ
 by_cases hc:cap=some 0
 ·have hn:=hcap hc
  subst hn
  have:cs=[]:=by simpa using hcs
  subst this
  rw [if_pos ⟨hc,hk⟩,if_pos hc]
  simp
 ·rw [if_neg (fun h=>hc h.1),if_pos trivial,if_neg hc]
  have h1:List.take (n*sz) (List.drop 0 cs)=cs:=by rw [Rk,←hcs,List.take_length]
  rw [h1,ZnH]
  simp
theorem ZbQ (L:List Blk) (n sz:Nat) (cap:Option Nat) (cs:List AV) (b:Nat) (h:Za L b=some cs) (hl:cs.length=n*sz):YK false L (.slice (some (b,0)) sz n cap)=some (n,cs):=by
 unfold YK
 simp only [Bool.false_eq_true,if_false,h]
 rw [if_pos (by omega),Rk,←hl,List.take_length]
abbrev Y5 (ls:List Int):List AV:=ls.map (AV.int .i64)
abbrev slI (b n:Nat) (c:Option Nat):AV:=.slice (some (b,0)) 1 n c
theorem Z2 {ls:List Int} {i:Nat} {x:Int} (sz:Nat) (h:ls[i]?=some x):ZdV false (Y5 ls) i sz=some (.int .i64 x):=by
 rw [ZaQ,List.getElem?_map,h];rfl
theorem ZeS (n:Nat):∀ ls:List Int,((Y5 ls).all fun c=>c.under n)=true
 | []=>rfl
 | l::ls=>by simp [Y5,AV.under]
theorem ZhG:∀ n,Zjl n [.int .i64 0]=Y5 (List.replicate n 0)
 | 0=>rfl
 | n+1=>by
  have:=ZhG n
  unfold Zjl Y5 at *
  simp only [List.replicate_succ,List.flatten_cons,List.map_cons,Rv,RA,this]
theorem ZgA {X:List Int} {i:Nat} {a:Int} (h:i<X.length):Yz (Y5 X) i [.int .i64 a]=Y5 (X.set i a):=by
 induction X generalizing i with
 | nil=>simp at h
 | cons x X ih=>
  cases i with
  | zero=>simp [Y5,Yz]
  | succ i=>
   have:=ih (i:=i) (by simpa using h)
   simp only [Y5,List.map_cons,List.set_cons_succ] at *
   rw [ZeP,this]
def Zba (a b:Int):Bool:=((decide (0≤a)&&decide (a≤60))&&(decide (0≤b)&&decide (b≤60)))&&decide (a≤b)
theorem ZcB (a b:Int):call T pr Zck [.int .i64 a,.int .i64 b] ⟨H,e⟩=some (.bool (Zba a b),⟨H,e⟩):=by
 rw [Zl Ztd]
 simp +contextual only [ZeH,Zmc,Za9,go_sem,reduceIte,Ra,Rb,Rc,Rd]
 rfl
theorem Zmq (a b:Int):call T pr Zcn [.int .i64 a,.int .i64 b] ⟨H,e⟩=some (.bool (Zba a b),⟨H,e⟩):=by
 rw [Zl Zti]
 simp +contextual only [ZeL,Zmg,Zjg,go_sem,reduceIte,Ra,Rb,Rc,Rd]
 rfl
abbrev wr (x:Int):Int:=IntKind.i64.wrap x
variable {pr : Zq} {H : List Blk} {e : Option Nat}
variable {pr : Zq} {H : List Blk} {e : Option Nat}
variable {pr : Zq} {H : List Blk} {e : Option Nat}
variable {pr : Zq} {H : List Blk} {e : Option Nat}
theorem ZlP (P R:List Ld) (r:Ld) (a:Int):Yz (Zu (P++r::R)) (P.length*2) [.int .i64 a]=Zu (P++(a,r.2)::R):=by
 induction P with
 | nil=>simp [Zu,Yz]
 | cons p P ih=>
  simp only [Zu,Rv,RB,Nat.add_mul,Nat.one_mul] at *
  rw [ZeP,ZeP,ih]
variable {pr : Zq} {H : List Blk} {e : Option Nat}
def before (os:List Int) (i:Nat) (lo:Int):Prop:=(i=0∧lo = -1)∨∃ i',i=i'+1∧os[i']?=some lo∧0≤lo
def QB (x:Int):Bool:=decide (1≤x)&&decide (x≤24)
theorem Q1 (x:Int):call T pr XJ [.int .i64 x] ⟨H,e⟩=some (.bool (QB x),⟨H,e⟩):=by
 rw [Zl ZqS]
 simp +contextual only [Zdf,ZjX,Z0,go_sem,reduceIte,Ra,Rb,Rc,Rd]
 rfl
theorem ZcC (x y:Int):call T pr Zcp [.int .i64 x,.int .i64 y] ⟨H,e⟩=some (.bool (QB x&&QB y),⟨H,e⟩):=by
 rw [Zl Zvp]
 simp +contextual only [Zgi,ZoB,XS,go_sem,reduceIte,Ra,Rb,Rc,Rd]
 rfl
abbrev Sg:=Int×Int×Int
def Xj (s:Sg):Bool :=
 if s.1=1 then QB s.2.1&&QB s.2.2 else if s.1=3 then QB s.2.1&&QB s.2.2 else if s.1=2 then QB s.2.1&&decide (s.2.2=0)
 else if s.1=4 then (QB s.2.1&&QB s.2.2)&&decide (s.2.2≤s.2.1) else if s.1=5 then (QB s.2.1&&QB s.2.2)&&decide (s.2.2<s.2.1) else false
theorem Zku (k a b:Int):call T pr ZcX [.agg [.int .i64 k,.int .i64 a,.int .i64 b]] ⟨H,e⟩=some (.bool (Xj (k,a,b)),⟨H,e⟩):=by
 rw [Zl ZqL]
 unfold Xj
 by_cases h1:k=1
 ·simp +contextual only [Jc,KD,Q1,h1,decide_true,go_sem,reduceIte,Ra,Rb,Rc,Rd]
 by_cases h3:k=3
 ·simp +contextual only [Jc,KD,Q1,h3,show ¬ ((3:Int)=1) by omega,decide_true,decide_false,go_sem,reduceIte,Ra,Rb,Rc,Rd]
 by_cases h2:k=2
 ·simp +contextual only [Jc,KD,Q1,h2,show ¬ ((2:Int)=1) by omega,show ¬ ((2:Int)=3) by omega,decide_true,decide_false,go_sem,reduceIte,Ra,Rb,Rc,Rd]
 by_cases h4:k=4
 ·simp +contextual only [Jc,KD,Q1,h4,show ¬ ((4:Int)=1) by omega,show ¬ ((4:Int)=3) by omega,show ¬ ((4:Int)=2) by omega,decide_true,decide_false,go_sem,reduceIte,Ra,Rb,Rc,Rd]
 by_cases h5:k=5
 ·simp +contextual only [Jc,KD,Q1,h5,show ¬ ((5:Int)=1) by omega,show ¬ ((5:Int)=3) by omega,show ¬ ((5:Int)=2) by omega,show ¬ ((5:Int)=4) by omega,decide_true,decide_false,go_sem,reduceIte,Ra,Rb,Rc,Rd]
 ·simp +contextual only [Jc,KD,Q1,h1,h2,h3,h4,h5,decide_true,decide_false,go_sem,reduceIte,Ra,Rb,Rc,Rd]
theorem Zkv (k a b:Int):call T pr ZcY [.agg [.int .i64 k,.int .i64 a,.int .i64 b]] ⟨H,e⟩=some (.bool (Xj (k,a,b)),⟨H,e⟩):=by
 rw [Zl ZqM]
 have hr:∀ x:Int,(decide (1≤x)&&decide (x≤24))=QB x:=fun x=>rfl
 unfold Xj
 by_cases h1:k=1
 ·simp +contextual only [Jd,KE,ZcC,XS,hr,h1,decide_true,go_sem,reduceIte,Ra,Rb,Rc,Rd]
 by_cases h3:k=3
 ·simp +contextual only [Jd,KE,ZcC,XS,hr,h3,show ¬ ((3:Int)=1) by omega,decide_true,decide_false,go_sem,reduceIte,Ra,Rb,Rc,Rd]
 by_cases h2:k=2
 ·simp +contextual only [Jd,KE,ZcC,XS,hr,h2,show ¬ ((2:Int)=1) by omega,show ¬ ((2:Int)=3) by omega,decide_true,decide_false,go_sem,reduceIte,Ra,Rb,Rc,Rd]
 by_cases h4:k=4
 ·simp +contextual only [Jd,KE,ZcC,XS,hr,h4,show ¬ ((4:Int)=1) by omega,show ¬ ((4:Int)=3) by omega,show ¬ ((4:Int)=2) by omega,decide_true,decide_false,go_sem,reduceIte,Ra,Rb,Rc,Rd]
 by_cases h5:k=5
 ·simp +contextual only [Jd,KE,ZcC,XS,hr,h5,show ¬ ((5:Int)=1) by omega,show ¬ ((5:Int)=3) by omega,show ¬ ((5:Int)=2) by omega,show ¬ ((5:Int)=4) by omega,decide_true,decide_false,go_sem,reduceIte,Ra,Rb,Rc,Rd]
 ·simp +contextual only [Jd,KE,ZcC,XS,hr,h1,h2,h3,h4,h5,decide_true,decide_false,go_sem,reduceIte,Ra,Rb,Rc,Rd]
def ZI:List Sg→List AV
 | []=>[]
 | s::ss=>.int .i64 s.1::.int .i64 s.2.1::.int .i64 s.2.2::ZI ss
theorem KI:∀ ss:List Sg,(ZI ss).length=ss.length*3
 | []=>rfl
 | s::ss=>by simp [ZI,KI ss];omega
theorem ZcD {ss:List Sg} {i:Nat} {s:Sg} (h:ss[i]?=some s):ZdV true (ZI ss) (i*3) 3=some (.agg [.int .i64 s.1,.int .i64 s.2.1,.int .i64 s.2.2]):=by
 induction ss generalizing i with
 | nil=>simp at h
 | cons a ss ih=>
  cases i with
  | zero=>simp at h;subst h;simp [ZI,ZdV]
  | succ i=>
   simp at h
   rw [show (i+1)*3=i*3+1+1+1 by omega,ZI,ZhF,ZhF,ZhF]
   exact ih h
theorem Yx (n:Nat):∀ ss:List Sg,((ZI ss).all fun c=>c.under n)=true
 | []=>rfl
 | s::ss=>by simp [ZI,AV.under,Yx n ss]
abbrev slS (b n:Nat) (c:Option Nat):AV:=.slice (some (b,0)) 3 n c
def ZU (ls:List Sg):Bool:=ls.all Xj&&decide (ls.length≤5)
theorem Zfg {q:Nat} {c:Option Nat} {ls:List Sg} (h:Za H q=some (ZI ls)) (hn:ls.length≤9223372036854775806) :
  ∀ (k i:Nat) (G:List Blk) (y2 y6 y7:AV),k+i=ls.length→∃ (G':List Blk) (z2 z5 z6 z7:AV),run T pr (.loop XB) ⟨[slS q ls.length c,.bool false,y2,slS q ls.length c,.int .i64 ls.length,.int .i64 i,y6,y7],⟨H++G,e⟩⟩ =
   some (if (ls.drop i).all Xj=true then Ex.exit 0 else Ex.ret,⟨[slS q ls.length c,.bool false,z2,slS q ls.length c,.int .i64 ls.length,z5,z6,z7],⟨H++G',e⟩⟩)
 | 0,i,G,y2,y6,y7,hk=>by
  have hi:i=ls.length:=by omega
  subst hi
  refine ⟨G,y2,.int .i64 ls.length,.bool false,y7,?_⟩
  rw [YA]
  generalize run T pr (.loop XB)=R
  simp +contextual only [XB,Ri,decide_false,Rp,Ro,go_sem,reduceIte,Ra,Rb,Rc,Rd]
 | k+1,i,G,y2,y6,y7,hk=>by
  have hi:i<ls.length:=by omega
  have hl:ls[i]?=some ls[i]:=Rl hi
  rw [YA,Rm hi,Rn]
  cases h1:Xj ls[i] with
  | false=>
   refine ⟨G++[.cells [.int .i64 ls[i].1,.int .i64 ls[i].2.1,.int .i64 ls[i].2.2] true],.ptr (some (H.length+G.length,0)),.int .i64 i,.bool true,.bool true,?_⟩
   generalize run T pr (.loop XB)=R
   simp +contextual only [XB,Zc h,hi,hl,ZcD hl,Zku,h1,decide_true,go_sem,reduceIte,Ra,Rb,Rc,Rd]
  | true=>
   obtain ⟨G',z2,z5,z6,z7,ih⟩:=Zfg (c:=c) h hn k (i+1) (G++[.cells [.int .i64 ls[i].1,.int .i64 ls[i].2.1,.int .i64 ls[i].2.2] true]) (.ptr (some (H.length+G.length,0))) (.bool true) (.bool false) (by omega)
   refine ⟨G',z2,z5,z6,z7,?_⟩
   generalize run T pr (.loop XB)=R at ih ⊢
   simp +contextual only [XB,Zc h,hi,hl,ZcD hl,Zku,h1,Zw (show i<9223372036854775807 by omega),decide_true,go_sem,reduceIte,Ra,Rb,Rc,Rd]
   exact ih
theorem XP {q:Nat} {c:Option Nat} {ls:List Sg} (h:Za H q=some (ZI ls)) (hn:ls.length≤9223372036854775806):call T pr YE [slS q ls.length c] ⟨H,e⟩=some (.bool (ZU ls),⟨H,e⟩):=by
 obtain ⟨G',z2,z5,z6,z7,hl⟩:=Zfg (pr:=pr) (e:=none) (c:=c) h hn ls.length 0 [] .undef .undef .undef rfl
 have h0:((0:Nat):Int)=0:=rfl
 have hi:decide (((ls.length:Nat):Int)≤5)=decide (ls.length≤5):=decide_eq_decide.mpr (by omega)
 rw [h0,Rq,Rk] at hl
 rw [Zl ZqJ]
 unfold ZU
 cases h1:ls.all Xj <;> rw [h1] at hl <;> simp +contextual only [Zc9,ZjR,hl,hi,go_sem,reduceIte,Ra,Rb,Rc,Rd]
theorem Zef {q:Nat} {c:Option Nat} {ls:List Sg} {x:AV} (h:Za H q=some (ZI ls)) (hn:ls.length≤9223372036854775806) :
  ∀ (k i:Nat) (y4 y5:AV),k+i=ls.length→∃ (z3 z4 z5:AV),run T pr (.loop Y8) ⟨[slS q ls.length c,x,.bool false,.int .i64 i,y4,y5],⟨H,e⟩⟩ =
   some (if (ls.drop i).all Xj=true then Ex.exit 0 else Ex.ret,⟨[slS q ls.length c,x,.bool false,z3,z4,z5],⟨H,e⟩⟩)
 | 0,i,y4,y5,hk=>by
  have hi:i=ls.length:=by omega
  subst hi
  refine ⟨.int .i64 ls.length,.bool false,y5,?_⟩
  rw [YA]
  generalize run T pr (.loop Y8)=R
  simp +contextual only [Y8,Ri,decide_false,Rp,Ro,go_sem,reduceIte,Ra,Rb,Rc,Rd]
 | k+1,i,y4,y5,hk=>by
  have hi:i<ls.length:=by omega
  have hl:ls[i]?=some ls[i]:=Rl hi
  rw [YA,Rm hi,Rn]
  cases h1:Xj ls[i] with
  | false=>
   refine ⟨.int .i64 i,.bool true,.bool true,?_⟩
   generalize run T pr (.loop Y8)=R
   simp +contextual only [Y8,h,hi,hl,ZcD hl,Zkv,h1,decide_true,go_sem,reduceIte,Ra,Rb,Rc,Rd]
  | true=>
   obtain ⟨z3,z4,z5,ih⟩:=Zef (c:=c) (x:=x) h hn k (i+1) (.bool true) (.bool false) (by omega)
   refine ⟨z3,z4,z5,?_⟩
   generalize run T pr (.loop Y8)=R at ih ⊢
   simp +contextual only [Y8,h,hi,hl,ZcD hl,Zkv,h1,Zw (show i<9223372036854775807 by omega),decide_true,go_sem,reduceIte,Ra,Rb,Rc,Rd]
   exact ih
theorem Zir {q:Nat} {c:Option Nat} {ls:List Sg} (h:Za H q=some (ZI ls)) (hn:ls.length≤9223372036854775806):call T pr KN [slS q ls.length c,.int .i64 5] ⟨H,e⟩=some (.bool (ZU ls),⟨H,e⟩):=by
 obtain ⟨z3,z4,z5,hl⟩:=Zef (pr:=pr) (e:=none) (c:=c) (x:=.int .i64 5) h hn ls.length 0 .undef .undef rfl
 have h0:((0:Nat):Int)=0:=rfl
 have hi:decide (((ls.length:Nat):Int)≤5)=decide (ls.length≤5):=decide_eq_decide.mpr (by omega)
 rw [h0,Rk] at hl
 rw [Zl ZoD]
 unfold ZU
 cases h1:ls.all Xj <;> rw [h1] at hl <;> simp +contextual only [ZbE,Zic,hl,hi,go_sem,reduceIte,Ra,Rb,Rc,Rd]
abbrev stV (row:AV) (a b:Int) (chain:AV) (t k:Int):AV:=.agg [row,.int .i64 a,.int .i64 b,chain,.int .i64 t,.int .i64 k]
theorem Zj (lim b:Nat) (e:Option Nat):clean lim (Z6 e b)=(clean lim e&&decide (lim≤b)):=by
 cases e with
 | none=>simp [clean,Z6]
 | some x=>simp [clean,Z6,Nat.le_min]
theorem Zp (lim:Nat):clean lim none=true:=Eq.trans rfl rfl
theorem Zr (n b o sz k:Nat) (c:Option Nat):(AV.slice (some (b,o)) sz k c).under n=decide (b<n):=by simp [AV.under]
theorem Zx (n sz k:Nat) (c:Option Nat):(AV.slice none sz k c).under n=true:=by simp [AV.under]
theorem YQ {G:List Blk} {j1 j2 n1 n2:Nat} {c1 c2:Option Nat} {cs1 cs2:List AV} {w1 w2:Bool} (a b t k:Int) (e0 e1:Option Nat) (hc:clean H.length e1=true) (h1:G[j1]?=some (.cells cs1 w1)) (h2:G[j2]?=some (.cells cs2 w2)) (hne:j1≠j2)
  (u1:(cs1.all fun c=>c.under H.length)=true) (u2:(cs2.all fun c=>c.under H.length)=true) :
  finish 2 H.length e0 (stV (slL (H.length+j1) n1 c1) a b (slS (H.length+j2) n2 c2) t k) ⟨H++G,e1⟩=some (stV (slL H.length n1 c1) a b (slS (H.length+1) n2 c2) t k,⟨H++[.cells cs1 w1,.cells cs2 w2],e0⟩):=by
 have hlt1:¬ H.length+j1<H.length:=by omega
 have hlt2:¬ H.length+j2<H.length:=by omega
 have hne':¬ H.length+j2=H.length+j1:=by omega
 have hr:X6 (AV.roots H.length (stV (slL (H.length+j1) n1 c1) a b (slS (H.length+j2) n2 c2) t k))=[H.length+j1,H.length+j2]:=by
  simp only [AV.roots,AV.roots.go,if_neg hlt1,if_neg hlt2,RA,Rv,Rq]
  simp [X6,hne',hne,Ne.symm hne]
 have hb1:(H++G)[H.length+j1]?=some (.cells cs1 w1):=by rw [Rs (by omega)];simpa using h1
 have hb2:(H++G)[H.length+j2]?=some (.cells cs2 w2):=by rw [Rs (by omega)];simpa using h2
 unfold finish
 simp only [hr]
 have h3:([H.length+j1,H.length+j2].all fun b=>XG H.length (H++G)[b]?)=true:=by
  simp only [Rn,Ro,Bool.and_true,hb1,hb2,XG,u1,u2,Bool.and_self]
 simp only [hc,h3,and_self,if_true]
 have hq:(H.length+j1==H.length+j2)=false:=by simpa using hne
 simp [AV.rename,AV.rename.go,ZaT,hb1,hb2,List.idxOf_cons]
 refine ⟨fun h=>by omega,?_⟩
 rw [if_neg hlt2,hq]
 rfl
theorem Zdo {G:List Blk} {j1 j2 n1 n2:Nat} {c1 c2:Option Nat} {cs1 cs2:List AV} {w1 w2:Bool} (a b t k:Int) (x:Bool) (e0 e1:Option Nat) (hc:clean H.length e1=true) (h1:G[j1]?=some (.cells cs1 w1)) (h2:G[j2]?=some (.cells cs2 w2)) (hne:j1≠j2)
  (u1:(cs1.all fun c=>c.under H.length)=true) (u2:(cs2.all fun c=>c.under H.length)=true) :
  finish 2 H.length e0 (.tup [stV (slL (H.length+j1) n1 c1) a b (slS (H.length+j2) n2 c2) t k,.bool x]) ⟨H++G,e1⟩=some (.tup [stV (slL H.length n1 c1) a b (slS (H.length+1) n2 c2) t k,.bool x],⟨H++[.cells cs1 w1,.cells cs2 w2],e0⟩):=by
 have hlt1:¬ H.length+j1<H.length:=by omega
 have hlt2:¬ H.length+j2<H.length:=by omega
 have hne':¬ H.length+j2=H.length+j1:=by omega
 have hr:X6 (AV.roots H.length (.tup [stV (slL (H.length+j1) n1 c1) a b (slS (H.length+j2) n2 c2) t k,.bool x]))=[H.length+j1,H.length+j2]:=by
  simp only [AV.roots,AV.roots.go,if_neg hlt1,if_neg hlt2,RA,Rv,Rq]
  simp [X6,hne',hne,Ne.symm hne]
 have hb1:(H++G)[H.length+j1]?=some (.cells cs1 w1):=by rw [Rs (by omega)];simpa using h1
 have hb2:(H++G)[H.length+j2]?=some (.cells cs2 w2):=by rw [Rs (by omega)];simpa using h2
 unfold finish
 simp only [hr]
 have h3:([H.length+j1,H.length+j2].all fun b=>XG H.length (H++G)[b]?)=true:=by
  simp only [Rn,Ro,Bool.and_true,hb1,hb2,XG,u1,u2,Bool.and_self]
 simp only [hc,h3,and_self,if_true]
 have hq:(H.length+j1==H.length+j2)=false:=by simpa using hne
 simp [AV.rename,AV.rename.go,ZaT,hb1,hb2,List.idxOf_cons]
 refine ⟨fun h=>by omega,?_⟩
 rw [if_neg hlt2,hq]
 rfl
theorem ZgB {G:List Blk} {s1 s2 n1 n2:Nat} {c1 c2:Option Nat} (a b t k:Int) (x:Bool) (e0 e1:Option Nat) (hc:clean H.length e1=true) :
  finish 2 H.length e0 (.tup [stV (.slice none s1 n1 c1) a b (.slice none s2 n2 c2) t k,.bool x]) ⟨H++G,e1⟩=some (.tup [stV (.slice none s1 n1 c1) a b (.slice none s2 n2 c2) t k,.bool x],⟨H,e0⟩):=by
 have hr:X6 (AV.roots H.length (.tup [stV (.slice none s1 n1 c1) a b (.slice none s2 n2 c2) t k,.bool x]))=[]:=rfl
 unfold finish
 simp only [hr]
 simp [AV.rename,AV.rename.go,hc]
def J5 (a b t k:Int):Bool:=Zba a b&&((decide (0≤k)&&decide (k≤1000))&&(decide (0≤t)&&decide (t≤k)))
theorem Zbb {row chain:AV} {x y:Bool} (hr:∀ G,call T pr XT [row] ⟨H++G,none⟩=some (.bool x,⟨H++G,none⟩)) (hc:∀ G,call T pr YE [chain] ⟨H++G,none⟩=some (.bool y,⟨H++G,none⟩)) (a b t k:Int) :
  call T pr YD [stV row a b chain t k] ⟨H,e⟩=some (.bool (x&&(y&&J5 a b t k)),⟨H,e⟩):=by
 rw [Zl ZqG]
 cases x with
 | false=>simp +contextual only [JH,QS,hr,go_sem,reduceIte,Ra,Rb,Rc,Rd]
 | true=>
  unfold J5
  cases h1:Zba a b with
  | false=>simp +contextual only [JH,QS,hr,ZcB,h1,go_sem,reduceIte,Ra,Rb,Rc,Rd]
  | true=>
   cases y with
   | false=>simp +contextual only [JH,QS,hr,hc,ZcB,h1,go_sem,reduceIte,Ra,Rb,Rc,Rd]
   | true=>
    cases h2:(decide (0≤k)&&decide (k≤1000)) with
    | false=>simp +contextual only [JH,QS,hr,hc,ZcB,Z0,h1,h2,go_sem,reduceIte,Ra,Rb,Rc,Rd]
    | true=>simp +contextual only [JH,QS,hr,hc,ZcB,Z0,h1,h2,go_sem,reduceIte,Ra,Rb,Rc,Rd]
theorem Zkw {row chain:AV} {x y:Bool} (hr:∀ G,call T pr Zcm [row] ⟨H++G,none⟩=some (.bool x,⟨H++G,none⟩)) (hc:∀ G,call T pr KN [chain,.int .i64 5] ⟨H++G,none⟩=some (.bool y,⟨H++G,none⟩)) (a b t k:Int) :
  call T pr KB [stV row a b chain t k] ⟨H,e⟩=some (.bool (x&&(y&&J5 a b t k)),⟨H,e⟩):=by
 have h0:∀ G,call T pr Zjc [row,.int .i64 a,.int .i64 b] ⟨H++G,none⟩=some (.bool (x&&Zba a b),⟨H++G,none⟩):=by
  intro G
  have hrG:=hr G
  generalize H++G=L at hrG ⊢
  rw [Zl Zye]
  cases x with
  | false=>simp +contextual only [Zgd,Zm8,hrG,go_sem,reduceIte,Ra,Rb,Rc,Rd]
  | true=>simp +contextual only [Zgd,Zm8,hrG,Zmq,go_sem,reduceIte,Ra,Rb,Rc,Rd]
 rw [Zl ZqH]
 unfold J5
 cases h2:(x&&Zba a b) with
 | false=>
  have h3:(x&&(y&&(Zba a b&&((decide (0≤k)&&decide (k≤1000))&&(decide (0≤t)&&decide (t≤k))))))=false:=by
   cases x <;> cases hb:Zba a b <;> simp_all
  rw [h3]
  simp +contextual only [KC,Za1,h0,h2,go_sem,reduceIte,Ra,Rb,Rc,Rd]
 | true=>
  obtain ⟨rfl,h4⟩:=RE.mp h2
  rw [h4]
  cases y with
  | false=>simp +contextual only [KC,Za1,h0,h2,hc,go_sem,reduceIte,Ra,Rb,Rc,Rd]
  | true=>
   cases h5:(decide (0≤k)&&decide (k≤1000)) with
   | false=>simp +contextual only [KC,Za1,h0,h2,hc,XS,h5,go_sem,reduceIte,Ra,Rb,Rc,Rd]
   | true=>simp +contextual only [KC,Za1,h0,h2,hc,XS,h5,go_sem,reduceIte,Ra,Rb,Rc,Rd]
theorem Zry {row chain:AV} {x y:Bool} (hr:∀ G,call T pr Zcm [row] ⟨H++G,none⟩=some (.bool x,⟨H++G,none⟩)) (hc:∀ G,call T pr KN [chain,.int .i64 5] ⟨H++G,none⟩=some (.bool y,⟨H++G,none⟩)) (a b t k:Int) :
  call T pr ZcW [stV row a b chain t k] ⟨H,e⟩=some (.bool (x&&(y&&J5 a b t k)),⟨H,e⟩):=by
 have h1:∀ G,call T pr KB [stV row a b chain t k] ⟨H++G,none⟩=some (.bool (x&&(y&&J5 a b t k)),⟨H++G,none⟩) :=
  fun G=>Zkw (fun X=>by rw [Rj];exact hr _) (fun X=>by rw [Rj];exact hc _) a b t k
 rw [Zl ZqE]
 simp +contextual only [Zc5,ZjO,h1,go_sem,reduceIte,Ra,Rb,Rc,Rd]
theorem Zrz {L:List Blk} {b:Nat} (sz bytes:Nat) (h:L[b]?=some (.cells [] true)):XO L e false sz bytes (.slice (some (b,0)) sz 0 (some 0)) (.slice none 0 0 none)=some (.slice (some (L.length,0)) sz 0 none,⟨L.set b .dead++[.cells [] true],e⟩):=by
 unfold XO
 simp [h,YK]
theorem ZlQ (a b t k:Int):call T pr ZaO [stV (.slice none 0 0 none) a b (.slice none 0 0 none) t k] ⟨H,e⟩ =
  some (stV (slL H.length 0 none) a b (slS (H.length+1) 0 none) t k,⟨H++[.cells [] true,.cells [] true],e⟩):=by
 have hf:∀ (B0 B1 B2 B3 B5:Blk) (e0 e1:Option Nat),clean H.length e1=true→finish 2 H.length e0 (stV (slL (H.length+4) 0 none) a b (slS (H.length+6) 0 none) t k) ⟨H++[B0,B1,B2,B3,.cells [] true,B5,.cells [] true],e1⟩=some (stV (slL H.length 0 none) a b (slS (H.length+1) 0 none) t k,⟨H++[.cells [] true,.cells [] true],e0⟩) :=
  fun B0 B1 B2 B3 B5 e0 e1 hc=>YQ a b t k e0 e1 hc rfl rfl (by decide) rfl rfl
 rw [Zl Zmm]
 simp +contextual only [Zcq,Zhs,Zb,Zrz,hf,Zr,Zx,Rw,Rx,Ri,decide_false,Zj,Zp,Ry,Rt,decide_true,go_sem,reduceIte,Ra,Rb,Rc,Rd]
theorem ZiW (a b:Int) (h:Zba a b=true):call T pr Zbv [.int .i64 a,.int .i64 b] ⟨H,e⟩ =
  some (.tup [stV (slL H.length 0 none) a b (slS (H.length+1) 0 none) 0 0,.bool true],⟨H++[.cells [] true,.cells [] true],e⟩):=by
 have hf:∀ (B0:Blk) (e0 e1:Option Nat),clean H.length e1=true→finish 2 H.length e0 (.tup [stV (slL (H.length+1) 0 none) a b (slS (H.length+2) 0 none) 0 0,.bool true]) ⟨H++[B0,.cells [] true,.cells [] true],e1⟩=some (.tup [stV (slL H.length 0 none) a b (slS (H.length+1) 0 none) 0 0,.bool true],⟨H++[.cells [] true,.cells [] true],e0⟩) :=
  fun B0 e0 e1 hc=>Zdo a b 0 0 true e0 e1 hc rfl rfl (by decide) rfl rfl
 rw [Zl ZoG]
 simp +contextual only [ZbH,Zid,Zmq,h,Zb,ZlQ,hf,Zr,Zx,Rw,Rx,Ri,decide_false,Zj,Zp,Ry,Rt,decide_true,go_sem,reduceIte,Ra,Rb,Rc,Rd]
theorem Zca {x:Nat} (h:x≤9223372036854775807):IntKind.i64.wrap (x:Int)=(x:Int):=Yc (by omega) (by omega)
theorem Zfh {r:AV}:∀ (k b a:Nat) (y:AV),b≤k→∃ z,run T pr (.loop J3) ⟨[.int .i64 a,.int .i64 b,r,y],⟨H,e⟩⟩=some (Ex.exit 0,⟨[.int .i64 (Rh b a:Nat),.int .i64 0,r,z],⟨H,e⟩⟩)
 | k,0,a,y,hk=>by
  refine ⟨.bool false,?_⟩
  have h0:((0:Nat):Int)=0:=rfl
  rw [YA,Nat.gcd_zero_left,h0]
  generalize run T pr (.loop J3)=R
  simp +contextual only [J3,Int.lt_irrefl,decide_false,go_sem,reduceIte,Ra,Rb,Rc,Rd]
 | 0,b+1,a,y,hk=>by omega
 | k+1,b+1,a,y,hk=>by
  have hm:a % (b+1)<b+1:=Nat.mod_lt _ (by omega)
  obtain ⟨z,ih⟩:=Zfh (r:=r) k (a % (b+1)) (b+1) (.bool true) (by omega)
  refine ⟨z,?_⟩
  have hg:Rh (b+1) a=Rh (a % (b+1)) (b+1):=Nat.gcd_rec _ _
  have ht:Int.tmod (a:Int) ((b+1:Nat):Int)=((a % (b+1):Nat):Int):=rfl
  have hp:(0:Int)<((b+1:Nat):Int):=by omega
  have hne:¬ ((b+1:Nat):Int)=0:=by omega
  rw [YA,hg]
  generalize run T pr (.loop J3)=R at ih ⊢
  simp +contextual only [J3,hp,hne,ht,decide_true,go_sem,reduceIte,Ra,Rb,Rc,Rd]
  exact ih
theorem ZrA (a b:Nat):call T pr Zc3 [.int .i64 a,.int .i64 b] ⟨H,e⟩=some (.int .i64 (Rh b a:Nat),⟨H,e⟩):=by
 obtain ⟨z,hl⟩:=Zfh (pr:=pr) (H:=H) (e:=none) (r:=.int .i64 0) b b a .undef (Rt _)
 rw [Zl ZqU]
 simp +contextual only [Zdi,ZjZ,hl,go_sem,reduceIte,Ra,Rb,Rc,Rd]
theorem Yl (a b:Int):call T pr ZaP [.int .i64 a,.int .i64 b] ⟨H,e⟩=some (.int .i64 (if b<a then a else b),⟨H,e⟩):=by
 rw [Zl Zto]
 by_cases h:b<a <;> simp +contextual only [ZeN,Zmj,h,decide_true,decide_false,go_sem,reduceIte,Ra,Rb,Rc,Rd]
def fracA (x y:Nat):Nat:=x / Rh y x
def fracB (x y:Nat):Nat:=y / Rh y x
abbrev fvV (x y:Nat):AV:=.agg [.int .i64 x,.int .i64 y]
theorem Zt9 {x y:Nat} (hy:0<y) (hx1:x≤4611686018427387904) (hy1:y≤4611686018427387904) :
  ¬ ((Rh y x:Nat):Int)=0∧IntKind.i64.wrap (Int.tdiv (x:Int) (Rh y x:Nat))=(fracA x y:Int)∧IntKind.i64.wrap (Int.tdiv (y:Int) (Rh y x:Nat))=(fracB x y:Int):=by
 have hg:0<Rh y x:=RC _ hy
 have h1:fracA x y≤x:=Rr _ _
 have h2:fracB x y≤y:=Rr _ _
 refine ⟨by omega,?_,?_⟩
 ·have:Int.tdiv (x:Int) (Rh y x:Nat)=(fracA x y:Int):=rfl
  rw [this];exact Zca (by omega)
 ·have:Int.tdiv (y:Int) (Rh y x:Nat)=(fracB x y:Int):=rfl
  rw [this];exact Zca (by omega)
theorem JQ {x y:Nat} (hy:0<y) (hx1:x≤4611686018427387904) (hy1:y≤4611686018427387904):call T pr Y6 [.int .i64 x,.int .i64 y] ⟨H,e⟩=some (fvV (fracA x y) (fracB x y),⟨H,e⟩):=by
 obtain ⟨h1,h2,h3⟩:=Zt9 hy hx1 hy1
 have hw:IntKind.i64.wrap (0 - (x:Int))=0 - (x:Int):=Yc (by omega) (by omega)
 have hm:¬ (0 - (x:Int)>(x:Int)):=by omega
 have hm':¬ ((x:Int)<0 - (x:Int)):=by omega
 rw [Zl ZoL]
 simp +contextual only [ZbL,Zig,hw,hm,hm',ZrA,Zb,h1,h2,h3,go_sem,reduceIte,Ra,Rb,Rc,Rd]
theorem ZgC {x y:Nat} (hx:0<x) (hy:0<y):0<fracA x y∧0<fracB x y∧fracA x y≤x∧fracB x y≤y:=by
 have hg:0<Rh y x:=RC _ hy
 refine ⟨Nat.div_pos (Nat.le_of_dvd hx (Nat.gcd_dvd_right _ _)) hg,Nat.div_pos (Nat.le_of_dvd hy (Nat.gcd_dvd_left _ _)) hg,Rr _ _,Rr _ _⟩
def gainA (s:Sg):Nat:=if s.1=2 then s.2.1.toNat else if s.1=5 then fracA (2*s.2.1.toNat) (s.2.1.toNat - s.2.2.toNat) else fracA s.2.1.toNat s.2.2.toNat
def gainB (s:Sg):Nat:=if s.1=2 then 1 else if s.1=5 then fracB (2*s.2.1.toNat) (s.2.1.toNat - s.2.2.toNat) else fracB s.2.1.toNat s.2.2.toNat
theorem Zkx {s:Sg} (h:Xj s=true):(1≤s.2.1∧s.2.1≤24)∧(s.1≠2→1≤s.2.2∧s.2.2≤24)∧(s.1=5→s.2.2<s.2.1):=by
 unfold Xj QB at h
 by_cases h1:s.1=1
 ·rw [if_pos h1] at h
  simp at h
  exact ⟨h.1,fun _=>h.2,fun h5=>by omega⟩
 rw [if_neg h1] at h
 by_cases h3:s.1=3
 ·rw [if_pos h3] at h
  simp at h
  exact ⟨h.1,fun _=>h.2,fun h5=>by omega⟩
 rw [if_neg h3] at h
 by_cases h2:s.1=2
 ·rw [if_pos h2] at h
  simp at h
  exact ⟨h.1,fun hn=>absurd h2 hn,fun h5=>by omega⟩
 rw [if_neg h2] at h
 by_cases h4:s.1=4
 ·rw [if_pos h4] at h
  simp at h
  exact ⟨h.1.1,fun _=>h.1.2,fun h5=>by omega⟩
 rw [if_neg h4] at h
 by_cases h5:s.1=5
 ·rw [if_pos h5] at h
  simp at h
  exact ⟨h.1.1,fun _=>h.1.2,fun _=>h.2⟩
 rw [if_neg h5] at h
 cases h
theorem ZfK {s:Sg} (h:Xj s=true):0<gainA s∧gainA s≤48∧0<gainB s∧gainB s≤24:=by
 obtain ⟨h1,h2,h3⟩:=Zkx h
 unfold gainA gainB
 by_cases k2:s.1=2
 ·simp only [if_pos k2];omega
 ·simp only [if_neg k2]
  have:=h2 k2
  by_cases k5:s.1=5
  ·simp only [if_pos k5]
   have:=h3 k5
   obtain ⟨f1,f2,f3,f4⟩:=ZgC (x:=2*s.2.1.toNat) (y:=s.2.1.toNat - s.2.2.toNat) (by omega) (by omega)
   omega
  ·simp only [if_neg k5]
   obtain ⟨f1,f2,f3,f4⟩:=ZgC (x:=s.2.1.toNat) (y:=s.2.2.toNat) (by omega) (by omega)
   omega
theorem ZgD (s:Sg) (h:Xj s=true):call T pr K7 [.agg [.int .i64 s.1,.int .i64 s.2.1,.int .i64 s.2.2]] ⟨H,e⟩=some (fvV (gainA s) (gainB s),⟨H,e⟩):=by
 obtain ⟨h1,h2,h3⟩:=Zkx h
 obtain ⟨k,a,b⟩:=s
 simp only at h1 h2 h3 ⊢
 obtain ⟨a,rfl⟩:∃ n:Nat,a=n:=⟨a.toNat,by omega⟩
 rw [Zl Zni]
 unfold gainA gainB
 simp only [Int.toNat_natCast]
 by_cases k2:k=2
 ·subst k2
  simp +contextual only [J2,ZaG,Zb,decide_true,go_sem,reduceIte,Ra,Rb,Rc,Rd]
  rfl
 ·have hb:=h2 k2
  obtain ⟨b,rfl⟩:∃ n:Nat,b=n:=⟨b.toNat,by omega⟩
  simp only [Int.toNat_natCast]
  by_cases k5:k=5
  ·subst k5
   have hlt:=h3 rfl
   have hw1:IntKind.i64.wrap (2*(a:Int))=((2*a:Nat):Int):=by rw [show (2*(a:Int))=((2*a:Nat):Int) by omega];exact Zca (by omega)
   have hw2:IntKind.i64.wrap ((a:Int) - (b:Int))=((a - b:Nat):Int):=by rw [show ((a:Int) - (b:Int))=((a - b:Nat):Int) by omega];exact Zca (by omega)
   have hf:=fun L e'=>JQ (pr:=pr) (H:=L) (e:=e') (x:=2*a) (y:=a - b) (by omega) (by omega) (by omega)
   simp +contextual only [J2,ZaG,Zb,show ¬ ((5:Int)=2) by omega,hw1,hw2,hf,decide_true,decide_false,go_sem,reduceIte,Ra,Rb,Rc,Rd]
  ·have hf:=fun L e'=>JQ (pr:=pr) (H:=L) (e:=e') (x:=a) (y:=b) (by omega) (by omega) (by omega)
   simp +contextual only [J2,ZaG,Zb,k2,k5,hf,decide_true,decide_false,go_sem,reduceIte,Ra,Rb,Rc,Rd]
def ZS:Nat→Nat→List Sg→Nat
 | P,_,[]=>P
 | P,Q,s::ss=>ZS (fracA (P*gainA s) (Q*gainB s)) (fracB (P*gainA s) (Q*gainB s)) ss
def ZX:Nat→Nat→List Sg→Nat
 | _,Q,[]=>Q
 | P,Q,s::ss=>ZX (fracA (P*gainA s) (Q*gainB s)) (fracB (P*gainA s) (Q*gainB s)) ss
theorem Zpn {s:Sg} {P Q i:Nat} (h:Xj s=true) (hP:0<P∧P≤48 ^ i) (hQ:0<Q∧Q≤24 ^ i) (hi:i<5) :
  (0<P*gainA s∧P*gainA s≤48 ^ (i+1))∧(0<Q*gainB s∧Q*gainB s≤24 ^ (i+1))∧48 ^ (i+1)≤254803968∧24 ^ (i+1)≤254803968:=by
 obtain ⟨g1,g2,g3,g4⟩:=ZfK h
 refine ⟨⟨Nat.mul_pos hP.1 g1,?_⟩,⟨Nat.mul_pos hQ.1 g3,?_⟩,?_,?_⟩
 ·rw [Nat.pow_succ];exact Nat.mul_le_mul hP.2 g2
 ·rw [Nat.pow_succ];exact Nat.mul_le_mul hQ.2 g4
 ·have:48 ^ (i+1)≤48 ^ 5:=RD (by omega) (by omega)
  have h2:(48:Nat) ^ 5=254803968:=by decide
  omega
 ·have:24 ^ (i+1)≤24 ^ 5:=RD (by omega) (by omega)
  have h2:(24:Nat) ^ 5=7962624:=by decide
  omega
theorem Zeg:∀ (ss:List Sg) (i P Q:Nat),ss.all Xj=true→ss.length+i≤5→(0<P∧P≤48 ^ i)→(0<Q∧Q≤24 ^ i)→0<ZS P Q ss∧ZS P Q ss≤254803968∧0<ZX P Q ss∧ZX P Q ss≤254803968
 | [],i,P,Q,_,hi,hP,hQ=>by
  have h1:48 ^ i≤48 ^ 5:=RD (by omega) (by simpa using hi)
  have h2:(48:Nat) ^ 5=254803968:=by decide
  have h3:24 ^ i≤24 ^ 5:=RD (by omega) (by simpa using hi)
  have h4:(24:Nat) ^ 5=7962624:=by decide
  rw [ZS,ZX]
  omega
 | s::ss,i,P,Q,ha,hi,hP,hQ=>by
  rw [Rn,Ru] at ha
  rw [RB] at hi
  obtain ⟨⟨g1,g2⟩,⟨g3,g4⟩,_,_⟩:=Zpn ha.1 hP hQ (by omega)
  obtain ⟨f1,f2,f3,f4⟩:=ZgC g1 g3
  rw [ZS,ZX]
  exact Zeg ss (i+1) _ _ ha.2 (by omega) ⟨f1,by omega⟩ ⟨f2,by omega⟩
theorem ZgE:(0:Int)<((2:Nat):Int):=by omega
theorem ZgF:(1:Int)<((2:Nat):Int):=by omega
theorem ZfL:(0:Int)≤1:=by omega
theorem ZdK {q:Nat} {c:Option Nat} {ls:List Sg} {R0:Blk} {y1:AV} (h:Za H q=some (ZI ls)) (hall:ls.all Xj=true) (hn:ls.length≤5) :
  ∀ (k i P Q:Nat) (G:List Blk) (y3 y4 y8:AV),k+i=ls.length→(0<P∧P≤48 ^ i)→(0<Q∧Q≤24 ^ i)→∃ (G':List Blk) (z3 z4 z8:AV),run T pr (.loop XX) ⟨[slS q ls.length c,y1,.ptr (some (H.length+1,0)),y3,y4,slS q ls.length c,.int .i64 ls.length,.int .i64 i,y8],⟨H++(R0::.cells [.int .i64 P,.int .i64 Q] true::G),none⟩⟩ =
   some (Ex.exit 0,⟨[slS q ls.length c,y1,.ptr (some (H.length+1,0)),z3,z4,slS q ls.length c,.int .i64 ls.length,.int .i64 ls.length,z8],⟨H++(R0::.cells [.int .i64 (ZS P Q (ls.drop i)),.int .i64 (ZX P Q (ls.drop i))] true::G'),none⟩⟩)
 | 0,i,P,Q,G,y3,y4,y8,hk,hP,hQ=>by
  have hi:i=ls.length:=by omega
  subst hi
  refine ⟨G,y3,y4,.bool false,?_⟩
  rw [YA]
  generalize run T pr (.loop XX)=R
  simp +contextual only [XX,Ri,decide_false,Rp,ZS,ZX,go_sem,reduceIte,Ra,Rb,Rc,Rd]
 | k+1,i,P,Q,G,y3,y4,y8,hk,hP,hQ=>by
  have hi:i<ls.length:=by omega
  have hl:ls[i]?=some ls[i]:=Rl hi
  have hs:Xj ls[i]=true:=(List.all_eq_true.mp hall) _ (List.getElem_mem hi)
  rw [YA,Rm hi,ZS,ZX]
  generalize hx:ls[i]=s at hl hs ⊢
  obtain ⟨⟨g1,g2⟩,⟨g3,g4⟩,g5,g6⟩:=Zpn hs hP hQ (by omega)
  obtain ⟨f1,f2,f3,f4⟩:=ZgC g1 g3
  have w1:IntKind.i64.wrap ((P:Int)*(gainA s:Int))=((P*gainA s:Nat):Int):=by rw [←Int.natCast_mul];exact Zca (by omega)
  have w2:IntKind.i64.wrap ((Q:Int)*(gainB s:Int))=((Q*gainB s:Nat):Int):=by rw [←Int.natCast_mul];exact Zca (by omega)
  have hf:=fun L=>JQ (pr:=pr) (H:=L) (e:=none) (x:=P*gainA s) (y:=Q*gainB s) g3 (by omega) (by omega)
  obtain ⟨G',z3,z4,z8,ih⟩:=ZdK (c:=c) (R0:=R0) (y1:=y1) h hall hn k (i+1) (fracA (P*gainA s) (Q*gainB s)) (fracB (P*gainA s) (Q*gainB s)) (G++[.cells [.int .i64 s.1,.int .i64 s.2.1,.int .i64 s.2.2] true,.cells [.int .i64 (gainA s:Nat),.int .i64 (gainB s:Nat)] true]) (.ptr (some (H.length+(G.length+1+1),0))) (.ptr (some (H.length+(G.length+1+1+1),0))) (.bool true) (by omega) ⟨f1,by omega⟩ ⟨f2,by omega⟩
  refine ⟨G',z3,z4,z8,?_⟩
  generalize run T pr (.loop XX)=R at ih ⊢
  simp +contextual only [XX,Zc h,hi,hl,ZcD hl,ZgD s hs,ZgE,ZgF,ZfL,Int.le_refl,Int.toNat_zero,Int.toNat_one,Nat.zero_mul,Nat.one_mul,w1,w2,hf,Zw (show i<9223372036854775807 by omega),decide_true,go_sem,reduceIte,Ra,Rb,Rc,Rd]
  exact ih
theorem Zdp {q:Nat} {c:Option Nat} {ls:List Sg} (h:Za H q=some (ZI ls)) (hc:ZU ls=true):call T pr Xz [slS q ls.length c] ⟨H,e⟩=some (fvV (ZS 1 1 ls) (ZX 1 1 ls),⟨H,e⟩):=by
 unfold ZU at hc
 rw [Ru,decide_eq_true_eq] at hc
 obtain ⟨G',z3,z4,z8,hl⟩:=ZdK (pr:=pr) (c:=c) (R0:=.cells [.int .i64 0,.int .i64 0] true) (y1:=.ptr (some (H.length,0))) h hc.1 hc.2 ls.length 0 1 1 [] .undef .undef .undef rfl (by decide) (by decide)
 have h0:((0:Nat):Int)=0:=rfl
 have h1:((1:Nat):Int)=1:=rfl
 rw [h0,h1,Rk] at hl
 rw [Zl Znf]
 simp +contextual only [ZaE,Zgj,Zb,hl,go_sem,reduceIte,Ra,Rb,Rc,Rd]
def Q2 (ls:List Ld):Int:=ls.foldl (fun a l=>IntKind.i64.wrap (a+l.2)) 0
theorem Zeh {q:Nat} {c:Option Nat} {ls:List Ld} {r:AV} (h:Za H q=some (Zu ls)) (hn:ls.length≤9223372036854775806) :
  ∀ (k i:Nat) (a:Int) (G:List Blk) (y3 y7:AV),k+i=ls.length→∃ (G':List Blk) (z3 z7:AV),run T pr (.loop Js) ⟨[slL q ls.length c,r,.int .i64 a,y3,slL q ls.length c,.int .i64 ls.length,.int .i64 i,y7],⟨H++G,e⟩⟩ =
   some (Ex.exit 0,⟨[slL q ls.length c,r,.int .i64 ((ls.drop i).foldl (fun a l=>IntKind.i64.wrap (a+l.2)) a),z3,slL q ls.length c,.int .i64 ls.length,.int .i64 ls.length,z7],⟨H++G',e⟩⟩)
 | 0,i,a,G,y3,y7,hk=>by
  have hi:i=ls.length:=by omega
  subst hi
  refine ⟨G,y3,.bool false,?_⟩
  rw [YA]
  generalize run T pr (.loop Js)=R
  simp +contextual only [Js,Ri,decide_false,Rp,List.foldl_nil,go_sem,reduceIte,Ra,Rb,Rc,Rd]
 | k+1,i,a,G,y3,y7,hk=>by
  have hi:i<ls.length:=by omega
  have hl:ls[i]?=some ls[i]:=Rl hi
  rw [YA,Rm hi,Rz]
  obtain ⟨G',z3,z7,ih⟩:=Zeh (c:=c) (r:=r) h hn k (i+1) (IntKind.i64.wrap (a+ls[i].2)) (G++[.cells [.int .i64 ls[i].1,.int .i64 ls[i].2] true]) (.ptr (some (H.length+G.length,0))) (.bool true) (by omega)
  refine ⟨G',z3,z7,?_⟩
  generalize run T pr (.loop Js)=R at ih ⊢
  simp +contextual only [Js,Zc h,hi,hl,JP hl,Zw (show i<9223372036854775807 by omega),decide_true,go_sem,reduceIte,Ra,Rb,Rc,Rd]
  exact ih
theorem ZbR {q:Nat} {c:Option Nat} {ls:List Ld} (h:Za H q=some (Zu ls)) (hn:ls.length≤9223372036854775806):call T pr JE [slL q ls.length c] ⟨H,e⟩=some (.int .i64 (Q2 ls),⟨H,e⟩):=by
 obtain ⟨G',z3,z7,hl⟩:=Zeh (pr:=pr) (e:=none) (c:=c) (r:=.int .i64 0) h hn ls.length 0 0 [] .undef .undef rfl
 have h0:((0:Nat):Int)=0:=rfl
 rw [h0,Rq,Rk] at hl
 rw [Zl ZoC]
 simp +contextual only [ZbD,Zib,hl,go_sem,reduceIte,Ra,Rb,Rc,Rd]
 rfl
theorem Zky:∀ (ls:List Ld) (a:Nat),ls.all okL=true→a+ls.length*99≤1000000→∃ n:Nat,ls.foldl (fun a l=>IntKind.i64.wrap (a+l.2)) (a:Int)=(n:Int)∧n≤a+ls.length*99
 | [],a,_,_=>⟨a,rfl,by simp⟩
 | l::ls,a,h,hb=>by
  rw [Rn,Ru] at h
  rw [RB] at hb
  have h1:=h.1
  unfold okL at h1
  simp only [Ru,decide_eq_true_eq] at h1
  have hw:IntKind.i64.wrap ((a:Int)+l.2)=((a+l.2.toNat:Nat):Int):=by rw [show (a:Int)+l.2=((a+l.2.toNat:Nat):Int) by omega];exact Zca (by omega)
  obtain ⟨n,n1,n2⟩:=Zky ls (a+l.2.toNat) h.2 (by omega)
  refine ⟨n,?_,by rw [RB];omega⟩
  rw [Rz,hw,n1]
theorem ZcE {ls:List Ld} (h:Y1 ls=true):∃ n:Nat,Q2 ls=n∧n≤1000000:=by
 unfold Y1 at h
 rw [Ru,decide_eq_true_eq] at h
 obtain ⟨n,n1,n2⟩:=Zky ls 0 h.2 (by omega)
 exact ⟨n,n1,by omega⟩
theorem ZeT (x:Int):call T pr KO [.int .i64 x] ⟨H,e⟩=some (.bool (decide (0≤x)&&decide (x≤1000000)),⟨H,e⟩):=by
 rw [Zl Ztp]
 simp +contextual only [ZeO,Zmk,Z0,go_sem,reduceIte,Ra,Rb,Rc,Rd]
theorem Zv5 (x y:Nat) (hy:0<y):(fracA x y+fracB x y - 1) / fracB x y=(x+y - 1) / y:=by
 have hg:0<Rh y x:=RC _ hy
 obtain ⟨x',hx'⟩:=Nat.gcd_dvd_right y x
 obtain ⟨y',hy'⟩:=Nat.gcd_dvd_left y x
 unfold fracA fracB
 generalize hgg:Rh y x=g at *
 have h1:x / g=x':=by rw [hx',Nat.mul_div_cancel_left _ hg]
 have h2:y / g=y':=by rw [hy',Nat.mul_div_cancel_left _ hg]
 rw [h1,h2]
 have hy'0:0<y':=by
  rcases Nat.eq_zero_or_pos y' with h | h
  ·rw [h,Nat.mul_zero] at hy';omega
  ·exact h
 have h3:(x+y - 1) / g=x'+y' - 1:=by
  have h5:x+y - 1=g*(x'+y' - 1)+(g - 1):=by
   have e1:g*(x'+y' - 1)=g*(x'+y') - g:=by rw [Nat.mul_sub,Nat.mul_one]
   have e2:g*(x'+y')=g*x'+g*y':=Nat.mul_add _ _ _
   have e3:g*y'≥g:=Nat.le_mul_of_pos_right _ hy'0
   rw [←hx',←hy'] at e2
   omega
  rw [h5,Nat.mul_add_div hg,Nat.div_eq_of_lt (by omega),Nat.add_zero]
 rw [←h3,Nat.div_div_eq_div_mul,←hy']
def pullW (ss:List Sg) (n:Nat):Nat:=(n*ZX 1 1 ss+ZS 1 1 ss - 1) / ZS 1 1 ss
theorem ZnM {q:Nat} {c:Option Nat} {ss:List Sg} (h:Za H q=some (ZI ss)) (hc:ZU ss=true) (n:Nat) (hn:n≤1000000):call T pr Zay [slS q ss.length c,.int .i64 n] ⟨H,e⟩=some (.tup [.int .i64 (pullW ss n),.bool true],⟨H,e⟩):=by
 have hc':=hc
 unfold ZU at hc'
 rw [Ru,decide_eq_true_eq] at hc'
 obtain ⟨b1,b2,b3,b4⟩:=Zeg ss 0 1 1 hc'.1 (by omega) (by decide) (by decide)
 have hch:=fun G=>XP (pr:=pr) (e:=none) (c:=c) (Zc h G) (by omega)
 have hcg:=fun G=>Zdp (pr:=pr) (e:=none) (c:=c) (Zc h G) hc
 have hw1:decide ((n:Int)≤1000000)=true:=decide_eq_true (by omega)
 have hpull:pullW ss n=(n*ZX 1 1 ss+ZS 1 1 ss - 1) / ZS 1 1 ss:=rfl
 have hcf:=Zv5 (n*ZX 1 1 ss) (ZS 1 1 ss) b1
 rw [←hpull] at hcf
 have hmul:n*ZX 1 1 ss≤1000000*254803968:=Nat.mul_le_mul hn b4
 generalize ZS 1 1 ss=P at *
 generalize ZX 1 1 ss=Q at *
 have hw2:IntKind.i64.wrap ((n:Int)*(Q:Int))=((n*Q:Nat):Int):=by rw [←Int.natCast_mul];exact Zca (by omega)
 have hf:=fun L=>JQ (pr:=pr) (H:=L) (e:=none) (x:=n*Q) (y:=P) b1 (by omega) (by omega)
 have hfb:0<fracB (n*Q) P:=Nat.div_pos (Nat.le_of_dvd b1 (Nat.gcd_dvd_left _ _)) (RC _ b1)
 have hfa:fracA (n*Q) P≤n*Q:=Rr _ _
 have hfb':fracB (n*Q) P≤P:=Rr _ _
 have hpf:∀ G,call T pr Zc4 [slS q ss.length c,.int .i64 n] ⟨H++G,none⟩=some (.tup [fvV (fracA (n*Q) P) (fracB (n*Q) P),.bool true],⟨H++G,none⟩):=by
  intro G
  have hch':∀ X,call T pr YE [slS q ss.length c] ⟨(H++G)++X,none⟩=some (.bool (ZU ss),⟨(H++G)++X,none⟩):=fun X=>by rw [Rj];exact hch _
  have hcg':∀ X,call T pr Xz [slS q ss.length c] ⟨(H++G)++X,none⟩=some (fvV P Q,⟨(H++G)++X,none⟩):=fun X=>by rw [Rj];exact hcg _
  generalize H++G=L at hch' hcg' ⊢
  rw [Zl ZqV]
  simp +contextual only [Zdj,Zj0,hch',hc,ZeT,hw1,decide_true,hcg',Zb,ZgE,ZgF,ZfL,Int.le_refl,Int.toNat_zero,Int.toNat_one,Nat.zero_mul,Nat.one_mul,hw2,hf,go_sem,reduceIte,Ra,Rb,Rc,Rd]
 have hpf0:=hpf []
 rw [Rq] at hpf0
 generalize fracA (n*Q) P=x at *
 generalize fracB (n*Q) P=y at *
 have hw3:IntKind.i64.wrap ((x:Int)+(y:Int))=((x+y:Nat):Int):=by rw [←Int.natCast_add];exact Zca (by omega)
 have hw4:IntKind.i64.wrap (((x+y:Nat):Int) - 1)=((x+y - 1:Nat):Int):=by rw [show ((x+y:Nat):Int) - 1=((x+y - 1:Nat):Int) by omega];exact Zca (by omega)
 have hy0:¬ (y:Int)=0:=by omega
 have hd:Int.tdiv ((x+y - 1:Nat):Int) (y:Int)=((pullW ss n:Nat):Int):=by rw [←hcf];rfl
 have hle:(x+y - 1) / y≤x+y - 1:=Rr _ _
 have hw5:IntKind.i64.wrap ((pullW ss n:Nat):Int)=((pullW ss n:Nat):Int):=Zca (by omega)
 rw [Zl Znh]
 simp +contextual only [ZaF,Zgk,hpf,hpf0,ZgE,ZgF,ZfL,Int.le_refl,Int.toNat_zero,Int.toNat_one,Nat.zero_mul,Nat.one_mul,hw3,hw4,hy0,hd,hw5,go_sem,reduceIte,Ra,Rb,Rc,Rd]
def rowPullW (ls:List Ld) (ss:List Sg) (ok:Bool):Nat:=if ok=true then pullW ss (Q2 ls).toNat else 0
theorem ZrB {q q':Nat} {c c':Option Nat} {ls:List Ld} {ss:List Sg} (h1:Za H q=some (Zu ls)) (h2:Za H q'=some (ZI ss)) (hn:ls.length≤9223372036854775806) (hm:ss.length≤9223372036854775806) (a b t k:Int) :
  call T pr Zc0 [stV (slL q ls.length c) a b (slS q' ss.length c') t k] ⟨H,e⟩=some (.tup [.int .i64 (rowPullW ls ss (Y1 ls&&(ZU ss&&J5 a b t k))),.bool (Y1 ls&&(ZU ss&&J5 a b t k))],⟨H,e⟩):=by
 have his:∀ G,call T pr YD [stV (slL q ls.length c) a b (slS q' ss.length c') t k] ⟨H++G,none⟩=some (.bool (Y1 ls&&(ZU ss&&J5 a b t k)),⟨H++G,none⟩) :=
  fun G=>Zbb (fun X=>by rw [Rj];exact Jo (Zc h1 _)) (fun X=>by rw [Rj];exact XP (Zc h2 _) hm) a b t k
 rw [Zl ZqP]
 cases hok:(Y1 ls&&(ZU ss&&J5 a b t k)) with
 | false=>
  have h0:((rowPullW ls ss false:Nat):Int)=0:=rfl
  rw [h0]
  simp +contextual only [Za4,ZfA,his,hok,go_sem,reduceIte,Ra,Rb,Rc,Rd]
 | true=>
  obtain ⟨k1,k2⟩:=RE.mp hok
  obtain ⟨k3,k4⟩:=RE.mp k2
  obtain ⟨n,n1,n2⟩:=ZcE k1
  have hr:rowPullW ls ss true=pullW ss n:=by unfold rowPullW;rw [if_pos rfl,n1,Int.toNat_natCast]
  have hwt:=fun G=>ZbR (pr:=pr) (e:=none) (c:=c) (Zc h1 G) hn
  rw [n1] at hwt
  rw [hr]
  simp +contextual only [Za4,ZfA,his,hok,hwt,ZnM (Zc h2 _) k3 n n2,go_sem,reduceIte,Ra,Rb,Rc,Rd]
theorem Zkz (p:Nat×Nat) (sz n:Nat) (c:Option Nat):Xg 3 .eql (.slice (some p) sz n c) (.slice none 0 0 none)=some (.bool false):=Eq.trans rfl rfl
def ZiX (n b:Nat) (L:List Blk):List Blk:=if n=0 then L.set b .dead else L
theorem Zpo (n k:Nat) (l:List Blk):ZiX n (H.length+k) (H++l)=H++ZiX n k l:=by
 unfold ZiX
 split
 ·rw [ZnH]
 ·rfl
theorem ZhH (n:Nat) (l:List Blk):ZiX n H.length (H++l)=H++ZiX n 0 l:=Zpo n 0 l
theorem Zua (n k:Nat) (x:Blk) (l:List Blk):ZiX n (k+1) (x::l)=x::ZiX n k l:=by
 unfold ZiX
 split <;> rfl
theorem ZnN (n:Nat) (x:Blk) (l:List Blk):ZiX n 0 (x::l)=(if n=0 then Blk.dead else x)::l:=by
 unfold ZiX
 split <;> rfl
theorem ZcF {L:List Blk} {b q n sz bytes:Nat} {c:Option Nat} {cs:List AV} (hb:L[b]?=some (.cells [] true)) (hq:Za L q=some cs) (hl:cs.length=n*sz) (hm:n*bytes≤maxBytes) :
  XO L e false sz bytes (.slice (some (b,0)) sz 0 (some 0)) (.slice (some (q,0)) sz n c)=some (.slice (some (L.length,0)) sz n none,⟨ZiX n b L++[.cells cs true],e⟩):=by
 unfold XO
 have hs:=ZbQ L n sz c cs q hq hl
 simp only [hb,hs]
 rw [if_pos (by simp [hm,hl])]
 unfold ZiX
 by_cases hn:n=0
 ·subst hn
  have:cs=[]:=by simpa using hl
  subst this
  simp
 ·rw [if_pos ⟨trivial,by omega⟩,if_neg hn]
  simp
theorem Zpp {q:Nat} {c:Option Nat} {ls:List Ld} (h:Za H q=some (Zu ls)) (hn:ls.length≤1048576):call T pr Yf [slL q ls.length c] ⟨H,e⟩=some (slL H.length ls.length none,⟨H++[.cells (Zu ls) true],e⟩):=by
 have ha:=fun L b e' (hb:L[b]?=some (.cells [] true)) hq=>ZcF (e:=e') (L:=L) (b:=b) (q:=q) (n:=ls.length) (sz:=2) (bytes:=16) (c:=c) (cs:=Zu ls) hb hq (Yv ls) (by unfold maxBytes;omega)
 have hf:∀ (B:Blk) (e0:Option Nat),finish 2 H.length e0 (slL (H.length+1) ls.length none) ⟨H++[B,.cells (Zu ls) true],none⟩=some (slL H.length ls.length none,⟨H++[.cells (Zu ls) true],e0⟩) :=
  fun B e0=>Zdn e0 rfl (Yk _ _)
 rw [Zl Zaq]
 simp +contextual only [Yg,Jm,Zkz,Zb,ha,Zc h,ZhH,ZnN,hf,go_sem,reduceIte,Ra,Rb,Rc,Rd]
theorem ZnO {q:Nat} {c:Option Nat} {ls:List Sg} (h:Za H q=some (ZI ls)) (hn:ls.length≤1048576):call T pr Z4 [slS q ls.length c] ⟨H,e⟩=some (slS H.length ls.length none,⟨H++[.cells (ZI ls) true],e⟩):=by
 have ha:=fun L b e' (hb:L[b]?=some (.cells [] true)) hq=>ZcF (e:=e') (L:=L) (b:=b) (q:=q) (n:=ls.length) (sz:=3) (bytes:=24) (c:=c) (cs:=ZI ls) hb hq (KI ls) (by unfold maxBytes;omega)
 have hf:∀ (B:Blk) (e0:Option Nat),finish 2 H.length e0 (slS (H.length+1) ls.length none) ⟨H++[B,.cells (ZI ls) true],none⟩=some (slS H.length ls.length none,⟨H++[.cells (ZI ls) true],e0⟩) :=
  fun B e0=>Zdn e0 rfl (Yx _ _)
 rw [Zl QZ]
 simp +contextual only [Z5,XU,Zkz,Zb,ha,Zc h,ZhH,ZnN,hf,go_sem,reduceIte,Ra,Rb,Rc,Rd]
theorem Zdq {q1 q2:Nat} {c1 c2:Option Nat} {ls:List Ld} {ss:List Sg} (h1:Za H q1=some (Zu ls)) (h2:Za H q2=some (ZI ss)) (hn:ls.length≤1048576) (hm:ss.length≤1048576) (a b t k:Int) :
  call T pr JT [stV (slL q1 ls.length c1) a b (slS q2 ss.length c2) t k] ⟨H,e⟩=some (stV (slL H.length ls.length none) a b (slS (H.length+1) ss.length none) t k,⟨H++[.cells (Zu ls) true,.cells (ZI ss) true],e⟩):=by
 have hf:∀ (B0 B1:Blk) (e0 e1:Option Nat),clean H.length e1=true→finish 2 H.length e0 (stV (slL (H.length+2) ls.length none) a b (slS (H.length+3) ss.length none) t k) ⟨H++[B0,B1,.cells (Zu ls) true,.cells (ZI ss) true],e1⟩=some (stV (slL H.length ls.length none) a b (slS (H.length+1) ss.length none) t k,⟨H++[.cells (Zu ls) true,.cells (ZI ss) true],e0⟩) :=
  fun B0 B1 e0 e1 hc=>YQ a b t k e0 e1 hc rfl rfl (by decide) (Yk _ _) (Yx _ _)
 rw [Zl Zna]
 simp +contextual only [Zaz,Zgb,Zpp (Zc h1 _) hn,ZnO (Zc h2 _) hm,hf,Zr,Rw,Rx,Ri,decide_false,Zj,Zp,Ry,Rt,decide_true,go_sem,reduceIte,Ra,Rb,Rc,Rd]
theorem Xf {L:List Blk} {w:Nat} {cs:List AV} (h:Za L w=some cs):w<L.length:=by
 unfold Za at h
 cases hb:L[w]? with
 | none=>rw [hb] at h;cases h
 | some x=>exact (List.getElem?_eq_some_iff.mp hb).1
theorem Zub {q1 q2:Nat} {c1 c2:Option Nat} {ls:List Ld} {ss:List Sg} (h1:Za H q1=some (Zu ls)) (h2:Za H q2=some (ZI ss)) (hn:ls.length≤1048576) (hm:ss.length≤1048576) (a b t k:Int) :
  call T pr ZaO [stV (slL q1 ls.length c1) a b (slS q2 ss.length c2) t k] ⟨H,e⟩=some (stV (slL H.length ls.length none) a b (slS (H.length+1) ss.length none) t k,⟨H++[.cells (Zu ls) true,.cells (ZI ss) true],e⟩):=by
 have ha1:=fun L b e' (hb:L[b]?=some (.cells [] true)) hq=>ZcF (e:=e') (L:=L) (b:=b) (q:=q1) (n:=ls.length) (sz:=2) (bytes:=16) (c:=c1) (cs:=Zu ls) hb hq (Yv ls) (by unfold maxBytes;omega)
 have ha2:=fun L b e' (hb:L[b]?=some (.cells [] true)) hq=>ZcF (e:=e') (L:=L) (b:=b) (q:=q2) (n:=ss.length) (sz:=3) (bytes:=24) (c:=c2) (cs:=ZI ss) hb hq (KI ss) (by unfold maxBytes;omega)
 have hf:∀ (B0 B1 B2 B3 B5:Blk) (e0 e1:Option Nat),clean H.length e1=true→finish 2 H.length e0 (stV (slL (H.length+4) ls.length none) a b (slS (H.length+6) ss.length none) t k) ⟨H++[B0,B1,B2,B3,.cells (Zu ls) true,B5,.cells (ZI ss) true],e1⟩=some (stV (slL H.length ls.length none) a b (slS (H.length+1) ss.length none) t k,⟨H++[.cells (Zu ls) true,.cells (ZI ss) true],e0⟩) :=
  fun B0 B1 B2 B3 B5 e0 e1 hc=>YQ a b t k e0 e1 hc rfl rfl (by decide) (Yk _ _) (Yx _ _)
 have q1l:q1<H.length+3:=by have:=Xf h1;omega
 have q2l:q2<H.length+3:=by have:=Xf h2;omega
 rw [Zl Zmm]
 simp +contextual only [Zcq,Zhs,Zb,ha1,ha2,Zc h1,Zc h2,Zpo,Zua,ZnN,hf,q1l,q2l,Zr,Zx,Rw,Rx,Ri,decide_false,Zj,Zp,Ry,Rt,decide_true,go_sem,reduceIte,Ra,Rb,Rc,Rd]
abbrev csV (row:AV) (a b:Int) (chain:AV) (t k:Int):AV:=.agg [row,.int .i64 a,.int .i64 b,chain,.int .i64 t,.int .i64 k,.str ⟨#[]⟩,.str ⟨#[]⟩,.int .i64 0]
theorem ZkA {G:List Blk} {j1 j2 n1 n2:Nat} {c1 c2:Option Nat} {cs1 cs2:List AV} {w1 w2:Bool} (a b t k:Int) (x:Bool) (e0 e1:Option Nat) (hc:clean H.length e1=true) (h1:G[j1]?=some (.cells cs1 w1)) (h2:G[j2]?=some (.cells cs2 w2)) (hne:j1≠j2)
  (u1:(cs1.all fun c=>c.under H.length)=true) (u2:(cs2.all fun c=>c.under H.length)=true) :
  finish 2 H.length e0 (.tup [csV (slL (H.length+j1) n1 c1) a b (slS (H.length+j2) n2 c2) t k,.bool x]) ⟨H++G,e1⟩=some (.tup [csV (slL H.length n1 c1) a b (slS (H.length+1) n2 c2) t k,.bool x],⟨H++[.cells cs1 w1,.cells cs2 w2],e0⟩):=by
 have hlt1:¬ H.length+j1<H.length:=by omega
 have hlt2:¬ H.length+j2<H.length:=by omega
 have hne':¬ H.length+j2=H.length+j1:=by omega
 have hr:X6 (AV.roots H.length (.tup [csV (slL (H.length+j1) n1 c1) a b (slS (H.length+j2) n2 c2) t k,.bool x]))=[H.length+j1,H.length+j2]:=by
  simp only [AV.roots,AV.roots.go,if_neg hlt1,if_neg hlt2,RA,Rv,Rq]
  simp [X6,hne',hne,Ne.symm hne]
 have hb1:(H++G)[H.length+j1]?=some (.cells cs1 w1):=by rw [Rs (by omega)];simpa using h1
 have hb2:(H++G)[H.length+j2]?=some (.cells cs2 w2):=by rw [Rs (by omega)];simpa using h2
 unfold finish
 simp only [hr]
 have h3:([H.length+j1,H.length+j2].all fun b=>XG H.length (H++G)[b]?)=true:=by
  simp only [Rn,Ro,Bool.and_true,hb1,hb2,XG,u1,u2,Bool.and_self]
 simp only [hc,h3,and_self,if_true]
 have hq:(H.length+j1==H.length+j2)=false:=by simpa using hne
 simp [AV.rename,AV.rename.go,ZaT,hb1,hb2,List.idxOf_cons]
 refine ⟨fun h=>by omega,?_⟩
 rw [if_neg hlt2,hq]
 rfl
theorem ZkB {G:List Blk} {s1 s2 n1 n2:Nat} {c1 c2:Option Nat} (a b t k:Int) (x:Bool) (e0 e1:Option Nat) (hc:clean H.length e1=true) :
  finish 2 H.length e0 (.tup [csV (.slice none s1 n1 c1) a b (.slice none s2 n2 c2) t k,.bool x]) ⟨H++G,e1⟩=some (.tup [csV (.slice none s1 n1 c1) a b (.slice none s2 n2 c2) t k,.bool x],⟨H,e0⟩):=by
 have hr:X6 (AV.roots H.length (.tup [csV (.slice none s1 n1 c1) a b (.slice none s2 n2 c2) t k,.bool x]))=[]:=rfl
 unfold finish
 simp only [hr]
 simp [AV.rename,AV.rename.go,hc]
theorem ZlR {q1 q2:Nat} {c1 c2:Option Nat} {ls:List Ld} {ss:List Sg} (h1:Za H q1=some (Zu ls)) (h2:Za H q2=some (ZI ss)) (hn:ls.length≤1048576) (hm:ss.length≤1048576) (a b t k:Int) (hok:(Y1 ls&&(ZU ss&&J5 a b t k))=true) :
  call T pr Kc [stV (slL q1 ls.length c1) a b (slS q2 ss.length c2) t k] ⟨H,e⟩=some (.tup [csV (slL H.length ls.length none) a b (slS (H.length+1) ss.length none) t k,.bool true],⟨H++[.cells (Zu ls) true,.cells (ZI ss) true],e⟩):=by
 have his:∀ G,call T pr YD [stV (slL q1 ls.length c1) a b (slS q2 ss.length c2) t k] ⟨H++G,none⟩=some (.bool (Y1 ls&&(ZU ss&&J5 a b t k)),⟨H++G,none⟩) :=
  fun G=>Zbb (fun X=>by rw [Rj];exact Jo (Zc h1 _)) (fun X=>by rw [Rj];exact XP (Zc h2 _) (by omega)) a b t k
 have hf:∀ (B0 B1:Blk) (e0 e1:Option Nat),clean H.length e1=true→finish 2 H.length e0 (.tup [csV (slL (H.length+2) ls.length none) a b (slS (H.length+3) ss.length none) t k,.bool true]) ⟨H++[B0,B1,.cells (Zu ls) true,.cells (ZI ss) true],e1⟩=some (.tup [csV (slL H.length ls.length none) a b (slS (H.length+1) ss.length none) t k,.bool true],⟨H++[.cells (Zu ls) true,.cells (ZI ss) true],e0⟩) :=
  fun B0 B1 e0 e1 hc=>ZkA a b t k true e0 e1 hc rfl rfl (by decide) (Yk _ _) (Yx _ _)
 rw [Zl Zfc]
 simp +contextual only [Ki,Zb5,his,hok,Zdq (Zc h1 _) (Zc h2 _) hn hm,Zb,hf,Zr,Rw,Rx,Ri,decide_false,Zj,Zp,Ry,Rt,decide_true,go_sem,reduceIte,Ra,Rb,Rc,Rd]
theorem ZhI {q1 q2:Nat} {c1 c2:Option Nat} {ls:List Ld} {ss:List Sg} (h1:Za H q1=some (Zu ls)) (h2:Za H q2=some (ZI ss)) (hm:ss.length≤1048576) (a b t k:Int) (hok:(Y1 ls&&(ZU ss&&J5 a b t k))=false) :
  call T pr Kc [stV (slL q1 ls.length c1) a b (slS q2 ss.length c2) t k] ⟨H,e⟩=some (.tup [csV (.slice none 0 0 none) 0 0 (.slice none 0 0 none) 0 0,.bool false],⟨H,e⟩):=by
 have his:∀ G,call T pr YD [stV (slL q1 ls.length c1) a b (slS q2 ss.length c2) t k] ⟨H++G,none⟩=some (.bool (Y1 ls&&(ZU ss&&J5 a b t k)),⟨H++G,none⟩) :=
  fun G=>Zbb (fun X=>by rw [Rj];exact Jo (Zc h1 _)) (fun X=>by rw [Rj];exact XP (Zc h2 _) (by omega)) a b t k
 rw [Zl Zfc]
 simp +contextual only [Ki,Zb5,his,hok,Zb,ZkB,Zx,Zp,go_sem,reduceIte,Ra,Rb,Rc,Rd]
end Go.Proofs.YtemcdiajejekoaaGreatDoor.Slim
