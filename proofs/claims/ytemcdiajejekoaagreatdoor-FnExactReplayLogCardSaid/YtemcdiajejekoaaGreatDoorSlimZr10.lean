/- Parts of the proof. -/
import Derived.Test.YtemcdiajejekoaaGreatDoorSlimZr9
import Derived.Shelf.Strings.Builder1
import Derived.Shelf.Strings.Builder2
import Derived.Shelf.Strings.OnBuilder
import Derived.Shelf.Small.Bits
import Derived.Shelf.Utf8.RuneCount
import Derived.Shelf.Strconv.Atoi
import Derived.Shelf.Strconv.Itoa0
import Derived.Shelf.Strconv.Itoa1
import Derived.Shelf.LaysM
import Derived.Shelf.Strconv.Itoa2
import Derived.Shelf.Strconv.Itoa3
import Derived.Shelf.Strconv.AtoiErrFast
import Derived.Shelf.Strconv.ParseIntEmpty
import Derived.Shelf.Strconv.AtoiFail
import Derived.Shelf.Strconv.Clone
import Derived.Shelf.Strconv.SyntaxError
import Derived.Shelf.LaysC
import Derived.Shelf.Strconv.ToError
import Derived.Shelf.Strconv.AtoiErr
import Derived.Shelf.Strconv.Lower
import Derived.Shelf.Strconv.ParseUint10
import Derived.Shelf.Strconv.ParseUint10Empty
import Derived.Shelf.Strconv.ParseUint10Any
import Derived.Shelf.Strconv.ParseInt10
import Derived.Shelf.Strconv.AtoiLong
import Derived.Shelf.Strconv.AtoiInnerAll
import Derived.Shelf.Strconv.RangeError
import Derived.Shelf.Strconv.ToErrorRange
import Derived.Shelf.Strconv.AtoiAll
import Derived.Shelf.Strings.Search1
import Derived.Shelf.Strings.Search2
import Derived.Shelf.Strings.Search3
import Derived.Shelf.Strings.Cut
import Derived.Shelf.Strings.Count
import Derived.Shelf.Strings.Shaped
import Derived.Shelf.Sort.Plain
import Derived.Shelf.Strings.Split
import Derived.Shelf.Strings.SplitShaped
import Derived.Shelf.Unicode.Decode
import Derived.Shelf.Strings.RuneCount
import Derived.Shelf.Strings.Explode
import Derived.Shelf.Unicode.DecodeSlow
import Derived.Shelf.Unicode.DecodeAny
import Derived.Ground.Names2Prog
import Derived.Shelf.Slices.Clone
import Derived.Shelf.Slices.CompactI
import Derived.Shelf.Slices.SearchI
import Derived.Shelf.Slices.Cells
import Derived.Ground.SlgnProg
import Derived.Shelf.SlicesE.Clone
import Derived.Ground.SlsfProg
import Derived.Shelf.SlSortCmp.Insertion
import Derived.Shelf.SlSortCmp.SiftDown1
import Derived.Shelf.SlSortCmp.HeapSort1
import Derived.Shelf.SlSortCmp.Insertion1
import Derived.Shelf.SlSortCmp.Median1
import Derived.Shelf.SlSortCmp.Pivot1
import Derived.Shelf.SlSortCmp.ReverseRange1
import Derived.Shelf.SlSortCmp.PartialInsertion1
import Derived.Shelf.SlSortCmp.PartitionEqual1
import Derived.Shelf.SlSortCmp.Partition1
import Derived.Shelf.SlSortCmp.Pdq1
import Derived.Shelf.SlSortCmp.Whole1
import Derived.Test.YtemcdiajejekoaaGreatDoorProg
set_option linter.unusedSimpArgs false
set_option linter.unusedVariables false
namespace Go.Proofs.YtemcdiajejekoaaGreatDoor
open Go.Shelf
def Tryz.lays156_ren:Go.Shelf.Ren:=⟨fun | 156=>83 | 165=>143 | 166=>144 | 169=>145 | 240=>207 | 241=>208 | 276=>258 | 277=>259 | n=>n,fun | 31=>31 | 9=>9 | 3=>3 | 4=>4 | 0=>0 | 20=>20 | 72=>177 | 76=>181 | 70=>175 | 37=>47 | 75=>180 | 127=>231 | 164=>252 | 5=>5 | 80=>94 | n=>n,fun | n=>n⟩
theorem Tryz.lays156:Go.Proofs.Lays.n156 Tryz.prog Tryz.lays156_ren:={
  mixed:=by kernel_rfl
  f156:=Tryz.func83.trans (congrArg some (by kernel_rfl))
  f165:=Tryz.func143.trans (congrArg some (by kernel_rfl))
  f166:=Tryz.func144.trans (congrArg some (by kernel_rfl))
  f169:=Tryz.func145.trans (congrArg some (by kernel_rfl))
  f240:=Tryz.func207.trans (congrArg some (by kernel_rfl))
  f241:=Tryz.func208.trans (congrArg some (by kernel_rfl))
  f276:=Tryz.func258.trans (congrArg some (by kernel_rfl))
  f277:=Tryz.func259.trans (congrArg some (by kernel_rfl))
  t0:=Tryz.underlying0
  a0:=Tryz.isAgg0
  z0:=Tryz.sizeOf0
  v0:=Tryz.zeroValue0
  t3:=Tryz.underlying3
  a3:=Tryz.isAgg3
  z3:=Tryz.sizeOf3
  v3:=Tryz.zeroValue3
  t4:=Tryz.underlying4
  a4:=Tryz.isAgg4
  z4:=Tryz.sizeOf4
  v4:=Tryz.zeroValue4
  t9:=Tryz.underlying9
  a9:=Tryz.isAgg9
  z9:=Tryz.sizeOf9
  v9:=Tryz.zeroValue9
  t20:=Tryz.underlying20
  a20:=Tryz.isAgg20
  z20:=Tryz.sizeOf20
  v20:=Tryz.zeroValue20
  t31:=Tryz.underlying31
  a31:=Tryz.isAgg31
  z31:=Tryz.sizeOf31
  v31:=Tryz.zeroValue31
  t37:=Tryz.underlying47
  a37:=Tryz.isAgg47
  z37:=Tryz.sizeOf47
  v37:=Tryz.zeroValue47
  t70:=Tryz.underlying175
  a70:=Tryz.isAgg175
  z70:=Tryz.sizeOf175
  v70:=Tryz.zeroValue175
  t72:=Tryz.underlying177
  a72:=Tryz.isAgg177
  z72:=Tryz.sizeOf177
  v72:=Tryz.zeroValue177
  t75:=Tryz.underlying180
  a75:=Tryz.isAgg180
  z75:=Tryz.sizeOf180
  v75:=Tryz.zeroValue180
  t76:=Tryz.underlying181
  a76:=Tryz.isAgg181
  z76:=Tryz.sizeOf181
  v76:=Tryz.zeroValue181
  t127:=Tryz.underlying231
  a127:=Tryz.isAgg231
  z127:=Tryz.sizeOf231
  v127:=Tryz.zeroValue231
  t164:=Tryz.underlying252
  a164:=Tryz.isAgg252
  z164:=Tryz.sizeOf252
  v164:=Tryz.zeroValue252 }
theorem Tryz.Builder_Extra_156:Builder.Extra Tryz.prog Tryz.lays156_ren:={
  sizeBuilder:=by kernel_rfl
  liesBuilder:=by kernel_rfl
  t5:=Tryz.underlying5
  a5:=Tryz.isAgg5
  z5:=Tryz.sizeOf5
  v5:=Tryz.zeroValue5
  infoByte:=by kernel_rfl
  cellsByte:=by kernel_rfl
  sizeByte:=by kernel_rfl
  neB5:=by decide }
open Go.RowKit in
theorem Tryz.strings_Join (bk o c:Nat) (xs:List ByteArray) (sep:ByteArray) (w:World) (hcells:∀ (j:Nat) x,xs[j]?=some x→w.cell? ⟨bk,o+j,none⟩=some (.string x)) (hbk:bk<w.heap.size) (hN:xs.length≤140737488355328) (hcap:xs.length≤c) (hlen:(Lib.join (xs.map (·.data.toList)) sep.data.toList).length≤140737488355328) :
    Calls Tryz.prog 83 #[.slice (some ⟨bk,o,none⟩) xs.length c,.string sep] w fun e w'=>e=.returned (.string ⟨(Lib.join (xs.map (·.data.toList)) sep.data.toList).toArray⟩)∧Below w.heap.size w w':=Any.strings_Join Tryz.lays156 Tryz.Builder_Extra_156 bk o c xs sep w hcells hbk hN hcap hlen
def Tryz.laysM171_ren:Go.Shelf.Ren:=⟨fun | 171=>142 | 243=>206 | 246=>257 | 283=>290 | 284=>291 | 285=>292 | 286=>293 | 129=>269 | 317=>314 | 318=>315 | 319=>316 | 320=>317 | 337=>324 | 338=>325 | n=>n,fun | 3=>3 | 9=>9 | 2=>2 | 4=>4 | 171=>274 | 0=>0 | 53=>90 | 37=>47 | 5=>5 | 173=>276 | 212=>301 | 51=>263 | 20=>20 | 213=>302 | 46=>223 | 232=>312 | 233=>313 | n=>n,fun | 17=>5 | 18=>6 | 19=>7 | n=>n⟩
theorem Tryz.laysM171:Go.Proofs.LaysM.n171 Tryz.prog Tryz.laysM171_ren:={
  mixed:=by kernel_rfl
  f129:=Tryz.func269.trans (congrArg some (by kernel_rfl))
  f171:=Tryz.func142.trans (congrArg some (by kernel_rfl))
  f243:=Tryz.func206.trans (congrArg some (by kernel_rfl))
  f246:=Tryz.func257.trans (congrArg some (by kernel_rfl))
  f283:=Tryz.func290.trans (congrArg some (by kernel_rfl))
  f284:=Tryz.func291.trans (congrArg some (by kernel_rfl))
  f285:=Tryz.func292.trans (congrArg some (by kernel_rfl))
  f286:=Tryz.func293.trans (congrArg some (by kernel_rfl))
  f317:=Tryz.func314.trans (congrArg some (by kernel_rfl))
  f318:=Tryz.func315.trans (congrArg some (by kernel_rfl))
  f319:=Tryz.func316.trans (congrArg some (by kernel_rfl))
  f320:=Tryz.func317.trans (congrArg some (by kernel_rfl))
  f337:=Tryz.func324.trans (congrArg some (by kernel_rfl))
  f338:=Tryz.func325.trans (congrArg some (by kernel_rfl))
  t0:=Tryz.underlying0
  a0:=Tryz.isAgg0
  z0:=Tryz.sizeOf0
  v0:=Tryz.zeroValue0
  t2:=Tryz.underlying2
  a2:=Tryz.isAgg2
  z2:=Tryz.sizeOf2
  v2:=Tryz.zeroValue2
  t3:=Tryz.underlying3
  a3:=Tryz.isAgg3
  z3:=Tryz.sizeOf3
  v3:=Tryz.zeroValue3
  t4:=Tryz.underlying4
  a4:=Tryz.isAgg4
  z4:=Tryz.sizeOf4
  v4:=Tryz.zeroValue4
  t5:=Tryz.underlying5
  a5:=Tryz.isAgg5
  z5:=Tryz.sizeOf5
  v5:=Tryz.zeroValue5
  t9:=Tryz.underlying9
  a9:=Tryz.isAgg9
  z9:=Tryz.sizeOf9
  v9:=Tryz.zeroValue9
  t20:=Tryz.underlying20
  a20:=Tryz.isAgg20
  z20:=Tryz.sizeOf20
  v20:=Tryz.zeroValue20
  t37:=Tryz.underlying47
  a37:=Tryz.isAgg47
  z37:=Tryz.sizeOf47
  v37:=Tryz.zeroValue47
  t46:=Tryz.underlying223
  a46:=Tryz.isAgg223
  z46:=Tryz.sizeOf223
  v46:=Tryz.zeroValue223
  t51:=Tryz.underlying263
  a51:=Tryz.isAgg263
  z51:=Tryz.sizeOf263
  v51:=Tryz.zeroValue263
  t53:=Tryz.underlying90
  a53:=Tryz.isAgg90
  z53:=Tryz.sizeOf90
  v53:=Tryz.zeroValue90
  t171:=Tryz.underlying274
  a171:=Tryz.isAgg274
  z171:=Tryz.sizeOf274
  v171:=Tryz.zeroValue274
  t173:=Tryz.underlying276
  a173:=Tryz.isAgg276
  z173:=Tryz.sizeOf276
  v173:=Tryz.zeroValue276
  t212:=Tryz.underlying301
  a212:=Tryz.isAgg301
  z212:=Tryz.sizeOf301
  v212:=Tryz.zeroValue301
  t213:=Tryz.underlying302
  a213:=Tryz.isAgg302
  z213:=Tryz.sizeOf302
  t232:=Tryz.underlying312
  a232:=Tryz.isAgg312
  z232:=Tryz.sizeOf312
  v232:=Tryz.zeroValue312
  t233:=Tryz.underlying313
  a233:=Tryz.isAgg313
  z233:=Tryz.sizeOf313
  v233:=Tryz.zeroValue313
  g17:=by kernel_rfl
  g18:=by kernel_rfl
  g19:=by kernel_rfl
  i0:=by kernel_rfl
  i2:=by kernel_rfl
  i3:=by kernel_rfl
  i4:=by kernel_rfl
  i5:=by kernel_rfl
  i9:=by kernel_rfl
  i20:=by kernel_rfl
  i37:=by kernel_rfl
  i46:=by kernel_rfl
  i51:=by kernel_rfl
  i53:=by kernel_rfl
  i171:=by kernel_rfl
  i173:=by kernel_rfl
  i212:=by kernel_rfl
  i232:=by kernel_rfl
  i233:=by kernel_rfl
  m17:=by kernel_rfl
  m18:=by kernel_rfl
  m19:=by kernel_rfl }
open Go.RowKit Go.Sort Go.Lib in
theorem Tryz.strconv_Itoa (n : Int) (h0 : -9223372036854775808 ≤ n) (h1 : n ≤ 9223372036854775807) (w : World) (htab : Lib.TabIs Tryz.prog w "internal/strconv.uint64pow10" .u64 Lib.pow10Tab) :
    Calls Tryz.prog 142 #[.int .i64 n] w fun e w'=>e=.returned (.string ⟨(Lib.itoa n).toArray⟩)∧∃ k os,w'=grow (w.drewN k) os:=Any.strconv_Itoa Tryz.laysM171 n h0 h1 w htab
def Tryz.laysC172_ren:Go.Shelf.Ren:=⟨fun | 172=>161 | 244=>219 | 245=>220 | 247=>276 | 279=>277 | 280=>278 | 281=>279 | 282=>280 | 287=>302 | 316=>303 | 171=>142 | 205=>304 | 321=>319 | 322=>320 | 243=>206 | 246=>257 | 283=>290 | 284=>291 | 285=>292 | 286=>293 | 129=>269 | 317=>314 | 318=>315 | 319=>316 | 320=>317 | 337=>324 | 338=>325 | n=>n,fun | 9=>9 | 3=>3 | 75=>180 | 76=>181 | 4=>4 | 5=>5 | 167=>265 | 37=>47 | 0=>0 | 85=>266 | 2=>2 | 168=>268 | 53=>90 | 175=>290 | 46=>223 | 210=>293 | 127=>231 | 145=>308 | 143=>306 | 21=>21 | 171=>274 | 173=>276 | 212=>301 | 51=>263 | 20=>20 | 213=>302 | 232=>312 | 233=>313 | 80=>94 | n=>n,fun | 15=>3 | 16=>4 | 17=>5 | 18=>6 | 19=>7 | n=>n⟩
theorem Tryz.laysC172:Go.Proofs.LaysC.n172 Tryz.prog Tryz.laysC172_ren:={
  mixed:=by kernel_rfl
  f129:=Tryz.func269.trans (congrArg some (by kernel_rfl))
  f171:=Tryz.func142.trans (congrArg some (by kernel_rfl))
  f172:=Tryz.func161.trans (congrArg some (by kernel_rfl))
  f205:=Tryz.func304.trans (congrArg some (by kernel_rfl))
  f243:=Tryz.func206.trans (congrArg some (by kernel_rfl))
  f244:=Tryz.func219.trans (congrArg some (by kernel_rfl))
  f245:=Tryz.func220.trans (congrArg some (by kernel_rfl))
  f246:=Tryz.func257.trans (congrArg some (by kernel_rfl))
  f247:=Tryz.func276.trans (congrArg some (by kernel_rfl))
  f279:=Tryz.func277.trans (congrArg some (by kernel_rfl))
  f280:=Tryz.func278.trans (congrArg some (by kernel_rfl))
  f281:=Tryz.func279.trans (congrArg some (by kernel_rfl))
  f282:=Tryz.func280.trans (congrArg some (by kernel_rfl))
  f283:=Tryz.func290.trans (congrArg some (by kernel_rfl))
  f284:=Tryz.func291.trans (congrArg some (by kernel_rfl))
  f285:=Tryz.func292.trans (congrArg some (by kernel_rfl))
  f286:=Tryz.func293.trans (congrArg some (by kernel_rfl))
  f287:=Tryz.func302.trans (congrArg some (by kernel_rfl))
  f316:=Tryz.func303.trans (congrArg some (by kernel_rfl))
  f317:=Tryz.func314.trans (congrArg some (by kernel_rfl))
  f318:=Tryz.func315.trans (congrArg some (by kernel_rfl))
  f319:=Tryz.func316.trans (congrArg some (by kernel_rfl))
  f320:=Tryz.func317.trans (congrArg some (by kernel_rfl))
  f321:=Tryz.func319.trans (congrArg some (by kernel_rfl))
  f322:=Tryz.func320.trans (congrArg some (by kernel_rfl))
  f337:=Tryz.func324.trans (congrArg some (by kernel_rfl))
  f338:=Tryz.func325.trans (congrArg some (by kernel_rfl))
  t0:=Tryz.underlying0
  a0:=Tryz.isAgg0
  z0:=Tryz.sizeOf0
  v0:=Tryz.zeroValue0
  t2:=Tryz.underlying2
  a2:=Tryz.isAgg2
  z2:=Tryz.sizeOf2
  v2:=Tryz.zeroValue2
  t3:=Tryz.underlying3
  a3:=Tryz.isAgg3
  z3:=Tryz.sizeOf3
  v3:=Tryz.zeroValue3
  t4:=Tryz.underlying4
  a4:=Tryz.isAgg4
  z4:=Tryz.sizeOf4
  v4:=Tryz.zeroValue4
  t5:=Tryz.underlying5
  a5:=Tryz.isAgg5
  z5:=Tryz.sizeOf5
  v5:=Tryz.zeroValue5
  t9:=Tryz.underlying9
  a9:=Tryz.isAgg9
  z9:=Tryz.sizeOf9
  v9:=Tryz.zeroValue9
  t20:=Tryz.underlying20
  a20:=Tryz.isAgg20
  z20:=Tryz.sizeOf20
  v20:=Tryz.zeroValue20
  t21:=Tryz.underlying21
  a21:=Tryz.isAgg21
  z21:=Tryz.sizeOf21
  v21:=Tryz.zeroValue21
  t37:=Tryz.underlying47
  a37:=Tryz.isAgg47
  z37:=Tryz.sizeOf47
  v37:=Tryz.zeroValue47
  t46:=Tryz.underlying223
  a46:=Tryz.isAgg223
  z46:=Tryz.sizeOf223
  v46:=Tryz.zeroValue223
  t51:=Tryz.underlying263
  a51:=Tryz.isAgg263
  z51:=Tryz.sizeOf263
  v51:=Tryz.zeroValue263
  t53:=Tryz.underlying90
  a53:=Tryz.isAgg90
  z53:=Tryz.sizeOf90
  v53:=Tryz.zeroValue90
  t75:=Tryz.underlying180
  a75:=Tryz.isAgg180
  z75:=Tryz.sizeOf180
  v75:=Tryz.zeroValue180
  t76:=Tryz.underlying181
  a76:=Tryz.isAgg181
  z76:=Tryz.sizeOf181
  v76:=Tryz.zeroValue181
  t85:=Tryz.underlying266
  a85:=Tryz.isAgg266
  z85:=Tryz.sizeOf266
  v85:=Tryz.zeroValue266
  t127:=Tryz.underlying231
  a127:=Tryz.isAgg231
  z127:=Tryz.sizeOf231
  v127:=Tryz.zeroValue231
  t143:=Tryz.underlying306
  a143:=Tryz.isAgg306
  z143:=Tryz.sizeOf306
  v143:=Tryz.zeroValue306
  t145:=Tryz.underlying308
  a145:=Tryz.isAgg308
  z145:=Tryz.sizeOf308
  v145:=Tryz.zeroValue308
  t167:=Tryz.underlying265
  a167:=Tryz.isAgg265
  z167:=Tryz.sizeOf265
  v167:=Tryz.zeroValue265
  t168:=Tryz.underlying268
  a168:=Tryz.isAgg268
  z168:=Tryz.sizeOf268
  v168:=Tryz.zeroValue268
  t171:=Tryz.underlying274
  a171:=Tryz.isAgg274
  z171:=Tryz.sizeOf274
  v171:=Tryz.zeroValue274
  t173:=Tryz.underlying276
  a173:=Tryz.isAgg276
  z173:=Tryz.sizeOf276
  v173:=Tryz.zeroValue276
  t175:=Tryz.underlying290
  a175:=Tryz.isAgg290
  z175:=Tryz.sizeOf290
  v175:=Tryz.zeroValue290
  t210:=Tryz.underlying293
  a210:=Tryz.isAgg293
  z210:=Tryz.sizeOf293
  v210:=Tryz.zeroValue293
  t212:=Tryz.underlying301
  a212:=Tryz.isAgg301
  z212:=Tryz.sizeOf301
  v212:=Tryz.zeroValue301
  t213:=Tryz.underlying302
  a213:=Tryz.isAgg302
  z213:=Tryz.sizeOf302
  t232:=Tryz.underlying312
  a232:=Tryz.isAgg312
  z232:=Tryz.sizeOf312
  v232:=Tryz.zeroValue312
  t233:=Tryz.underlying313
  a233:=Tryz.isAgg313
  z233:=Tryz.sizeOf313
  v233:=Tryz.zeroValue313
  g15:=by kernel_rfl
  g16:=by kernel_rfl
  g17:=by kernel_rfl
  g18:=by kernel_rfl
  g19:=by kernel_rfl
  t80:=Tryz.underlying94
  a80:=Tryz.isAgg94
  z80:=Tryz.sizeOf94
  v80:=Tryz.zeroValue94
  i0:=by kernel_rfl
  i2:=by kernel_rfl
  i3:=by kernel_rfl
  i4:=by kernel_rfl
  i5:=by kernel_rfl
  i9:=by kernel_rfl
  i20:=by kernel_rfl
  i21:=by kernel_rfl
  i37:=by kernel_rfl
  i46:=by kernel_rfl
  i51:=by kernel_rfl
  i53:=by kernel_rfl
  i75:=by kernel_rfl
  i76:=by kernel_rfl
  i80:=by kernel_rfl
  i85:=by kernel_rfl
  i127:=by kernel_rfl
  i143:=by kernel_rfl
  i145:=by kernel_rfl
  i167:=by kernel_rfl
  i168:=by kernel_rfl
  i171:=by kernel_rfl
  i173:=by kernel_rfl
  i175:=by kernel_rfl
  i210:=by kernel_rfl
  i212:=by kernel_rfl
  i232:=by kernel_rfl
  i233:=by kernel_rfl
  m15:=by kernel_rfl
  m16:=by kernel_rfl
  m17:=by kernel_rfl
  m18:=by kernel_rfl
  m19:=by kernel_rfl
  c0:=by kernel_rfl
  c2:=by kernel_rfl
  c3:=by kernel_rfl
  c4:=by kernel_rfl
  c5:=by kernel_rfl
  c9:=by kernel_rfl
  c20:=by kernel_rfl
  c21:=by kernel_rfl
  c37:=by kernel_rfl
  c46:=by kernel_rfl
  c51:=by kernel_rfl
  c53:=by kernel_rfl
  c75:=by kernel_rfl
  c76:=by kernel_rfl
  c80:=by kernel_rfl
  c85:=by kernel_rfl
  c127:=by kernel_rfl
  c143:=by kernel_rfl
  c145:=by kernel_rfl
  c167:=by kernel_rfl
  c168:=by kernel_rfl
  c171:=by kernel_rfl
  c173:=by kernel_rfl
  c175:=by kernel_rfl
  c210:=by kernel_rfl
  c212:=by kernel_rfl
  c213:=by kernel_rfl
  c232:=by kernel_rfl
  c233:=by kernel_rfl }
open Go.RowKit in
theorem Tryz.strconv_Atoi_ok (s:ByteArray) (hmax:s.size≤9223372036854775806) (v:Int) (h:Lib.atoiAll s.data.toList=.ok v) (w:World) :
    Calls Tryz.prog 161 #[.string s] w fun e w'=>e=.returned (.tuple #[.int .i64 v,.nilIface])∧(w'=w∨∃ t,w'=Lib.bytesWorld w 5 t):=Any.strconv_Atoi_ok Tryz.laysC172 s hmax v h w
open Go.RowKit in
theorem Tryz.strconv_Atoi_syntax (s:ByteArray) (hlim:s.size≤281474976710656) (h:Lib.atoiAll s.data.toList=Lib.atoiAll []) (ev:Value) (w:World) (hv:w.cell? ⟨3,0,none⟩=some ev) (hev:ev=.nilIface∨∃ te pe,ev=.iface te pe) :
    Calls Tryz.prog 161 #[.string s] w fun e w'=>∃ N,e=.returned (.tuple #[.int .i64 (0),.iface 268 (.pointer (some ⟨N,0,none⟩))])∧w.heap.size≤N∧w'.heap[N]?=some (.cells #[.string ⟨#[65,116,111,105]⟩,.string s,ev] 293 (0,0))∧Below w.heap.size w w':=Any.strconv_Atoi_syntax Tryz.laysC172 s hlim h ev w hv hev
open Go.RowKit in
theorem Tryz.strconv_Atoi_range (s:ByteArray) (hlim:s.size≤281474976710656) (h:Lib.atoiAll s.data.toList=.range) (ev:Value) (w:World) (hv:w.cell? ⟨4,0,none⟩=some ev) (hev:ev=.nilIface∨∃ te pe,ev=.iface te pe) :
    Calls Tryz.prog 161 #[.string s] w fun e w'=>∃ N,e=.returned (.tuple #[.int .i64 (Lib.atoiSat s.data.toList),.iface 268 (.pointer (some ⟨N,0,none⟩))])∧w.heap.size≤N∧w'.heap[N]?=some (.cells #[.string ⟨#[65,116,111,105]⟩,.string s,ev] 293 (0,0))∧Below w.heap.size w w':=Any.strconv_Atoi_range Tryz.laysC172 s hlim h ev w hv hev
def Tryz.lays219_ren:Go.Shelf.Ren:=⟨fun | 219=>215 | 217=>272 | 225=>273 | 224=>274 | 267=>275 | 266=>300 | 314=>301 | n=>n,fun | 9=>9 | 3=>3 | 4=>4 | 5=>5 | 46=>223 | 146=>288 | 51=>263 | n=>n,fun | 1=>0 | n=>n⟩
theorem Tryz.lays219:Go.Proofs.Lays.n219 Tryz.prog Tryz.lays219_ren:={
  mixed:=by kernel_rfl
  f217:=Tryz.func272.trans (congrArg some (by kernel_rfl))
  f219:=Tryz.func215.trans (congrArg some (by kernel_rfl))
  f224:=Tryz.func274.trans (congrArg some (by kernel_rfl))
  f225:=Tryz.func273.trans (congrArg some (by kernel_rfl))
  f266:=Tryz.func300.trans (congrArg some (by kernel_rfl))
  f267:=Tryz.func275.trans (congrArg some (by kernel_rfl))
  f314:=Tryz.func301.trans (congrArg some (by kernel_rfl))
  t3:=Tryz.underlying3
  a3:=Tryz.isAgg3
  z3:=Tryz.sizeOf3
  v3:=Tryz.zeroValue3
  t4:=Tryz.underlying4
  a4:=Tryz.isAgg4
  z4:=Tryz.sizeOf4
  v4:=Tryz.zeroValue4
  t5:=Tryz.underlying5
  a5:=Tryz.isAgg5
  z5:=Tryz.sizeOf5
  v5:=Tryz.zeroValue5
  t9:=Tryz.underlying9
  a9:=Tryz.isAgg9
  z9:=Tryz.sizeOf9
  v9:=Tryz.zeroValue9
  t46:=Tryz.underlying223
  a46:=Tryz.isAgg223
  z46:=Tryz.sizeOf223
  v46:=Tryz.zeroValue223
  t51:=Tryz.underlying263
  a51:=Tryz.isAgg263
  z51:=Tryz.sizeOf263
  v51:=Tryz.zeroValue263
  t146:=Tryz.underlying288
  a146:=Tryz.isAgg288
  z146:=Tryz.sizeOf288
  v146:=Tryz.zeroValue288
  g1:=by kernel_rfl }
open Go.RowKit Go.Lib in
theorem Tryz.stringslite_Index_one (s:ByteArray) (c:UInt8) (w:World) :
    Calls Tryz.prog 215 #[.string s,.string ⟨#[c]⟩] w fun e w'=>e=.returned (.int .i64 (Lib.indexByte s.data.toList c))∧w'=w:=Any.stringslite_Index_one Tryz.lays219 s c w
def Tryz.lays143_ren:Go.Shelf.Ren:=⟨fun | 143=>156 | 219=>215 | 217=>272 | 225=>273 | 224=>274 | 267=>275 | 266=>300 | 314=>301 | n=>n,fun | 9=>9 | 3=>3 | 4=>4 | 5=>5 | 46=>223 | 146=>288 | 51=>263 | n=>n,fun | 1=>0 | n=>n⟩
theorem Tryz.lays143:Go.Proofs.Lays.n143 Tryz.prog Tryz.lays143_ren:={
  mixed:=by kernel_rfl
  f143:=Tryz.func156.trans (congrArg some (by kernel_rfl))
  f217:=Tryz.func272.trans (congrArg some (by kernel_rfl))
  f219:=Tryz.func215.trans (congrArg some (by kernel_rfl))
  f224:=Tryz.func274.trans (congrArg some (by kernel_rfl))
  f225:=Tryz.func273.trans (congrArg some (by kernel_rfl))
  f266:=Tryz.func300.trans (congrArg some (by kernel_rfl))
  f267:=Tryz.func275.trans (congrArg some (by kernel_rfl))
  f314:=Tryz.func301.trans (congrArg some (by kernel_rfl))
  t3:=Tryz.underlying3
  a3:=Tryz.isAgg3
  z3:=Tryz.sizeOf3
  v3:=Tryz.zeroValue3
  t4:=Tryz.underlying4
  a4:=Tryz.isAgg4
  z4:=Tryz.sizeOf4
  v4:=Tryz.zeroValue4
  t5:=Tryz.underlying5
  a5:=Tryz.isAgg5
  z5:=Tryz.sizeOf5
  v5:=Tryz.zeroValue5
  t9:=Tryz.underlying9
  a9:=Tryz.isAgg9
  z9:=Tryz.sizeOf9
  v9:=Tryz.zeroValue9
  t46:=Tryz.underlying223
  a46:=Tryz.isAgg223
  z46:=Tryz.sizeOf223
  v46:=Tryz.zeroValue223
  t51:=Tryz.underlying263
  a51:=Tryz.isAgg263
  z51:=Tryz.sizeOf263
  v51:=Tryz.zeroValue263
  t146:=Tryz.underlying288
  a146:=Tryz.isAgg288
  z146:=Tryz.sizeOf288
  v146:=Tryz.zeroValue288
  g1:=by kernel_rfl }
open Go.RowKit Go.Lib in
theorem Tryz.strings_Index_one (s:ByteArray) (c:UInt8) (w:World) :
    Calls Tryz.prog 156 #[.string s,.string ⟨#[c]⟩] w fun e w'=>e=.returned (.int .i64 (Lib.indexByte s.data.toList c))∧w'=w:=Any.strings_Index_one Tryz.lays143 s c w
def Tryz.lays144_ren:Go.Shelf.Ren:=⟨fun | 144=>112 | 143=>156 | 219=>215 | 217=>272 | 225=>273 | 224=>274 | 267=>275 | 266=>300 | 314=>301 | n=>n,fun | 9=>9 | 4=>4 | 3=>3 | 5=>5 | 46=>223 | 146=>288 | 51=>263 | n=>n,fun | 1=>0 | n=>n⟩
theorem Tryz.lays144:Go.Proofs.Lays.n144 Tryz.prog Tryz.lays144_ren:={
  mixed:=by kernel_rfl
  f143:=Tryz.func156.trans (congrArg some (by kernel_rfl))
  f144:=Tryz.func112.trans (congrArg some (by kernel_rfl))
  f217:=Tryz.func272.trans (congrArg some (by kernel_rfl))
  f219:=Tryz.func215.trans (congrArg some (by kernel_rfl))
  f224:=Tryz.func274.trans (congrArg some (by kernel_rfl))
  f225:=Tryz.func273.trans (congrArg some (by kernel_rfl))
  f266:=Tryz.func300.trans (congrArg some (by kernel_rfl))
  f267:=Tryz.func275.trans (congrArg some (by kernel_rfl))
  f314:=Tryz.func301.trans (congrArg some (by kernel_rfl))
  t3:=Tryz.underlying3
  a3:=Tryz.isAgg3
  z3:=Tryz.sizeOf3
  v3:=Tryz.zeroValue3
  t4:=Tryz.underlying4
  a4:=Tryz.isAgg4
  z4:=Tryz.sizeOf4
  v4:=Tryz.zeroValue4
  t5:=Tryz.underlying5
  a5:=Tryz.isAgg5
  z5:=Tryz.sizeOf5
  v5:=Tryz.zeroValue5
  t9:=Tryz.underlying9
  a9:=Tryz.isAgg9
  z9:=Tryz.sizeOf9
  v9:=Tryz.zeroValue9
  t46:=Tryz.underlying223
  a46:=Tryz.isAgg223
  z46:=Tryz.sizeOf223
  v46:=Tryz.zeroValue223
  t51:=Tryz.underlying263
  a51:=Tryz.isAgg263
  z51:=Tryz.sizeOf263
  v51:=Tryz.zeroValue263
  t146:=Tryz.underlying288
  a146:=Tryz.isAgg288
  z146:=Tryz.sizeOf288
  v146:=Tryz.zeroValue288
  g1:=by kernel_rfl }
open Go.RowKit Go.Lib in
theorem Tryz.strings_Contains_one (s:ByteArray) (c:UInt8) (w:World) :
    Calls Tryz.prog 112 #[.string s,.string ⟨#[c]⟩] w fun e w'=>e=.returned (.bool (decide (0≤Lib.indexByte s.data.toList c)))∧w'=w:=Any.strings_Contains_one Tryz.lays144 s c w
def Tryz.lays138_ren:Go.Shelf.Ren:=⟨fun | 138=>155 | 195=>212 | 218=>214 | 143=>156 | 219=>215 | 217=>272 | 225=>273 | 224=>274 | 267=>275 | 266=>300 | 314=>301 | n=>n,fun | 9=>9 | 3=>3 | 4=>4 | 5=>5 | 0=>0 | 46=>223 | 146=>288 | 51=>263 | n=>n,fun | 1=>0 | n=>n⟩
theorem Tryz.lays138:Go.Proofs.Lays.n138 Tryz.prog Tryz.lays138_ren:={
  mixed:=by kernel_rfl
  f138:=Tryz.func155.trans (congrArg some (by kernel_rfl))
  f143:=Tryz.func156.trans (congrArg some (by kernel_rfl))
  f195:=Tryz.func212.trans (congrArg some (by kernel_rfl))
  f217:=Tryz.func272.trans (congrArg some (by kernel_rfl))
  f218:=Tryz.func214.trans (congrArg some (by kernel_rfl))
  f219:=Tryz.func215.trans (congrArg some (by kernel_rfl))
  f224:=Tryz.func274.trans (congrArg some (by kernel_rfl))
  f225:=Tryz.func273.trans (congrArg some (by kernel_rfl))
  f266:=Tryz.func300.trans (congrArg some (by kernel_rfl))
  f267:=Tryz.func275.trans (congrArg some (by kernel_rfl))
  f314:=Tryz.func301.trans (congrArg some (by kernel_rfl))
  t0:=Tryz.underlying0
  a0:=Tryz.isAgg0
  z0:=Tryz.sizeOf0
  v0:=Tryz.zeroValue0
  t3:=Tryz.underlying3
  a3:=Tryz.isAgg3
  z3:=Tryz.sizeOf3
  v3:=Tryz.zeroValue3
  t4:=Tryz.underlying4
  a4:=Tryz.isAgg4
  z4:=Tryz.sizeOf4
  v4:=Tryz.zeroValue4
  t5:=Tryz.underlying5
  a5:=Tryz.isAgg5
  z5:=Tryz.sizeOf5
  v5:=Tryz.zeroValue5
  t9:=Tryz.underlying9
  a9:=Tryz.isAgg9
  z9:=Tryz.sizeOf9
  v9:=Tryz.zeroValue9
  t46:=Tryz.underlying223
  a46:=Tryz.isAgg223
  z46:=Tryz.sizeOf223
  v46:=Tryz.zeroValue223
  t51:=Tryz.underlying263
  a51:=Tryz.isAgg263
  z51:=Tryz.sizeOf263
  v51:=Tryz.zeroValue263
  t146:=Tryz.underlying288
  a146:=Tryz.isAgg288
  z146:=Tryz.sizeOf288
  v146:=Tryz.zeroValue288
  g1:=by kernel_rfl }
open Go.RowKit Go.Lib in
theorem Tryz.strings_Count_one (s:ByteArray) (c:UInt8) (w:World) :
    Calls Tryz.prog 155 #[.string s,.string ⟨#[c]⟩] w fun e w'=>e=.returned (.int .i64 (Lib.countByte s.data.toList c))∧w'=w:=Any.strings_Count_one Tryz.lays138 s c w
def Tryz.lays189_ren:Go.Shelf.Ren:=⟨fun | 189=>226 | 125=>210 | 257=>281 | 128=>268 | 129=>269 | 294=>305 | 295=>306 | 296=>307 | 297=>308 | 298=>309 | 299=>310 | 216=>311 | 300=>312 | 301=>313 | 328=>321 | 329=>295 | 330=>296 | 331=>322 | 332=>323 | 215=>299 | 343=>326 | n=>n,fun | 28=>73 | 3=>3 | 46=>223 | 0=>0 | 51=>263 | 53=>90 | 4=>4 | 183=>257 | 182=>256 | 131=>67 | 5=>5 | 9=>9 | 218=>278 | 222=>282 | 228=>303 | 229=>144 | n=>n,fun | n=>n⟩
theorem Tryz.lays189:Go.Proofs.Lays.n189 Tryz.prog Tryz.lays189_ren:={
  mixed:=by kernel_rfl
  f125:=Tryz.func210.trans (congrArg some (by kernel_rfl))
  f128:=Tryz.func268.trans (congrArg some (by kernel_rfl))
  f129:=Tryz.func269.trans (congrArg some (by kernel_rfl))
  f189:=Tryz.func226.trans (congrArg some (by kernel_rfl))
  f215:=Tryz.func299.trans (congrArg some (by kernel_rfl))
  f216:=Tryz.func311.trans (congrArg some (by kernel_rfl))
  f257:=Tryz.func281.trans (congrArg some (by kernel_rfl))
  f294:=Tryz.func305.trans (congrArg some (by kernel_rfl))
  f295:=Tryz.func306.trans (congrArg some (by kernel_rfl))
  f296:=Tryz.func307.trans (congrArg some (by kernel_rfl))
  f297:=Tryz.func308.trans (congrArg some (by kernel_rfl))
  f298:=Tryz.func309.trans (congrArg some (by kernel_rfl))
  f299:=Tryz.func310.trans (congrArg some (by kernel_rfl))
  f300:=Tryz.func312.trans (congrArg some (by kernel_rfl))
  f301:=Tryz.func313.trans (congrArg some (by kernel_rfl))
  f328:=Tryz.func321.trans (congrArg some (by kernel_rfl))
  f329:=Tryz.func295.trans (congrArg some (by kernel_rfl))
  f330:=Tryz.func296.trans (congrArg some (by kernel_rfl))
  f331:=Tryz.func322.trans (congrArg some (by kernel_rfl))
  f332:=Tryz.func323.trans (congrArg some (by kernel_rfl))
  f343:=Tryz.func326.trans (congrArg some (by kernel_rfl))
  t0:=Tryz.underlying0
  a0:=Tryz.isAgg0
  z0:=Tryz.sizeOf0
  v0:=Tryz.zeroValue0
  t3:=Tryz.underlying3
  a3:=Tryz.isAgg3
  z3:=Tryz.sizeOf3
  v3:=Tryz.zeroValue3
  t4:=Tryz.underlying4
  a4:=Tryz.isAgg4
  z4:=Tryz.sizeOf4
  v4:=Tryz.zeroValue4
  t5:=Tryz.underlying5
  a5:=Tryz.isAgg5
  z5:=Tryz.sizeOf5
  v5:=Tryz.zeroValue5
  t9:=Tryz.underlying9
  a9:=Tryz.isAgg9
  z9:=Tryz.sizeOf9
  v9:=Tryz.zeroValue9
  t28:=Tryz.underlying73
  a28:=Tryz.isAgg73
  z28:=Tryz.sizeOf73
  v28:=Tryz.zeroValue73
  t46:=Tryz.underlying223
  a46:=Tryz.isAgg223
  z46:=Tryz.sizeOf223
  v46:=Tryz.zeroValue223
  t51:=Tryz.underlying263
  a51:=Tryz.isAgg263
  z51:=Tryz.sizeOf263
  v51:=Tryz.zeroValue263
  t53:=Tryz.underlying90
  a53:=Tryz.isAgg90
  z53:=Tryz.sizeOf90
  v53:=Tryz.zeroValue90
  t131:=Tryz.underlying67
  a131:=Tryz.isAgg67
  z131:=Tryz.sizeOf67
  v131:=Tryz.zeroValue67
  t182:=Tryz.underlying256
  a182:=Tryz.isAgg256
  z182:=Tryz.sizeOf256
  v182:=Tryz.zeroValue256
  t183:=Tryz.underlying257
  a183:=Tryz.isAgg257
  z183:=Tryz.sizeOf257
  v183:=Tryz.zeroValue257
  t218:=Tryz.underlying278
  a218:=Tryz.isAgg278
  z218:=Tryz.sizeOf278
  v218:=Tryz.zeroValue278
  t222:=Tryz.underlying282
  a222:=Tryz.isAgg282
  z222:=Tryz.sizeOf282
  v222:=Tryz.zeroValue282
  t228:=Tryz.underlying303
  a228:=Tryz.isAgg303
  z228:=Tryz.sizeOf303
  v228:=Tryz.zeroValue303
  t229:=Tryz.underlying144
  a229:=Tryz.isAgg144
  z229:=Tryz.sizeOf144
  v229:=Tryz.zeroValue144 }
open Go.Sort Go.RowKit in
theorem Tryz.slices_Sort_int (blk off cap:Nat) (zs:List Int) (w:World) (hH:Holds (Value.int .i64) w blk off zs.toArray) (hblk:blk<w.heap.size) (hsz:zs.length<4611686018427387904) :
    Calls Tryz.prog 226 #[.slice (some ⟨blk,off,none⟩) zs.length cap] w fun e w'=>
      e=.returned (.tuple #[])∧∃ n os,w'=grow (putRow (Value.int .i64) (Sort.ahead w n) blk off (zs.mergeSort fun x y=>decide (x≤y)).toArray) os:=Any.slices_Sort_int Tryz.lays189 blk off cap zs w hH hblk hsz
def Tryz.lays146_ren:Go.Shelf.Ren:=⟨fun | 146=>53 | 221=>97 | 268=>154 | 138=>155 | 143=>156 | 195=>212 | 197=>213 | 218=>214 | 219=>215 | 260=>271 | 217=>272 | 225=>273 | 224=>274 | 267=>275 | 266=>300 | 314=>301 | n=>n,fun | 9=>9 | 31=>31 | 3=>3 | 4=>4 | 0=>0 | 105=>235 | 21=>21 | 5=>5 | 46=>223 | 119=>284 | 139=>287 | 138=>286 | 146=>288 | 51=>263 | n=>n,fun | 1=>0 | 3=>1 | 4=>2 | n=>n⟩
theorem Tryz.lays146:Go.Proofs.Lays.n146 Tryz.prog Tryz.lays146_ren:={
  mixed:=by kernel_rfl
  f138:=Tryz.func155.trans (congrArg some (by kernel_rfl))
  f143:=Tryz.func156.trans (congrArg some (by kernel_rfl))
  f146:=Tryz.func53.trans (congrArg some (by kernel_rfl))
  f195:=Tryz.func212.trans (congrArg some (by kernel_rfl))
  f197:=Tryz.func213.trans (congrArg some (by kernel_rfl))
  f217:=Tryz.func272.trans (congrArg some (by kernel_rfl))
  f218:=Tryz.func214.trans (congrArg some (by kernel_rfl))
  f219:=Tryz.func215.trans (congrArg some (by kernel_rfl))
  f221:=Tryz.func97.trans (congrArg some (by kernel_rfl))
  f224:=Tryz.func274.trans (congrArg some (by kernel_rfl))
  f225:=Tryz.func273.trans (congrArg some (by kernel_rfl))
  f260:=Tryz.func271.trans (congrArg some (by kernel_rfl))
  f266:=Tryz.func300.trans (congrArg some (by kernel_rfl))
  f267:=Tryz.func275.trans (congrArg some (by kernel_rfl))
  f268:=Tryz.func154.trans (congrArg some (by kernel_rfl))
  f314:=Tryz.func301.trans (congrArg some (by kernel_rfl))
  t0:=Tryz.underlying0
  a0:=Tryz.isAgg0
  z0:=Tryz.sizeOf0
  v0:=Tryz.zeroValue0
  t3:=Tryz.underlying3
  a3:=Tryz.isAgg3
  z3:=Tryz.sizeOf3
  v3:=Tryz.zeroValue3
  t4:=Tryz.underlying4
  a4:=Tryz.isAgg4
  z4:=Tryz.sizeOf4
  v4:=Tryz.zeroValue4
  t5:=Tryz.underlying5
  a5:=Tryz.isAgg5
  z5:=Tryz.sizeOf5
  v5:=Tryz.zeroValue5
  t9:=Tryz.underlying9
  a9:=Tryz.isAgg9
  z9:=Tryz.sizeOf9
  v9:=Tryz.zeroValue9
  t21:=Tryz.underlying21
  a21:=Tryz.isAgg21
  z21:=Tryz.sizeOf21
  v21:=Tryz.zeroValue21
  t31:=Tryz.underlying31
  a31:=Tryz.isAgg31
  z31:=Tryz.sizeOf31
  v31:=Tryz.zeroValue31
  t46:=Tryz.underlying223
  a46:=Tryz.isAgg223
  z46:=Tryz.sizeOf223
  v46:=Tryz.zeroValue223
  t51:=Tryz.underlying263
  a51:=Tryz.isAgg263
  z51:=Tryz.sizeOf263
  v51:=Tryz.zeroValue263
  t105:=Tryz.underlying235
  a105:=Tryz.isAgg235
  z105:=Tryz.sizeOf235
  v105:=Tryz.zeroValue235
  t119:=Tryz.underlying284
  a119:=Tryz.isAgg284
  z119:=Tryz.sizeOf284
  t138:=Tryz.underlying286
  a138:=Tryz.isAgg286
  z138:=Tryz.sizeOf286
  v138:=Tryz.zeroValue286
  t139:=Tryz.underlying287
  a139:=Tryz.isAgg287
  z139:=Tryz.sizeOf287
  v139:=Tryz.zeroValue287
  t146:=Tryz.underlying288
  a146:=Tryz.isAgg288
  z146:=Tryz.sizeOf288
  v146:=Tryz.zeroValue288
  g1:=by kernel_rfl
  g3:=by kernel_rfl
  g4:=by kernel_rfl }
def Tryz.laysNm220_ren:Go.Shelf.Ren:=⟨fun | 20=>227 | n=>n,fun | 22=>73 | 3=>3 | 4=>4 | 0=>0 | n=>n,fun | n=>n⟩
theorem Tryz.laysNm220:Go.Proofs.Lays2.n20 Tryz.prog Tryz.laysNm220_ren:={
  mixed:=by kernel_rfl
  f20:=Tryz.func227.trans (congrArg some (by kernel_rfl))
  t0:=Tryz.underlying0
  a0:=Tryz.isAgg0
  z0:=Tryz.sizeOf0
  v0:=Tryz.zeroValue0
  t3:=Tryz.underlying3
  a3:=Tryz.isAgg3
  z3:=Tryz.sizeOf3
  v3:=Tryz.zeroValue3
  t4:=Tryz.underlying4
  a4:=Tryz.isAgg4
  z4:=Tryz.sizeOf4
  v4:=Tryz.zeroValue4
  t22:=Tryz.underlying73
  a22:=Tryz.isAgg73
  z22:=Tryz.sizeOf73
  v22:=Tryz.zeroValue73
  i3:=by kernel_rfl }
open Go.RowKit Go.Lib Go.Sort in
theorem Tryz.slices_Compact_int (blk off cap:Nat) (zs:List Int) (w:World) (hH:Holds (Value.int .i64) w blk off zs.toArray) (hsz:zs.length≤9223372036854775807) (hcap:zs.length≤cap) :
    Calls Tryz.prog 227 #[.slice (some ⟨blk,off,none⟩) zs.length cap] w fun e w'=>e=.returned (.slice (some ⟨blk,off,none⟩) (Lib.compact zs).length cap)∧∃ q,w'=putRow (Value.int .i64) (Sort.ahead w q) blk off (Lib.compact zs++List.replicate (zs.length - (Lib.compact zs).length) 0).toArray:=Any.slices_Compact_int Tryz.laysNm220 blk off cap zs w hH hsz hcap
def Tryz.laysNm237_ren:Go.Shelf.Ren:=⟨fun | 37=>299 | n=>n,fun | 3=>3 | 4=>4 | n=>n,fun | n=>n⟩
theorem Tryz.laysNm237:Go.Proofs.Lays2.n37 Tryz.prog Tryz.laysNm237_ren:={
  mixed:=by kernel_rfl
  f37:=Tryz.func299.trans (congrArg some (by kernel_rfl))
  t3:=Tryz.underlying3
  a3:=Tryz.isAgg3
  z3:=Tryz.sizeOf3
  v3:=Tryz.zeroValue3
  t4:=Tryz.underlying4
  a4:=Tryz.isAgg4
  z4:=Tryz.sizeOf4
  v4:=Tryz.zeroValue4 }
open Go.RowKit Go.Lib in
theorem Tryz.cmp_isNaN_int2 (x:Int) (w:World) :
    Calls Tryz.prog 299 #[.int .i64 x] w fun e w'=>e=.returned (.bool false)∧w'=w:=Any.cmp_isNaN_int2 Tryz.laysNm237 x w
def Tryz.laysSlF6_f146_ren:Go.Shelf.Ren:=⟨fun | 6=>146 | 15=>210 | 14=>209 | 28=>268 | 29=>269 | 20=>260 | 21=>261 | 22=>262 | 23=>263 | 24=>264 | 25=>265 | 26=>266 | 27=>267 | 46=>294 | 47=>295 | 48=>296 | 49=>297 | 50=>298 | 57=>318 | n=>n,fun | 22=>118 | 24=>73 | 25=>184 | 3=>3 | 39=>223 | 0=>0 | 53=>263 | 55=>90 | 4=>4 | 46=>257 | 45=>256 | 50=>67 | 5=>5 | 9=>9 | 66=>278 | 70=>282 | 76=>303 | 77=>144 | n=>n,fun | n=>n⟩
theorem Tryz.laysSlF6_f146:Go.Proofs.SlLaysF.n6 Tryz.prog Tryz.laysSlF6_f146_ren:={
  mixed:=by kernel_rfl
  f6:=⟨Tryz.f146.name,by decide,Tryz.func146.trans (congrArg some (by kernel_rfl))⟩
  f14:=⟨Tryz.f209.name,by decide,Tryz.func209.trans (congrArg some (by kernel_rfl))⟩
  f15:=Tryz.func210.trans (congrArg some (by kernel_rfl))
  f20:=⟨Tryz.f260.name,by decide,Tryz.func260.trans (congrArg some (by kernel_rfl))⟩
  f21:=⟨Tryz.f261.name,by decide,Tryz.func261.trans (congrArg some (by kernel_rfl))⟩
  f22:=⟨Tryz.f262.name,by decide,Tryz.func262.trans (congrArg some (by kernel_rfl))⟩
  f23:=⟨Tryz.f263.name,by decide,Tryz.func263.trans (congrArg some (by kernel_rfl))⟩
  f24:=⟨Tryz.f264.name,by decide,Tryz.func264.trans (congrArg some (by kernel_rfl))⟩
  f25:=⟨Tryz.f265.name,by decide,Tryz.func265.trans (congrArg some (by kernel_rfl))⟩
  f26:=⟨Tryz.f266.name,by decide,Tryz.func266.trans (congrArg some (by kernel_rfl))⟩
  f27:=⟨Tryz.f267.name,by decide,Tryz.func267.trans (congrArg some (by kernel_rfl))⟩
  f28:=Tryz.func268.trans (congrArg some (by kernel_rfl))
  f29:=Tryz.func269.trans (congrArg some (by kernel_rfl))
  f46:=⟨Tryz.f294.name,by decide,Tryz.func294.trans (congrArg some (by kernel_rfl))⟩
  f47:=Tryz.func295.trans (congrArg some (by kernel_rfl))
  f48:=Tryz.func296.trans (congrArg some (by kernel_rfl))
  f49:=⟨Tryz.f297.name,by decide,Tryz.func297.trans (congrArg some (by kernel_rfl))⟩
  f50:=⟨Tryz.f298.name,by decide,Tryz.func298.trans (congrArg some (by kernel_rfl))⟩
  f57:=⟨Tryz.f318.name,by decide,Tryz.func318.trans (congrArg some (by kernel_rfl))⟩
  t0:=Tryz.underlying0
  a0:=Tryz.isAgg0
  z0:=Tryz.sizeOf0
  v0:=Tryz.zeroValue0
  t3:=Tryz.underlying3
  a3:=Tryz.isAgg3
  z3:=Tryz.sizeOf3
  v3:=Tryz.zeroValue3
  t4:=Tryz.underlying4
  a4:=Tryz.isAgg4
  z4:=Tryz.sizeOf4
  v4:=Tryz.zeroValue4
  t5:=Tryz.underlying5
  a5:=Tryz.isAgg5
  z5:=Tryz.sizeOf5
  v5:=Tryz.zeroValue5
  t9:=Tryz.underlying9
  a9:=Tryz.isAgg9
  z9:=Tryz.sizeOf9
  v9:=Tryz.zeroValue9
  t22:=Tryz.underlying118
  a22:=Tryz.isAgg118
  z22:=Tryz.sizeOf118
  v22:=Tryz.zeroValue118
  a24:=Tryz.isAgg73
  z24:=Tryz.sizeOf73
  t25:=Tryz.underlying184
  a25:=Tryz.isAgg184
  z25:=Tryz.sizeOf184
  v25:=Tryz.zeroValue184
  t39:=Tryz.underlying223
  a39:=Tryz.isAgg223
  z39:=Tryz.sizeOf223
  v39:=Tryz.zeroValue223
  t45:=Tryz.underlying256
  a45:=Tryz.isAgg256
  z45:=Tryz.sizeOf256
  v45:=Tryz.zeroValue256
  t46:=Tryz.underlying257
  a46:=Tryz.isAgg257
  z46:=Tryz.sizeOf257
  v46:=Tryz.zeroValue257
  t50:=Tryz.underlying67
  a50:=Tryz.isAgg67
  z50:=Tryz.sizeOf67
  v50:=Tryz.zeroValue67
  t53:=Tryz.underlying263
  a53:=Tryz.isAgg263
  z53:=Tryz.sizeOf263
  v53:=Tryz.zeroValue263
  t55:=Tryz.underlying90
  a55:=Tryz.isAgg90
  z55:=Tryz.sizeOf90
  v55:=Tryz.zeroValue90
  t66:=Tryz.underlying278
  a66:=Tryz.isAgg278
  z66:=Tryz.sizeOf278
  v66:=Tryz.zeroValue278
  t70:=Tryz.underlying282
  a70:=Tryz.isAgg282
  z70:=Tryz.sizeOf282
  v70:=Tryz.zeroValue282
  t76:=Tryz.underlying303
  a76:=Tryz.isAgg303
  z76:=Tryz.sizeOf303
  v76:=Tryz.zeroValue303
  t77:=Tryz.underlying144
  a77:=Tryz.isAgg144
  z77:=Tryz.sizeOf144
  v77:=Tryz.zeroValue144 }
open Go.RowKit Go.Lib Go.Sort in
theorem Tryz.slices_SortFunc_eq {α:Type} [Inhabited α] (enc:α→Value) (h1:OneCell enc) (cf:α→α→Int) (hO:SWO (ltOf cf)) (g:Nat) (cb:Array Value) (blk off cap:Nat) (d:Array α) (w:World) (eg:∀ args w,(callFunc g args).run Tryz.prog w=.ok (.enter g args) w) (hcmp:CmpLays1 Tryz.prog g cb enc cf blk off d.size w) (hH:Holds enc w blk off d) (hblk:blk<w.heap.size) (hsz:d.size<4611686018427387904) :
    Calls Tryz.prog 146 #[.slice (some ⟨blk,off,none⟩) d.size cap,.func (.func g) #[] cb] w fun e w'=>
      e=.returned (.tuple #[])∧∃ n os,w'=sortWorld enc w blk off n (pdq (ltOf cf) d 0 d.size (Lib.bitLen d.size) true true) os:=Any.slices_SortFunc_eq Tryz.laysSlF6_f146 enc h1 cf hO g cb blk off cap d w eg hcmp hH hblk hsz
end Go.Proofs.YtemcdiajejekoaaGreatDoor
namespace Go.Proofs.YtemcdiajejekoaaGreatDoor.Slim
open Go
set_option maxRecDepth 20000
abbrev Qu:FuncId:=7
abbrev Jg:FuncId:=20
abbrev Jh:FuncId:=21
abbrev Yx:FuncId:=25
abbrev Yy:FuncId:=26
abbrev XV:FuncId:=28
abbrev XW:FuncId:=29
abbrev ZbA:FuncId:=30
abbrev Zar:FuncId:=36
abbrev Zas:FuncId:=37
abbrev Zfz:FuncId:=40
abbrev Ju:FuncId:=41
abbrev Zcp:FuncId:=42
abbrev ZbB:FuncId:=43
abbrev ZcY:FuncId:=46
abbrev Zkt:FuncId:=47
abbrev Zba:FuncId:=48
abbrev Zhg:FuncId:=49
abbrev ZfA:FuncId:=50
abbrev XA:FuncId:=52
abbrev Zat:FuncId:=53
abbrev YQ:FuncId:=57
abbrev KQ:FuncId:=58
abbrev Xb:FuncId:=59
abbrev Zbb:FuncId:=60
abbrev Xu:FuncId:=63
abbrev KR:FuncId:=64
abbrev QQ:FuncId:=65
abbrev KS:FuncId:=66
abbrev ZfB:FuncId:=67
abbrev QR:FuncId:=68
abbrev QA:FuncId:=69
abbrev Kx:FuncId:=70
abbrev QB:FuncId:=71
abbrev Zbc:FuncId:=80
abbrev Jv:FuncId:=81
abbrev Yl:FuncId:=82
abbrev QC:FuncId:=83
abbrev Ji:FuncId:=84
abbrev Y3:FuncId:=85
abbrev QD:FuncId:=86
abbrev Ky:FuncId:=87
abbrev ZfC:FuncId:=90
abbrev ZdK:FuncId:=91
abbrev ZfD:FuncId:=92
abbrev ZdL:FuncId:=93
abbrev ZcZ:FuncId:=94
abbrev ZbR:FuncId:=95
abbrev ZeS:FuncId:=100
abbrev YR:FuncId:=101
abbrev YJ:FuncId:=102
abbrev Yn:FuncId:=103
abbrev Yb:FuncId:=104
abbrev ZnY:FuncId:=105
abbrev JJ:FuncId:=106
abbrev YX:FuncId:=107
abbrev Ym:FuncId:=108
abbrev ZeT:FuncId:=111
abbrev Yz:FuncId:=112
abbrev ZdM:FuncId:=113
abbrev Zig:FuncId:=114
abbrev KT:FuncId:=115
abbrev ZZ:FuncId:=116
abbrev ZdN:FuncId:=117
abbrev XX:FuncId:=118
abbrev QE:FuncId:=119
abbrev Zcq:FuncId:=120
abbrev QS:FuncId:=121
abbrev J2:FuncId:=122
abbrev ZbS:FuncId:=123
abbrev ZdO:FuncId:=124
abbrev ZfE:FuncId:=125
abbrev ZfF:FuncId:=126
abbrev ZfG:FuncId:=127
abbrev ZfH:FuncId:=128
abbrev ZeU:FuncId:=129
abbrev Zc0:FuncId:=130
abbrev Kp:FuncId:=131
abbrev YN:FuncId:=132
abbrev Zhh:FuncId:=135
abbrev Zcr:FuncId:=138
abbrev ZU:FuncId:=139
abbrev Zc1:FuncId:=140
abbrev Kz:FuncId:=141
abbrev Xn:FuncId:=142
abbrev Ys:FuncId:=146
abbrev ZJ:FuncId:=147
abbrev Zih:FuncId:=148
abbrev ZfI:FuncId:=149
abbrev Zii:FuncId:=150
abbrev ZfJ:FuncId:=151
abbrev ZfK:FuncId:=157
abbrev Jw:FuncId:=158
abbrev Zij:FuncId:=159
abbrev ZfL:FuncId:=160
abbrev ZbC:FuncId:=161
abbrev Xv:FuncId:=162
abbrev XP:FuncId:=163
abbrev Zcs:FuncId:=164
abbrev Zc2:FuncId:=165
abbrev Zau:FuncId:=166
abbrev ZfM:FuncId:=167
abbrev KU:FuncId:=168
abbrev XQ:FuncId:=169
abbrev Zbd:FuncId:=170
abbrev YA:FuncId:=171
abbrev ZdP:FuncId:=172
abbrev ZdQ:FuncId:=173
abbrev ZfN:FuncId:=174
abbrev ZdR:FuncId:=175
abbrev Zav:FuncId:=176
abbrev ZfO:FuncId:=177
abbrev JR:FuncId:=178
abbrev XY:FuncId:=179
abbrev ZfP:FuncId:=180
abbrev JK:FuncId:=181
abbrev Zbe:FuncId:=182
abbrev ZdS:FuncId:=183
abbrev Zbf:FuncId:=184
abbrev KV:FuncId:=185
abbrev ZfQ:FuncId:=186
abbrev XB:FuncId:=187
abbrev ZbD:FuncId:=188
abbrev Zik:FuncId:=189
abbrev Zaw:FuncId:=190
abbrev Jj:FuncId:=191
abbrev ZdT:FuncId:=192
abbrev QF:FuncId:=193
abbrev Zil:FuncId:=194
abbrev Zim:FuncId:=195
abbrev JS:FuncId:=196
abbrev Zin:FuncId:=197
abbrev Xk:FuncId:=198
abbrev Zio:FuncId:=199
abbrev ZfR:FuncId:=200
abbrev ZcP:FuncId:=201
abbrev Zc3:FuncId:=202
abbrev Z4:FuncId:=205
abbrev ZeD:FuncId:=211
abbrev Yt:FuncId:=215
abbrev Jk:FuncId:=216
abbrev Zax:FuncId:=217
abbrev ZeV:FuncId:=218
abbrev ZO:FuncId:=221
abbrev ZM:FuncId:=222
abbrev Zbg:FuncId:=223
abbrev XZ:FuncId:=224
abbrev Zay:FuncId:=225
abbrev XH:FuncId:=226
abbrev YY:FuncId:=227
abbrev YB:FuncId:=228
abbrev Xo:FuncId:=229
abbrev Zct:FuncId:=230
abbrev Zc4:FuncId:=231
abbrev Zah:FuncId:=232
abbrev Zaz:FuncId:=233
abbrev ZaA:FuncId:=234
abbrev ZdU:FuncId:=235
abbrev ZdV:FuncId:=236
abbrev Zip:FuncId:=237
abbrev ZbT:FuncId:=238
abbrev YL:FuncId:=239
abbrev Zcu:FuncId:=240
abbrev ZbU:FuncId:=241
abbrev Zhi:FuncId:=242
abbrev Ziq:FuncId:=243
abbrev ZaB:FuncId:=244
abbrev ZeW:FuncId:=245
abbrev Zku:FuncId:=246
abbrev Zbh:FuncId:=247
abbrev ZaC:FuncId:=248
abbrev ZdW:FuncId:=249
abbrev ZaD:FuncId:=250
abbrev Zcv:FuncId:=251
abbrev ZfS:FuncId:=252
abbrev JT:FuncId:=253
abbrev Zkv:FuncId:=254
abbrev YO:FuncId:=255
abbrev Kq:FuncId:=256
abbrev ZfT:FuncId:=282
abbrev ZfU:FuncId:=283
abbrev Zkw:FuncId:=284
abbrev QG:FuncId:=285
abbrev Zir:FuncId:=286
abbrev ZeX:FuncId:=287
abbrev ZfV:FuncId:=288
abbrev ZdX:FuncId:=289
@[go_sem] def Qa (n:Nat):Y6:=⟨.mv (.t n),none⟩
@[go_sem] def Qb (n:Nat):Y6:=⟨.mv (.l n),none⟩
@[go_sem] def Qc:Y6:=⟨.mv (.c (.bool false)),none⟩
@[go_sem] def Qd:Y6:=⟨.mv (.c (.bool true)),none⟩
@[go_sem] def Qe (n:Int):Y6:=⟨.mv (.c (.int .i64 n)),none⟩
@[go_sem] def Qf (o:AO):Y6:=⟨o,none⟩
@[go_sem] def Qg (o:AO):DE:=⟨o,none,[]⟩
@[go_sem] def Qh (n:Int):X:=.c (.int .i64 n)
@[go_sem] def Qi:X:=.c (.bool false)
@[go_sem] def Qj:X:=.c (.bool true)
@[go_sem] def Ql (a:List Y6) (b:List (Nat×Nat)) (k:Zg):Zg:=.seq (.region a b) k
@[go_sem] def Qm (a:List DE) (b:List (Nat×Nat)) (k:Zg):Zg:=.seq (.draw a b) k
@[go_sem] def Qn (a n:Nat):Y6:=⟨.load false a (.l n),none⟩
@[go_sem] def Qo (a n:Nat):Y6:=⟨.fieldAddr a (.t n),none⟩
@[go_sem] def Qp (a n:Nat):Y6:=⟨.extract a (.l n),none⟩
@[go_sem] def Qq (a n m:Nat):Y6:=⟨.store a (.l n) (.l m),none⟩
@[go_sem] def Qr (a n:Nat):Y6:=⟨.load true a (.t n),none⟩
@[go_sem] def Qs (f:FuncId) (a:List X):Y6:=⟨.call (.c (.fn f [] [])) a,none⟩
@[go_sem] def Qt (f:FuncId) (a:List X):DE:=⟨.call (.c (.fn f [] [])) a,none,[]⟩
def Jt:Zg :=
 (Ql [Qf (.box (.t 0)),Qf (.box (.t 1)),Qc] [(2,0),(3,1),(4,2)]
 (Ql [Qe 1048576] [(5,0)]
 (Ql [Qr 6 2,Qa 5,Qs ZcY [.l 0,.l 1],Qb 2] [(5,3)]
 (.seq (Ql [Qa 5,Qf (.bin 0 .lss (.l 0) (Qh 0))] [(11,1)]
 (.cond (.t 11) (Ql [Qd] [(4,0)]
 .ret) .skip))
 (Ql [Qr 3 3,Qa 5,Qs Zkt [.l 0,.l 1],Qb 2] [(5,3)]
 (.seq (Ql [Qa 5,Qf (.bin 0 .lss (.l 0) (Qh 0))] [(12,1)]
 (.cond (.t 12) (Ql [Qd] [(4,0)]
 .ret) .skip))
 (Qm [Qg (.load true 6 (.t 2)),Qg (.load true 3 (.t 3)),⟨.call (.c (.fn Zba [] [])) [(.l 0)],none,[(1,Qr 3 3)]⟩,Qt Zhg [.l 1],Qt Zas [.l 2,.l 3],Qg (.mv (.l 4)),Qg (.extract 0 (.l 5)),Qg (.extract 1 (.l 5)),Qg (.mv (.l 6)),Qg (.mv (.l 7))] [(6,8),(7,9)]
 (Ql [Qr 6 2,Qs Zba [.l 0],Qf (.alloc [.slice none 0 0 none,.int .i64 (0),.int .i64 (0),.slice none 0 0 none,.int .i64 (0),.int .i64 (0)]),Qq 6 2 1] [(8,2)]
 (Qm [Qg (.load true 6 (.t 8)),Qg (.load true 3 (.t 3)),⟨.call (.c (.fn Zhg [] [])) [(.l 1)],none,[(0,Qr 6 8)]⟩,Qt Zar [.l 0,.l 2],Qg (.mv (.l 3)),Qg (.extract 0 (.l 4)),Qg (.extract 1 (.l 4)),Qg (.mv (.l 5)),Qg (.mv (.l 6))] [(9,7),(10,8)]
 (.seq (Ql [Qa 9,Qa 6,Qf (.bin 0 .neq (.l 0) (.l 1)),Qb 2,⟨.mv (.t 10),some ((.l 3),false)⟩,⟨.mv (.t 7),some ((.l 3),false)⟩,⟨.bin 2 .neq (.l 4) (.l 5),some ((.l 3),false)⟩,Qf (.pick (.l 3) Qj (.l 6))] [(13,7)]
 (.cond (.t 13) (Ql [Qc] [(4,0)]
 .ret) .skip))
 (.seq (Qm [Qg (.load true 6 (.t 8)),Qg (.load true 6 (.t 2)),⟨.call (.c (.fn Zba [] [])) [(.l 1)],none,[(0,Qr 6 8)]⟩,Qt ZfA [.l 0,.l 2],Qg (.un .not (.l 3))] [(14,4)]
 (.cond (.t 14) (Ql [Qc] [(4,0)]
 .ret) .skip))
 (Ql [Qd] [(4,0)]
 .ret))))))))))))
def YK:ZK:=⟨[0,1,2,3,4,5,6,7,8,9,10,15,20,45,50],51,Jt,[.tmp 4],1⟩
def ZeE:Zg :=
 (Ql [Qf (.box (.t 0)),⟨.alloc [.slice none 0 0 none,.int .i64 (0),.int .i64 (0),.slice none 0 0 none,.int .i64 (0),.int .i64 (0),.str ⟨#[]⟩,.str ⟨#[]⟩,.int .i64 (0)],none⟩,Qc] [(1,0),(2,1),(3,2)]
 (.seq (Ql [Qr 6 1,Qs YQ [.l 0],Qf (.un .not (.l 1))] [(4,2)]
 (.cond (.t 4) (Ql [⟨.build [.slice none 0 0 none,.int .i64 (0),.int .i64 (0),.slice none 0 0 none,.int .i64 (0),.int .i64 (0),.str ⟨#[]⟩,.str ⟨#[]⟩,.int .i64 (0)] [],none⟩,Qf (.store 9 (.t 2) (.l 0)),Qc] [(3,2)]
 .ret) .skip))
 (Ql [Qr 6 1,Qs KQ [.l 0],⟨.build [.slice none 0 0 none,.int .i64 (0),.int .i64 (0),.slice none 0 0 none,.int .i64 (0),.int .i64 (0),.str ⟨#[]⟩,.str ⟨#[]⟩,.int .i64 (0)] [(0,6,(.l 1))],none⟩,Qf (.store 9 (.t 2) (.l 2)),Qd] [(3,4)]
 .ret)))
def QH:ZK:=⟨[0,1,2,3,6],11,ZeE,[.cell 2 true 9,.tmp 3],2⟩
def ZeF:Zg :=
 (Ql [Qf (.box (.t 0)),⟨.alloc [.slice none 0 0 none,.int .i64 (0),.int .i64 (0),.slice none 0 0 none,.int .i64 (0),.int .i64 (0),.str ⟨#[]⟩,.str ⟨#[]⟩,.int .i64 (0)],none⟩,Qc] [(1,0),(2,1),(3,2)]
 (.seq (Ql [Qr 6 1,Qs Xb [.l 0],Qf (.un .not (.l 1))] [(4,2)]
 (.cond (.t 4) (Ql [⟨.build [.slice none 0 0 none,.int .i64 (0),.int .i64 (0),.slice none 0 0 none,.int .i64 (0),.int .i64 (0),.str ⟨#[]⟩,.str ⟨#[]⟩,.int .i64 (0)] [],none⟩,Qf (.store 9 (.t 2) (.l 0)),Qc] [(3,2)]
 .ret) .skip))
 (Ql [Qr 6 1,Qs Zbb [.l 0],⟨.build [.slice none 0 0 none,.int .i64 (0),.int .i64 (0),.slice none 0 0 none,.int .i64 (0),.int .i64 (0),.str ⟨#[]⟩,.str ⟨#[]⟩,.int .i64 (0)] [(0,6,(.l 1))],none⟩,Qf (.store 9 (.t 2) (.l 2)),Qd] [(3,4)]
 .ret)))
def QI:ZK:=⟨[0,1,2,3,6],11,ZeF,[.cell 2 true 9,.tmp 3],2⟩
def X0:Zg :=
 (Ql [Qf (.box (.t 0)),⟨.alloc [.slice none 0 0 none,.int .i64 (0),.int .i64 (0),.slice none 0 0 none,.int .i64 (0),.int .i64 (0),.str ⟨#[]⟩,.str ⟨#[]⟩,.int .i64 (0)],none⟩,⟨.mv (.c (.str ⟨#[]⟩)),none⟩] [(2,0),(3,1),(4,2)]
 (Qm [Qg (.fieldAddr 0 (.t 2)),Qg (.load true 6 (.l 0)),Qg (.fieldAddr 6 (.t 2)),Qg (.load true 3 (.l 2)),⟨.call (.c (.fn KQ [] [])) [(.l 1)],none,[(3,Qf (.load true 3 (.l 2)))]⟩,⟨.build [.slice none 0 0 none,.int .i64 (0),.int .i64 (0),.slice none 0 0 none,.int .i64 (0),.int .i64 (0),.str ⟨#[]⟩,.str ⟨#[]⟩,.int .i64 (0)] [(0,6,(.l 4)),(6,3,(.l 3))],none,[]⟩,⟨.alloc [.slice none 0 0 none,.int .i64 (0),.int .i64 (0),.slice none 0 0 none,.int .i64 (0),.int .i64 (0),.str ⟨#[]⟩,.str ⟨#[]⟩,.int .i64 (0)],none,[(1,Qf (.load true 6 (.l 0))),(3,Qf (.load true 3 (.l 2)))]⟩,Qg (.store 9 (.l 6) (.l 5))] [(5,6)]
 (.seq (.block 0 (Ql [Qr 9 2,Qs XV [.l 0],Qf (.un .not (.l 1)),Qb 2] [(8,3)]
 (.cond (.t 8) (Ql [Qr 9 5,Qf (.store 9 (.t 3) (.l 0)),⟨.mv (.c (.str ⟨#[110,111]⟩)),none⟩] [(4,2)]
 .ret) (Ql [Qa 1,⟨.build [.str ⟨#[]⟩,.str ⟨#[]⟩] [(0,1,(.l 0))],none⟩,Qs Xu [.l 1],Qf (.un .not (.l 2)),Qb 3] [(9,4)]
 (.cond (.t 9) (Ql [Qr 9 5,Qf (.store 9 (.t 3) (.l 0)),⟨.mv (.c (.str ⟨#[98,97,100]⟩)),none⟩] [(4,2)]
 .ret) (Ql [Qo 6 2,Qf (.fieldAddr 2 (.l 0)),Qn 1 1,Qf (.bin 0 .eql (.l 2) (Qh 60)),Qb 3] [(10,4)]
 (.cond (.t 10) (Ql [Qr 9 5,Qf (.store 9 (.t 3) (.l 0)),⟨.mv (.c (.str ⟨#[102,117,108,108]⟩)),none⟩] [(4,2)]
 .ret) .skip)))))))
 (Ql [Qo 0 5,Qa 1,Qs KR [.l 0,.l 1],Qb 2,Qp 0 3,Qp 1 3,Qb 4,Qb 5] [(6,6),(7,7)]
 (.seq (Ql [Qa 7,Qf (.un .not (.l 0))] [(11,1)]
 (.cond (.t 11) (.region [⟨.mv (.c (.str ⟨#[63]⟩)),none⟩] [(6,0)]) .skip))
 (Ql [Qo 6 5,Qf (.load true 3 (.l 0)),Qa 1,Qa 6,⟨.build [.str ⟨#[]⟩,.str ⟨#[]⟩] [(0,1,(.l 2)),(1,1,(.l 3))],none⟩,Qs QQ [.l 1,.l 4],Qb 5,Qp 0 6,Qp 1 6,Qo 6 5,Qq 3 9 7] []
 (Ql [Qr 9 5,Qa 6,Qf (.store 9 (.t 3) (.l 0)),Qb 1] [(4,3)]
 .ret)))))))
def YC:ZK:=⟨[0,1,2,4,5,6,7,8,15,20,26,39],52,X0,[.cell 3 true 9,.tmp 4],2⟩
def X1:Zg :=
 (Ql [Qf (.box (.t 0)),⟨.alloc [.slice none 0 0 none,.int .i64 (0),.int .i64 (0),.slice none 0 0 none,.int .i64 (0),.int .i64 (0),.str ⟨#[]⟩,.str ⟨#[]⟩,.int .i64 (0)],none⟩,⟨.mv (.c (.str ⟨#[]⟩)),none⟩] [(2,0),(3,1),(4,2)]
 (Qm [Qg (.fieldAddr 0 (.t 2)),Qg (.load true 6 (.l 0)),Qg (.fieldAddr 6 (.t 2)),Qg (.load true 3 (.l 2)),⟨.call (.c (.fn Zbb [] [])) [(.l 1)],none,[(3,Qf (.load true 3 (.l 2)))]⟩,⟨.build [.slice none 0 0 none,.int .i64 (0),.int .i64 (0),.slice none 0 0 none,.int .i64 (0),.int .i64 (0),.str ⟨#[]⟩,.str ⟨#[]⟩,.int .i64 (0)] [(0,6,(.l 4)),(6,3,(.l 3))],none,[]⟩,⟨.alloc [.slice none 0 0 none,.int .i64 (0),.int .i64 (0),.slice none 0 0 none,.int .i64 (0),.int .i64 (0),.str ⟨#[]⟩,.str ⟨#[]⟩,.int .i64 (0)],none,[(1,Qf (.load true 6 (.l 0))),(3,Qf (.load true 3 (.l 2)))]⟩,Qg (.store 9 (.l 6) (.l 5))] [(5,6)]
 (.seq (Ql [Qr 9 2,Qs XW [.l 0],Qf (.un .not (.l 1))] [(9,2)]
 (.cond (.t 9) (Ql [Qr 9 5,Qf (.store 9 (.t 3) (.l 0)),⟨.mv (.c (.str ⟨#[110,111]⟩)),none⟩] [(4,2)]
 .ret) .skip))
 (.seq (Ql [Qa 1,⟨.build [.str ⟨#[]⟩,.str ⟨#[]⟩] [(0,1,(.l 0))],none⟩,Qs KS [.l 1],Qf (.un .not (.l 2))] [(10,3)]
 (.cond (.t 10) (Ql [Qr 9 5,Qf (.store 9 (.t 3) (.l 0)),⟨.mv (.c (.str ⟨#[98,97,100]⟩)),none⟩] [(4,2)]
 .ret) .skip))
 (.seq (Ql [Qo 6 2,Qf (.fieldAddr 2 (.l 0)),Qn 1 1,Qf (.bin 0 .eql (.l 2) (Qh 60))] [(11,3)]
 (.cond (.t 11) (Ql [Qr 9 5,Qf (.store 9 (.t 3) (.l 0)),⟨.mv (.c (.str ⟨#[102,117,108,108]⟩)),none⟩] [(4,2)]
 .ret) .skip))
 (Ql [Qo 0 2,Qf (.load true 6 (.l 0)),Qa 1,Qs ZfB [.l 1,.l 2],Qb 3,Qp 0 4,Qp 1 4,Qf (.alloc [.slice none 0 0 none,.int .i64 (0),.int .i64 (0),.slice none 0 0 none,.int .i64 (0),.int .i64 (0)]),Qq 6 7 5,Qb 6] [(6,7),(7,9)]
 (Ql [Qo 6 2,Qf (.load true 3 (.l 0)),Qa 1,Qa 7,⟨.build [.str ⟨#[]⟩,.str ⟨#[]⟩] [(0,1,(.l 2)),(1,1,(.l 3))],none⟩,Qs QR [.l 1,.l 4],Qb 5,Qp 0 6,Qp 1 6,⟨.alloc [.str ⟨#[]⟩,.str ⟨#[]⟩,.int .i64 (0)],none⟩,Qq 3 9 7,Qb 8] [(8,9)]
 (Qm [Qg (.load true 6 (.t 6)),Qg (.load true 3 (.t 8)),Qg (.mv (.t 7)),⟨.call (.c (.fn Zbb [] [])) [(.l 0)],none,[(1,Qr 3 8)]⟩,⟨.build [.slice none 0 0 none,.int .i64 (0),.int .i64 (0),.slice none 0 0 none,.int .i64 (0),.int .i64 (0),.str ⟨#[]⟩,.str ⟨#[]⟩,.int .i64 (0)] [(0,6,(.l 3)),(6,3,(.l 1))],none,[]⟩,Qg (.store 9 (.t 3) (.l 4)),Qg (.mv (.l 2))] [(4,6)]
 .ret))))))))
def YD:ZK:=⟨[0,1,2,4,5,6,7,8,9,19,24,29],52,X1,[.cell 3 true 9,.tmp 4],2⟩
def ZdY:Zg :=
 (Ql [Qf (.box (.t 0)),Qc] [(1,0),(2,1)]
 (Ql [Qo 0 1,Qf (.load true 6 (.l 0)),Qs YQ [.l 1],Qb 2,⟨.fieldAddr 6 (.t 1),some ((.l 3),true)⟩,⟨.load true 3 (.l 4),some ((.l 3),true)⟩,⟨.call (.c (.fn QA [] [])) [(.l 5)],some ((.l 3),true)⟩,Qf (.pick (.l 3) (.l 6) Qi),Qb 7] [(2,8)]
 .ret))
def Kr:ZK:=⟨[0,1,2],11,ZdY,[.tmp 2],1⟩
def ZdZ:Zg :=
 (Ql [Qf (.box (.t 0)),Qc] [(1,0),(2,1)]
 (Ql [Qo 0 1,Qf (.load true 6 (.l 0)),Qs Xb [.l 1],Qb 2,⟨.fieldAddr 6 (.t 1),some ((.l 3),true)⟩,⟨.load true 3 (.l 4),some ((.l 3),true)⟩,⟨.call (.c (.fn Kx [] [])) [(.l 5)],some ((.l 3),true)⟩,Qf (.pick (.l 3) (.l 6) Qi),Qb 7] [(2,8)]
 .ret))
def Ks:ZK:=⟨[0,1,2],11,ZdZ,[.tmp 2],1⟩
def ZbE:Zg :=
 (Ql [Qf (.box (.t 0)),Qf (.mv (.c (.slice none 0 0 none))),Qc] [(1,0),(2,1),(3,2)]
 (Ql [Qr 3 1,Qs QB [.l 0],Qb 1,Qp 0 2,Qp 1 2,Qb 3,Qb 4] [(4,5),(5,6)]
 (.seq (Ql [Qa 5,Qf (.un .not (.l 0))] [(6,1)]
 (.cond (.t 6) (Ql [Qf (.mv (.c (.slice none 0 0 none))),Qc] [(2,0),(3,1)]
 .ret) .skip))
 (Ql [Qa 4,Qb 0,Qd] [(2,1),(3,2)]
 .ret))))
def Kd:ZK:=⟨[0,1,2,3,4,5,12],14,ZbE,[.tmp 2,.tmp 3],2⟩
def Zc5:Zg :=
 (Ql [Qf (.bin 0 .lss (.t 17) (.t 16))] [(18,0)]
 (.seq (.cond (.t 18) .skip (.exit 0))
 (.seq (.block 1 (Ql [Qa 17,Qf (.indexAddrS 2 (.t 15) (.t 17)),Qf (.load true 2 (.l 1)),⟨.alloc [.str ⟨#[]⟩,.str ⟨#[]⟩],none⟩,Qb 0,Qq 2 3 2] [(10,4),(11,3)]
 (Ql [Qr 9 6,Qo 0 11,Qn 1 1,Qs Yx [.l 0,.l 2],Qb 3,Qp 0 4,Qp 1 4,⟨.alloc [.slice none 0 0 none,.int .i64 (0),.int .i64 (0),.slice none 0 0 none,.int .i64 (0),.int .i64 (0),.str ⟨#[]⟩,.str ⟨#[]⟩,.int .i64 (0)],none⟩,Qq 9 7 5,Qb 6] [(12,7),(13,9)]
 (.seq (Ql [Qa 13,Qo 1 11,Qn 1 1,Qf (.bin 1 .neq (.l 0) (.l 2))] [(19,3)]
 (.cond (.t 19) (Ql [Qa 10,Qb 0,Qd] [(4,1),(5,2)]
 .ret) .skip))
 (.region [Qr 9 12,Qf (.store 9 (.t 6) (.l 0))] [])))))
 (.region [Qf (.bin 0 .add (.t 17) (Qh 1)),Qb 0] [(17,1)]))))
def Zkx:Zg :=
 (Ql [Qf (.box (.t 0)),Qf (.box (.t 1)),Qe 0,Qc] [(2,0),(3,1),(4,2),(5,3)]
 (Ql [Qr 6 2,Qs Jg [.l 0],Qb 1,Qp 0 2,Qp 1 2,⟨.alloc [.slice none 0 0 none,.int .i64 (0),.int .i64 (0),.slice none 0 0 none,.int .i64 (0),.int .i64 (0),.str ⟨#[]⟩,.str ⟨#[]⟩,.int .i64 (0)],none⟩,Qq 9 5 3,Qb 4] [(6,5),(7,7)]
 (Ql [Qr 3 3,Qs ZbA [.l 0],Qb 1,Qp 0 2,Qp 1 2,Qb 3,Qb 4] [(8,5),(9,6)]
 (.seq (Ql [Qa 7,Qf (.un .not (.l 0)),Qb 1,⟨.mv (.t 9),some ((.l 2),false)⟩,⟨.un .not (.l 3),some ((.l 2),false)⟩,Qf (.pick (.l 2) Qj (.l 4))] [(14,5)]
 (.cond (.t 14) (Ql [Qe 0,Qc] [(4,0),(5,1)]
 .ret) .skip))
 (.seq (Ql [Qa 8,Qf (.len (.l 0)),Qe 0] [(15,0),(16,1),(17,2)]
 (.block 0 (.loop Zc5)))
 (Ql [Qa 8,Qf (.len (.l 0)),Qb 1,Qd] [(4,2),(5,3)]
 .ret))))))
def YZ:ZK:=⟨[0,1,2,3,4,5,6,7,8,9,10,11,12,13,29,30,31,32,33,47],53,Zkx,[.tmp 4,.tmp 5],1⟩
def Zc6:Zg :=
 (.seq (Ql [Qa 9,Qa 8,Qf (.len (.l 1)),Qf (.bin 0 .lss (.l 0) (.l 2))] [(13,3)]
 (.cond (.t 13) .skip (.exit 0)))
 (.seq (.block 1 (Qm [Qg (.load true 9 (.t 6)),Qg (.mv (.t 8)),Qg (.mv (.t 9)),Qg (.indexAddrS 2 (.l 1) (.l 2)),Qg (.fieldAddr 0 (.l 3)),Qg (.load false 1 (.l 4)),Qt Yy [.l 0,.l 5],Qg (.mv (.l 6)),Qg (.extract 0 (.l 7)),Qg (.extract 1 (.l 7)),⟨.alloc [.slice none 0 0 none,.int .i64 (0),.int .i64 (0),.slice none 0 0 none,.int .i64 (0),.int .i64 (0),.str ⟨#[]⟩,.str ⟨#[]⟩,.int .i64 (0)],none,[(0,Qr 9 6),(5,Qn 1 4)]⟩,Qg (.store 9 (.l 10) (.l 8)),Qg (.mv (.l 9))] [(10,10),(11,12)]
 (Ql [Qr 9 10,Qf (.store 9 (.t 6) (.l 0))] []
 (Ql [Qa 11,Qa 8,Qa 9,Qf (.indexAddrS 2 (.l 1) (.l 2)),Qf (.fieldAddr 1 (.l 3)),Qn 1 4,Qf (.bin 1 .neq (.l 0) (.l 5))] [(14,6)]
 (.cond (.t 14) (Ql [Qa 9,Qb 0,Qd] [(4,1),(5,2)]
 .ret) .skip)))))
 (.region [Qa 9,Qf (.bin 0 .add (.l 0) (Qh 1)),Qb 1] [(9,2)])))
def Zky:Zg :=
 (Ql [Qf (.box (.t 0)),Qf (.box (.t 1)),Qe 0,Qc] [(2,0),(3,1),(4,2),(5,3)]
 (Ql [Qr 6 2,Qs Jh [.l 0],Qb 1,Qp 0 2,Qp 1 2,⟨.alloc [.slice none 0 0 none,.int .i64 (0),.int .i64 (0),.slice none 0 0 none,.int .i64 (0),.int .i64 (0),.str ⟨#[]⟩,.str ⟨#[]⟩,.int .i64 (0)],none⟩,Qq 9 5 3,Qb 4] [(6,5),(7,7)]
 (.seq (Ql [Qa 7,Qf (.un .not (.l 0)),Qb 1,⟨.load true 3 (.t 3),some ((.l 2),false)⟩,⟨.call (.c (.fn Kx [] [])) [(.l 3)],some ((.l 2),false)⟩,⟨.un .not (.l 4),some ((.l 2),false)⟩,Qf (.pick (.l 2) Qj (.l 5))] [(12,6)]
 (.cond (.t 12) (Ql [Qe 0,Qc] [(4,0),(5,1)]
 .ret) .skip))
 (Ql [Qo 0 3,Qn 1 0,Qo 1 3,Qn 1 2,Qf (.bin 1 .add (.l 1) (.l 3)),Qs Zbc [.l 4],Qb 5,Qp 0 6,Qp 1 6,Qb 7,Qb 8] [(8,9)]
 (.seq (Ql [Qe 0] [(9,0)]
 (.block 0 (.loop Zc6)))
 (Ql [Qa 8,Qf (.len (.l 0)),Qb 1,Qd] [(4,2),(5,3)]
 .ret))))))
def Y0:ZK:=⟨[0,1,2,3,4,5,6,7,8,10,11,12,24,37,57],61,Zky,[.tmp 4,.tmp 5],1⟩
def ZfW:Zg :=
 (Ql [Qf (.bin 0 .lss (.t 9) (.t 8))] [(10,0)]
 (.seq (.cond (.t 10) .skip (.exit 0))
 (.seq (.block 1 (Ql [Qf (.indexAddrS 2 (.t 7) (.t 9)),Qf (.load true 2 (.l 0)),Qf (.alloc [.int .i64 (0),.int .i64 (0)]),Qq 2 2 1] [(4,2)]
 (.region [Qa 3,Qo 0 4,Qn 1 1,Qo 1 4,Qn 1 3,Qf (.buildSlice 1 2 [.int .i64 (0),.int .i64 (0)] [(0,1,(.l 2)),(1,1,(.l 4))]),⟨.call (.c (.fn Yl [] [])) [(.l 5),(.c (.str ⟨#[58]⟩))],none⟩,⟨.buildSlice 1 1 [.str ⟨#[]⟩] [(0,1,(.l 6))],none⟩,Qf (.append false 1 16 (.l 0) (.l 7)),Qb 8] [(3,9)])))
 (.region [Qf (.bin 0 .add (.t 9) (Qh 1)),Qb 0] [(9,1)]))))
def ZjF:Zg :=
 (Ql [⟨.mv (.c (.str ⟨#[]⟩)),none⟩,Qc] [(1,0),(2,1)]
 (.seq (Ql [Qa 0,Qs Jv [.l 0],Qf (.un .not (.l 1))] [(5,2)]
 (.cond (.t 5) (Ql [⟨.mv (.c (.str ⟨#[]⟩)),none⟩,Qc] [(1,0),(2,1)]
 .ret) .skip))
 (.seq (Ql [Qa 0,Qf (.len (.l 0)),Qf (.bin 0 .eql (.l 1) (Qh 0))] [(6,2)]
 (.cond (.t 6) (Ql [⟨.mv (.c (.str ⟨#[110,111,110,101]⟩)),none⟩,Qd] [(1,0),(2,1)]
 .ret) .skip))
 (Ql [Qf (.buildSlice 1 0 [] []),Qb 0] [(3,1)]
 (.seq (Ql [Qa 0,Qf (.len (.l 0)),Qe 0] [(7,0),(8,1),(9,2)]
 (.block 0 (.loop ZfW)))
 (Ql [Qa 3,⟨.call (.c (.fn QC [] [])) [(.l 0),(.c (.str ⟨#[32]⟩))],none⟩,Qb 1,Qd] [(1,2),(2,3)]
 .ret))))))
def Zbi:ZK:=⟨[0,2,3,4,6,9,12,14,15,16,17],32,ZjF,[.tmp 1,.tmp 2],1⟩
def Zhj:Zg :=
 (Ql [Qe 0,Qc] [(2,0),(3,1)]
 (.seq (Ql [Qa 0,Qs Jv [.l 0],Qf (.un .not (.l 1)),Qb 2,⟨.mv (.t 1),some ((.l 3),false)⟩,⟨.call (.c (.fn Ji [] [])) [(.l 4)],some ((.l 3),false)⟩,⟨.un .not (.l 5),some ((.l 3),false)⟩,Qf (.pick (.l 3) Qj (.l 6))] [(4,7)]
 (.cond (.t 4) (Ql [Qe 0,Qc] [(2,0),(3,1)]
 .ret) .skip))
 (Ql [Qa 0,Qa 1,Qs Y3 [.l 0,.l 1],Qb 2,Qd] [(2,3),(3,4)]
 .ret)))
def ZaE:ZK:=⟨[0,1,4,5,13],17,Zhj,[.tmp 2,.tmp 3],1⟩
def ZfX:Zg :=
 (Ql [Qe 0,Qc] [(2,0),(3,1)]
 (.seq (Ql [Qa 0,Qs Jv [.l 0],Qf (.un .not (.l 1)),Qb 2,⟨.mv (.t 1),some ((.l 3),false)⟩,⟨.call (.c (.fn Ji [] [])) [(.l 4)],some ((.l 3),false)⟩,⟨.un .not (.l 5),some ((.l 3),false)⟩,Qf (.pick (.l 3) Qj (.l 6))] [(4,7)]
 (.cond (.t 4) (Ql [Qe 0,Qc] [(2,0),(3,1)]
 .ret) .skip))
 (Ql [Qa 0,Qa 1,Qs QD [.l 0,.l 1],Qf (.len (.l 2)),Qb 3,Qd] [(2,4),(3,5)]
 .ret)))
def KW:ZK:=⟨[0,1,4,5,13],18,ZfX,[.tmp 2,.tmp 3],1⟩
def XR:Zg :=
 (Ql [Qf (.bin 0 .lss (.t 10) (.t 9))] [(11,0)]
 (.seq (.cond (.t 11) .skip (.exit 0))
 (.seq (.block 1 (Ql [Qf (.indexAddrS 1 (.t 8) (.t 10)),Qn 1 0,Qb 1] [(5,2)]
 (Ql [Qa 5,Qf (.len (.l 0)),Qf (.bin 0 .gtr (.l 1) (Qh 0)),Qb 2,⟨.mv (.t 5),some ((.l 3),true)⟩,⟨.len (.l 4),some ((.l 3),true)⟩,⟨.mv (.t 0),some ((.l 3),true)⟩,⟨.len (.l 6),some ((.l 3),true)⟩,⟨.bin 0 .lss (.l 5) (.l 7),some ((.l 3),true)⟩,Qf (.pick (.l 3) (.l 8) Qi),Qb 9,⟨.mv (.t 5),some ((.l 10),true)⟩,⟨.indexAddrS 1 (.l 11) (Qh 0),some ((.l 10),true)⟩,⟨.load false 1 (.l 12),some ((.l 10),true)⟩,⟨.bin 0 .eql (.l 13) (Qh 0),some ((.l 10),true)⟩,Qf (.pick (.l 10) (.l 14) Qi)] [(12,15)]
 (.cond (.t 12) (Ql [Qa 5,Qb 0,Qd] [(1,1),(2,2)]
 .ret) .skip))))
 (.region [Qf (.bin 0 .add (.t 10) (Qh 1)),Qb 0] [(10,1)]))))
def ZbF:Zg :=
 (Ql [Qf (.mv (.c (.slice none 0 0 none))),Qc] [(1,0),(2,1)]
 (.seq (Ql [Qa 0,Qs Jv [.l 0],Qf (.un .not (.l 1)),Qb 2,⟨.mv (.t 0),some ((.l 3),false)⟩,⟨.len (.l 4),some ((.l 3),false)⟩,⟨.bin 0 .lss (.l 5) (Qh 2),some ((.l 3),false)⟩,Qf (.pick (.l 3) Qj (.l 6))] [(6,7)]
 (.cond (.t 6) (Ql [Qf (.mv (.c (.slice none 0 0 none))),Qc] [(1,0),(2,1)]
 .ret) .skip))
 (Ql [Qa 0,Qs Y3 [.l 0,Qh 0],Qa 0,Qs Ky [.l 2],Qb 1,Qb 3] [(3,4),(4,5)]
 (.seq (Ql [Qa 3,Qa 4,Qf (.bin 0 .rem (.l 0) (.l 1)),Qf (.bin 0 .neq (.l 2) (Qh 0))] [(7,3)]
 (.cond (.t 7) (Ql [Qf (.mv (.c (.slice none 0 0 none))),Qc] [(1,0),(2,1)]
 .ret) .skip))
 (.seq (Ql [Qa 0,Qa 3,Qa 4,Qf (.bin 0 .quo (.l 1) (.l 2)),Qs QD [.l 0,.l 3],Qf (.len (.l 4)),Qe 0] [(8,4),(9,5),(10,6)]
 (.block 0 (.loop XR)))
 (Ql [Qf (.mv (.c (.slice none 0 0 none))),Qc] [(1,0),(2,1)]
 .ret))))))
def Xp:ZK:=⟨[0,2,3,4,5,7,15,23,28,29,30,31,49],52,ZbF,[.tmp 1,.tmp 2],2⟩
def ZfY:Zg :=
 (Ql [Qf (.box (.t 0)),Qe 0] [(2,0),(3,1)]
 (Ql [Qo 0 2,Qn 1 0,Qa 1,Qs ZfC [.l 1,.l 2],Qb 3] [(1,4)]
 (.seq (Ql [Qa 1,Qf (.bin 0 .lss (.l 0) (Qh 0))] [(4,1)]
 (.cond (.t 4) (Ql [Qe (-1)] [(3,0)]
 .ret) .skip))
 (Ql [Qo 3 2,Qn 1 0,Qa 1,Qs ZdK [.l 1,.l 2],Qb 3] [(1,4)]
 (.seq (Ql [Qa 1,Qf (.bin 0 .lss (.l 0) (Qh 0))] [(5,1)]
 (.cond (.t 5) (Ql [Qe (-1)] [(3,0)]
 .ret) .skip))
 (Ql [Qa 1,Qb 0] [(3,1)]
 .ret))))))
def Zbj:ZK:=⟨[0,1,2,4,10,16],18,ZfY,[.tmp 3],1⟩
def Zkz:Zg :=
 (Ql [Qf (.box (.t 0)),Qe 0] [(2,0),(3,1)]
 (Ql [Qa 1,Qo 0 2,Qn 1 1,Qf (.lenStr (.l 2)),Qf (.bin 0 .sub (.l 0) (.l 3)),Qb 4] [(1,5)]
 (.seq (Ql [Qa 1,Qf (.bin 0 .lss (.l 0) (Qh 0))] [(4,1)]
 (.cond (.t 4) (Ql [Qe (-1)] [(3,0)]
 .ret) .skip))
 (Ql [Qa 1,Qo 1 2,Qn 1 1,Qf (.lenStr (.l 2)),Qf (.bin 0 .sub (.l 0) (.l 3)),Qb 4] [(1,5)]
 (.seq (Ql [Qa 1,Qf (.bin 0 .lss (.l 0) (Qh 0))] [(5,1)]
 (.cond (.t 5) (Ql [Qe (-1)] [(3,0)]
 .ret) .skip))
 (Ql [Qa 1,Qb 0] [(3,1)]
 .ret))))))
def ZeY:ZK:=⟨[0,1,2,4,11,18],20,Zkz,[.tmp 3],1⟩
def ZoE:Zg :=
 (Ql [Qf (.box (.t 0)),Qf (.alloc [.slice none 0 0 none,.int .i64 (0),.int .i64 (0),.slice none 0 0 none,.int .i64 (0),.int .i64 (0)])] [(1,0),(2,1)]
 (Ql [Qf (.alloc [.slice none 0 0 none,.int .i64 (0),.int .i64 (0),.slice none 0 0 none,.int .i64 (0),.int .i64 (0)])] [(3,0)]
 (Ql [Qo 0 1,Qn 1 0,Qs ZfD [.l 1],Qo 0 3,Qq 1 3 2] []
 (Ql [Qo 1 1,Qn 1 0,Qo 1 3,Qq 1 2 1] []
 (Ql [Qo 2 1,Qn 1 0,Qo 2 3,Qq 1 2 1] []
 (Ql [Qo 3 1,Qn 1 0,Qs ZdL [.l 1],Qo 3 3,Qq 1 3 2] []
 (Ql [Qo 4 1,Qn 1 0,Qo 4 3,Qq 1 2 1] []
 (Ql [Qo 5 1,Qn 1 0,Qo 5 3,Qq 1 2 1] []
 (Ql [Qr 6 3,Qf (.store 6 (.t 2) (.l 0))] []
 .ret)))))))))
def ZfZ:ZK:=⟨[0,1,2,3],25,ZoE,[.cell 2 true 6],2⟩
def Zuy:Zg :=
 (Ql [Qf (.box (.t 0)),⟨.alloc [.str ⟨#[]⟩,.str ⟨#[]⟩,.int .i64 (0)],none⟩] [(1,0),(2,1)]
 (Ql [⟨.alloc [.str ⟨#[]⟩,.str ⟨#[]⟩,.int .i64 (0)],none⟩] [(3,0)]
 (Ql [Qo 0 1,Qn 1 0,Qo 0 3,Qq 1 2 1] []
 (Ql [Qo 1 1,Qn 1 0,Qo 1 3,Qq 1 2 1] []
 (Ql [Qo 2 1,Qn 1 0,Qo 2 3,Qq 1 2 1] []
 (Ql [Qr 3 3,Qf (.store 3 (.t 2) (.l 0))] []
 .ret))))))
def ZkA:ZK:=⟨[0,1,2,3],14,Zuy,[.cell 2 true 3],1⟩
def ZoF:Zg :=
 (Ql [Qf (.box (.t 0)),Qf (.box (.t 1)),Qc] [(2,0),(3,1),(4,2)]
 (.seq (Ql [Qo 0 2,Qn 1 0,Qo 0 3,Qn 1 2,Qs ZcZ [.l 1,.l 3],Qf (.un .not (.l 4))] [(5,5)]
 (.cond (.t 5) (Ql [Qc] [(4,0)]
 .ret) .skip))
 (.seq (Ql [Qo 1 2,Qn 1 0,Qo 1 3,Qn 1 2,Qf (.bin 0 .neq (.l 1) (.l 3))] [(6,4)]
 (.cond (.t 6) (Ql [Qc] [(4,0)]
 .ret) .skip))
 (.seq (Ql [Qo 2 2,Qn 1 0,Qo 2 3,Qn 1 2,Qf (.bin 0 .neq (.l 1) (.l 3))] [(7,4)]
 (.cond (.t 7) (Ql [Qc] [(4,0)]
 .ret) .skip))
 (.seq (Ql [Qo 3 2,Qn 1 0,Qo 3 3,Qn 1 2,Qs ZbR [.l 1,.l 3],Qf (.un .not (.l 4))] [(8,5)]
 (.cond (.t 8) (Ql [Qc] [(4,0)]
 .ret) .skip))
 (.seq (Ql [Qo 4 2,Qn 1 0,Qo 4 3,Qn 1 2,Qf (.bin 0 .neq (.l 1) (.l 3))] [(9,4)]
 (.cond (.t 9) (Ql [Qc] [(4,0)]
 .ret) .skip))
 (.seq (Ql [Qo 5 2,Qn 1 0,Qo 5 3,Qn 1 2,Qf (.bin 0 .neq (.l 1) (.l 3))] [(10,4)]
 (.cond (.t 10) (Ql [Qc] [(4,0)]
 .ret) .skip))
 (Ql [Qd] [(4,0)]
 .ret))))))))
def Zf0:ZK:=⟨[0,1,2,3,4,10,15,20,26,31,36],37,ZoF,[.tmp 4],1⟩
def Zcw:Zg :=
 (.seq (Ql [Qa 5,Qa 0,Qf (.lenStr (.l 1)),Qf (.bin 0 .lss (.l 0) (.l 2))] [(6,3)]
 (.cond (.t 6) .skip (.exit 0)))
 (.seq (.block 1 (Ql [Qa 0,Qa 5,Qf (.indexS (.l 0) (.l 1)),Qa 1,Qf (.bin 0 .eql (.l 2) (.l 3))] [(7,4)]
 (.cond (.t 7) (Ql [Qa 3,Qa 0,Qa 4,Qa 5,Qf (.sliceStr (.l 1) (some (.l 2)) (some (.l 3))),⟨.buildSlice 1 1 [.str ⟨#[]⟩] [(0,1,(.l 4))],none⟩,Qf (.append false 1 16 (.l 0) (.l 5)),Qb 6] [(3,7)]
 (.region [Qa 5,Qf (.bin 0 .add (.l 0) (Qh 1)),Qb 1] [(4,2)])) .skip)))
 (.region [Qa 5,Qf (.bin 0 .add (.l 0) (Qh 1)),Qb 1] [(5,2)])))
def ZoG:Zg :=
 (Ql [Qf (.mv (.c (.slice none 0 0 none)))] [(2,0)]
 (Ql [Qf (.buildSlice 1 0 [] []),Qb 0] [(3,1)]
 (Ql [Qe 0] [(4,0)]
 (.seq (Ql [Qe 0] [(5,0)]
 (.block 0 (.loop Zcw)))
 (Ql [Qa 3,Qa 0,Qa 4,Qf (.sliceStr (.l 1) (some (.l 2)) none),⟨.buildSlice 1 1 [.str ⟨#[]⟩] [(0,1,(.l 3))],none⟩,Qf (.append false 1 16 (.l 0) (.l 4)),Qb 5] [(2,6)]
 .ret)))))
def Zf1:ZK:=⟨[0,1,4,5,6,7,12,19],35,ZoG,[.tmp 2],2⟩
def Zbk:Zg :=
 (Ql [Qf (.box (.t 0)),Qc] [(1,0),(2,1)]
 (Ql [Qo 0 1,Qn 1 0,Qs Jv [.l 1],Qb 2,⟨.fieldAddr 1 (.t 1),some ((.l 3),true)⟩,⟨.load false 1 (.l 4),some ((.l 3),true)⟩,⟨.fieldAddr 2 (.t 1),some ((.l 3),true)⟩,⟨.load false 1 (.l 6),some ((.l 3),true)⟩,⟨.call (.c (.fn ZeS [] [])) [(.l 5),(.l 7)],some ((.l 3),true)⟩,Qf (.pick (.l 3) (.l 8) Qi),Qb 9,⟨.fieldAddr 3 (.t 1),some ((.l 10),true)⟩,⟨.load false 1 (.l 11),some ((.l 10),true)⟩,⟨.call (.c (.fn YR [] [])) [(.l 12)],some ((.l 10),true)⟩,Qf (.pick (.l 10) (.l 13) Qi),Qb 14,⟨.fieldAddr 5 (.t 1),some ((.l 15),true)⟩,⟨.load false 1 (.l 16),some ((.l 15),true)⟩,⟨.call (.c (.fn YJ [] [])) [(.l 17),(Qh 0),(Qh 1000)],some ((.l 15),true)⟩,Qf (.pick (.l 15) (.l 18) Qi),Qb 19,⟨.fieldAddr 4 (.t 1),some ((.l 20),true)⟩,⟨.load false 1 (.l 21),some ((.l 20),true)⟩,⟨.fieldAddr 5 (.t 1),some ((.l 20),true)⟩,⟨.load false 1 (.l 23),some ((.l 20),true)⟩,⟨.call (.c (.fn YJ [] [])) [(.l 22),(Qh 0),(.l 24)],some ((.l 20),true)⟩,Qf (.pick (.l 20) (.l 25) Qi),Qb 26] [(2,27)]
 .ret))
def KA:ZK:=⟨[0,1,2],30,Zbk,[.tmp 2],1⟩
def ZkB:Zg :=
 (Ql [Qf (.box (.t 0)),Qf (.alloc [.slice none 0 0 none,.int .i64 (0),.int .i64 (0),.slice none 0 0 none,.int .i64 (0),.int .i64 (0)])] [(1,0),(2,1)]
 (Qm [Qg (.fieldAddr 0 (.t 1)),Qg (.load false 1 (.l 0)),Qg (.fieldAddr 3 (.t 1)),Qg (.load false 1 (.l 2)),⟨.call (.c (.fn Yn [] [])) [(.l 1)],none,[(3,Qn 1 2)]⟩,Qg (.fieldAddr 0 (.t 1)),Qt Yb [.l 3],Qg (.store 1 (.l 5) (.l 4)),Qg (.fieldAddr 3 (.t 1)),Qg (.store 1 (.l 8) (.l 6))] []
 (Ql [Qr 6 1,Qf (.store 6 (.t 2) (.l 0))] []
 .ret)))
def Zcx:ZK:=⟨[0,1,2],12,ZkB,[.cell 2 true 6],2⟩
def Zc7:Zg :=
 (Ql [Qf (.box (.t 0)),Qc] [(1,0),(2,1)]
 (.seq (Ql [Qo 0 1,Qn 1 0,Qo 1 1,Qn 1 2,Qo 2 1,Qn 1 4,Qs ZnY [.l 1,.l 3,.l 5],Qf (.un .not (.l 6)),Qb 7,⟨.fieldAddr 3 (.t 1),some ((.l 8),false)⟩,⟨.load false 1 (.l 9),some ((.l 8),false)⟩,⟨.call (.c (.fn JJ [] [])) [(.l 10),(Qh 5)],some ((.l 8),false)⟩,⟨.un .not (.l 11),some ((.l 8),false)⟩,Qf (.pick (.l 8) Qj (.l 12))] [(3,13)]
 (.cond (.t 3) (Ql [Qc] [(2,0)]
 .ret) .skip))
 (Ql [Qo 5 1,Qn 1 0,Qs YX [.l 1,Qh 0,Qh 1000],Qb 2,⟨.fieldAddr 4 (.t 1),some ((.l 3),true)⟩,⟨.load false 1 (.l 4),some ((.l 3),true)⟩,⟨.fieldAddr 5 (.t 1),some ((.l 3),true)⟩,⟨.load false 1 (.l 6),some ((.l 3),true)⟩,⟨.call (.c (.fn YX [] [])) [(.l 5),(Qh 0),(.l 7)],some ((.l 3),true)⟩,Qf (.pick (.l 3) (.l 8) Qi),Qb 9] [(2,10)]
 .ret)))
def Q0:ZK:=⟨[0,1,2,16],27,Zc7,[.tmp 2],1⟩
def Zrw:Zg :=
 (Ql [Qf (.box (.t 0)),Qf (.alloc [.slice none 0 0 none,.int .i64 (0),.int .i64 (0),.slice none 0 0 none,.int .i64 (0),.int .i64 (0)])] [(1,0),(2,1)]
 (Ql [Qr 6 1,Qf (.alloc [.slice none 0 0 none,.int .i64 (0),.int .i64 (0),.slice none 0 0 none,.int .i64 (0),.int .i64 (0)]),Qq 6 1 0] [(3,1)]
 (Ql [Qf (.buildSlice 2 0 [] []),Qo 0 1,Qn 1 1,Qf (.append false 2 16 (.l 0) (.l 2)),Qo 0 3,Qq 1 4 3] []
 (Ql [Qf (.buildSlice 3 0 [] []),Qo 3 1,Qn 1 1,Qf (.append false 3 24 (.l 0) (.l 2)),Qo 3 3,Qq 1 4 3] []
 (Ql [Qr 6 3,Qf (.store 6 (.t 2) (.l 0))] []
 .ret)))))
def Zis:ZK:=⟨[0,1,2,3],16,Zrw,[.cell 2 true 6],2⟩
def Xw:Zg :=
 (Ql [Qf (.box (.t 0)),Qc] [(1,0),(2,1)]
 (Ql [Qo 0 1,Qn 1 0,Qf (.lenStr (.l 1)),Qs YJ [.l 2,Qh 1,Qh 160],Qb 3,⟨.fieldAddr 1 (.t 1),some ((.l 4),true)⟩,⟨.load false 1 (.l 5),some ((.l 4),true)⟩,⟨.lenStr (.l 6),some ((.l 4),true)⟩,⟨.bin 0 .leq (.l 7) (Qh 250),some ((.l 4),true)⟩,Qf (.pick (.l 4) (.l 8) Qi),Qb 9,⟨.fieldAddr 0 (.t 1),some ((.l 10),true)⟩,⟨.load false 1 (.l 11),some ((.l 10),true)⟩,⟨.call (.c (.fn ZeT [] [])) [(.l 12)],some ((.l 10),true)⟩,Qf (.pick (.l 10) (.l 13) Qi),Qb 14,⟨.fieldAddr 1 (.t 1),some ((.l 15),true)⟩,⟨.load false 1 (.l 16),some ((.l 15),true)⟩,⟨.call (.c (.fn ZeT [] [])) [(.l 17)],some ((.l 15),true)⟩,Qf (.pick (.l 15) (.l 18) Qi),Qb 19,⟨.fieldAddr 0 (.t 1),some ((.l 20),true)⟩,⟨.load false 1 (.l 21),some ((.l 20),true)⟩,⟨.call (.c (.fn Yz [] [])) [(.l 22),(.c (.str ⟨#[64]⟩))],some ((.l 20),true)⟩,⟨.un .not (.l 23),some ((.l 20),true)⟩,Qf (.pick (.l 20) (.l 24) Qi),Qb 25] [(2,26)]
 .ret))
def Yp:ZK:=⟨[0,1,2],29,Xw,[.tmp 2],1⟩
def ZF:Zg :=
 (Ql [Qf (.bin 0 .lss (.t 14) (.t 13))] [(15,0)]
 (.seq (.cond (.t 15) .skip (.exit 0))
 (.seq (.block 1 (Ql [Qf (.indexAddrS 1 (.t 12) (.t 14)),Qn 1 0,Qb 1] [(7,2)]
 (Ql [Qa 7,Qs ZdM [.l 0],Qb 1,Qp 0 2,Qp 1 2,Qb 3,Qb 4] [(8,5),(9,6)]
 (.seq (Ql [Qa 9,Qf (.un .not (.l 0))] [(16,1)]
 (.cond (.t 16) (Ql [⟨.mv (.c (.str ⟨#[]⟩)),none⟩,Qc] [(2,0),(3,1)]
 .ret) .skip))
 (.region [Qa 6,Qa 8,Qf (.buildSlice 1 1 [.int .i64 (0)] [(0,1,(.l 1))]),Qf (.append false 1 8 (.l 0) (.l 2)),Qb 3] [(6,4)])))))
 (.region [Qf (.bin 0 .add (.t 14) (Qh 1)),Qb 0] [(14,1)]))))
def ZeZ:Zg :=
 (Ql [⟨.mv (.c (.str ⟨#[]⟩)),none⟩,Qc] [(2,0),(3,1)]
 (Ql [Qa 1,⟨.call (.c (.fn Zat [] [])) [(.l 0),(.c (.str ⟨#[32]⟩))],none⟩,Qb 1] [(4,2)]
 (Ql [Qa 4,Qf (.indexAddrS 1 (.l 0) (Qh 0)),Qn 1 1,Qf (.buildSlice 1 0 [] []),Qb 2,Qb 3] [(5,4),(6,5)]
 (.seq (Ql [Qa 4,Qf (.sliceSl 1 (.l 0) (some (Qh 1)) none none),Qf (.len (.l 1)),Qe 0] [(12,1),(13,2),(14,3)]
 (.block 0 (.loop ZF)))
 (Ql [Qa 5,Qs Zig [.l 0],Qb 1,Qp 0 2,Qp 1 2,Qb 3,Qb 4] [(10,5),(11,6)]
 (.seq (.block 2 (Ql [Qa 10,Qf (.bin 0 .gtr (.l 0) (Qh 0)),Qb 1] [(17,2)]
 (.cond (.t 17) (.seq (Ql [Qa 6,Qf (.len (.l 0)),Qa 11,Qf (.bin 0 .neq (.l 1) (.l 2))] [(18,3)]
 (.cond (.t 18) (Ql [⟨.mv (.c (.str ⟨#[]⟩)),none⟩,Qc] [(2,0),(3,1)]
 .ret) .skip))
 (Ql [Qa 0,Qa 10,Qa 6,Qs KT [.l 0,.l 1,.l 2],Qp 0 3,Qp 1 3,Qb 4,Qb 5] [(2,6),(3,7)]
 .ret)) (Ql [Qa 5,⟨.bin 1 .eql (.l 0) (.c (.str ⟨#[119,101,105,103,104]⟩)),none⟩,Qb 1] [(19,2)]
 (.cond (.t 19) (Ql [Qa 6,Qs ZdN [.l 0,Qj],Qp 0 1,Qp 1 1,Qs ZZ [.l 2,.l 3],Qp 0 4,Qp 1 4,Qb 5,Qb 6] [(2,7),(3,8)]
 .ret) (Ql [Qa 5,⟨.bin 1 .eql (.l 0) (.c (.str ⟨#[104,111,119]⟩)),none⟩,Qb 1,⟨.mv (.t 6),some ((.l 2),true)⟩,⟨.len (.l 3),some ((.l 2),true)⟩,⟨.bin 0 .geq (.l 4) (Qh 2),some ((.l 2),true)⟩,Qf (.pick (.l 2) (.l 5) Qi),Qb 6] [(20,7)]
 (.cond (.t 20) (Qm [Qg (.mv (.t 6)),Qg (.sliceSl 1 (.l 0) (some (Qh 1)) none none),Qg (.mv (.t 6)),Qg (.indexAddrS 1 (.l 2) (Qh 0)),Qg (.load false 1 (.l 3)),Qt QE [.l 1,.l 4],Qg (.extract 0 (.l 5)),Qg (.extract 1 (.l 5)),Qt XX [.l 6,.l 7],Qg (.extract 0 (.l 8)),Qg (.extract 1 (.l 8)),Qg (.mv (.l 9)),Qg (.mv (.l 10))] [(2,11),(3,12)]
 .ret) (Ql [Qa 6,Qf (.len (.l 0)),Qf (.bin 0 .eql (.l 1) (Qh 0)),Qb 2] [(21,3)]
 (.cond (.t 21) (Ql [Qa 0,Qa 5,Qs Zcq [.l 0,.l 1],Qp 0 2,Qp 1 2,Qb 3,Qb 4] [(2,5),(3,6)]
 .ret) (Ql [Qa 6,Qf (.len (.l 0)),Qf (.bin 0 .eql (.l 1) (Qh 1)),Qb 2] [(22,3)]
 (.cond (.t 22) (Ql [Qa 0,Qa 5,Qa 6,Qf (.indexAddrS 1 (.l 2) (Qh 0)),Qn 1 3,Qs QS [.l 0,.l 1,.l 4],Qp 0 5,Qp 1 5,Qb 6,Qb 7] [(2,8),(3,9)]
 .ret) .skip)))))))))))
 (Ql [⟨.mv (.c (.str ⟨#[]⟩)),none⟩,Qc] [(2,0),(3,1)]
 .ret)))))))
def Zo:ZK:=⟨[0,1,4,5,6,7,8,10,11,12,13,14,22,23,24,25,34,45,51,58,68,87,96],108,ZeZ,[.tmp 2,.tmp 3],0⟩
def J3:Zg :=
 (Ql [Qf (.box (.t 0)),Qf (.box (.t 1)),⟨.alloc [.str ⟨#[]⟩,.str ⟨#[]⟩,.int .i64 (0)],none⟩,Qe 0] [(2,0),(3,1),(4,2),(5,3)]
 (.seq (.block 0 (Ql [Qr 3 2,Qs QA [.l 0],Qf (.un .not (.l 1)),Qb 2,⟨.load true 2 (.t 3),some ((.l 3),false)⟩,⟨.call (.c (.fn Xu [] [])) [(.l 4)],some ((.l 3),false)⟩,⟨.un .not (.l 5),some ((.l 3),false)⟩,Qf (.pick (.l 3) Qj (.l 6)),Qb 7] [(7,8)]
 (.cond (.t 7) (Ql [Qr 3 2,Qf (.store 3 (.t 4) (.l 0)),Qe 1] [(5,2)]
 .ret) (Ql [Qo 2 2,Qn 1 0,Qf (.bin 0 .eql (.l 1) (Qh 60)),Qb 2] [(8,3)]
 (.cond (.t 8) (Ql [Qr 3 2,Qf (.store 3 (.t 4) (.l 0)),Qe 2] [(5,2)]
 .ret) .skip)))))
 (Ql [Qo 2 2,Qn 1 0,Qr 2 3,Qs J2 [.l 1,.l 2],Qb 3,Qp 0 4,Qp 1 4,Qb 5,Qb 6] [(6,7)]
 (Ql [Qo 0 2,Qn 1 0,Qo 1 2,Qn 1 2,Qa 6,Qf (.bin 1 .add (.l 3) (.l 4)),Qo 2 2,Qn 1 6,Qf (.bin 0 .add (.l 7) (Qh 1)),⟨.build [.str ⟨#[]⟩,.str ⟨#[]⟩,.int .i64 (0)] [(0,1,(.l 1)),(1,1,(.l 5)),(2,1,(.l 8))],none⟩,Qf (.store 3 (.t 4) (.l 9)),Qe 0] [(5,11)]
 .ret))))
def Xc:ZK:=⟨[0,1,2,3,4,5,6,8,18],40,J3,[.cell 4 true 3,.tmp 5],1⟩
def KX:Zg :=
 (Ql [Qf (.box (.t 0)),Qc] [(1,0),(2,1)]
 (Ql [Qo 0 1,Qn 1 0,⟨.bin 1 .neq (.l 1) (.c (.str ⟨#[]⟩)),none⟩,Qb 2,⟨.fieldAddr 0 (.t 1),some ((.l 3),true)⟩,⟨.load false 1 (.l 4),some ((.l 3),true)⟩,⟨.call (.c (.fn ZbS [] [])) [(.l 5),(Qh 160)],some ((.l 3),true)⟩,Qf (.pick (.l 3) (.l 6) Qi),Qb 7,⟨.fieldAddr 0 (.t 1),some ((.l 8),true)⟩,⟨.load false 1 (.l 9),some ((.l 8),true)⟩,⟨.call (.c (.fn ZdO [] [])) [(.l 10),(.c (.int .u8 (64)))],some ((.l 8),true)⟩,⟨.un .not (.l 11),some ((.l 8),true)⟩,Qf (.pick (.l 8) (.l 12) Qi),Qb 13,⟨.fieldAddr 1 (.t 1),some ((.l 14),true)⟩,⟨.load false 1 (.l 15),some ((.l 14),true)⟩,⟨.call (.c (.fn ZbS [] [])) [(.l 16),(Qh 250)],some ((.l 14),true)⟩,Qf (.pick (.l 14) (.l 17) Qi),Qb 18] [(2,19)]
 .ret))
def X2:ZK:=⟨[0,1,2],22,KX,[.tmp 2],1⟩
def ZjG:Zg :=
 (Ql [Qf (.box (.t 0)),Qf (.alloc [.slice none 0 0 none,.int .i64 (0),.int .i64 (0),.slice none 0 0 none,.int .i64 (0),.int .i64 (0)]),⟨.mv (.c (.str ⟨#[]⟩)),none⟩] [(2,0),(3,1),(4,2)]
 (Ql [Qa 1,Qs XA [.l 0,(.c (.int .u8 (32)))],Qb 1] [(5,2)]
 (.seq (Ql [Qa 5,Qf (.len (.l 0)),Qf (.bin 0 .eql (.l 1) (Qh 1))] [(9,2)]
 (.cond (.t 9) (Qm [Qg (.load true 6 (.t 2)),Qg (.load true 6 (.t 2)),Qg (.mv (.t 1)),⟨.call (.c (.fn ZfE [] [])) [(.l 1),(.l 2)],none,[(0,Qr 6 2)]⟩,Qg (.store 6 (.t 3) (.l 0)),Qg (.mv (.l 3))] [(4,5)]
 .ret) .skip))
 (Ql [Qa 5,Qs ZfF [.l 0],Qb 1,Qp 0 2,Qp 1 2,Qb 3,Qb 4] [(6,5),(7,6)]
 (.seq (Ql [Qa 7,Qf (.un .not (.l 0))] [(10,1)]
 (.cond (.t 10) (Ql [Qr 6 2,Qf (.store 6 (.t 3) (.l 0)),⟨.mv (.c (.str ⟨#[63]⟩)),none⟩] [(4,2)]
 .ret) .skip))
 (.seq (Ql [Qa 5,Qf (.indexAddrS 1 (.l 0) (Qh 0)),Qn 1 1,Qa 6,Qs ZfG [.l 2,.l 3],Qf (.alloc [.int .i64 (0),.int .i64 (0),.int .i64 (0),.int .i64 (0)]),Qq 4 5 4] [(8,5)]
 (Ql [Qo 0 8,Qn 1 0,Qf (.bin 0 .gtr (.l 1) (Qh 0))] [(11,2)]
 (.cond (.t 11) (Ql [Qr 6 2,Qr 4 8,Qs ZfH [.l 0,.l 1],Qp 0 2,Qp 1 2,Qf (.store 6 (.t 3) (.l 3)),Qb 4] [(4,6)]
 .ret) .skip)))
 (Qm [Qg (.load true 6 (.t 2)),Qg (.load true 6 (.t 2)),Qg (.mv (.t 5)),Qg (.indexAddrS 1 (.l 2) (Qh 0)),Qg (.load false 1 (.l 3)),Qg (.mv (.t 6)),⟨.call (.c (.fn ZeU [] [])) [(.l 1),(.l 4),(.l 5)],none,[(0,Qr 6 2)]⟩,Qg (.store 6 (.t 3) (.l 0)),Qg (.mv (.l 6))] [(4,8)]
 .ret)))))))
def Zc8:ZK:=⟨[0,1,2,4,5,6,7,8,9,14,25,34],47,ZjG,[.cell 3 true 6,.tmp 4],2⟩
def J4:Zg :=
 (Ql [Qf (.box (.t 0)),Qf (.box (.t 1)),⟨.alloc [.str ⟨#[]⟩,.str ⟨#[]⟩,.int .i64 (0)],none⟩,Qe 0] [(2,0),(3,1),(4,2),(5,3)]
 (.seq (Ql [Qr 3 2,Qs Kx [.l 0],Qf (.un .not (.l 1)),Qb 2,⟨.load true 2 (.t 3),some ((.l 3),false)⟩,⟨.call (.c (.fn KS [] [])) [(.l 4)],some ((.l 3),false)⟩,⟨.un .not (.l 5),some ((.l 3),false)⟩,Qf (.pick (.l 3) Qj (.l 6))] [(6,7)]
 (.cond (.t 6) (Ql [Qr 3 2,Qf (.store 3 (.t 4) (.l 0)),Qe 1] [(5,2)]
 .ret) .skip))
 (.seq (Ql [Qo 2 2,Qn 1 0,Qf (.bin 0 .eql (.l 1) (Qh 60))] [(7,2)]
 (.cond (.t 7) (Ql [Qr 3 2,Qf (.store 3 (.t 4) (.l 0)),Qe 2] [(5,2)]
 .ret) .skip))
 (Qm [Qg (.fieldAddr 1 (.t 2)),Qg (.load false 1 (.l 0)),Qg (.fieldAddr 2 (.t 2)),Qg (.load false 1 (.l 2)),Qg (.load true 2 (.t 3)),⟨.call (.c (.fn Zc0 [] [])) [(.l 3),(.l 4)],none,[(1,Qn 1 0)]⟩,Qg (.bin 1 .add (.l 1) (.l 5)),Qg (.fieldAddr 1 (.t 2)),Qg (.store 1 (.l 7) (.l 6))] []
 (Ql [Qo 2 2,Qn 1 0,Qf (.bin 0 .add (.l 1) (Qh 1)),Qo 2 2,Qq 1 3 2] []
 (Ql [Qr 3 2,Qf (.store 3 (.t 4) (.l 0)),Qe 0] [(5,2)]
 .ret))))))
def Xd:ZK:=⟨[0,1,2,3,4,5,13,17],32,J4,[.cell 4 true 3,.tmp 5],1⟩
def ZeG:Zg :=
 (Ql [Qf (.box (.t 0)),Qc] [(1,0),(2,1)]
 (Ql [Qr 3 1,Qs QB [.l 0],Qb 1,Qp 0 2,Qp 1 2,Qb 3,Qb 4] [(3,6)]
 (Ql [Qa 3,Qb 0] [(2,1)]
 .ret)))
def QJ:ZK:=⟨[0,1,2,4],11,ZeG,[.tmp 2],1⟩
def ZbV:Zg :=
 (Ql [Qf (.box (.t 0)),Qc] [(1,0),(2,1)]
 (.seq (Ql [Qo 0 1,Qn 1 0,Qf (.lenStr (.l 1)),Qo 1 1,Qn 1 3,Qf (.lenStr (.l 4)),Qf (.bin 0 .add (.l 2) (.l 5)),Qf (.bin 0 .gtr (.l 6) (Qh 30000))] [(6,7)]
 (.cond (.t 6) (Ql [Qc] [(2,0)]
 .ret) .skip))
 (Ql [Qo 0 1,Qn 1 0,Qo 1 1,Qn 1 2,Qf (.bin 1 .add (.l 1) (.l 3)),Qs Zbc [.l 4],Qb 5,Qp 0 6,Qp 1 6,Qb 7,Qb 8] [(3,9),(4,10)]
 (Ql [Qo 0 1,Qn 1 0,Qs Zbc [.l 1],Qb 2,Qp 0 3,Qp 1 3,Qb 4,Qb 5] [(5,7)]
 (Ql [Qa 4,Qo 0 1,Qn 1 1,Qf (.lenStr (.l 2)),Qo 1 1,Qn 1 4,Qf (.lenStr (.l 5)),Qf (.bin 0 .add (.l 3) (.l 6)),Qf (.bin 0 .eql (.l 0) (.l 7)),Qb 8,⟨.mv (.t 5),some ((.l 9),true)⟩,⟨.fieldAddr 0 (.t 1),some ((.l 9),true)⟩,⟨.load false 1 (.l 11),some ((.l 9),true)⟩,⟨.lenStr (.l 12),some ((.l 9),true)⟩,⟨.bin 0 .eql (.l 10) (.l 13),some ((.l 9),true)⟩,Qf (.pick (.l 9) (.l 14) Qi),Qb 15,⟨.mv (.t 3),some ((.l 16),true)⟩,⟨.len (.l 17),some ((.l 16),true)⟩,⟨.fieldAddr 2 (.t 1),some ((.l 16),true)⟩,⟨.load false 1 (.l 19),some ((.l 16),true)⟩,⟨.bin 0 .eql (.l 18) (.l 20),some ((.l 16),true)⟩,Qf (.pick (.l 16) (.l 21) Qi),Qb 22] [(2,23)]
 .ret)))))
def KB:ZK:=⟨[0,1,2,3,4,6,14],53,ZbV,[.tmp 2],1⟩
def QK:Zg :=
 (Ql [Qf (.box (.t 0)),Qf (.mv (.c (.slice none 0 0 none))),Qc] [(1,0),(2,1),(3,2)]
 (Ql [Qo 0 1,Qn 1 0,Qo 1 1,Qn 1 2,Qf (.bin 1 .add (.l 1) (.l 3)),Qb 4] [(4,5)]
 (.seq (Ql [Qa 4,Qf (.lenStr (.l 0)),Qf (.bin 0 .gtr (.l 1) (Qh 30000))] [(7,2)]
 (.cond (.t 7) (Ql [Qf (.mv (.c (.slice none 0 0 none))),Qc] [(2,0),(3,1)]
 .ret) .skip))
 (Ql [Qa 4,Qs Kp [.l 0],Qb 1,Qp 0 2,Qp 1 2,Qb 3,Qb 4] [(5,5),(6,6)]
 (Ql [Qf (.buildSlice 1 1 [.int .i64 (0)] [(0,1,(Qh 0))]),Qa 6,Qf (.append false 1 8 (.l 0) (.l 1)),Qb 2] [(6,3)]
 (Qm [Qg (.mv (.t 5)),Qg (.mv (.t 6)),Qg (.mv (.t 6)),Qg (.len (.l 2)),Qg (.bin 0 .sub (.l 3) (Qh 1)),Qg (.indexAddrS 1 (.l 1) (.l 4)),Qg (.load false 1 (.l 5)),Qg (.mv (.t 4)),Qg (.lenStr (.l 7)),Qg (.bin 0 .eql (.l 6) (.l 8)),Qg (.mv (.l 9)),⟨.mv (.t 6),some ((.l 10),true),[]⟩,⟨.fieldAddr 0 (.t 1),some ((.l 10),true),[]⟩,⟨.load false 1 (.l 12),some ((.l 10),true),[]⟩,⟨.lenStr (.l 13),some ((.l 10),true),[]⟩,⟨.call (.c (.fn YN [] [])) [(.l 11),(.l 14)],some ((.l 10),true),[]⟩,Qg (.pick (.l 10) (.l 15) Qi),Qg (.mv (.l 16)),⟨.fieldAddr 2 (.t 1),some ((.l 17),true),[]⟩,⟨.load false 1 (.l 18),some ((.l 17),true),[]⟩,⟨.mv (.t 5),some ((.l 17),true),[]⟩,⟨.len (.l 20),some ((.l 17),true),[]⟩,⟨.bin 0 .eql (.l 19) (.l 21),some ((.l 17),true),[]⟩,Qg (.pick (.l 17) (.l 22) Qi),Qg (.mv (.l 0)),Qg (.mv (.l 23))] [(2,24),(3,25)]
 .ret))))))
def Jl:ZK:=⟨[0,1,2,3,4,5,6,14],47,QK,[.tmp 2,.tmp 3],2⟩
def KY:Zg :=
 (.seq (Ql [Qa 4,Qa 0,Qf (.lenStr (.l 1)),Qf (.bin 0 .lss (.l 0) (.l 2)),Qb 3,⟨.mv (.t 3),some ((.l 4),true)⟩,⟨.len (.l 5),some ((.l 4),true)⟩,⟨.bin 0 .lss (.l 6) (Qh 60),some ((.l 4),true)⟩,Qf (.pick (.l 4) (.l 7) Qi)] [(8,8)]
 (.cond (.t 8) .skip (.exit 0)))
 (.block 1 (Ql [Qa 0,Qa 4,Qf (.sliceStr (.l 0) (some (.l 1)) none),Qs XA [.l 2,(.c (.int .u8 (10)))],Qb 3] [(5,4)]
 (Ql [Qa 5,Qf (.indexAddrS 1 (.l 0) (Qh 0)),Qn 1 1,Qa 3,Qf (.len (.l 3)),Qs Zcr [.l 2,.l 4],Qb 5,Qp 0 6,Qp 1 6,⟨.alloc [.str ⟨#[]⟩,.str ⟨#[]⟩],none⟩,Qq 2 9 7,Qb 8] [(6,9),(7,11)]
 (.seq (Ql [Qa 5,Qf (.len (.l 0)),Qf (.bin 0 .lss (.l 1) (Qh 2)),Qb 2,⟨.mv (.t 7),some ((.l 3),false)⟩,⟨.un .not (.l 4),some ((.l 3),false)⟩,Qf (.pick (.l 3) Qj (.l 5))] [(9,6)]
 (.cond (.t 9) (.exit 0) .skip))
 (Ql [Qa 3,Qr 2 6,⟨.buildSlice 2 1 [.str ⟨#[]⟩,.str ⟨#[]⟩] [(0,2,(.l 1))],none⟩,Qf (.append false 2 32 (.l 0) (.l 2)),Qb 3] [(3,4)]
 (.region [Qa 4,Qa 5,Qf (.indexAddrS 1 (.l 1) (Qh 0)),Qn 1 2,Qf (.lenStr (.l 3)),Qf (.bin 0 .add (.l 0) (.l 4)),Qf (.bin 0 .add (.l 5) (Qh 1)),Qb 6] [(4,7)])))))))
def ZoH:Zg :=
 (Ql [Qf (.mv (.c (.slice none 0 0 none))),Qe 0] [(1,0),(2,1)]
 (Ql [Qf (.buildSlice 2 0 [] []),Qb 0] [(3,1)]
 (Ql [Qe 0] [(4,0)]
 (.seq (.block 0 (.loop KY))
 (Ql [Qa 3,Qa 4,Qb 0,Qb 1] [(1,2),(2,3)]
 .ret)))))
def KC:ZK:=⟨[0,2,3,4,5,6,7,8,18,38],52,ZoH,[.tmp 1,.tmp 2],2⟩
def ZoI:Zg :=
 (Ql [Qc] [(1,0)]
 (.seq (Ql [Qa 0,Qf (.len (.l 0)),Qf (.bin 0 .gtr (.l 1) (Qh 12))] [(2,2)]
 (.cond (.t 2) (Ql [Qc] [(1,0)]
 .ret) .skip))
 (Ql [Qa 0,Qf (.call (.c (.fn ZU [] [])) [(.l 0),(.c (.fn Zc1 [] []))]),Qf (.un .not (.l 1)),Qb 2] [(1,3)]
 .ret)))
def Zhk:ZK:=⟨[0,2,5],9,ZoI,[.tmp 1],1⟩
def Zbl:Zg :=
 (Ql [Qf (.bin 0 .lss (.t 7) (.t 6))] [(8,0)]
 (.seq (.cond (.t 8) .skip (.exit 0))
 (.seq (.block 1 (Ql [Qf (.indexAddrS 1 (.t 5) (.t 7)),Qn 1 0,Qb 1] [(4,2)]
 (.region [Qa 3,Qa 4,Qs Xn [.l 1],⟨.buildSlice 1 1 [.str ⟨#[]⟩] [(0,1,(.l 2))],none⟩,Qf (.append false 1 16 (.l 0) (.l 3)),Qb 4] [(3,5)])))
 (.region [Qf (.bin 0 .add (.t 7) (Qh 1)),Qb 0] [(7,1)]))))
def Zhl:Zg :=
 (Ql [⟨.mv (.c (.str ⟨#[]⟩)),none⟩] [(2,0)]
 (Ql [Qf (.buildSlice 1 0 [] []),Qb 0] [(3,1)]
 (.seq (Ql [Qa 0,Qf (.len (.l 0)),Qe 0] [(5,0),(6,1),(7,2)]
 (.block 0 (.loop Zbl)))
 (Ql [Qa 3,Qa 1,Qs QC [.l 0,.l 1],Qb 2] [(2,3)]
 .ret))))
def KD:ZK:=⟨[0,1,4,5,7,9,10,11,12],24,Zhl,[.tmp 2],1⟩
def ZoJ:Zg :=
 (Ql [Qc] [(1,0)]
 (Ql [Qa 0,Qs YJ [.l 0,Qh 0,Qh 60],Qb 1] [(1,2)]
 .ret))
def Zf2:ZK:=⟨[0,2],5,ZoJ,[.tmp 1],1⟩
def Xx:Zg :=
 (Ql [Qf (.bin 0 .lss (.t 7) (.t 6))] [(8,0)]
 (.seq (.cond (.t 8) .skip (.exit 0))
 (.seq (.block 1 (Ql [Qf (.indexAddrS 2 (.t 5) (.t 7)),Qf (.load true 2 (.l 0)),Qf (.alloc [.int .i64 (0),.int .i64 (0)]),Qq 2 2 1] [(4,2)]
 (.region [Qa 3,Qo 1 4,Qn 1 1,Qo 0 4,Qn 1 3,Qa 1,Qf (.bin 0 .sub (.l 4) (.l 5)),Qf (.bin 0 .mul (.l 2) (.l 6)),Qf (.bin 0 .add (.l 0) (.l 7)),Qb 8] [(3,9)])))
 (.region [Qf (.bin 0 .add (.t 7) (Qh 1)),Qb 0] [(7,1)]))))
def Zhm:Zg :=
 (Ql [Qe 0] [(2,0)]
 (Ql [Qe 0] [(3,0)]
 (.seq (Ql [Qa 0,Qf (.len (.l 0)),Qe 0] [(5,0),(6,1),(7,2)]
 (.block 0 (.loop Xx)))
 (Ql [Qa 3,Qb 0] [(2,1)]
 .ret))))
def ZaF:ZK:=⟨[0,1,4,5,7,8,9,10,11],25,Zhm,[.tmp 2],1⟩
def J5:Zg :=
 (Ql [Qf (.bin 0 .lss (.t 14) (.t 13))] [(15,0)]
 (.seq (.cond (.t 15) .skip (.exit 2))
 (.seq (.block 3 (Ql [Qa 14,Qf (.indexAddrS 2 (.t 12) (.t 14)),Qf (.load true 2 (.l 1)),Qf (.alloc [.int .i64 (0),.int .i64 (0)]),Qb 0,Qq 2 3 2] [(7,4),(8,3)]
 (Ql [Qa 4,Qa 7,Qf (.bin 0 .shr (.l 0) (.l 1)),Qf (.bin 0 .and (.l 2) (Qh 1)),Qf (.bin 0 .eql (.l 3) (Qh 1))] [(16,4)]
 (.cond (.t 16) (Ql [Qa 5,Qa 7,Qf (.buildSlice 1 1 [.int .i64 (0)] [(0,1,(.l 1))]),Qf (.append false 1 8 (.l 0) (.l 2)),Qb 3] [(5,4)]
 (.region [Qa 6,Qo 1 8,Qn 1 1,Qo 0 8,Qn 1 3,Qa 1,Qf (.bin 0 .sub (.l 4) (.l 5)),Qf (.bin 0 .mul (.l 2) (.l 6)),Qf (.bin 0 .add (.l 0) (.l 7)),Qb 8] [(6,9)])) .skip))))
 (.region [Qf (.bin 0 .add (.t 14) (Qh 1)),Qb 0] [(14,1)]))))
def Zcf:Zg :=
 (Ql [Qf (.bin 0 .lss (.t 10) (.t 9))] [(11,0)]
 (.seq (.cond (.t 11) .skip (.exit 0))
 (.seq (.block 1 (Ql [Qa 10,Qb 0] [(4,1)]
 (Ql [Qf (.buildSlice 1 0 [] []),Qb 0,Qe 0] [(5,1),(6,2)]
 (.seq (Ql [Qa 0,Qf (.len (.l 0)),Qe 0] [(12,0),(13,1),(14,2)]
 (.block 2 (.loop J5)))
 (Ql [Qa 6,Qf (.bin 0 .eql (.l 0) (Qh 0))] [(17,1)]
 (.cond (.t 17) (.region [Qa 3,Qa 5,Qf (.buildSlice 1 1 [.slice none 0 0 none] [(0,1,(.l 1))]),Qf (.append false 1 24 (.l 0) (.l 2)),Qb 3] [(3,4)]) .skip))))))
 (.region [Qf (.bin 0 .add (.t 10) (Qh 1)),Qb 0] [(10,1)]))))
def Zjc:Zg :=
 (Ql [Qf (.mv (.c (.slice none 0 0 none)))] [(2,0)]
 (Ql [Qf (.buildSlice 1 0 [] []),Qb 0] [(3,1)]
 (.seq (Ql [Qa 0,Qf (.len (.l 0)),Qf (.bin 0 .shl (Qh 1) (.l 1)),Qe 0] [(9,2),(10,3)]
 (.block 0 (.loop Zcf)))
 (Ql [Qa 3,Qf (.call (.c (.fn Ys [] [])) [(.l 0),(.c (.fn ZJ [] []))])] []
 (Ql [Qa 3,Qb 0] [(2,1)]
 .ret)))))
def Ke:ZK:=⟨[0,1,4,5,6,7,8,9,10,14,15,16,19,20,21,22,30,46],55,Zjc,[.tmp 2],0⟩
def Kf:Zg :=
 (Ql [Qf (.bin 0 .lss (.t 6) (.t 5))] [(7,0)]
 (.seq (.cond (.t 7) .skip (.exit 0))
 (.seq (.block 1 (Ql [Qf (.indexAddrS 2 (.t 4) (.t 6)),Qf (.load true 2 (.l 0)),Qf (.alloc [.int .i64 (0),.int .i64 (0)]),Qq 2 2 1] [(3,2)]
 (.region [Qa 2,Qo 1 3,Qn 1 1,Qf (.bin 0 .add (.l 0) (.l 2)),Qb 3] [(2,4)])))
 (.region [Qf (.bin 0 .add (.t 6) (Qh 1)),Qb 0] [(6,1)]))))
def ZmS:Zg :=
 (Ql [Qe 0] [(1,0)]
 (Ql [Qe 0] [(2,0)]
 (.seq (Ql [Qa 0,Qf (.len (.l 0)),Qe 0] [(4,0),(5,1),(6,2)]
 (.block 0 (.loop Kf)))
 (Ql [Qa 2,Qb 0] [(1,1)]
 .ret))))
def Zd0:ZK:=⟨[0,2,3,5,6,7,8,9],18,ZmS,[.tmp 1],1⟩
def ZoK:Zg :=
 (Ql [Qe 0] [(2,0)]
 (Ql [Qa 1,Qa 0,Qf (.len (.l 1)),Qf (.bin 0 .sub (.l 0) (.l 2)),Qb 3] [(1,4)]
 (.seq (Ql [Qa 1,Qf (.bin 0 .lss (.l 0) (Qh 0))] [(3,1)]
 (.cond (.t 3) (Ql [Qe (-1)] [(2,0)]
 .ret) .skip))
 (Ql [Qa 1,Qb 0] [(2,1)]
 .ret))))
def Zf3:ZK:=⟨[0,1,4,10],12,ZoK,[.tmp 2],1⟩
def Zhn:Zg :=
 (Ql [Qe 0] [(2,0)]
 (Ql [Qa 1,Qa 0,Qf (.len (.l 1)),Qf (.bin 0 .sub (.l 0) (.l 2)),Qb 3] [(1,4)]
 (.seq (Ql [Qa 1,Qf (.bin 0 .lss (.l 0) (Qh 0))] [(3,1)]
 (.cond (.t 3) (Ql [Qe (-1)] [(2,0)]
 .ret) .skip))
 (Ql [Qa 1,Qb 0] [(2,1)]
 .ret))))
def ZbW:ZK:=⟨[0,1,4,10],12,Zhn,[.tmp 2],1⟩
def KZ:Zg :=
 (.seq (Ql [Qa 3,Qa 0,Qf (.len (.l 1)),Qf (.bin 0 .lss (.l 0) (.l 2))] [(4,3)]
 (.cond (.t 4) .skip (.exit 0)))
 (.seq (.block 1 (.region [Qa 2,Qa 3,Qa 0,Qa 3,Qf (.indexAddrS 2 (.l 2) (.l 3)),Qf (.load true 2 (.l 4)),Qs Zih [.l 5],Qf (.indexAddrS 2 (.l 0) (.l 1)),Qq 2 7 6] []))
 (.region [Qa 3,Qf (.bin 0 .add (.l 0) (Qh 1)),Qb 1] [(3,2)])))
def ZoL:Zg :=
 (Ql [Qf (.mv (.c (.slice none 0 0 none)))] [(1,0)]
 (Ql [Qa 0,Qf (.len (.l 0)),Qf (.makeSlice 2 16 [.int .i64 (0),.int .i64 (0)] (.l 1) (.l 1)),Qb 2] [(2,3)]
 (.seq (Ql [Qe 0] [(3,0)]
 (.block 0 (.loop KZ)))
 (Ql [Qa 2,Qb 0] [(1,1)]
 .ret))))
def Zf4:ZK:=⟨[0,2,3,4,11],23,ZoL,[.tmp 1],2⟩
def Kg:Zg :=
 (.seq (Ql [Qa 3,Qa 0,Qf (.len (.l 1)),Qf (.bin 0 .lss (.l 0) (.l 2))] [(4,3)]
 (.cond (.t 4) .skip (.exit 0)))
 (.seq (.block 1 (.region [Qa 2,Qa 3,Qa 0,Qa 3,Qf (.indexAddrS 3 (.l 2) (.l 3)),Qf (.load true 3 (.l 4)),Qs ZfI [.l 5],Qf (.indexAddrS 3 (.l 0) (.l 1)),Qq 3 7 6] []))
 (.region [Qa 3,Qf (.bin 0 .add (.l 0) (Qh 1)),Qb 1] [(3,2)])))
def ZmT:Zg :=
 (Ql [Qf (.mv (.c (.slice none 0 0 none)))] [(1,0)]
 (Ql [Qa 0,Qf (.len (.l 0)),Qf (.makeSlice 3 24 [.int .i64 (0),.int .i64 (0),.int .i64 (0)] (.l 1) (.l 1)),Qb 2] [(2,3)]
 (.seq (Ql [Qe 0] [(3,0)]
 (.block 0 (.loop Kg)))
 (Ql [Qa 2,Qb 0] [(1,1)]
 .ret))))
def Zd1:ZK:=⟨[0,2,3,4,11],23,ZmT,[.tmp 1],2⟩
def Zcy:Zg :=
 (.seq (Ql [Qa 3,Qa 0,Qf (.len (.l 1)),Qf (.bin 0 .lss (.l 0) (.l 2))] [(5,3)]
 (.cond (.t 5) .skip (.exit 0)))
 (.seq (.block 1 (Qm [Qg (.mv (.t 0)),Qg (.mv (.t 3)),Qg (.indexAddrS 2 (.l 0) (.l 1)),Qg (.load true 2 (.l 2)),Qg (.mv (.t 1)),Qg (.mv (.t 3)),Qg (.indexAddrS 2 (.l 4) (.l 5)),Qg (.load true 2 (.l 6)),Qt Zii [.l 3,.l 7],Qg (.un .not (.l 8))] [(6,9)]
 (.cond (.t 6) (Ql [Qc] [(2,0)]
 .ret) .skip)))
 (.region [Qa 3,Qf (.bin 0 .add (.l 0) (Qh 1)),Qb 1] [(3,2)])))
def ZoM:Zg :=
 (Ql [Qc] [(2,0)]
 (.seq (Ql [Qa 0,Qf (.len (.l 0)),Qa 1,Qf (.len (.l 2)),Qf (.bin 0 .neq (.l 1) (.l 3))] [(4,4)]
 (.cond (.t 4) (Ql [Qc] [(2,0)]
 .ret) .skip))
 (.seq (Ql [Qe 0] [(3,0)]
 (.block 0 (.loop Zcy)))
 (Ql [Qd] [(2,0)]
 .ret))))
def Zf5:ZK:=⟨[0,1,4,5,10,14,26],27,ZoM,[.tmp 2],1⟩
def Kh:Zg :=
 (.seq (Ql [Qa 3,Qa 0,Qf (.len (.l 1)),Qf (.bin 0 .lss (.l 0) (.l 2))] [(5,3)]
 (.cond (.t 5) .skip (.exit 0)))
 (.seq (.block 1 (Qm [Qg (.mv (.t 0)),Qg (.mv (.t 3)),Qg (.indexAddrS 3 (.l 0) (.l 1)),Qg (.load true 3 (.l 2)),Qg (.mv (.t 1)),Qg (.mv (.t 3)),Qg (.indexAddrS 3 (.l 4) (.l 5)),Qg (.load true 3 (.l 6)),Qt ZfJ [.l 3,.l 7],Qg (.un .not (.l 8))] [(6,9)]
 (.cond (.t 6) (Ql [Qc] [(2,0)]
 .ret) .skip)))
 (.region [Qa 3,Qf (.bin 0 .add (.l 0) (Qh 1)),Qb 1] [(3,2)])))
def ZmU:Zg :=
 (Ql [Qc] [(2,0)]
 (.seq (Ql [Qa 0,Qf (.len (.l 0)),Qa 1,Qf (.len (.l 2)),Qf (.bin 0 .neq (.l 1) (.l 3))] [(4,4)]
 (.cond (.t 4) (Ql [Qc] [(2,0)]
 .ret) .skip))
 (.seq (Ql [Qe 0] [(3,0)]
 (.block 0 (.loop Kh)))
 (Ql [Qd] [(2,0)]
 .ret))))
def Zd2:ZK:=⟨[0,1,4,5,10,14,26],27,ZmU,[.tmp 2],1⟩
def Zrx:Zg :=
 (Ql [Qc] [(2,0)]
 (Ql [Qa 0,Qs Ji [.l 0],Qb 1,⟨.mv (.t 1),some ((.l 2),true)⟩,⟨.call (.c (.fn Ji [] [])) [(.l 3)],some ((.l 2),true)⟩,Qf (.pick (.l 2) (.l 4) Qi),Qb 5,⟨.mv (.t 0),some ((.l 6),true)⟩,⟨.mv (.t 1),some ((.l 6),true)⟩,⟨.bin 0 .leq (.l 7) (.l 8),some ((.l 6),true)⟩,Qf (.pick (.l 6) (.l 9) Qi),Qb 10] [(2,11)]
 .ret))
def Zit:ZK:=⟨[0,1,4],16,Zrx,[.tmp 2],1⟩
def X5:Zg :=
 (Ql [Qf (.bin 0 .lss (.t 5) (.t 4))] [(6,0)]
 (.seq (.cond (.t 6) .skip (.exit 0))
 (.seq (.block 1 (Ql [Qf (.indexAddrS 3 (.t 3) (.t 5)),Qf (.load true 3 (.l 0)),Qf (.alloc [.int .i64 (0),.int .i64 (0),.int .i64 (0)]),Qq 3 2 1] [(2,2)]
 (Ql [Qr 3 2,Qs ZfK [.l 0],Qf (.un .not (.l 1))] [(7,2)]
 (.cond (.t 7) (Ql [Qc] [(1,0)]
 .ret) .skip))))
 (.region [Qf (.bin 0 .add (.t 5) (Qh 1)),Qb 0] [(5,1)]))))
def ZoN:Zg :=
 (Ql [Qc] [(1,0)]
 (.seq (Ql [Qa 0,Qf (.len (.l 0)),Qe 0] [(3,0),(4,1),(5,2)]
 (.block 0 (.loop X5)))
 (Ql [Qa 0,Qf (.len (.l 0)),Qf (.bin 0 .leq (.l 1) (Qh 5)),Qb 2] [(1,3)]
 .ret)))
def Zf6:ZK:=⟨[0,2,4,5,6,7,8,13],18,ZoN,[.tmp 1],1⟩
def Zry:Zg :=
 (Ql [Qc] [(3,0)]
 (Ql [Qa 0,Qa 1,Qf (.bin 0 .geq (.l 0) (.l 1)),Qb 2,⟨.mv (.t 0),some ((.l 3),true)⟩,⟨.mv (.t 2),some ((.l 3),true)⟩,⟨.bin 0 .leq (.l 4) (.l 5),some ((.l 3),true)⟩,Qf (.pick (.l 3) (.l 6) Qi),Qb 7] [(3,8)]
 .ret))
def Ziu:ZK:=⟨[0,1,2,6],15,Zry,[.tmp 3],1⟩
def J6:Zg :=
 (Ql [Qf (.mv (.c (.slice none 0 0 none)))] [(1,0)]
 (.seq (Ql [Qa 0,Qf (.bin 3 .eql (.l 0) (.c (.slice none 0 0 none)))] [(2,1)]
 (.cond (.t 2) (Ql [Qf (.mv (.c (.slice none 0 0 none)))] [(1,0)]
 .ret) .skip))
 (Ql [Qf (.buildSlice 2 0 [] []),Qa 0,Qf (.append false 2 16 (.l 0) (.l 1)),Qb 2] [(1,3)]
 .ret)))
def Yo:ZK:=⟨[0,2,4],8,J6,[.tmp 1],2⟩
def Jx:Zg :=
 (Ql [Qf (.mv (.c (.slice none 0 0 none)))] [(1,0)]
 (.seq (Ql [Qa 0,Qf (.bin 3 .eql (.l 0) (.c (.slice none 0 0 none)))] [(2,1)]
 (.cond (.t 2) (Ql [Qf (.mv (.c (.slice none 0 0 none)))] [(1,0)]
 .ret) .skip))
 (Ql [Qf (.buildSlice 3 0 [] []),Qa 0,Qf (.append false 3 24 (.l 0) (.l 1)),Qb 2] [(1,3)]
 .ret)))
def Yc:ZK:=⟨[0,2,4],8,Jx,[.tmp 1],2⟩
def ZsH:Zg :=
 (Ql [Qc] [(3,0)]
 (Ql [Qa 0,Qs Jw [.l 0],Qb 1,⟨.mv (.t 1),some ((.l 2),true)⟩,⟨.mv (.t 2),some ((.l 2),true)⟩,⟨.call (.c (.fn Zij [] [])) [(.l 3),(.l 4)],some ((.l 2),true)⟩,Qf (.pick (.l 2) (.l 5) Qi),Qb 6] [(3,7)]
 .ret))
def ZkC:ZK:=⟨[0,1,2,6],14,ZsH,[.tmp 3],1⟩
def Xq:Zg :=
 (.seq (Ql [Qa 3,Qa 0,Qf (.len (.l 1)),Qf (.bin 0 .lss (.l 0) (.l 2))] [(4,3)]
 (.cond (.t 4) .skip (.exit 0)))
 (.seq (.block 1 (Ql [Qa 0,Qa 3,Qf (.indexAddrS 3 (.l 0) (.l 1)),Qf (.load true 3 (.l 2)),Qs ZfL [.l 3],Qf (.un .not (.l 4))] [(5,5)]
 (.cond (.t 5) (Ql [Qc] [(2,0)]
 .ret) .skip)))
 (.region [Qa 3,Qf (.bin 0 .add (.l 0) (Qh 1)),Qb 1] [(3,2)])))
def ZmV:Zg :=
 (Ql [Qc] [(2,0)]
 (.seq (Ql [Qe 0] [(3,0)]
 (.block 0 (.loop Xq)))
 (Ql [Qa 0,Qf (.len (.l 0)),Qa 1,Qf (.bin 0 .leq (.l 1) (.l 2)),Qb 3] [(2,4)]
 .ret)))
def Zd3:ZK:=⟨[0,1,4,5,9,17],22,ZmV,[.tmp 2],1⟩
def Zz2:Zg :=
 (Ql [Qc] [(3,0)]
 (Ql [Qa 0,Qa 1,Qf (.bin 0 .geq (.l 0) (.l 1)),Qb 2,⟨.mv (.t 0),some ((.l 3),true)⟩,⟨.mv (.t 2),some ((.l 3),true)⟩,⟨.bin 0 .leq (.l 4) (.l 5),some ((.l 3),true)⟩,Qf (.pick (.l 3) (.l 6) Qi),Qb 7] [(3,8)]
 .ret))
def ZnZ:ZK:=⟨[0,1,2,6],15,Zz2,[.tmp 3],1⟩
def ZkD:Zg :=
 (Ql [⟨.mv (.c (.str ⟨#[]⟩)),none⟩] [(1,0)]
 (.seq (Ql [Qa 0,Qf (.bin 0 .lss (.l 0) (Qh 0))] [(2,1)]
 (.cond (.t 2) (Ql [Qa 0,Qf (.un .neg (.l 0)),Qs Ym [.l 1],⟨.bin 1 .add (.c (.str ⟨#[45]⟩)) (.l 2),none⟩,Qb 3] [(1,4)]
 .ret) .skip))
 (.seq (Ql [Qa 0,Qf (.bin 0 .lss (.l 0) (Qh 10))] [(3,1)]
 (.cond (.t 3) (Ql [Qa 0,Qa 0,Qf (.bin 0 .add (.l 1) (Qh 1)),⟨.sliceStr (.c (.str ⟨#[48,49,50,51,52,53,54,55,56,57]⟩)) (some (.l 0)) (some (.l 2)),none⟩,Qb 3] [(1,4)]
 .ret) .skip))
 (Qm [Qg (.mv (.t 0)),Qg (.bin 0 .quo (.l 0) (Qh 10)),Qg (.mv (.t 0)),Qg (.bin 0 .rem (.l 2) (Qh 10)),Qg (.mv (.t 0)),Qg (.bin 0 .rem (.l 4) (Qh 10)),Qg (.bin 0 .add (.l 5) (Qh 1)),⟨.sliceStr (.c (.str ⟨#[48,49,50,51,52,53,54,55,56,57]⟩)) (some (.l 3)) (some (.l 6)),none,[]⟩,Qt Ym [.l 1],Qg (.bin 1 .add (.l 8) (.l 7)),Qg (.mv (.l 9))] [(1,10)]
 .ret))))
def Ze0:ZK:=⟨[0,2,4,10],25,ZkD,[.tmp 1],1⟩
def X6:Zg :=
 (Ql [Qf (.bin 0 .lss (.t 4) (.t 3))] [(5,0)]
 (.seq (.cond (.t 5) .skip (.exit 0))
 (.seq (.block 1 (Ql [Qa 4,Qb 0] [(2,1)]
 (Ql [Qa 0,Qa 2,Qf (.indexS (.l 0) (.l 1)),Qf (.bin 0 .lss (.l 2) (.c (.int .u8 (32)))),Qb 3,⟨.mv (.t 0),some ((.l 4),false)⟩,⟨.mv (.t 2),some ((.l 4),false)⟩,⟨.indexS (.l 5) (.l 6),some ((.l 4),false)⟩,⟨.bin 0 .gtr (.l 7) (.c (.int .u8 (126))),some ((.l 4),false)⟩,Qf (.pick (.l 4) Qj (.l 8)),Qb 9,⟨.mv (.t 0),some ((.l 10),false)⟩,⟨.mv (.t 2),some ((.l 10),false)⟩,⟨.indexS (.l 11) (.l 12),some ((.l 10),false)⟩,⟨.bin 0 .eql (.l 13) (.c (.int .u8 (35))),some ((.l 10),false)⟩,Qf (.pick (.l 10) Qj (.l 14))] [(6,15)]
 (.cond (.t 6) (Ql [Qc] [(1,0)]
 .ret) .skip))))
 (.region [Qf (.bin 0 .add (.t 4) (Qh 1)),Qb 0] [(4,1)]))))
def Zrz:Zg :=
 (Ql [Qc] [(1,0)]
 (.seq (Ql [Qa 0,Qf (.lenStr (.l 0)),Qe 0] [(3,1),(4,2)]
 (.block 0 (.loop X6)))
 (Ql [Qd] [(1,0)]
 .ret)))
def Ziv:ZK:=⟨[0,2,3,5,6,7,24],26,Zrz,[.tmp 1],1⟩
def Zai:Zg :=
 (Ql [Qe 0,Qc] [(1,0),(2,1)]
 (Ql [Qa 0,Qs ZbC [.l 0],Qb 1,Qp 0 2,Qp 1 2,Qb 3,Qb 4] [(3,5),(4,6)]
 (.seq (Ql [Qa 4,Qf (.bin 4 .neq (.l 0) (.c (.nilif))),Qb 1,⟨.mv (.t 3),some ((.l 2),false)⟩,⟨.call (.c (.fn Xn [] [])) [(.l 3)],some ((.l 2),false)⟩,⟨.mv (.t 0),some ((.l 2),false)⟩,⟨.bin 1 .neq (.l 4) (.l 5),some ((.l 2),false)⟩,Qf (.pick (.l 2) Qj (.l 6)),Qb 7,⟨.mv (.t 3),some ((.l 8),false)⟩,⟨.call (.c (.fn YJ [] [])) [(.l 9),(Qh (-999999)),(Qh 999999)],some ((.l 8),false)⟩,⟨.un .not (.l 10),some ((.l 8),false)⟩,Qf (.pick (.l 8) Qj (.l 11))] [(5,12)]
 (.cond (.t 5) (Ql [Qe 0,Qc] [(1,0),(2,1)]
 .ret) .skip))
 (Ql [Qa 3,Qb 0,Qd] [(1,1),(2,2)]
 .ret))))
def JL:ZK:=⟨[0,2,3,4,5,23],25,Zai,[.tmp 1,.tmp 2],1⟩
def ZrA:Zg :=
 (Ql [Qe 0,Qe 0] [(1,0),(2,1)]
 (.seq (Ql [Qa 0] [(3,0)]
 (.block 0 (Ql [⟨.bin 1 .eql (.t 3) (.c (.str ⟨#[108,111,97,100]⟩)),none⟩,Qb 0] [(4,1)]
 (.cond (.t 4) (Ql [Qe 1,Qe 2] [(1,0),(2,1)]
 .ret) (Ql [⟨.bin 1 .eql (.t 3) (.c (.str ⟨#[116,97,107,101]⟩)),none⟩,Qb 0] [(5,1)]
 (.cond (.t 5) (Ql [Qe 2,Qe 1] [(1,0),(2,1)]
 .ret) (Ql [⟨.bin 1 .eql (.t 3) (.c (.str ⟨#[109,111,118,101]⟩)),none⟩,Qb 0] [(6,1)]
 (.cond (.t 6) (Ql [Qe 3,Qe 2] [(1,0),(2,1)]
 .ret) (Ql [⟨.bin 1 .eql (.t 3) (.c (.str ⟨#[98,97,115,101]⟩)),none⟩,Qb 0] [(7,1)]
 (.cond (.t 7) (Ql [Qe 4,Qe 2] [(1,0),(2,1)]
 .ret) (Ql [⟨.bin 1 .eql (.t 3) (.c (.str ⟨#[115,116,97,103,101]⟩)),none⟩,Qb 0] [(8,1)]
 (.cond (.t 8) (Ql [Qe 5,Qe 3] [(1,0),(2,1)]
 .ret) (Ql [⟨.bin 1 .eql (.t 3) (.c (.str ⟨#[100,114,111,112]⟩)),none⟩,Qb 0] [(9,1)]
 (.cond (.t 9) (Ql [Qe 6,Qe 1] [(1,0),(2,1)]
 .ret) .skip))))))))))))))
 (Ql [Qe 0,Qe 0] [(1,0),(2,1)]
 .ret)))
def Ziw:ZK:=⟨[0,2,3,4,5,7,9,11,13,15],17,ZrA,[.tmp 1,.tmp 2],1⟩
def Ze1:Zg :=
 (Ql [⟨.mv (.c (.str ⟨#[]⟩)),none⟩,Qc] [(3,0),(4,1)]
 (Ql [Qa 2,Qf (.buildSlice 1 3 [.int .i64 (0),.int .i64 (0),.int .i64 (0)] [(0,1,(Qh 0)),(1,1,(Qh 0)),(2,1,(Qh 0))]),Qf (.append false 1 8 (.l 0) (.l 1)),Qb 2] [(2,3)]
 (Qm [Qg (.mv (.t 0)),Qg (.nilCheck (.l 0)),Qg (.load true 6 (.l 1)),Qg (.mv (.t 1)),Qg (.mv (.t 2)),Qg (.indexAddrS 1 (.l 4) (Qh 0)),Qg (.load false 1 (.l 5)),Qg (.mv (.t 2)),Qg (.indexAddrS 1 (.l 7) (Qh 1)),Qg (.load false 1 (.l 8)),Qg (.mv (.t 2)),Qg (.indexAddrS 1 (.l 10) (Qh 2)),Qg (.load false 1 (.l 11)),Qg (.build [.int .i64 (0),.int .i64 (0),.int .i64 (0),.int .i64 (0)] [(0,1,(.l 3)),(1,1,(.l 6)),(2,1,(.l 9)),(3,1,(.l 12))]),Qt Xv [.l 2,.l 13],Qg (.mv (.l 14)),Qg (.extract 0 (.l 15)),Qg (.extract 1 (.l 15)),⟨.alloc [.slice none 0 0 none,.int .i64 (0),.int .i64 (0),.slice none 0 0 none,.int .i64 (0),.int .i64 (0)],none,[(2,Qf (.load true 6 (.l 1))),(6,Qn 1 5),(9,Qn 1 8),(12,Qn 1 11)]⟩,Qg (.store 6 (.l 18) (.l 16)),Qg (.mv (.l 17))] [(5,18),(6,20)]
 (.seq (Ql [Qa 6,Qf (.un .not (.l 0))] [(7,1)]
 (.cond (.t 7) (Ql [⟨.mv (.c (.str ⟨#[]⟩)),none⟩,Qc] [(3,0),(4,1)]
 .ret) .skip))
 (Ql [Qa 0,Qr 6 5,Qf (.nilCheck (.l 0)),Qq 6 2 1] []
 (.seq (Ql [Qa 1,Qf (.bin 0 .eql (.l 0) (Qh 5)),Qb 1,⟨.mv (.t 1),some ((.l 2),false)⟩,⟨.bin 0 .eql (.l 3) (Qh 6),some ((.l 2),false)⟩,Qf (.pick (.l 2) Qj (.l 4))] [(8,5)]
 (.cond (.t 8) (Ql [Qa 0,Qf (.nilCheck (.l 0)),Qf (.fieldAddr 3 (.l 1)),Qn 1 2,Qs Zcs [.l 3],Qp 0 4,Qp 1 4,Qs XP [.l 5,.l 6],Qp 0 7,Qp 1 7,Qb 8,Qb 9] [(3,10),(4,11)]
 .ret) .skip))
 (Qm [Qg (.mv (.t 0)),Qg (.nilCheck (.l 0)),Qg (.fieldAddr 0 (.l 1)),Qg (.load false 1 (.l 2)),Qg (.mv (.t 0)),Qg (.nilCheck (.l 4)),Qg (.fieldAddr 1 (.l 5)),Qg (.load false 1 (.l 6)),Qg (.mv (.t 0)),Qg (.nilCheck (.l 8)),Qg (.fieldAddr 2 (.l 9)),Qg (.load false 1 (.l 10)),Qt Zc2 [.l 3,.l 7,.l 11],Qg (.extract 0 (.l 12)),Qg (.extract 1 (.l 12)),Qt ZZ [.l 13,.l 14],Qg (.extract 0 (.l 15)),Qg (.extract 1 (.l 15)),Qg (.mv (.l 16)),Qg (.mv (.l 17))] [(3,18),(4,19)]
 .ret)))))))
def Yq:ZK:=⟨[0,1,2,6,7,8,9,32,41],70,Ze1,[.tmp 3,.tmp 4],0⟩
def Zjd:Zg :=
 (Ql [⟨.mv (.c (.str ⟨#[]⟩)),none⟩,Qc] [(2,0),(3,1)]
 (Ql [Qa 0,Qs Xn [.l 0],Qa 1,Qb 1,Qb 2] [(2,3),(3,4)]
 .ret))
def ZbG:ZK:=⟨[0,1,4,5],9,Zjd,[.tmp 2,.tmp 3],1⟩
def ZbH:Zg :=
 (Ql [Qf (.bin 0 .lss (.t 11) (.t 10))] [(12,0)]
 (.seq (.cond (.t 12) .skip (.exit 0))
 (.seq (.block 1 (Ql [Qf (.indexAddrS 1 (.t 9) (.t 11)),Qn 1 0,Qb 1] [(6,2)]
 (.seq (Ql [Qa 6,Qa 5,Qf (.bin 0 .add (.l 1) (Qh 1)),Qf (.bin 0 .neq (.l 0) (.l 2))] [(13,3)]
 (.cond (.t 13) (.exit 0) .skip))
 (.region [Qa 6,Qb 0] [(5,1)]))))
 (.region [Qf (.bin 0 .add (.t 11) (Qh 1)),Qb 0] [(11,1)]))))
def Zho:Zg :=
 (Ql [Qe 0,Qc] [(2,0),(3,1)]
 (.seq (Ql [Qa 0,Qs Zau [.l 0],Qf (.un .not (.l 1))] [(7,2)]
 (.cond (.t 7) (Ql [Qe 0,Qc] [(2,0),(3,1)]
 .ret) .skip))
 (Ql [Qe 0] [(4,0)]
 (.seq (Ql [Qa 1] [(8,0)]
 (.cond (.t 8) (.region [Qe (-1)] [(4,0)]) .skip))
 (Ql [Qe 0] [(5,0)]
 (.seq (Ql [Qa 0,Qa 4,Qs ZfM [.l 0,.l 1],Qf (.len (.l 2)),Qe 0] [(9,2),(10,3),(11,4)]
 (.block 0 (.loop ZbH)))
 (Ql [Qa 5,Qb 0,Qd] [(2,1),(3,2)]
 .ret)))))))
def KE:ZK:=⟨[0,1,4,5,6,7,9,12,13,16,17,18,19,25],29,Zho,[.tmp 2,.tmp 3],1⟩
def Zd4:Zg :=
 (Ql [⟨.mv (.c (.str ⟨#[]⟩)),none⟩,Qc] [(2,0),(3,1)]
 (.seq (Ql [Qa 0,Qf (.len (.l 0)),Qf (.bin 0 .eql (.l 1) (Qh 0))] [(4,2)]
 (.cond (.t 4) (Ql [Qa 1,⟨.mv (.c (.str ⟨#[110,111,110,101]⟩)),none⟩,Qb 0] [(2,1),(3,2)]
 .ret) .skip))
 (Ql [Qa 0,⟨.call (.c (.fn Yl [] [])) [(.l 0),(.c (.str ⟨#[32]⟩))],none⟩,Qa 1,Qb 1,Qb 2] [(2,3),(3,4)]
 .ret)))
def Zaj:ZK:=⟨[0,1,4,5,8],13,Zd4,[.tmp 2,.tmp 3],1⟩
def ZbI:Zg :=
 (Ql [Qf (.box (.t 1)),Qf (.mv (.c (.slice none 0 0 none))),Qc] [(2,0),(3,1),(4,2)]
 (.seq (Ql [Qa 0,Qs Zau [.l 0],Qf (.un .not (.l 1)),Qb 2,⟨.load false 1 (.t 2),some ((.l 3),false)⟩,⟨.bin 0 .lss (.l 4) (Qh 1),some ((.l 3),false)⟩,Qf (.pick (.l 3) Qj (.l 5))] [(6,6)]
 (.cond (.t 6) (Ql [Qf (.mv (.c (.slice none 0 0 none))),Qc] [(3,0),(4,1)]
 .ret) .skip))
 (Ql [Qf (.buildSlice 1 0 [] []),Qf (.alloc [.slice none 0 0 none]),Qq 1 1 0] [(5,1)]
 (Ql [Qa 0,Qf (.makeFunc XQ [] [(.t 2),(.t 5)]),Qs KU [.l 0,Qh (-1),.l 1]] []
 (Qm [Qg (.load false 1 (.t 5)),Qg (.load false 1 (.t 5)),Qg (.len (.l 1)),Qg (.bin 0 .gtr (.l 2) (Qh 0)),Qg (.mv (.l 0)),Qg (.mv (.l 3))] [(3,4),(4,5)]
 .ret)))))
def Jm:ZK:=⟨[0,1,3,4,5,6,13],22,ZbI,[.tmp 3,.tmp 4],2⟩
def ZkE:Zg :=
 (Ql [⟨.mv (.c (.str ⟨#[]⟩)),none⟩,Qc] [(2,0),(3,1)]
 (.seq (Ql [Qa 1] [(4,0)]
 (.block 0 (Ql [⟨.bin 1 .eql (.t 4) (.c (.str ⟨#[114,111,119]⟩)),none⟩,Qb 0] [(5,1)]
 (.cond (.t 5) (Ql [Qa 0,Qf (.nilCheck (.l 0)),Qf (.fieldAddr 0 (.l 1)),Qn 1 2,Qs Zfz [.l 3],Qp 0 4,Qp 1 4,Qb 5,Qb 6] [(2,7),(3,8)]
 .ret) (Ql [⟨.bin 1 .eql (.t 4) (.c (.str ⟨#[119,101,105,103,104,116]⟩)),none⟩,Qb 0] [(6,1)]
 (.cond (.t 6) (Ql [Qa 0,Qf (.nilCheck (.l 0)),Qf (.fieldAddr 0 (.l 1)),Qn 1 2,Qs ZdP [.l 3],Qp 0 4,Qp 1 4,Qs ZZ [.l 5,.l 6],Qp 0 7,Qp 1 7,Qb 8,Qb 9] [(2,10),(3,11)]
 .ret) (Ql [⟨.bin 1 .eql (.t 4) (.c (.str ⟨#[99,101,110,116,114,101]⟩)),none⟩,Qb 0] [(7,1)]
 (.cond (.t 7) (Ql [Qa 0,Qf (.nilCheck (.l 0)),Qf (.fieldAddr 0 (.l 1)),Qn 1 2,Qs ZdQ [.l 3],Qp 0 4,Qp 1 4,Qs XP [.l 5,.l 6],Qp 0 7,Qp 1 7,Qb 8,Qb 9] [(2,10),(3,11)]
 .ret) (Ql [⟨.bin 1 .eql (.t 4) (.c (.str ⟨#[115,105,100,101]⟩)),none⟩,Qb 0] [(8,1)]
 (.cond (.t 8) (Qm [Qg (.mv (.t 0)),Qg (.nilCheck (.l 0)),Qg (.fieldAddr 0 (.l 1)),Qg (.load false 1 (.l 2)),Qg (.mv (.t 0)),Qg (.nilCheck (.l 4)),Qg (.fieldAddr 1 (.l 5)),Qg (.load false 1 (.l 6)),Qg (.mv (.t 0)),Qg (.nilCheck (.l 8)),Qg (.fieldAddr 2 (.l 9)),Qg (.load false 1 (.l 10)),Qt Zc2 [.l 3,.l 7,.l 11],Qg (.extract 0 (.l 12)),Qg (.extract 1 (.l 12)),Qt ZZ [.l 13,.l 14],Qg (.extract 0 (.l 15)),Qg (.extract 1 (.l 15)),Qg (.mv (.l 16)),Qg (.mv (.l 17))] [(2,18),(3,19)]
 .ret) (Ql [⟨.bin 1 .eql (.t 4) (.c (.str ⟨#[116,105,112,115]⟩)),none⟩,Qb 0] [(9,1)]
 (.cond (.t 9) (Ql [Qa 0,Qf (.nilCheck (.l 0)),Qf (.fieldAddr 4 (.l 1)),Qn 1 2,Qs ZZ [.l 3,Qj],Qp 0 4,Qp 1 4,Qb 5,Qb 6] [(2,7),(3,8)]
 .ret) (Ql [⟨.bin 1 .eql (.t 4) (.c (.str ⟨#[112,117,108,108]⟩)),none⟩,Qb 0] [(10,1)]
 (.cond (.t 10) (Ql [Qa 0,Qf (.nilCheck (.l 0)),Qf (.load true 6 (.l 1)),Qs ZfN [.l 2],Qp 0 3,Qp 1 3,Qs ZZ [.l 4,.l 5],Qp 0 6,Qp 1 6,Qb 7,Qb 8] [(2,9),(3,10)]
 .ret) (Ql [⟨.bin 1 .eql (.t 4) (.c (.str ⟨#[115,112,108,105,116]⟩)),none⟩,Qb 0] [(11,1)]
 (.cond (.t 11) (Ql [Qa 0,Qf (.nilCheck (.l 0)),Qf (.fieldAddr 0 (.l 1)),Qn 1 2,Qs ZbB [.l 3],Qp 0 4,Qp 1 4,Qs XX [.l 5,.l 6],Qp 0 7,Qp 1 7,Qb 8,Qb 9] [(2,10),(3,11)]
 .ret) .skip))))))))))))))))
 (Ql [⟨.mv (.c (.str ⟨#[]⟩)),none⟩,Qc] [(2,0),(3,1)]
 .ret)))
def Zcz:ZK:=⟨[0,1,4,5,6,7,16,28,40,60,69,80],92,ZkE,[.tmp 2,.tmp 3],1⟩
def ZgV:Zg :=
 (Ql [⟨.mv (.c (.str ⟨#[]⟩)),none⟩,Qc] [(3,0),(4,1)]
 (.seq (Ql [Qa 1] [(10,0)]
 (.block 0 (Ql [⟨.bin 1 .eql (.t 10) (.c (.str ⟨#[109,111,109,101,110,116]⟩)),none⟩,Qb 0] [(11,1)]
 (.cond (.t 11) (Ql [Qa 0,Qf (.nilCheck (.l 0)),Qf (.fieldAddr 0 (.l 1)),Qn 1 2,Qa 2,Qs Ju [.l 3,.l 4],Qp 0 5,Qp 1 5,Qs ZZ [.l 6,.l 7],Qp 0 8,Qp 1 8,Qb 9,Qb 10] [(3,11),(4,12)]
 .ret) (Ql [⟨.bin 1 .eql (.t 10) (.c (.str ⟨#[109,111,115,116]⟩)),none⟩,Qb 0] [(12,1)]
 (.cond (.t 12) (Ql [Qa 0,Qf (.nilCheck (.l 0)),Qf (.fieldAddr 3 (.l 1)),Qn 1 2,Qa 2,Qs ZdR [.l 3,.l 4],Qp 0 5,Qp 1 5,Qs ZZ [.l 6,.l 7],Qp 0 8,Qp 1 8,Qb 9,Qb 10] [(3,11),(4,12)]
 .ret) (Ql [⟨.bin 1 .eql (.t 10) (.c (.str ⟨#[115,116,101,112,115]⟩)),none⟩,Qb 0] [(13,1)]
 (.cond (.t 13) (Ql [Qa 0,Qf (.nilCheck (.l 0)),Qf (.fieldAddr 3 (.l 1)),Qn 1 2,Qa 2,Qs Zav [.l 3,.l 4],Qb 5,Qp 0 6,Qp 1 6,Qb 7,Qb 8] [(5,9),(6,10)]
 (.seq (Ql [Qa 6,Qf (.un .not (.l 0))] [(14,1)]
 (.cond (.t 14) (Ql [⟨.mv (.c (.str ⟨#[]⟩)),none⟩,Qc] [(3,0),(4,1)]
 .ret) .skip))
 (Ql [Qa 5,Qa 5,Qf (.len (.l 1)),Qf (.bin 0 .sub (.l 2) (Qh 1)),Qf (.indexAddrS 2 (.l 0) (.l 3)),Qf (.load true 2 (.l 4)),Qs XP [.l 5,Qj],Qp 0 6,Qp 1 6,Qb 7,Qb 8] [(3,9),(4,10)]
 .ret))) (Ql [⟨.bin 1 .eql (.t 10) (.c (.str ⟨#[122,101,114,111]⟩)),none⟩,Qb 0] [(15,1)]
 (.cond (.t 15) (Ql [Qa 0,Qf (.nilCheck (.l 0)),Qf (.fieldAddr 0 (.l 1)),Qn 1 2,Qa 2,Qs Zcp [.l 3,.l 4],Qp 0 5,Qp 1 5,Qs ZZ [.l 6,.l 7],Qp 0 8,Qp 1 8,Qb 9,Qb 10] [(3,11),(4,12)]
 .ret) (Ql [⟨.bin 1 .eql (.t 10) (.c (.str ⟨#[109,101,110,100]⟩)),none⟩,Qb 0] [(16,1)]
 (.cond (.t 16) (Ql [Qa 0,Qf (.nilCheck (.l 0)),Qf (.fieldAddr 0 (.l 1)),Qn 1 2,Qa 2,Qs ZfO [.l 3,.l 4],Qb 5,Qp 0 6,Qp 1 6,Qp 2 6,Qb 7,Qb 8,Qb 9] [(7,10),(8,11),(9,12)]
 (Ql [Qa 7,Qa 8,Qf (.buildSlice 1 2 [.int .i64 (0),.int .i64 (0)] [(0,1,(.l 0)),(1,1,(.l 1))]),Qa 9,Qs XX [.l 2,.l 3],Qp 0 4,Qp 1 4,Qb 5,Qb 6] [(3,7),(4,8)]
 .ret)) (Ql [⟨.bin 1 .eql (.t 10) (.c (.str ⟨#[99,111,105,110,115]⟩)),none⟩,Qb 0] [(17,1)]
 (.cond (.t 17) (Ql [Qa 2,Qs JR [.l 0],Qp 0 1,Qp 1 1,Qs ZZ [.l 2,.l 3],Qp 0 4,Qp 1 4,Qb 5,Qb 6] [(3,7),(4,8)]
 .ret) .skip))))))))))))))
 (Ql [⟨.mv (.c (.str ⟨#[]⟩)),none⟩,Qc] [(3,0),(4,1)]
 .ret)))
def QT:ZK:=⟨[0,1,2,6,7,8,9,10,11,12,13,14,27,40,52,62,75,94],103,ZgV,[.tmp 3,.tmp 4],1⟩
def QU:Zg :=
 (Ql [Qf (.box (.t 1)),⟨.mv (.c (.str ⟨#[]⟩)),none⟩,Qc] [(2,0),(3,1),(4,2)]
 (.seq (Ql [Qa 0,Qs YJ [.l 0,Qh 0,Qh 59],Qf (.un .not (.l 1)),Qb 2,⟨.load true 2 (.t 2),some ((.l 3),false)⟩,⟨.call (.c (.fn Xu [] [])) [(.l 4)],some ((.l 3),false)⟩,⟨.un .not (.l 5),some ((.l 3),false)⟩,Qf (.pick (.l 3) Qj (.l 6))] [(7,7)]
 (.cond (.t 7) (Ql [⟨.mv (.c (.str ⟨#[]⟩)),none⟩,Qc] [(3,0),(4,1)]
 .ret) .skip))
 (Qm [Qg (.mv (.t 0)),Qg (.fieldAddr 0 (.t 2)),Qg (.load false 1 (.l 1)),Qg (.fieldAddr 1 (.t 2)),Qg (.load false 1 (.l 3)),⟨.call (.c (.fn Xn [] [])) [(.l 0)],none,[(2,Qn 1 1),(4,Qn 1 3)]⟩,⟨.bin 1 .add (.l 5) (.c (.str ⟨#[32]⟩)),none,[]⟩,Qg (.bin 1 .add (.l 6) (.l 2)),⟨.bin 1 .add (.l 7) (.c (.str ⟨#[64]⟩)),none,[]⟩,Qg (.bin 1 .add (.l 8) (.l 4)),Qt XY [.l 9],Qg (.mv (.l 10)),Qg (.extract 0 (.l 11)),Qg (.extract 1 (.l 11)),Qg (.mv (.l 12)),Qg (.mv (.l 13))] [(5,14),(6,15)]
 (Ql [Qa 5,⟨.bin 1 .add (.l 0) (.c (.str ⟨#[10]⟩)),none⟩,Qa 6,Qb 1,Qb 2] [(3,3),(4,4)]
 .ret))))
def XS:ZK:=⟨[0,1,3,4,5,6,7,15],33,QU,[.tmp 3,.tmp 4],1⟩
def Xr:Zg :=
 (.seq (Ql [Qa 3,Qa 0,Qf (.lenStr (.l 1)),Qf (.bin 0 .lss (.l 0) (.l 2))] [(4,3)]
 (.cond (.t 4) .skip (.exit 0)))
 (.seq (.block 1 (Ql [Qa 0,Qa 3,Qf (.indexS (.l 0) (.l 1)),Qf (.conv .i64 (.l 2)),Qs YX [.l 3,Qh 32,Qh 126],Qf (.un .not (.l 4)),Qb 5,⟨.mv (.t 0),some ((.l 6),false)⟩,⟨.mv (.t 3),some ((.l 6),false)⟩,⟨.indexS (.l 7) (.l 8),some ((.l 6),false)⟩,⟨.bin 0 .eql (.l 9) (.c (.int .u8 (35))),some ((.l 6),false)⟩,Qf (.pick (.l 6) Qj (.l 10))] [(5,11)]
 (.cond (.t 5) (Ql [Qc] [(2,0)]
 .ret) .skip)))
 (.region [Qa 3,Qf (.bin 0 .add (.l 0) (Qh 1)),Qb 1] [(3,2)])))
def ZmW:Zg :=
 (Ql [Qc] [(2,0)]
 (.seq (Ql [Qe 0] [(3,0)]
 (.block 0 (.loop Xr)))
 (Ql [Qa 0,Qf (.lenStr (.l 0)),Qa 1,Qf (.bin 0 .leq (.l 1) (.l 2)),Qb 3] [(2,4)]
 .ret)))
def Zd5:ZK:=⟨[0,1,4,5,9,23],28,ZmW,[.tmp 2],1⟩
def Jn:Zg :=
 (.seq (Ql [Qa 3,Qa 0,Qf (.lenStr (.l 1)),Qf (.bin 0 .lss (.l 0) (.l 2))] [(4,3)]
 (.cond (.t 4) .skip (.exit 0)))
 (.seq (.block 1 (Ql [Qa 0,Qa 3,Qf (.indexS (.l 0) (.l 1)),Qa 1,Qf (.bin 0 .eql (.l 2) (.l 3))] [(5,4)]
 (.cond (.t 5) (Ql [Qd] [(2,0)]
 .ret) .skip)))
 (.region [Qa 3,Qf (.bin 0 .add (.l 0) (Qh 1)),Qb 1] [(3,2)])))
def ZmX:Zg :=
 (Ql [Qc] [(2,0)]
 (.seq (Ql [Qe 0] [(3,0)]
 (.block 0 (.loop Jn)))
 (Ql [Qc] [(2,0)]
 .ret)))
def Zd6:ZK:=⟨[0,1,4,5,9,16],17,ZmX,[.tmp 2],1⟩
def ZoO:Zg :=
 (Ql [Qf (.box (.t 0)),⟨.mv (.c (.str ⟨#[]⟩)),none⟩] [(2,0),(3,1)]
 (.seq (Ql [Qa 1] [(6,0)]
 (.block 0 (Ql [⟨.bin 1 .eql (.t 6) (.c (.str ⟨#[114,111,119]⟩)),none⟩,Qb 0] [(7,1)]
 (.cond (.t 7) (Ql [Qo 0 2,Qn 1 0,Qs ZfP [.l 1],Qb 2,Qp 0 3,Qp 1 3,Qb 4,Qb 5] [(4,6),(5,7)]
 (Ql [Qa 5] [(8,0)]
 (.cond (.t 8) (Ql [Qa 4,Qb 0] [(3,1)]
 .ret) .skip))) (Ql [⟨.bin 1 .eql (.t 6) (.c (.str ⟨#[119,101,105,103,104,116]⟩)),none⟩,Qb 0] [(9,1)]
 (.cond (.t 9) (Ql [Qo 0 2,Qn 1 0,Qs JK [.l 1],Qs Ym [.l 2],Qb 3] [(3,4)]
 .ret) (Ql [⟨.bin 1 .eql (.t 6) (.c (.str ⟨#[99,101,110,116,114,101]⟩)),none⟩,Qb 0] [(10,1)]
 (.cond (.t 10) (Ql [Qo 0 2,Qn 1 0,Qs ZdS [.l 1],Qp 0 2,Qp 1 2,Qs Zbe [.l 3,.l 4],Qb 5] [(3,6)]
 .ret) (Ql [⟨.bin 1 .eql (.t 6) (.c (.str ⟨#[115,105,100,101]⟩)),none⟩,Qb 0] [(11,1)]
 (.cond (.t 11) (Ql [Qo 0 2,Qn 1 0,Qo 1 2,Qn 1 2,Qo 2 2,Qn 1 4,Qs Zbf [.l 1,.l 3,.l 5],Qs Ym [.l 6],Qb 7] [(3,8)]
 .ret) (Ql [⟨.bin 1 .eql (.t 6) (.c (.str ⟨#[116,105,112,115]⟩)),none⟩,Qb 0] [(12,1)]
 (.cond (.t 12) (Ql [Qo 4 2,Qn 1 0,Qs Ym [.l 1],Qb 2] [(3,3)]
 .ret) (Ql [⟨.bin 1 .eql (.t 6) (.c (.str ⟨#[112,117,108,108]⟩)),none⟩,Qb 0] [(13,1)]
 (.cond (.t 13) (Ql [Qr 6 2,Qs ZfQ [.l 0],Qp 0 1,Qp 1 1,Qs KV [.l 2,.l 3],Qb 4] [(3,5)]
 .ret) (Ql [⟨.bin 1 .eql (.t 6) (.c (.str ⟨#[115,112,108,105,116]⟩)),none⟩,Qb 0] [(14,1)]
 (.cond (.t 14) (Ql [Qo 0 2,Qn 1 0,Qs ZbD [.l 1],Qp 0 2,Qp 1 2,Qs XB [.l 3,.l 4],Qb 5] [(3,6)]
 .ret) .skip))))))))))))))))
 (Ql [⟨.mv (.c (.str ⟨#[63]⟩)),none⟩] [(3,0)]
 .ret)))
def Zf7:ZK:=⟨[0,1,2,4,5,6,7,8,16,18,24,32,42,47,54],62,ZoO,[.tmp 3],1⟩
def ZcA:Zg :=
 (.seq (Ql [Qa 4,Qa 0,Qf (.len (.l 1)),Qf (.bin 0 .lss (.l 0) (.l 2))] [(7,3)]
 (.cond (.t 7) .skip (.exit 0)))
 (.seq (.block 1 (Ql [Qa 0,Qa 4,Qf (.indexAddrS 1 (.l 0) (.l 1)),Qn 1 2,Qs Zik [.l 3],Qb 4,Qp 0 5,Qp 1 5,Qb 6,Qb 7] [(5,8),(6,9)]
 (.seq (Ql [Qa 6,Qf (.un .not (.l 0))] [(8,1)]
 (.cond (.t 8) (Ql [Qf (.buildSlice 1 0 [] []),Qb 0,Qc] [(1,1),(2,2)]
 .ret) .skip))
 (.region [Qa 3,Qa 5,Qf (.buildSlice 1 1 [.int .i64 (0)] [(0,1,(.l 1))]),Qf (.append false 1 8 (.l 0) (.l 2)),Qb 3] [(3,4)]))))
 (.region [Qa 4,Qf (.bin 0 .add (.l 0) (Qh 1)),Qb 1] [(4,2)])))
def ZoP:Zg :=
 (Ql [Qf (.mv (.c (.slice none 0 0 none))),Qc] [(1,0),(2,1)]
 (Ql [Qf (.buildSlice 1 0 [] []),Qb 0] [(3,1)]
 (.seq (Ql [Qe 1] [(4,0)]
 (.block 0 (.loop ZcA)))
 (Ql [Qa 3,Qb 0,Qd] [(1,1),(2,2)]
 .ret))))
def Q1:ZK:=⟨[0,2,3,4,5,6,7,12,24],31,ZoP,[.tmp 1,.tmp 2],2⟩
def ZaG:Zg :=
 (.seq (Ql [Qa 6,Qa 3,Qf (.len (.l 1)),Qf (.bin 0 .lss (.l 0) (.l 2))] [(8,3)]
 (.cond (.t 8) .skip (.exit 0)))
 (.seq (.block 1 (Ql [Qa 0,Qa 3,Qa 6,Qf (.indexAddrS 1 (.l 1) (.l 2)),Qn 1 3,Qf (.bin 1 .eql (.l 0) (.l 4)),Qb 5,⟨.mv (.t 1),some ((.l 6),true)⟩,⟨.len (.l 7),some ((.l 6),true)⟩,⟨.mv (.t 5),some ((.l 6),true)⟩,⟨.mv (.t 6),some ((.l 6),true)⟩,⟨.indexAddrS 1 (.l 9) (.l 10),some ((.l 6),true)⟩,⟨.load false 1 (.l 11),some ((.l 6),true)⟩,⟨.bin 0 .eql (.l 8) (.l 12),some ((.l 6),true)⟩,Qf (.pick (.l 6) (.l 13) Qi)] [(9,14)]
 (.cond (.t 9) (Ql [Qa 1,Qs Zaw [.l 0],Qf (.buildSlice 1 2 [.int .i64 (0),.int .i64 (0)] [(0,1,(Qh 0)),(1,1,(Qh 0))]),Qf (.append false 1 8 (.l 1) (.l 2)),Qb 3] [(7,4)]
 (Qm [Qg (.mv (.t 4)),Qg (.mv (.t 6)),Qg (.indexAddrS 1 (.l 0) (.l 1)),Qg (.load false 1 (.l 2)),Qg (.mv (.t 7)),Qg (.indexAddrS 1 (.l 4) (Qh 0)),Qg (.load false 1 (.l 5)),Qg (.mv (.t 7)),Qg (.indexAddrS 1 (.l 7) (Qh 1)),Qg (.load false 1 (.l 8)),Qg (.mv (.t 7)),Qg (.indexAddrS 1 (.l 10) (Qh 2)),Qg (.load false 1 (.l 11)),Qg (.build [.int .i64 (0),.int .i64 (0),.int .i64 (0),.int .i64 (0)] [(0,1,(.l 3)),(1,1,(.l 6)),(2,1,(.l 9)),(3,1,(.l 12))]),Qg (.store 4 (.t 2) (.l 13))] []
 .ret)) .skip)))
 (.region [Qa 6,Qf (.bin 0 .add (.l 0) (Qh 1)),Qb 1] [(6,2)])))
def ZoQ:Zg :=
 (Ql [Qf (.alloc [.int .i64 (0),.int .i64 (0),.int .i64 (0),.int .i64 (0)])] [(2,0)]
 (Ql [⟨.buildSlice 1 6 [.str ⟨#[]⟩,.str ⟨#[]⟩,.str ⟨#[]⟩,.str ⟨#[]⟩,.str ⟨#[]⟩,.str ⟨#[]⟩] [(0,1,(.c (.str ⟨#[116,97,107,101]⟩))),(1,1,(.c (.str ⟨#[100,114,111,112]⟩))),(2,1,(.c (.str ⟨#[108,111,97,100]⟩))),(3,1,(.c (.str ⟨#[109,111,118,101]⟩))),(4,1,(.c (.str ⟨#[98,97,115,101]⟩))),(5,1,(.c (.str ⟨#[115,116,97,103,101]⟩)))],none⟩,Qb 0] [(3,1)]
 (Ql [Qf (.buildSlice 1 6 [.int .i64 (0),.int .i64 (0),.int .i64 (0),.int .i64 (0),.int .i64 (0),.int .i64 (0)] [(0,1,(Qh 2)),(1,1,(Qh 6)),(2,1,(Qh 1)),(3,1,(Qh 3)),(4,1,(Qh 4)),(5,1,(Qh 5))]),Qb 0] [(4,1)]
 (Ql [Qf (.buildSlice 1 6 [.int .i64 (0),.int .i64 (0),.int .i64 (0),.int .i64 (0),.int .i64 (0),.int .i64 (0)] [(0,1,(Qh 1)),(1,1,(Qh 1)),(2,1,(Qh 2)),(3,1,(Qh 2)),(4,1,(Qh 2)),(5,1,(Qh 3))]),Qb 0] [(5,1)]
 (.seq (Ql [Qe 0] [(6,0)]
 (.block 0 (.loop ZaG)))
 (Ql [Qf (.build [.int .i64 (0),.int .i64 (0),.int .i64 (0),.int .i64 (0)] []),Qf (.store 4 (.t 2) (.l 0))] []
 .ret))))))
def KF:ZK:=⟨[0,1,4,5,6,7,8,9,16,33],53,ZoQ,[.cell 2 true 4],1⟩
def Zc9:Zg :=
 (Ql [Qf (.box (.t 0)),Qf (.box (.t 1)),Qf (.alloc [.slice none 0 0 none,.int .i64 (0),.int .i64 (0),.slice none 0 0 none,.int .i64 (0),.int .i64 (0)]),⟨.mv (.c (.str ⟨#[]⟩)),none⟩] [(2,0),(3,1),(4,2),(5,3)]
 (Ql [Qr 6 2,Qr 4 3,Qs Zhh [.l 0,.l 1],Qb 2,Qp 0 3,Qp 1 3,Qf (.alloc [.slice none 0 0 none,.int .i64 (0),.int .i64 (0),.slice none 0 0 none,.int .i64 (0),.int .i64 (0)]),Qq 6 6 4,Qb 5] [(6,6),(7,8)]
 (.seq (Ql [Qa 7,Qf (.un .not (.l 0))] [(8,1)]
 (.cond (.t 8) (Ql [Qr 6 2,Qf (.store 6 (.t 4) (.l 0)),⟨.mv (.c (.str ⟨#[63]⟩)),none⟩] [(5,2)]
 .ret) .skip))
 (.seq (Ql [Qo 0 3,Qn 1 0] [(9,1)]
 (.block 0 (.seq (Ql [Qf (.bin 0 .eql (.t 9) (Qh 5)),Qb 0] [(10,1)]
 (.cond (.t 10) .skip (.region [Qf (.bin 0 .eql (.t 9) (Qh 6)),Qb 0] [(10,1)])))
 (.cond (.t 10) (Qm [Qg (.load true 6 (.t 6)),Qg (.fieldAddr 3 (.t 6)),Qg (.load false 1 (.l 1)),⟨.call (.c (.fn Jj [] [])) [(.l 2)],none,[(0,Qr 6 6)]⟩,⟨.call (.c (.fn Zbe [] [])) [(.l 3),Qj],none,[(0,Qr 6 6)]⟩,Qg (.store 6 (.t 4) (.l 0)),Qg (.mv (.l 4))] [(5,6)]
 .ret) .skip))))
 (Qm [Qg (.load true 6 (.t 6)),Qg (.fieldAddr 0 (.t 6)),Qg (.load false 1 (.l 1)),Qg (.fieldAddr 1 (.t 6)),Qg (.load false 1 (.l 3)),Qg (.fieldAddr 2 (.t 6)),Qg (.load false 1 (.l 5)),⟨.call (.c (.fn Zbf [] [])) [(.l 2),(.l 4),(.l 6)],none,[(0,Qr 6 6)]⟩,⟨.call (.c (.fn Ym [] [])) [(.l 7)],none,[(0,Qr 6 6)]⟩,Qg (.store 6 (.t 4) (.l 0)),Qg (.mv (.l 8))] [(5,10)]
 .ret)))))
def Q2:ZK:=⟨[0,1,2,3,4,5,6,7,15,18,19],36,Zc9,[.cell 4 true 6,.tmp 5],2⟩
def ZrB:Zg :=
 (Ql [Qf (.box (.t 0)),⟨.mv (.c (.str ⟨#[]⟩)),none⟩] [(3,0),(4,1)]
 (.seq (Ql [Qa 1] [(5,0)]
 (.block 0 (Ql [⟨.bin 1 .eql (.t 5) (.c (.str ⟨#[119,101,105,103,104]⟩)),none⟩,Qb 0] [(6,1)]
 (.cond (.t 6) (Ql [Qa 2,Qs ZdT [.l 0,Qj],Qp 0 1,Qp 1 1,Qs KV [.l 2,.l 3],Qb 4] [(4,5)]
 .ret) (Ql [⟨.bin 1 .eql (.t 5) (.c (.str ⟨#[104,111,119]⟩)),none⟩,Qb 0] [(7,1)]
 (.cond (.t 7) (Qm [Qg (.mv (.t 2)),Qg (.sliceSl 1 (.l 0) (some (Qh 1)) none none),Qg (.mv (.t 2)),Qg (.indexAddrS 1 (.l 2) (Qh 0)),Qg (.load false 1 (.l 3)),Qt QF [.l 1,.l 4],Qg (.extract 0 (.l 5)),Qg (.extract 1 (.l 5)),Qt XB [.l 6,.l 7],Qg (.mv (.l 8))] [(4,9)]
 .ret) .skip))))))
 (.seq (Ql [Qa 2,Qf (.len (.l 0)),Qf (.bin 0 .eql (.l 1) (Qh 1))] [(8,2)]
 (.cond (.t 8) (Qm [Qg (.load true 6 (.t 3)),Qg (.mv (.t 1)),Qg (.mv (.t 2)),Qg (.indexAddrS 1 (.l 2) (Qh 0)),Qg (.load false 1 (.l 3)),Qt Zil [.l 0,.l 1,.l 4],Qg (.mv (.l 5))] [(4,6)]
 .ret) .skip))
 (Ql [⟨.mv (.c (.str ⟨#[63]⟩)),none⟩] [(4,0)]
 .ret))))
def Zix:ZK:=⟨[0,1,2,3,6,7,8,15,28],35,ZrB,[.tmp 4],1⟩
def ZoR:Zg :=
 (Ql [Qf (.box (.t 1)),⟨.mv (.c (.str ⟨#[]⟩)),none⟩] [(2,0),(3,1)]
 (Qm [Qg (.mv (.t 0)),Qg (.fieldAddr 0 (.t 2)),Qg (.load false 1 (.l 1)),Qg (.fieldAddr 1 (.t 2)),Qg (.load false 1 (.l 3)),⟨.call (.c (.fn Ym [] [])) [(.l 0)],none,[(2,Qn 1 1),(4,Qn 1 3)]⟩,⟨.bin 1 .add (.l 5) (.c (.str ⟨#[32]⟩)),none,[]⟩,Qg (.bin 1 .add (.l 6) (.l 2)),⟨.bin 1 .add (.l 7) (.c (.str ⟨#[64]⟩)),none,[]⟩,Qg (.bin 1 .add (.l 8) (.l 4)),Qt Zim [.l 9],⟨.bin 1 .add (.l 10) (.c (.str ⟨#[10]⟩)),none,[]⟩,Qg (.mv (.l 11))] [(3,12)]
 .ret))
def Zf8:ZK:=⟨[0,1,3,4],17,ZoR,[.tmp 3],1⟩
def Xh:Zg :=
 (.seq (Ql [Qa 3,Qf (.len (.l 0)),Qf (.bin 0 .lss (.l 1) (Qh 60))] [(10,2)]
 (.cond (.t 10) .skip (.exit 0)))
 (.block 1 (Ql [Qa 0,Qa 5,Qf (.sliceStr (.l 0) (some (.l 1)) none),⟨.call (.c (.fn JS [] [])) [(.l 2),(.c (.str ⟨#[10]⟩))],none⟩,Qb 3,Qp 0 4,Qp 1 4,Qp 2 4,Qb 5,Qb 6,Qb 7] [(6,8),(7,10)]
 (Ql [Qa 3,Qf (.len (.l 0)),Qa 6,Qs Zin [.l 1,.l 2],Qb 3,Qp 0 4,Qp 1 4,⟨.alloc [.str ⟨#[]⟩,.str ⟨#[]⟩],none⟩,Qq 2 7 5,Qb 6] [(8,7),(9,9)]
 (.seq (Ql [Qa 7,Qf (.un .not (.l 0)),Qb 1,⟨.mv (.t 9),some ((.l 2),false)⟩,⟨.un .not (.l 3),some ((.l 2),false)⟩,Qf (.pick (.l 2) Qj (.l 4))] [(11,5)]
 (.cond (.t 11) (.exit 0) .skip))
 (Ql [Qa 5,Qa 6,Qf (.lenStr (.l 1)),Qf (.bin 0 .add (.l 2) (Qh 1)),Qf (.bin 0 .add (.l 0) (.l 3)),Qb 4] [(5,5)]
 (.region [Qa 3,Qr 2 8,⟨.buildSlice 2 1 [.str ⟨#[]⟩,.str ⟨#[]⟩] [(0,2,(.l 1))],none⟩,Qf (.append false 2 32 (.l 0) (.l 2)),Qa 4,Qa 5,Qf (.buildSlice 1 1 [.int .i64 (0)] [(0,1,(.l 5))]),Qf (.append false 1 8 (.l 4) (.l 6)),Qb 3,Qb 7] [(3,8),(4,9)])))))))
def Zd7:Zg :=
 (Ql [Qf (.mv (.c (.slice none 0 0 none))),Qf (.mv (.c (.slice none 0 0 none)))] [(1,0),(2,1)]
 (Ql [Qf (.buildSlice 2 0 [] []),Qf (.buildSlice 1 0 [] []),Qb 0,Qb 1,Qe 0] [(3,2),(4,3),(5,4)]
 (.seq (.block 0 (.loop Xh))
 (Ql [Qa 3,Qa 4,Qb 0,Qb 1] [(1,2),(2,3)]
 .ret))))
def YE:ZK:=⟨[0,2,3,4,5,6,7,9,10,11,16,37],53,Zd7,[.tmp 1,.tmp 2],2⟩
def Qk:Zg :=
 (Ql [Qc] [(2,0)]
 (Ql [Qa 0,Qa 1,Qs Xk [.l 0,.l 1],Qf (.bin 0 .geq (.l 2) (Qh 0)),Qb 3] [(2,4)]
 .ret))
def Yg:ZK:=⟨[0,1,4],9,Qk,[.tmp 2],1⟩
def Zhp:Zg :=
 (Ql [Qf (.box (.t 0)),Qf (.box (.t 1)),Qf (.alloc [.slice none 0 0 none,.int .i64 (0),.int .i64 (0),.slice none 0 0 none,.int .i64 (0),.int .i64 (0)]),Qc] [(2,0),(3,1),(4,2),(5,3)]
 (.seq (Ql [Qr 6 2,Qr 4 3,Qs Zio [.l 0,.l 1],Qf (.un .not (.l 2))] [(7,3)]
 (.cond (.t 7) (Ql [Qf (.build [.slice none 0 0 none,.int .i64 (0),.int .i64 (0),.slice none 0 0 none,.int .i64 (0),.int .i64 (0)] []),Qf (.store 6 (.t 4) (.l 0)),Qc] [(5,2)]
 .ret) .skip))
 (Ql [Qr 6 2,Qr 4 3,Qs ZfR [.l 0,.l 1],Qf (.alloc [.slice none 0 0 none,.int .i64 (0),.int .i64 (0),.slice none 0 0 none,.int .i64 (0),.int .i64 (0)]),Qq 6 3 2] [(6,3)]
 (Ql [Qo 5 2,Qn 1 0,Qf (.bin 0 .add (.l 1) (Qh 1)),Qo 5 6,Qq 1 3 2] []
 (.seq (Ql [Qr 6 6,Qs Xb [.l 0],Qf (.un .not (.l 1))] [(8,2)]
 (.cond (.t 8) (Ql [Qf (.build [.slice none 0 0 none,.int .i64 (0),.int .i64 (0),.slice none 0 0 none,.int .i64 (0),.int .i64 (0)] []),Qf (.store 6 (.t 4) (.l 0)),Qc] [(5,2)]
 .ret) .skip))
 (.seq (Ql [Qo 0 6,Qn 1 0,Qo 1 6,Qn 1 2,Qo 2 6,Qn 1 4,Qs Zbf [.l 1,.l 3,.l 5],Qf (.bin 0 .neq (.l 6) (Qh 0))] [(9,7)]
 (.cond (.t 9) (.region [Qo 4 2,Qn 1 0,Qf (.bin 0 .add (.l 1) (Qh 1)),Qo 4 6,Qq 1 3 2] []) .skip))
 (Ql [Qr 6 6,Qf (.store 6 (.t 4) (.l 0)),Qd] [(5,2)]
 .ret)))))))
def Zda:ZK:=⟨[0,1,2,3,4,5,6,10,21,30],36,Zhp,[.cell 4 true 6,.tmp 5],2⟩
def ZaH:Zg :=
 (Ql [⟨.alloc [.str ⟨#[]⟩,.str ⟨#[]⟩],none⟩,Qc] [(2,0),(3,1)]
 (Ql [Qa 1,Qs Ym [.l 0],⟨.bin 1 .add (.l 1) (.c (.str ⟨#[32]⟩)),none⟩,Qb 2] [(4,3)]
 (Ql [Qa 0,Qs XA [.l 0,(.c (.int .u8 (35)))],Qf (.indexAddrS 1 (.l 1) (Qh 0)),Qn 1 2,Qb 3] [(5,4)]
 (.seq (Ql [Qa 5,Qf (.lenStr (.l 0)),Qa 4,Qf (.lenStr (.l 2)),Qf (.bin 0 .lss (.l 1) (.l 3)),Qb 4,⟨.mv (.t 5),some ((.l 5),false)⟩,⟨.mv (.t 4),some ((.l 5),false)⟩,⟨.lenStr (.l 7),some ((.l 5),false)⟩,⟨.sliceStr (.l 6) none (some (.l 8)),some ((.l 5),false)⟩,⟨.mv (.t 4),some ((.l 5),false)⟩,⟨.bin 1 .neq (.l 9) (.l 10),some ((.l 5),false)⟩,Qf (.pick (.l 5) Qj (.l 11))] [(9,12)]
 (.cond (.t 9) (Ql [⟨.build [.str ⟨#[]⟩,.str ⟨#[]⟩] [],none⟩,Qf (.store 2 (.t 2) (.l 0)),Qc] [(3,2)]
 .ret) .skip))
 (Ql [Qa 5,Qa 4,Qf (.lenStr (.l 1)),Qf (.sliceStr (.l 0) (some (.l 2)) none),Qb 3] [(6,4)]
 (Ql [Qa 6,Qs XA [.l 0,(.c (.int .u8 (64)))],Qf (.indexAddrS 1 (.l 1) (Qh 0)),Qn 1 2,Qb 3] [(7,4)]
 (.seq (Ql [Qa 7,Qf (.lenStr (.l 0)),Qa 6,Qf (.lenStr (.l 2)),Qf (.bin 0 .eql (.l 1) (.l 3))] [(10,4)]
 (.cond (.t 10) (Ql [⟨.build [.str ⟨#[]⟩,.str ⟨#[]⟩] [],none⟩,Qf (.store 2 (.t 2) (.l 0)),Qc] [(3,2)]
 .ret) .skip))
 (Ql [Qa 7,Qa 6,Qa 7,Qf (.lenStr (.l 2)),Qf (.bin 0 .add (.l 3) (Qh 1)),Qf (.sliceStr (.l 1) (some (.l 4)) none),⟨.build [.str ⟨#[]⟩,.str ⟨#[]⟩] [(0,1,(.l 0)),(1,1,(.l 5))],none⟩,⟨.alloc [.str ⟨#[]⟩,.str ⟨#[]⟩],none⟩,Qq 2 7 6] [(8,7)]
 (Qm [Qg (.load true 2 (.t 8)),Qg (.load true 2 (.t 8)),⟨.call (.c (.fn KS [] [])) [(.l 1)],none,[(0,Qr 2 8)]⟩,Qg (.mv (.l 2)),⟨.mv (.t 1),some ((.l 3),true),[]⟩,⟨.load true 2 (.t 8),some ((.l 3),true),[]⟩,⟨.mv (.t 0),some ((.l 3),true),[]⟩,⟨.bin 1 .add (.l 6) (.c (.str ⟨#[10]⟩)),some ((.l 3),true),[]⟩,⟨.call (.c (.fn Zc0 [] [])) [(.l 4),(.l 5)],some ((.l 3),true),[(0,Qr 2 8)]⟩,⟨.bin 1 .eql (.l 8) (.l 7),some ((.l 3),true),[]⟩,Qg (.pick (.l 3) (.l 9) Qi),Qg (.store 2 (.t 2) (.l 0)),Qg (.mv (.l 10))] [(3,12)]
 .ret)))))))))
def JU:ZK:=⟨[0,1,4,5,6,7,8,9,10,30,44],64,ZaH,[.cell 2 true 2,.tmp 3],1⟩
def Xs:Zg :=
 (Ql [Qc] [(2,0)]
 (Ql [Qa 0,Qa 1,Qs Z4 [.l 0,.l 1],Qf (.bin 0 .geq (.l 2) (Qh 0)),Qb 3] [(2,4)]
 .ret))
def ZV:ZK:=⟨[0,1,4],9,Xs,[.tmp 2],1⟩
def ZoS:Zg :=
 (Ql [Qf (.box (.t 0)),Qc] [(1,0),(2,1)]
 (Ql [Qo 0 1,Qn 1 0,Qs Ji [.l 1],Qf (.un .not (.l 2)),Qb 3,⟨.fieldAddr 1 (.t 1),some ((.l 4),false)⟩,⟨.load false 1 (.l 5),some ((.l 4),false)⟩,⟨.call (.c (.fn Kz [] [])) [(.l 6)],some ((.l 4),false)⟩,⟨.un .not (.l 7),some ((.l 4),false)⟩,Qf (.pick (.l 4) Qj (.l 8)),Qb 9] [(2,10)]
 .ret))
def Zf9:ZK:=⟨[0,1,2],13,ZoS,[.tmp 2],1⟩
def ZmY:Zg :=
 (Ql [Qc] [(1,0)]
 (Ql [Qa 0,Qs YJ [.l 0,Qh 1,Qh 99],Qb 1] [(1,2)]
 .ret))
def Zd8:ZK:=⟨[0,2],5,ZmY,[.tmp 1],1⟩
def Zl3:Zg :=
 (Ql [Qe 0] [(2,0)]
 (.seq (Ql [Qa 0,Qf (.len (.l 0)),Qa 1,Qf (.len (.l 2)),Qf (.bin 0 .neq (.l 1) (.l 3))] [(3,4)]
 (.cond (.t 3) (Ql [Qa 0,Qf (.len (.l 0)),Qa 1,Qf (.len (.l 2)),Qf (.bin 0 .sub (.l 1) (.l 3)),Qb 4] [(2,5)]
 .ret) .skip))
 (Ql [Qa 0,Qa 1,Qs ZeD [.l 0,.l 1],Qb 2] [(2,3)]
 .ret)))
def Zbm:ZK:=⟨[0,1,4,9],18,Zl3,[.tmp 2],1⟩
def ZrC:Zg :=
 (Ql [Qf (.box (.t 0)),Qf (.alloc [.int .i64 (0),.int .i64 (0)])] [(1,0),(2,1)]
 (Ql [Qf (.alloc [.int .i64 (0),.int .i64 (0)])] [(3,0)]
 (Ql [Qo 0 1,Qn 1 0,Qo 0 3,Qq 1 2 1] []
 (Ql [Qo 1 1,Qn 1 0,Qo 1 3,Qq 1 2 1] []
 (Ql [Qr 2 3,Qf (.store 2 (.t 2) (.l 0))] []
 .ret)))))
def Ziy:ZK:=⟨[0,1,2,3],11,ZrC,[.cell 2 true 2],1⟩
def ZoT:Zg :=
 (Ql [Qf (.box (.t 0)),Qf (.alloc [.int .i64 (0),.int .i64 (0),.int .i64 (0)])] [(1,0),(2,1)]
 (Ql [Qf (.alloc [.int .i64 (0),.int .i64 (0),.int .i64 (0)])] [(3,0)]
 (Ql [Qo 0 1,Qn 1 0,Qo 0 3,Qq 1 2 1] []
 (Ql [Qo 1 1,Qn 1 0,Qo 1 3,Qq 1 2 1] []
 (Ql [Qo 2 1,Qn 1 0,Qo 2 3,Qq 1 2 1] []
 (Ql [Qr 3 3,Qf (.store 3 (.t 2) (.l 0))] []
 .ret))))))
def Zga:ZK:=⟨[0,1,2,3],14,ZoT,[.cell 2 true 3],1⟩
def ZrD:Zg :=
 (Ql [Qf (.box (.t 0)),Qf (.box (.t 1)),Qc] [(2,0),(3,1),(4,2)]
 (.seq (Ql [Qo 0 2,Qn 1 0,Qo 0 3,Qn 1 2,Qf (.bin 0 .neq (.l 1) (.l 3))] [(5,4)]
 (.cond (.t 5) (Ql [Qc] [(4,0)]
 .ret) .skip))
 (.seq (Ql [Qo 1 2,Qn 1 0,Qo 1 3,Qn 1 2,Qf (.bin 0 .neq (.l 1) (.l 3))] [(6,4)]
 (.cond (.t 6) (Ql [Qc] [(4,0)]
 .ret) .skip))
 (Ql [Qd] [(4,0)]
 .ret))))
def Ziz:ZK:=⟨[0,1,2,3,4,9,14],15,ZrD,[.tmp 4],1⟩
def ZoU:Zg :=
 (Ql [Qf (.box (.t 0)),Qf (.box (.t 1)),Qc] [(2,0),(3,1),(4,2)]
 (.seq (Ql [Qo 0 2,Qn 1 0,Qo 0 3,Qn 1 2,Qf (.bin 0 .neq (.l 1) (.l 3))] [(5,4)]
 (.cond (.t 5) (Ql [Qc] [(4,0)]
 .ret) .skip))
 (.seq (Ql [Qo 1 2,Qn 1 0,Qo 1 3,Qn 1 2,Qf (.bin 0 .neq (.l 1) (.l 3))] [(6,4)]
 (.cond (.t 6) (Ql [Qc] [(4,0)]
 .ret) .skip))
 (.seq (Ql [Qo 2 2,Qn 1 0,Qo 2 3,Qn 1 2,Qf (.bin 0 .neq (.l 1) (.l 3))] [(7,4)]
 (.cond (.t 7) (Ql [Qc] [(4,0)]
 .ret) .skip))
 (Ql [Qd] [(4,0)]
 .ret)))))
def Zgb:ZK:=⟨[0,1,2,3,4,9,14,19],20,ZoU,[.tmp 4],1⟩
def Q3:Zg :=
 (Ql [Qf (.box (.t 0)),Qc] [(1,0),(2,1)]
 (.seq (Ql [Qo 0 1,Qn 1 0] [(3,1)]
 (.block 0 (.seq (Ql [Qf (.bin 0 .eql (.t 3) (Qh 1)),Qb 0] [(4,1)]
 (.cond (.t 4) .skip (.region [Qf (.bin 0 .eql (.t 3) (Qh 3)),Qb 0] [(4,1)])))
 (.cond (.t 4) (Ql [Qo 1 1,Qn 1 0,Qs Jk [.l 1],Qb 2,⟨.fieldAddr 2 (.t 1),some ((.l 3),true)⟩,⟨.load false 1 (.l 4),some ((.l 3),true)⟩,⟨.call (.c (.fn Jk [] [])) [(.l 5)],some ((.l 3),true)⟩,Qf (.pick (.l 3) (.l 6) Qi),Qb 7] [(2,8)]
 .ret) (Ql [Qf (.bin 0 .eql (.t 3) (Qh 2)),Qb 0] [(5,1)]
 (.cond (.t 5) (Ql [Qo 1 1,Qn 1 0,Qs Jk [.l 1],Qb 2,⟨.fieldAddr 2 (.t 1),some ((.l 3),true)⟩,⟨.load false 1 (.l 4),some ((.l 3),true)⟩,⟨.bin 0 .eql (.l 5) (Qh 0),some ((.l 3),true)⟩,Qf (.pick (.l 3) (.l 6) Qi),Qb 7] [(2,8)]
 .ret) (Ql [Qf (.bin 0 .eql (.t 3) (Qh 4)),Qb 0] [(6,1)]
 (.cond (.t 6) (Ql [Qo 1 1,Qn 1 0,Qs Jk [.l 1],Qb 2,⟨.fieldAddr 2 (.t 1),some ((.l 3),true)⟩,⟨.load false 1 (.l 4),some ((.l 3),true)⟩,⟨.call (.c (.fn Jk [] [])) [(.l 5)],some ((.l 3),true)⟩,Qf (.pick (.l 3) (.l 6) Qi),Qb 7,⟨.fieldAddr 1 (.t 1),some ((.l 8),true)⟩,⟨.load false 1 (.l 9),some ((.l 8),true)⟩,⟨.fieldAddr 2 (.t 1),some ((.l 8),true)⟩,⟨.load false 1 (.l 11),some ((.l 8),true)⟩,⟨.bin 0 .geq (.l 10) (.l 12),some ((.l 8),true)⟩,Qf (.pick (.l 8) (.l 13) Qi),Qb 14] [(2,15)]
 .ret) (Ql [Qf (.bin 0 .eql (.t 3) (Qh 5)),Qb 0] [(7,1)]
 (.cond (.t 7) (Ql [Qo 1 1,Qn 1 0,Qs Jk [.l 1],Qb 2,⟨.fieldAddr 2 (.t 1),some ((.l 3),true)⟩,⟨.load false 1 (.l 4),some ((.l 3),true)⟩,⟨.call (.c (.fn Jk [] [])) [(.l 5)],some ((.l 3),true)⟩,Qf (.pick (.l 3) (.l 6) Qi),Qb 7,⟨.fieldAddr 1 (.t 1),some ((.l 8),true)⟩,⟨.load false 1 (.l 9),some ((.l 8),true)⟩,⟨.fieldAddr 2 (.t 1),some ((.l 8),true)⟩,⟨.load false 1 (.l 11),some ((.l 8),true)⟩,⟨.bin 0 .gtr (.l 10) (.l 12),some ((.l 8),true)⟩,Qf (.pick (.l 8) (.l 13) Qi),Qb 14] [(2,15)]
 .ret) .skip))))))))))
 (Ql [Qc] [(2,0)]
 .ret)))
def JV:ZK:=⟨[0,1,2,4,5,16,26,43],60,Q3,[.tmp 2],1⟩
def Jo:Zg :=
 (.seq (Ql [Qa 2,Qa 0,Qf (.len (.l 1)),Qf (.bin 0 .lss (.l 0) (.l 2)),Qb 3,⟨.mv (.t 2),some ((.l 4),true)⟩,⟨.bin 0 .leq (.l 5) (Qh 12),some ((.l 4),true)⟩,Qf (.pick (.l 4) (.l 6) Qi)] [(3,7)]
 (.cond (.t 3) .skip (.exit 0)))
 (.seq (.block 1 (Ql [Qa 0,Qa 2,Qf (.indexAddrS 2 (.l 0) (.l 1)),Qf (.fieldAddr 0 (.l 2)),Qn 1 3,Qs Zax [.l 4],Qf (.un .not (.l 5)),Qb 6,⟨.mv (.t 0),some ((.l 7),false)⟩,⟨.mv (.t 2),some ((.l 7),false)⟩,⟨.indexAddrS 2 (.l 8) (.l 9),some ((.l 7),false)⟩,⟨.fieldAddr 1 (.l 10),some ((.l 7),false)⟩,⟨.load false 1 (.l 11),some ((.l 7),false)⟩,⟨.call (.c (.fn YX [] [])) [(.l 12),(Qh 1),(Qh 99)],some ((.l 7),false)⟩,⟨.un .not (.l 13),some ((.l 7),false)⟩,Qf (.pick (.l 7) Qj (.l 14))] [(4,15)]
 (.cond (.t 4) (Ql [Qc] [(1,0)]
 .ret) .skip)))
 (.region [Qa 2,Qf (.bin 0 .add (.l 0) (Qh 1)),Qb 1] [(2,2)])))
def Zuz:Zg :=
 (Ql [Qc] [(1,0)]
 (.seq (Ql [Qe 0] [(2,0)]
 (.block 0 (.loop Jo)))
 (Ql [Qa 0,Qf (.len (.l 0)),Qf (.bin 0 .leq (.l 1) (Qh 12)),Qb 2] [(1,3)]
 .ret)))
def ZkF:ZK:=⟨[0,2,3,11,29],33,Zuz,[.tmp 1],1⟩
def ZrE:Zg :=
 (Ql [Qc] [(2,0)]
 (Ql [Qa 0,Qs Zax [.l 0],Qb 1,⟨.mv (.t 1),some ((.l 2),true)⟩,⟨.call (.c (.fn Zax [] [])) [(.l 3)],some ((.l 2),true)⟩,Qf (.pick (.l 2) (.l 4) Qi),Qb 5,⟨.mv (.t 0),some ((.l 6),true)⟩,⟨.mv (.t 1),some ((.l 6),true)⟩,⟨.bin 0 .leq (.l 7) (.l 8),some ((.l 6),true)⟩,Qf (.pick (.l 6) (.l 9) Qi),Qb 10] [(2,11)]
 .ret))
def ZiA:ZK:=⟨[0,1,4],16,ZrE,[.tmp 2],1⟩
def Q4:Zg :=
 (Ql [Qf (.box (.t 0)),Qc] [(1,0),(2,1)]
 (.seq (Ql [Qo 0 1,Qn 1 0] [(3,1)]
 (.block 0 (.seq (Ql [Qf (.bin 0 .eql (.t 3) (Qh 1)),Qb 0] [(4,1)]
 (.cond (.t 4) .skip (.region [Qf (.bin 0 .eql (.t 3) (Qh 3)),Qb 0] [(4,1)])))
 (.cond (.t 4) (Ql [Qo 1 1,Qn 1 0,Qo 2 1,Qn 1 2,Qs ZeV [.l 1,.l 3],Qb 4] [(2,5)]
 .ret) (Ql [Qf (.bin 0 .eql (.t 3) (Qh 2)),Qb 0] [(5,1)]
 (.cond (.t 5) (Ql [Qo 1 1,Qn 1 0,Qs YX [.l 1,Qh 1,Qh 24],Qb 2,⟨.fieldAddr 2 (.t 1),some ((.l 3),true)⟩,⟨.load false 1 (.l 4),some ((.l 3),true)⟩,⟨.bin 0 .eql (.l 5) (Qh 0),some ((.l 3),true)⟩,Qf (.pick (.l 3) (.l 6) Qi),Qb 7] [(2,8)]
 .ret) (Ql [Qf (.bin 0 .eql (.t 3) (Qh 4)),Qb 0] [(6,1)]
 (.cond (.t 6) (Ql [Qo 1 1,Qn 1 0,Qo 2 1,Qn 1 2,Qs ZeV [.l 1,.l 3],Qb 4,⟨.fieldAddr 1 (.t 1),some ((.l 5),true)⟩,⟨.load false 1 (.l 6),some ((.l 5),true)⟩,⟨.fieldAddr 2 (.t 1),some ((.l 5),true)⟩,⟨.load false 1 (.l 8),some ((.l 5),true)⟩,⟨.bin 0 .geq (.l 7) (.l 9),some ((.l 5),true)⟩,Qf (.pick (.l 5) (.l 10) Qi),Qb 11] [(2,12)]
 .ret) (Ql [Qf (.bin 0 .eql (.t 3) (Qh 5)),Qb 0] [(7,1)]
 (.cond (.t 7) (Ql [Qo 1 1,Qn 1 0,Qo 2 1,Qn 1 2,Qs ZeV [.l 1,.l 3],Qb 4,⟨.fieldAddr 1 (.t 1),some ((.l 5),true)⟩,⟨.load false 1 (.l 6),some ((.l 5),true)⟩,⟨.fieldAddr 2 (.t 1),some ((.l 5),true)⟩,⟨.load false 1 (.l 8),some ((.l 5),true)⟩,⟨.bin 0 .gtr (.l 7) (.l 9),some ((.l 5),true)⟩,Qf (.pick (.l 5) (.l 10) Qi),Qb 11] [(2,12)]
 .ret) .skip))))))))))
 (Ql [Qc] [(2,0)]
 .ret)))
def JW:ZK:=⟨[0,1,2,4,5,13,23,37],51,Q4,[.tmp 2],1⟩
def ZH:Zg :=
 (.seq (.region [⟨.box (.t 0),none⟩,⟨.box (.t 1),none⟩,⟨.alloc [.slice none 0 0 none,.int .i64 (0),.int .i64 (0),.slice none 0 0 none,.int .i64 (0),.int .i64 (0)],none⟩,⟨.mv (.c (.bool false)),none⟩] [(2,0),(3,1),(4,2),(5,3)])
 (.seq (.seq (.region [⟨.load true 6 (.t 2),none⟩,⟨.call (.c (.fn YQ [] [])) [(.l 0)],none⟩,⟨.un .not (.l 1),none⟩] [(10,2)])
 (.cond (.t 10) (.seq (.region [⟨.build [.slice none 0 0 none,.int .i64 (0),.int .i64 (0),.slice none 0 0 none,.int .i64 (0),.int .i64 (0)] [],none⟩,⟨.store 6 (.t 4) (.l 0),none⟩,⟨.mv (.c (.bool false)),none⟩] [(5,2)])
 .ret) .skip))
 (.seq (.region [⟨.load true 6 (.t 2),none⟩,⟨.call (.c (.fn KQ [] [])) [(.l 0)],none⟩,⟨.alloc [.slice none 0 0 none,.int .i64 (0),.int .i64 (0),.slice none 0 0 none,.int .i64 (0),.int .i64 (0)],none⟩,⟨.store 6 (.l 2) (.l 1),none⟩,⟨.mv (.c (.bool false)),none⟩] [(6,2),(7,4)])
 (.seq (.draw [⟨.fieldAddr 1 (.t 3),none,[]⟩,⟨.load false 1 (.l 0),none,[]⟩,⟨.fieldAddr 0 (.t 2),none,[]⟩,⟨.load false 1 (.l 2),none,[]⟩,⟨.len (.l 3),none,[]⟩,⟨.bin 0 .sub (.l 4) (.c (.int .i64 (1))),none,[]⟩,⟨.fieldAddr 1 (.t 3),none,[]⟩,⟨.load false 1 (.l 6),none,[]⟩,⟨.fieldAddr 3 (.t 2),none,[]⟩,⟨.load false 1 (.l 8),none,[]⟩,⟨.len (.l 9),none,[]⟩,⟨.bin 0 .sub (.l 10) (.c (.int .i64 (1))),none,[]⟩,⟨.call (.c (.fn YJ [] [])) [(.l 1),(.c (.int .i64 (0))),(.l 5)],none,[(7,⟨.load false 1 (.l 6),none⟩),(9,⟨.load false 1 (.l 8),none⟩)]⟩,⟨.call (.c (.fn YJ [] [])) [(.l 7),(.c (.int .i64 (0))),(.l 11)],none,[]⟩,⟨.mv (.l 12),none,[]⟩,⟨.mv (.l 13),none,[]⟩] [(8,14),(9,15)])
 (.seq (.seq (.region [⟨.fieldAddr 0 (.t 3),none⟩,⟨.load false 1 (.l 0),none⟩] [(11,1)])
 (.block 0 (.seq (.region [⟨.bin 0 .eql (.t 11) (.c (.int .i64 (1))),none⟩,⟨.mv (.l 0),none⟩] [(12,1)])
 (.cond (.t 12) (.draw [⟨.fieldAddr 0 (.t 6),none,[]⟩,⟨.load false 1 (.l 0),none,[]⟩,⟨.fieldAddr 1 (.t 3),none,[]⟩,⟨.load false 1 (.l 2),none,[]⟩,⟨.fieldAddr 2 (.t 3),none,[]⟩,⟨.load false 1 (.l 4),none,[]⟩,⟨.build [.int .i64 (0),.int .i64 (0)] [(0,1,(.l 3)),(1,1,(.l 5))],none,[]⟩,⟨.fieldAddr 3 (.t 3),none,[]⟩,⟨.load false 1 (.l 7),none,[]⟩,⟨.bin 0 .eql (.l 8) (.c (.int .i64 (0))),none,[]⟩,⟨.buildSlice 2 1 [.int .i64 (0),.int .i64 (0)] [(0,2,(.l 6))],none,[(1,⟨.load false 1 (.l 0),none⟩),(8,⟨.load false 1 (.l 7),none⟩)]⟩,⟨.append false 2 16 (.l 1) (.l 10),none,[(8,⟨.load false 1 (.l 7),none⟩)]⟩,⟨.fieldAddr 0 (.t 6),none,[]⟩,⟨.store 1 (.l 12) (.l 11),none,[(8,⟨.load false 1 (.l 7),none⟩)]⟩,⟨.mv (.l 9),none,[]⟩] [(7,14)]) (.seq (.region [⟨.bin 0 .eql (.t 11) (.c (.int .i64 (2))),none⟩,⟨.mv (.l 0),none⟩] [(13,1)])
 (.cond (.t 13) (.seq (.region [⟨.mv (.t 8),none⟩] [(14,0)])
 (.cond (.t 14) (.draw [⟨.fieldAddr 0 (.t 6),none,[]⟩,⟨.load false 1 (.l 0),none,[]⟩,⟨.fieldAddr 1 (.t 3),none,[]⟩,⟨.load false 1 (.l 2),none,[]⟩,⟨.fieldAddr 1 (.t 3),none,[]⟩,⟨.load false 1 (.l 4),none,[]⟩,⟨.bin 0 .add (.l 5) (.c (.int .i64 (1))),none,[]⟩,⟨.fieldAddr 2 (.t 3),none,[]⟩,⟨.load false 1 (.l 7),none,[]⟩,⟨.bin 0 .eql (.l 8) (.c (.int .i64 (0))),none,[]⟩,⟨.call (.c (.fn ZO [] [])) [(.l 1),(.l 3),(.l 6)],none,[(8,⟨.load false 1 (.l 7),none⟩)]⟩,⟨.mv (.l 9),none,[]⟩,⟨.fieldAddr 3 (.t 3),some ((.l 11),true),[]⟩,⟨.load false 1 (.l 12),some ((.l 11),true),[]⟩,⟨.bin 0 .eql (.l 13) (.c (.int .i64 (0))),some ((.l 11),true),[]⟩,⟨.pick (.l 11) (.l 14) (.c (.bool false)),none,[]⟩,⟨.fieldAddr 0 (.t 6),none,[]⟩,⟨.store 1 (.l 16) (.l 10),none,[(13,⟨.load false 1 (.l 12),some ((.l 11),true)⟩)]⟩,⟨.mv (.l 15),none,[]⟩] [(7,18)]) .skip)) (.seq (.region [⟨.bin 0 .eql (.t 11) (.c (.int .i64 (3))),none⟩,⟨.mv (.l 0),none⟩] [(15,1)])
 (.cond (.t 15) (.seq (.region [⟨.mv (.t 8),none⟩] [(16,0)])
 (.cond (.t 16) (.draw [⟨.fieldAddr 0 (.t 6),none,[]⟩,⟨.load false 1 (.l 0),none,[]⟩,⟨.fieldAddr 1 (.t 3),none,[]⟩,⟨.load false 1 (.l 2),none,[]⟩,⟨.fieldAddr 2 (.t 3),none,[]⟩,⟨.load false 1 (.l 4),none,[]⟩,⟨.fieldAddr 3 (.t 3),none,[]⟩,⟨.load false 1 (.l 6),none,[]⟩,⟨.bin 0 .eql (.l 7) (.c (.int .i64 (0))),none,[]⟩,⟨.indexAddrS 2 (.l 1) (.l 3),none,[]⟩,⟨.fieldAddr 0 (.l 9),none,[]⟩,⟨.store 1 (.l 10) (.l 5),none,[(7,⟨.load false 1 (.l 6),none⟩)]⟩,⟨.mv (.l 8),none,[]⟩] [(7,12)]) .skip)) (.seq (.region [⟨.bin 0 .eql (.t 11) (.c (.int .i64 (4))),none⟩,⟨.mv (.l 0),none⟩] [(17,1)])
 (.cond (.t 17) (.draw [⟨.fieldAddr 1 (.t 3),none,[]⟩,⟨.load false 1 (.l 0),none,[]⟩,⟨.fieldAddr 2 (.t 3),none,[]⟩,⟨.load false 1 (.l 2),none,[]⟩,⟨.fieldAddr 3 (.t 3),none,[]⟩,⟨.load false 1 (.l 4),none,[]⟩,⟨.bin 0 .eql (.l 5) (.c (.int .i64 (0))),none,[]⟩,⟨.fieldAddr 1 (.t 6),none,[]⟩,⟨.store 1 (.l 7) (.l 1),none,[(3,⟨.load false 1 (.l 2),none⟩),(5,⟨.load false 1 (.l 4),none⟩)]⟩,⟨.fieldAddr 2 (.t 6),none,[]⟩,⟨.store 1 (.l 9) (.l 3),none,[(5,⟨.load false 1 (.l 4),none⟩)]⟩,⟨.mv (.l 6),none,[]⟩] [(7,11)]) (.seq (.region [⟨.bin 0 .eql (.t 11) (.c (.int .i64 (5))),none⟩,⟨.mv (.l 0),none⟩] [(18,1)])
 (.cond (.t 18) (.region [⟨.fieldAddr 3 (.t 6),none⟩,⟨.load false 1 (.l 0),none⟩,⟨.fieldAddr 1 (.t 3),none⟩,⟨.load false 1 (.l 2),none⟩,⟨.fieldAddr 2 (.t 3),none⟩,⟨.load false 1 (.l 4),none⟩,⟨.fieldAddr 3 (.t 3),none⟩,⟨.load false 1 (.l 6),none⟩,⟨.build [.int .i64 (0),.int .i64 (0),.int .i64 (0)] [(0,1,(.l 3)),(1,1,(.l 5)),(2,1,(.l 7))],none⟩,⟨.buildSlice 3 1 [.int .i64 (0),.int .i64 (0),.int .i64 (0)] [(0,3,(.l 8))],none⟩,⟨.append false 3 24 (.l 1) (.l 9),none⟩,⟨.fieldAddr 3 (.t 6),none⟩,⟨.store 1 (.l 11) (.l 10),none⟩,⟨.mv (.c (.bool true)),none⟩] [(7,13)]) (.seq (.region [⟨.bin 0 .eql (.t 11) (.c (.int .i64 (6))),none⟩,⟨.mv (.l 0),none⟩] [(19,1)])
 (.cond (.t 19) (.seq (.region [⟨.mv (.t 9),none⟩] [(20,0)])
 (.cond (.t 20) (.draw [⟨.fieldAddr 3 (.t 6),none,[]⟩,⟨.load false 1 (.l 0),none,[]⟩,⟨.fieldAddr 1 (.t 3),none,[]⟩,⟨.load false 1 (.l 2),none,[]⟩,⟨.fieldAddr 1 (.t 3),none,[]⟩,⟨.load false 1 (.l 4),none,[]⟩,⟨.bin 0 .add (.l 5) (.c (.int .i64 (1))),none,[]⟩,⟨.fieldAddr 2 (.t 3),none,[]⟩,⟨.load false 1 (.l 7),none,[]⟩,⟨.bin 0 .eql (.l 8) (.c (.int .i64 (0))),none,[]⟩,⟨.call (.c (.fn ZM [] [])) [(.l 1),(.l 3),(.l 6)],none,[(8,⟨.load false 1 (.l 7),none⟩)]⟩,⟨.mv (.l 9),none,[]⟩,⟨.fieldAddr 3 (.t 3),some ((.l 11),true),[]⟩,⟨.load false 1 (.l 12),some ((.l 11),true),[]⟩,⟨.bin 0 .eql (.l 13) (.c (.int .i64 (0))),some ((.l 11),true),[]⟩,⟨.pick (.l 11) (.l 14) (.c (.bool false)),none,[]⟩,⟨.fieldAddr 3 (.t 6),none,[]⟩,⟨.store 1 (.l 16) (.l 10),none,[(13,⟨.load false 1 (.l 12),some ((.l 11),true)⟩)]⟩,⟨.mv (.l 15),none,[]⟩] [(7,18)]) .skip)) .skip))))))))))))))
 (.seq (.region [⟨.fieldAddr 5 (.t 6),none⟩,⟨.load false 1 (.l 0),none⟩,⟨.bin 0 .add (.l 1) (.c (.int .i64 (1))),none⟩,⟨.fieldAddr 5 (.t 6),none⟩,⟨.store 1 (.l 3) (.l 2),none⟩] [])
 (.seq (.seq (.region [⟨.mv (.t 7),none⟩,⟨.un .not (.l 0),none⟩,⟨.mv (.l 1),none⟩,⟨.load true 6 (.t 6),some ((.l 2),false)⟩,⟨.call (.c (.fn YQ [] [])) [(.l 3)],some ((.l 2),false)⟩,⟨.un .not (.l 4),some ((.l 2),false)⟩,⟨.pick (.l 2) (.c (.bool true)) (.l 5),none⟩] [(21,6)])
 (.cond (.t 21) (.seq (.region [⟨.build [.slice none 0 0 none,.int .i64 (0),.int .i64 (0),.slice none 0 0 none,.int .i64 (0),.int .i64 (0)] [],none⟩,⟨.store 6 (.t 4) (.l 0),none⟩,⟨.mv (.c (.bool false)),none⟩] [(5,2)])
 .ret) .skip))
 (.seq (.seq (.region [⟨.fieldAddr 0 (.t 6),none⟩,⟨.load false 1 (.l 0),none⟩,⟨.fieldAddr 1 (.t 6),none⟩,⟨.load false 1 (.l 2),none⟩,⟨.fieldAddr 2 (.t 6),none⟩,⟨.load false 1 (.l 4),none⟩,⟨.call (.c (.fn Zbg [] [])) [(.l 1),(.l 3),(.l 5)],none⟩,⟨.bin 0 .neq (.l 6) (.c (.int .i64 (0))),none⟩] [(22,7)])
 (.cond (.t 22) (.region [⟨.fieldAddr 4 (.t 6),none⟩,⟨.load false 1 (.l 0),none⟩,⟨.bin 0 .add (.l 1) (.c (.int .i64 (1))),none⟩,⟨.fieldAddr 4 (.t 6),none⟩,⟨.store 1 (.l 3) (.l 2),none⟩] []) .skip))
 (.seq (.region [⟨.load true 6 (.t 6),none⟩,⟨.store 6 (.t 4) (.l 0),none⟩,⟨.mv (.c (.bool true)),none⟩] [(5,2)])
 .ret)))))))))
def Jy:ZK:=⟨[0,1,2,3,4,5,6,7,8,9,12,31,32,47,49,67,69,81,92,106,108,136,145],151,ZH,[.cell 4 true 6,.tmp 5],2⟩
def ZgW:Zg :=
 (Ql [Qf (.box (.t 0)),⟨.mv (.c (.str ⟨#[]⟩)),none⟩,Qc] [(2,0),(3,1),(4,2)]
 (Ql [Qf (.sliceArr 2 1 (.t 2) none none none),⟨.call (.c (.fn Yl [] [])) [(.l 0),(.c (.str ⟨#[47]⟩))],none⟩,Qa 1,Qb 1,Qb 2] [(3,3),(4,4)]
 .ret))
def QV:ZK:=⟨[0,1,2,4,5],9,ZgW,[.tmp 3,.tmp 4],1⟩
def ZkG:Zg :=
 (Ql [Qf (.alloc [.int .i64 (0),.int .i64 (0)]),Qc] [(1,0),(2,1)]
 (.seq (Ql [Qa 0,Qs YR [.l 0],Qf (.un .not (.l 1))] [(3,2)]
 (.cond (.t 3) (Ql [Qf (.build [.int .i64 (0),.int .i64 (0)] []),Qf (.store 2 (.t 1) (.l 0)),Qc] [(2,2)]
 .ret) .skip))
 (Ql [Qa 0,Qs XZ [.l 0],Qf (.store 2 (.t 1) (.l 1)),Qd] [(2,3)]
 .ret)))
def ZcB:ZK:=⟨[0,2,3,6],10,ZkG,[.cell 1 true 2,.tmp 2],1⟩
def ZoV:Zg :=
 (Ql [Qe 0,Qc] [(3,0),(4,1)]
 (.seq (Ql [Qa 0,Qs Jv [.l 0],Qf (.un .not (.l 1)),Qb 2,⟨.mv (.t 1),some ((.l 3),false)⟩,⟨.mv (.t 2),some ((.l 3),false)⟩,⟨.call (.c (.fn ZeS [] [])) [(.l 4),(.l 5)],some ((.l 3),false)⟩,⟨.un .not (.l 6),some ((.l 3),false)⟩,Qf (.pick (.l 3) Qj (.l 7))] [(5,8)]
 (.cond (.t 5) (Ql [Qe 0,Qc] [(3,0),(4,1)]
 .ret) .skip))
 (Ql [Qa 0,Qa 1,Qa 2,Qs Zbg [.l 0,.l 1,.l 2],Qb 3,Qd] [(3,4),(4,5)]
 .ret)))
def Zgc:ZK:=⟨[0,1,2,6,7,16],21,ZoV,[.tmp 3,.tmp 4],1⟩
def YS:Zg :=
 (Ql [Qf (.bin 0 .lss (.t 6) (.t 5))] [(7,0)]
 (.seq (.cond (.t 7) .skip (.exit 0))
 (.seq (.block 1 (Ql [Qa 6,Qf (.indexAddrS 1 (.t 4) (.t 6)),Qn 1 1,Qb 0,Qb 2] [(2,3),(3,4)]
 (Ql [Qa 3,Qs Kz [.l 0],Qf (.un .not (.l 1)),Qb 2,⟨.mv (.t 2),some ((.l 3),false)⟩,⟨.bin 0 .gtr (.l 4) (Qh 0),some ((.l 3),false)⟩,⟨.mv (.l 5),some ((.l 3),false)⟩,⟨.mv (.t 3),some ((.l 6),true)⟩,⟨.mv (.t 0),some ((.l 6),true)⟩,⟨.mv (.t 2),some ((.l 6),true)⟩,⟨.bin 0 .sub (.l 9) (Qh 1),some ((.l 6),true)⟩,⟨.indexAddrS 1 (.l 8) (.l 10),some ((.l 6),true)⟩,⟨.load false 1 (.l 11),some ((.l 6),true)⟩,⟨.bin 0 .lss (.l 7) (.l 12),some ((.l 6),true)⟩,⟨.pick (.l 6) (.l 13) Qi,some ((.l 3),false)⟩,Qf (.pick (.l 3) Qj (.l 14))] [(8,15)]
 (.cond (.t 8) (Ql [Qc] [(1,0)]
 .ret) .skip))))
 (.region [Qf (.bin 0 .add (.t 6) (Qh 1)),Qb 0] [(6,1)]))))
def ZoW:Zg :=
 (Ql [Qc] [(1,0)]
 (.seq (Ql [Qa 0,Qf (.len (.l 0)),Qe 0] [(4,0),(5,1),(6,2)]
 (.block 0 (.loop YS)))
 (Ql [Qa 0,Qf (.len (.l 0)),Qs YJ [.l 1,Qh 1,Qh 6],Qb 2] [(1,3)]
 .ret)))
def Jz:ZK:=⟨[0,2,3,4,5,6,7,8,27],32,ZoW,[.tmp 1],1⟩
def ZoX:Zg :=
 (Ql [Qf (.mv (.c (.slice none 0 0 none)))] [(2,0)]
 (Ql [Qf (.buildSlice 1 0 [] []),Qf (.alloc [.slice none 0 0 none]),Qq 1 1 0] [(3,1)]
 (Ql [Qa 0,Qa 1,Qf (.makeFunc Zay [] [(.t 3)]),Qs KU [.l 0,.l 1,.l 2]] []
 (Ql [Qf (.load false 1 (.t 3)),Qs XH [.l 0]] []
 (Ql [Qf (.load false 1 (.t 3)),Qs YY [.l 0],Qb 1] [(2,2)]
 .ret)))))
def Zdb:ZK:=⟨[0,1,4,5],15,ZoX,[.tmp 2],2⟩
def Zgd:Zg :=
 (Ql [Qf (.box (.t 0)),Qf (.box (.t 1)),Qf (.box (.t 2))] [(3,0),(4,1),(5,2)]
 (Ql [Qf (.load false 1 (.t 3)),Qf (.len (.l 0)),Qf (.makeSlice 1 8 [.int .i64 (0)] (.l 1) (.l 1)),Qf (.alloc [.slice none 0 0 none]),Qq 1 3 2] [(6,3)]
 (Ql [Qf (.alloc [.nilfn])] [(7,0)]
 (Ql [Qf (.makeFunc YB [] [(.t 3),(.t 5),(.t 6),(.t 4),(.t 7)]),Qf (.store 1 (.t 7) (.l 0))] []
 (.region [Qf (.load false 1 (.t 7)),Qf (.call (.l 0) [(Qh 0),(Qh 0)])] [])))))
def JX:ZK:=⟨[0,1,2,3,4,5,6,7],14,Zgd,[],0⟩
def J7:Zg :=
 (Qm [Qg (.mv (.t 1)),Qg (.load false 1 (.t 2)),Qg (.bin 0 .eql (.l 0) (.l 1)),Qg (.mv (.l 2)),⟨.load false 1 (.t 3),some ((.l 3),true),[]⟩,⟨.len (.l 4),some ((.l 3),true),[]⟩,⟨.bin 0 .eql (.l 5) (Qh 0),some ((.l 3),true),[]⟩,⟨.mv (.l 6),some ((.l 3),true),[]⟩,⟨.mv (.t 0),some ((.l 7),false),[]⟩,⟨.load false 1 (.t 3),some ((.l 7),false),[]⟩,⟨.call (.c (.fn Zbd [] [])) [(.l 8)],some ((.l 7),false),[(9,⟨.load false 1 (.t 3),some ((.l 7),false)⟩)]⟩,⟨.call (.c (.fn Zbd [] [])) [(.l 9)],some ((.l 7),false),[]⟩,⟨.bin 0 .lss (.l 10) (.l 11),some ((.l 7),false),[]⟩,⟨.pick (.l 7) Qj (.l 12),some ((.l 3),true),[]⟩,Qg (.pick (.l 3) (.l 13) Qi)] [(4,14)]
 (.cond (.t 4) (.region [Qa 0,Qs YA [.l 0],Qf (.store 1 (.t 3) (.l 1))] []) .skip))
def Xe:ZK:=⟨[0,1,2,3,20],23,J7,[],0⟩
def Zd9:Zg :=
 (Ql [Qf (.bin 0 .lss (.t 6) (.t 5))] [(7,0)]
 (.seq (.cond (.t 7) .skip (.exit 0))
 (.seq (.block 1 (Ql [Qf (.indexAddrS 1 (.t 4) (.t 6)),Qn 1 0,Qb 1] [(3,2)]
 (Ql [Qa 3,Qf (.bin 0 .neq (.l 0) (Qh 0))] [(8,1)]
 (.cond (.t 8) (.region [Qa 2,Qf (.bin 0 .add (.l 0) (Qh 1)),Qb 1] [(2,2)]) .skip))))
 (.region [Qf (.bin 0 .add (.t 6) (Qh 1)),Qb 0] [(6,1)]))))
def ZrF:Zg :=
 (Ql [Qe 0] [(1,0)]
 (Ql [Qe 0] [(2,0)]
 (.seq (Ql [Qa 0,Qf (.len (.l 0)),Qe 0] [(4,0),(5,1),(6,2)]
 (.block 0 (.loop Zd9)))
 (Ql [Qa 2,Qb 0] [(1,1)]
 .ret))))
def Ze2:ZK:=⟨[0,2,3,5,6,7,8,9,13],18,ZrF,[.tmp 1],1⟩
def ZaI:Zg :=
 (Ql [Qf (.mv (.c (.slice none 0 0 none)))] [(1,0)]
 (.seq (Ql [Qa 0,Qf (.bin 3 .eql (.l 0) (.c (.slice none 0 0 none)))] [(2,1)]
 (.cond (.t 2) (Ql [Qf (.mv (.c (.slice none 0 0 none)))] [(1,0)]
 .ret) .skip))
 (Ql [Qf (.buildSlice 1 0 [] []),Qa 0,Qf (.append false 1 8 (.l 0) (.l 1)),Qb 2] [(1,3)]
 .ret)))
def Xl:ZK:=⟨[0,2,4],8,ZaI,[.tmp 1],2⟩
def ZmZ:Zg :=
 (Ql [Qe 0,Qc] [(1,0),(2,1)]
 (.seq (Ql [Qa 0,Qs Jv [.l 0],Qf (.un .not (.l 1))] [(3,2)]
 (.cond (.t 3) (Ql [Qe 0,Qc] [(1,0),(2,1)]
 .ret) .skip))
 (Ql [Qa 0,Qs Ky [.l 0],Qb 1,Qd] [(1,2),(2,3)]
 .ret)))
def Zea:ZK:=⟨[0,2,3,6],9,ZmZ,[.tmp 1,.tmp 2],1⟩
def Zhq:Zg :=
 (Ql [Qf (.alloc [.int .i64 (0),.int .i64 (0)]),Qc] [(1,0),(2,1)]
 (.seq (Ql [Qa 0,Qs Jv [.l 0],Qf (.un .not (.l 1)),Qb 2,⟨.mv (.t 0),some ((.l 3),false)⟩,⟨.len (.l 4),some ((.l 3),false)⟩,⟨.bin 0 .eql (.l 5) (Qh 0),some ((.l 3),false)⟩,Qf (.pick (.l 3) Qj (.l 6))] [(3,7)]
 (.cond (.t 3) (Ql [Qf (.build [.int .i64 (0),.int .i64 (0)] []),Qf (.store 2 (.t 1) (.l 0)),Qc] [(2,2)]
 .ret) .skip))
 (Ql [Qa 0,Qs Y3 [.l 0,Qh 0],Qa 0,Qs Ky [.l 2],Qs Xo [.l 1,.l 3],Qf (.store 2 (.t 1) (.l 4)),Qd] [(2,6)]
 .ret)))
def ZbX:ZK:=⟨[0,2,3,11],18,Zhq,[.cell 1 true 2,.tmp 2],1⟩
def ZjH:Zg :=
 (Ql [Qf (.box (.t 0)),Qe 0,Qc] [(1,0),(2,1),(3,2)]
 (.seq (Ql [Qr 6 1,Qs YQ [.l 0],Qf (.un .not (.l 1))] [(4,2)]
 (.cond (.t 4) (Ql [Qe 0,Qc] [(2,0),(3,1)]
 .ret) .skip))
 (Qm [Qg (.fieldAddr 3 (.t 1)),Qg (.load false 1 (.l 0)),Qg (.fieldAddr 0 (.t 1)),Qg (.load false 1 (.l 2)),⟨.call (.c (.fn Ky [] [])) [(.l 3)],none,[(1,Qn 1 0)]⟩,Qt Zct [.l 1,.l 4],Qg (.extract 0 (.l 5)),Qg (.extract 1 (.l 5)),Qg (.mv (.l 6)),Qg (.mv (.l 7))] [(2,8),(3,9)]
 .ret)))
def Zdc:ZK:=⟨[0,1,2,3,6],15,ZjH,[.tmp 2,.tmp 3],1⟩
def Zhr:Zg :=
 (Ql [Qe 0,Qc] [(2,0),(3,1)]
 (Ql [Qa 0,Qa 1,Qs Zc4 [.l 0,.l 1],Qb 2,Qp 0 3,Qp 1 3,Qf (.alloc [.int .i64 (0),.int .i64 (0)]),Qq 2 6 4,Qb 5] [(4,6),(5,8)]
 (.seq (Ql [Qa 5,Qf (.un .not (.l 0))] [(6,1)]
 (.cond (.t 6) (Ql [Qe 0,Qc] [(2,0),(3,1)]
 .ret) .skip))
 (Ql [Qf (.indexAddrA 2 1 (.t 4) (Qh 0)),Qn 1 0,Qf (.indexAddrA 2 1 (.t 4) (Qh 1)),Qn 1 2,Qf (.bin 0 .quo (.l 1) (.l 3)),Qb 4,Qd] [(2,5),(3,6)]
 .ret))))
def ZbY:ZK:=⟨[0,1,4,5,6,7,15],21,Zhr,[.tmp 2,.tmp 3],1⟩
def Zdd:Zg :=
 (Ql [Qf (.bin 0 .lss (.t 11) (.t 10))] [(12,0)]
 (.seq (.cond (.t 12) .skip (.exit 0))
 (.seq (.block 1 (Ql [Qf (.indexAddrS 3 (.t 9) (.t 11)),Qf (.load true 3 (.l 0)),Qf (.alloc [.int .i64 (0),.int .i64 (0),.int .i64 (0)]),Qq 3 2 1] [(6,2)]
 (Ql [Qr 3 6,Qs Zaz [.l 0],Qf (.alloc [.int .i64 (0),.int .i64 (0)]),Qq 2 2 1] [(7,2)]
 (Ql [Qf (.indexAddrA 2 1 (.t 4) (Qh 0)),Qn 1 0,Qf (.indexAddrA 2 1 (.t 7) (Qh 1)),Qn 1 2,Qf (.bin 0 .mul (.l 1) (.l 3)),Qf (.indexAddrA 2 1 (.t 4) (Qh 1)),Qn 1 5,Qf (.indexAddrA 2 1 (.t 7) (Qh 0)),Qn 1 7,Qf (.bin 0 .mul (.l 6) (.l 8)),Qs Xo [.l 4,.l 9],Qf (.store 2 (.t 4) (.l 10))] []
 (.region [Qa 5,Qr 2 4,Qf (.buildSlice 2 1 [.int .i64 (0),.int .i64 (0)] [(0,2,(.l 1))]),Qf (.append false 2 16 (.l 0) (.l 2)),Qb 3] [(5,4)])))))
 (.region [Qf (.bin 0 .add (.t 11) (Qh 1)),Qb 0] [(11,1)]))))
def Zge:Zg :=
 (Ql [Qf (.mv (.c (.slice none 0 0 none))),Qc] [(2,0),(3,1)]
 (.seq (Ql [Qa 0,Qs YR [.l 0],Qf (.un .not (.l 1)),Qb 2,⟨.mv (.t 1),some ((.l 3),false)⟩,⟨.call (.c (.fn Zah [] [])) [(.l 4)],some ((.l 3),false)⟩,⟨.un .not (.l 5),some ((.l 3),false)⟩,Qf (.pick (.l 3) Qj (.l 6))] [(8,7)]
 (.cond (.t 8) (Ql [Qf (.mv (.c (.slice none 0 0 none))),Qc] [(2,0),(3,1)]
 .ret) .skip))
 (Ql [Qa 1,Qf (.build [.int .i64 (0),.int .i64 (0)] [(0,1,(.l 0)),(1,1,(Qh 1))]),Qf (.alloc [.int .i64 (0),.int .i64 (0)]),Qq 2 2 1] [(4,2)]
 (Ql [Qr 2 4,Qf (.buildSlice 2 1 [.int .i64 (0),.int .i64 (0)] [(0,2,(.l 0))]),Qb 1] [(5,2)]
 (.seq (Ql [Qa 0,Qf (.len (.l 0)),Qe 0] [(9,0),(10,1),(11,2)]
 (.block 0 (.loop Zdd)))
 (Ql [Qa 5,Qb 0,Qd] [(2,1),(3,2)]
 .ret))))))
def K0:ZK:=⟨[0,1,4,5,6,7,9,10,18,23,24,25,26],48,Zge,[.tmp 2,.tmp 3],2⟩
def ZaJ:Zg :=
 (Ql [Qf (.bin 0 .lss (.t 13) (.t 12))] [(14,0)]
 (.seq (.cond (.t 14) .skip (.exit 0))
 (.seq (.block 1 (Ql [Qa 13,Qf (.indexAddrS 2 (.t 11) (.t 13)),Qf (.load true 2 (.l 1)),Qf (.alloc [.int .i64 (0),.int .i64 (0)]),Qb 0,Qq 2 3 2] [(7,4),(8,3)]
 (Qm [Qg (.fieldAddr 0 (.t 8)),Qg (.load false 1 (.l 0)),Qg (.mv (.t 5)),Qg (.fieldAddr 1 (.t 8)),Qg (.load false 1 (.l 3)),Qg (.bin 0 .quo (.l 2) (.l 4)),Qg (.bin 0 .sub (.l 1) (.l 5)),Qg (.mv (.l 6))] [(9,7)]
 (Ql [Qa 5,Qo 1 8,Qn 1 1,Qf (.bin 0 .rem (.l 0) (.l 2)),Qf (.bin 0 .eql (.l 3) (Qh 0)),Qb 4,⟨.mv (.t 9),some ((.l 5),true)⟩,⟨.call (.c (.fn Ji [] [])) [(.l 6)],some ((.l 5),true)⟩,Qf (.pick (.l 5) (.l 7) Qi)] [(15,8)]
 (.cond (.t 15) (Ql [Qa 7,Qa 9,Qb 0,Qb 1,Qd] [(2,2),(3,3),(4,4)]
 .ret) .skip)))))
 (.region [Qf (.bin 0 .add (.t 13) (Qh 1)),Qb 0] [(13,1)]))))
def ZjI:Zg :=
 (Ql [Qe 0,Qe 0,Qc] [(2,0),(3,1),(4,2)]
 (Ql [Qa 0,Qa 1,Qs ZaA [.l 0,.l 1],Qb 2,Qp 0 3,Qp 1 3,Qb 4,Qb 5] [(5,6),(6,7)]
 (.seq (Ql [Qa 6,Qf (.un .not (.l 0))] [(10,1)]
 (.cond (.t 10) (Ql [Qe 0,Qe 0,Qc] [(2,0),(3,1),(4,2)]
 .ret) .skip))
 (.seq (Ql [Qa 0,Qf (.len (.l 0)),Qe 0] [(11,0),(12,1),(13,2)]
 (.block 0 (.loop ZaJ)))
 (Ql [Qe 0,Qe 0,Qc] [(2,0),(3,1),(4,2)]
 .ret)))))
def Q5:ZK:=⟨[0,1,4,5,6,7,8,9,10,11,19,20,21,22,23,42],46,ZjI,[.tmp 2,.tmp 3,.tmp 4],1⟩
def KG:Zg :=
 (.seq (Ql [Qa 4,Qa 0,Qf (.bin 0 .lss (.l 0) (.l 1))] [(6,2)]
 (.cond (.t 6) .skip (.exit 0)))
 (.seq (.block 1 (.region [Qa 3,Qf (.bin 0 .add (.l 0) (Qh 1)),Qb 1] [(3,2)]))
 (.region [Qa 4,Qf (.bin 0 .mul (.l 0) (Qh 3)),Qb 1] [(4,2)])))
def Q6:Zg :=
 (Ql [Qe 0,Qc] [(1,0),(2,1)]
 (.seq (Ql [Qa 0,Qs ZdU [.l 0],Qf (.un .not (.l 1))] [(5,2)]
 (.cond (.t 5) (Ql [Qe 0,Qc] [(1,0),(2,1)]
 .ret) .skip))
 (Ql [Qe 0] [(3,0)]
 (.seq (Ql [Qe 1] [(4,0)]
 (.block 0 (.loop KG)))
 (Ql [Qa 3,Qb 0,Qd] [(1,1),(2,2)]
 .ret)))))
def YT:ZK:=⟨[0,2,3,4,5,8,11],17,Q6,[.tmp 1,.tmp 2],1⟩
def X7:Zg :=
 (Ql [⟨.mv (.c (.str ⟨#[]⟩)),none⟩,Qc] [(1,0),(2,1)]
 (Ql [Qa 0,Qs ZdV [.l 0],Qb 1,Qp 0 2,Qp 1 2,Qb 3,Qb 4] [(3,5),(4,6)]
 (Ql [Qa 0,⟨.bin 1 .add (.l 0) (.c (.str ⟨#[35]⟩)),none⟩,Qa 3,Qs Xn [.l 2],Qf (.bin 1 .add (.l 1) (.l 3)),Qb 4] [(5,5)]
 (.seq (Ql [Qa 4,Qf (.un .not (.l 0)),Qb 1,⟨.mv (.t 0),some ((.l 2),false)⟩,⟨.call (.c (.fn Yz [] [])) [(.l 3),(.c (.str ⟨#[35]⟩))],some ((.l 2),false)⟩,Qf (.pick (.l 2) Qj (.l 4)),Qb 5,⟨.mv (.t 5),some ((.l 6),false)⟩,⟨.lenStr (.l 7),some ((.l 6),false)⟩,⟨.bin 0 .gtr (.l 8) (Qh 4000),some ((.l 6),false)⟩,Qf (.pick (.l 6) Qj (.l 9))] [(6,10)]
 (.cond (.t 6) (Ql [⟨.mv (.c (.str ⟨#[]⟩)),none⟩,Qc] [(1,0),(2,1)]
 .ret) .skip))
 (Ql [Qa 5,Qb 0,Qd] [(1,1),(2,2)]
 .ret)))))
def YF:ZK:=⟨[0,2,3,4,5,6,27],29,X7,[.tmp 1,.tmp 2],1⟩
def ZoY:Zg :=
 (Ql [⟨.mv (.c (.str ⟨#[]⟩)),none⟩,Qc] [(1,0),(2,1)]
 (.seq (Ql [Qa 0,Qs Jw [.l 0],Qf (.un .not (.l 1))] [(3,2)]
 (.cond (.t 3) (Ql [⟨.mv (.c (.str ⟨#[]⟩)),none⟩,Qc] [(1,0),(2,1)]
 .ret) .skip))
 (Ql [Qa 0,Qs Zip [.l 0],Qb 1,Qd] [(1,2),(2,3)]
 .ret)))
def Zgf:ZK:=⟨[0,2,3,6],9,ZoY,[.tmp 1,.tmp 2],1⟩
def Ki:Zg :=
 (.seq (Ql [Qa 3,Qa 0,Qf (.len (.l 1)),Qf (.bin 0 .lss (.l 0) (.l 2))] [(4,3)]
 (.cond (.t 4) .skip (.exit 0)))
 (.seq (.block 1 (.region [Qa 2,Qa 0,Qa 3,Qf (.indexAddrS 2 (.l 1) (.l 2)),Qf (.fieldAddr 1 (.l 3)),Qn 1 4,Qf (.bin 0 .add (.l 0) (.l 5)),Qb 6] [(2,7)]))
 (.region [Qa 3,Qf (.bin 0 .add (.l 0) (Qh 1)),Qb 1] [(3,2)])))
def Zm0:Zg :=
 (Ql [Qe 0] [(1,0)]
 (Ql [Qe 0] [(2,0)]
 (.seq (Ql [Qe 0] [(3,0)]
 (.block 0 (.loop Ki)))
 (Ql [Qa 2,Qb 0] [(1,1)]
 .ret))))
def Zeb:ZK:=⟨[0,2,3,4,8],19,Zm0,[.tmp 1],1⟩
def ZjJ:Zg :=
 (Ql [Qf (.box (.t 0)),⟨.mv (.c (.str ⟨#[]⟩)),none⟩] [(2,0),(3,1)]
 (.seq (Ql [Qa 1,Qf (.un .not (.l 0))] [(4,1)]
 (.cond (.t 4) (Ql [⟨.mv (.c (.str ⟨#[63]⟩)),none⟩] [(3,0)]
 .ret) .skip))
 (Qm [Qg (.indexAddrA 2 1 (.t 2) (Qh 0)),Qg (.load false 1 (.l 0)),Qg (.indexAddrA 2 1 (.t 2) (Qh 1)),Qg (.load false 1 (.l 2)),⟨.call (.c (.fn Ym [] [])) [(.l 1)],none,[(3,Qn 1 2)]⟩,⟨.bin 1 .add (.l 4) (.c (.str ⟨#[47]⟩)),none,[]⟩,Qt Ym [.l 3],Qg (.bin 1 .add (.l 5) (.l 6)),Qg (.mv (.l 7))] [(3,8)]
 .ret)))
def Zde:ZK:=⟨[0,1,2,4,6],15,ZjJ,[.tmp 3],1⟩
def Zhs:Zg :=
 (Ql [Qf (.alloc [.int .i64 (0),.int .i64 (0)]),Qc] [(1,0),(2,1)]
 (.seq (Ql [Qa 0,Qs Jw [.l 0],Qf (.un .not (.l 1)),Qb 2,⟨.mv (.t 0),some ((.l 3),false)⟩,⟨.len (.l 4),some ((.l 3),false)⟩,⟨.bin 0 .eql (.l 5) (Qh 0),some ((.l 3),false)⟩,Qf (.pick (.l 3) Qj (.l 6))] [(3,7)]
 (.cond (.t 3) (Ql [Qf (.build [.int .i64 (0),.int .i64 (0)] []),Qf (.store 2 (.t 1) (.l 0)),Qc] [(2,2)]
 .ret) .skip))
 (Ql [Qa 0,Qs YL [.l 0,Qh 0],Qa 0,Qs JK [.l 2],Qs ZbT [.l 1,.l 3],Qf (.store 2 (.t 1) (.l 4)),Qd] [(2,6)]
 .ret)))
def ZbZ:ZK:=⟨[0,2,3,11],18,Zhs,[.cell 1 true 2,.tmp 2],1⟩
def ZrG:Zg :=
 (Ql [Qe 0] [(3,0)]
 (.seq (Ql [Qa 0,Qa 1,Qs YL [.l 0,.l 1],Qf (.bin 0 .lss (.l 2) (Qh 0))] [(4,3)]
 (.cond (.t 4) (Ql [Qe (-1)] [(3,0)]
 .ret) .skip))
 (.seq (Ql [Qa 0,Qa 2,Qs YL [.l 0,.l 1],Qf (.bin 0 .gtr (.l 2) (Qh 0))] [(5,3)]
 (.cond (.t 5) (Ql [Qe 1] [(3,0)]
 .ret) .skip))
 (Ql [Qe 0] [(3,0)]
 .ret))))
def ZiB:ZK:=⟨[0,1,2,6,10,14],15,ZrG,[.tmp 3],1⟩
def ZrH:Zg :=
 (Ql [⟨.mv (.c (.str ⟨#[]⟩)),none⟩] [(2,0)]
 (.seq (Ql [Qa 1,Qf (.un .not (.l 0))] [(3,1)]
 (.cond (.t 3) (Ql [⟨.mv (.c (.str ⟨#[63]⟩)),none⟩] [(2,0)]
 .ret) .skip))
 (Ql [Qa 0,Qs Ym [.l 0],Qb 1] [(2,2)]
 .ret)))
def ZiC:ZK:=⟨[0,1,4,6],9,ZrH,[.tmp 2],1⟩
def ZjK:Zg :=
 (Ql [Qf (.box (.t 0)),Qe 0,Qc] [(1,0),(2,1),(3,2)]
 (.seq (Ql [Qr 6 1,Qs Xb [.l 0],Qf (.un .not (.l 1))] [(4,2)]
 (.cond (.t 4) (Ql [Qe 0,Qc] [(2,0),(3,1)]
 .ret) .skip))
 (Qm [Qg (.fieldAddr 3 (.t 1)),Qg (.load false 1 (.l 0)),Qg (.fieldAddr 0 (.t 1)),Qg (.load false 1 (.l 2)),⟨.call (.c (.fn JK [] [])) [(.l 3)],none,[(1,Qn 1 0)]⟩,Qt Zcu [.l 1,.l 4],Qg (.extract 0 (.l 5)),Qg (.extract 1 (.l 5)),Qg (.mv (.l 6)),Qg (.mv (.l 7))] [(2,8),(3,9)]
 .ret)))
def Zdf:ZK:=⟨[0,1,2,3,6],15,ZjK,[.tmp 2,.tmp 3],1⟩
def JY:Zg :=
 (.seq (Ql [Qa 4,Qa 0,Qf (.len (.l 1)),Qf (.bin 0 .lss (.l 0) (.l 2))] [(5,3)]
 (.cond (.t 5) .skip (.exit 0)))
 (.seq (.block 1 (.seq (Ql [Qa 4,Qf (.bin 0 .gtr (.l 0) (Qh 0))] [(6,1)]
 (.cond (.t 6) (.region [Qa 3,⟨.bin 1 .add (.l 0) (.c (.str ⟨#[32]⟩)),none⟩,Qb 1] [(3,2)]) .skip))
 (.region [Qa 3,Qa 0,Qa 4,Qf (.indexAddrS 1 (.l 1) (.l 2)),Qn 1 3,Qs Ym [.l 4],Qf (.bin 1 .add (.l 0) (.l 5)),Qb 6] [(3,7)])))
 (.region [Qa 4,Qf (.bin 0 .add (.l 0) (Qh 1)),Qb 1] [(4,2)])))
def ZjL:Zg :=
 (Ql [⟨.mv (.c (.str ⟨#[]⟩)),none⟩] [(2,0)]
 (Ql [⟨.mv (.c (.str ⟨#[]⟩)),none⟩] [(3,0)]
 (.seq (Ql [Qe 0] [(4,0)]
 (.block 0 (.loop JY)))
 (.seq (Ql [Qa 1,Qf (.un .not (.l 0))] [(7,1)]
 (.cond (.t 7) (Ql [⟨.mv (.c (.str ⟨#[63]⟩)),none⟩] [(2,0)]
 .ret) .skip))
 (.seq (Ql [Qa 3,⟨.bin 1 .eql (.l 0) (.c (.str ⟨#[]⟩)),none⟩] [(8,1)]
 (.cond (.t 8) (Ql [⟨.mv (.c (.str ⟨#[110,111,110,101]⟩)),none⟩] [(2,0)]
 .ret) .skip))
 (Ql [Qa 3,Qb 0] [(2,1)]
 .ret))))))
def KH:ZK:=⟨[0,1,4,5,6,10,14,25,27],29,ZjL,[.tmp 2],1⟩
def J8:Zg :=
 (.seq (Ql [Qa 4,Qa 3,Qf (.len (.l 1)),Qf (.bin 0 .lss (.l 0) (.l 2))] [(6,3)]
 (.cond (.t 6) .skip (.exit 0)))
 (.seq (.block 1 (Ql [Qa 3,Qa 4,Qf (.indexAddrS 1 (.l 0) (.l 1)),Qn 1 2,Qs Zhi [.l 3,Qh 0],Qb 4,⟨.mv (.t 3),some ((.l 5),true)⟩,⟨.mv (.t 4),some ((.l 5),true)⟩,⟨.indexAddrS 1 (.l 6) (.l 7),some ((.l 5),true)⟩,⟨.load false 1 (.l 8),some ((.l 5),true)⟩,⟨.len (.l 9),some ((.l 5),true)⟩,⟨.mv (.t 0),some ((.l 5),true)⟩,⟨.len (.l 11),some ((.l 5),true)⟩,⟨.bin 0 .lss (.l 10) (.l 12),some ((.l 5),true)⟩,Qf (.pick (.l 5) (.l 13) Qi)] [(7,14)]
 (.cond (.t 7) (Ql [Qa 3,Qa 4,Qf (.indexAddrS 1 (.l 0) (.l 1)),Qn 1 2,Qb 3,Qd] [(1,4),(2,5)]
 .ret) .skip)))
 (.region [Qa 4,Qf (.bin 0 .add (.l 0) (Qh 1)),Qb 1] [(4,2)])))
def ZbJ:Zg :=
 (Ql [Qf (.mv (.c (.slice none 0 0 none))),Qc] [(1,0),(2,1)]
 (.seq (Ql [Qa 0,Qs Jw [.l 0],Qf (.un .not (.l 1)),Qb 2,⟨.mv (.t 0),some ((.l 3),false)⟩,⟨.len (.l 4),some ((.l 3),false)⟩,⟨.bin 0 .lss (.l 5) (Qh 2),some ((.l 3),false)⟩,Qf (.pick (.l 3) Qj (.l 6)),Qb 7,⟨.mv (.t 0),some ((.l 8),false)⟩,⟨.call (.c (.fn YL [] [])) [(.l 9),(Qh 0)],some ((.l 8),false)⟩,⟨.mv (.t 0),some ((.l 8),false)⟩,⟨.call (.c (.fn JK [] [])) [(.l 11)],some ((.l 8),false)⟩,⟨.bin 0 .rem (.l 10) (.l 12),some ((.l 8),false)⟩,⟨.bin 0 .neq (.l 13) (Qh 0),some ((.l 8),false)⟩,Qf (.pick (.l 8) Qj (.l 14))] [(5,15)]
 (.cond (.t 5) (Ql [Qf (.buildSlice 1 0 [] []),Qb 0,Qc] [(1,1),(2,2)]
 .ret) .skip))
 (Ql [Qa 0,Qa 0,Qs YL [.l 1,Qh 0],Qa 0,Qs JK [.l 3],Qf (.bin 0 .quo (.l 2) (.l 4)),Qs ZbU [.l 0,.l 5],Qb 6] [(3,7)]
 (.seq (Ql [Qe 0] [(4,0)]
 (.block 0 (.loop J8)))
 (Ql [Qf (.buildSlice 1 0 [] []),Qb 0,Qc] [(1,1),(2,2)]
 .ret)))))
def Xt:ZK:=⟨[0,2,3,4,5,21,33,50],56,ZbJ,[.tmp 1,.tmp 2],2⟩
def JM:Zg :=
 (.seq (Ql [Qa 5,Qa 3,Qf (.lenStr (.l 1)),Qf (.bin 0 .lss (.l 0) (.l 2))] [(8,3)]
 (.cond (.t 8) .skip (.exit 0)))
 (.seq (.block 1 (.seq (Ql [Qa 3,Qa 5,Qf (.indexS (.l 0) (.l 1)),Qf (.bin 0 .lss (.l 2) (.c (.int .u8 (48)))),Qb 3,⟨.mv (.t 3),some ((.l 4),false)⟩,⟨.mv (.t 5),some ((.l 4),false)⟩,⟨.indexS (.l 5) (.l 6),some ((.l 4),false)⟩,⟨.bin 0 .gtr (.l 7) (.c (.int .u8 (57))),some ((.l 4),false)⟩,Qf (.pick (.l 4) Qj (.l 8))] [(9,9)]
 (.cond (.t 9) (Ql [Qe 0,Qc] [(1,0),(2,1)]
 .ret) .skip))
 (.region [Qa 4,Qf (.bin 0 .mul (Qh 10) (.l 0)),Qa 3,Qa 5,Qf (.indexS (.l 2) (.l 3)),Qf (.bin 0 .sub (.l 4) (.c (.int .u8 (48)))),Qf (.conv .i64 (.l 5)),Qf (.bin 0 .add (.l 1) (.l 6)),Qb 7] [(4,8)])))
 (.region [Qa 5,Qf (.bin 0 .add (.l 0) (Qh 1)),Qb 1] [(5,2)])))
def Xy:Zg :=
 (Ql [Qe 0,Qc] [(1,0),(2,1)]
 (Ql [Qa 0,Qb 0] [(3,1)]
 (.seq (Ql [Qa 3,Qf (.lenStr (.l 0)),Qf (.bin 0 .gtr (.l 1) (Qh 1)),Qb 2,⟨.mv (.t 3),some ((.l 3),true)⟩,⟨.indexS (.l 4) (Qh 0),some ((.l 3),true)⟩,⟨.bin 0 .eql (.l 5) (.c (.int .u8 (45))),some ((.l 3),true)⟩,Qf (.pick (.l 3) (.l 6) Qi)] [(6,7)]
 (.cond (.t 6) (.region [Qa 3,Qf (.sliceStr (.l 0) (some (Qh 1)) none),Qb 1] [(3,2)]) .skip))
 (.seq (Ql [Qa 3,Qf (.lenStr (.l 0)),Qs YX [.l 1,Qh 1,Qh 6],Qf (.un .not (.l 2))] [(7,3)]
 (.cond (.t 7) (Ql [Qe 0,Qc] [(1,0),(2,1)]
 .ret) .skip))
 (Ql [Qe 0] [(4,0)]
 (.seq (Ql [Qe 0] [(5,0)]
 (.block 0 (.loop JM)))
 (.seq (Ql [Qa 3,Qf (.lenStr (.l 0)),Qa 0,Qf (.lenStr (.l 2)),Qf (.bin 0 .lss (.l 1) (.l 3))] [(10,4)]
 (.cond (.t 10) (.region [Qa 4,Qf (.un .neg (.l 0)),Qb 1] [(4,2)]) .skip))
 (.seq (Ql [Qa 4,Qs Ym [.l 0],Qa 0,Qf (.bin 1 .neq (.l 1) (.l 2))] [(11,3)]
 (.cond (.t 11) (Ql [Qe 0,Qc] [(1,0),(2,1)]
 .ret) .skip))
 (Ql [Qa 4,Qb 0,Qd] [(1,1),(2,2)]
 .ret)))))))))
def YU:ZK:=⟨[0,2,3,4,5,6,15,21,25,37,50,56],58,Xy,[.tmp 1,.tmp 2],1⟩
def ZuA:Zg :=
 (Ql [Qf (.mv (.c (.slice none 0 0 none)))] [(1,0)]
 (Ql [Qf (.buildSlice 1 0 [] []),Qa 0,Qf (.append false 1 8 (.l 0) (.l 1)),Qb 2] [(1,3)]
 .ret))
def ZkH:ZK:=⟨[0,2],6,ZuA,[.tmp 1],2⟩
def X8:Zg :=
 (.seq (Ql [Qa 3,Qa 0,Qf (.len (.l 1)),Qf (.bin 0 .lss (.l 0) (.l 2))] [(5,3)]
 (.cond (.t 5) .skip (.exit 0)))
 (.seq (.block 1 (Ql [Qa 0,Qa 3,Qf (.indexAddrS 3 (.l 0) (.l 1)),Qf (.load true 3 (.l 2)),Qs Ziq [.l 3],Qf (.alloc [.int .i64 (0),.int .i64 (0)]),Qq 2 5 4] [(4,5)]
 (.region [Qf (.indexAddrA 2 1 (.t 2) (Qh 0)),Qn 1 0,Qf (.indexAddrA 2 1 (.t 4) (Qh 0)),Qn 1 2,Qf (.bin 0 .mul (.l 1) (.l 3)),Qf (.indexAddrA 2 1 (.t 2) (Qh 1)),Qn 1 5,Qf (.indexAddrA 2 1 (.t 4) (Qh 1)),Qn 1 7,Qf (.bin 0 .mul (.l 6) (.l 8)),Qs ZbT [.l 4,.l 9],Qf (.store 2 (.t 2) (.l 10))] [])))
 (.region [Qa 3,Qf (.bin 0 .add (.l 0) (Qh 1)),Qb 1] [(3,2)])))
def ZjM:Zg :=
 (Ql [Qf (.alloc [.int .i64 (0),.int .i64 (0)])] [(1,0)]
 (Ql [Qf (.build [.int .i64 (0),.int .i64 (0)] [(0,1,(Qh 1)),(1,1,(Qh 1))]),Qf (.alloc [.int .i64 (0),.int .i64 (0)]),Qq 2 1 0] [(2,1)]
 (.seq (Ql [Qe 0] [(3,0)]
 (.block 0 (.loop X8)))
 (Ql [Qr 2 2,Qf (.store 2 (.t 1) (.l 0))] []
 .ret))))
def Zbn:ZK:=⟨[0,2,3,4,5,10],30,ZjM,[.cell 1 true 2],1⟩
def ZbK:Zg :=
 (.seq (Ql [Qa 5,Qf (.bin 0 .add (.l 0) (Qh 1)),Qa 4,Qf (.len (.l 2)),Qf (.bin 0 .lss (.l 1) (.l 3)),Qb 4,⟨.mv (.t 4),some ((.l 5),true)⟩,⟨.mv (.t 5),some ((.l 5),true)⟩,⟨.bin 0 .add (.l 7) (Qh 1),some ((.l 5),true)⟩,⟨.indexAddrS 1 (.l 6) (.l 8),some ((.l 5),true)⟩,⟨.load false 1 (.l 9),some ((.l 5),true)⟩,Qf (.pick (.l 5) (.l 10) Qi)] [(7,11)]
 (.cond (.t 7) .skip (.exit 0)))
 (.block 1 (.region [Qa 5,Qf (.bin 0 .add (.l 0) (Qh 1)),Qb 1] [(5,2)])))
def Zht:Zg :=
 (Ql [Qe 0,Qc] [(2,0),(3,1)]
 (.seq (Ql [Qa 0,Qs ZaB [.l 0],Qf (.un .not (.l 1))] [(6,2)]
 (.cond (.t 6) (Ql [Qe 0,Qc] [(2,0),(3,1)]
 .ret) .skip))
 (Ql [Qa 0,Qa 1,Qs ZeW [.l 0,.l 1],Qb 2] [(4,3)]
 (Ql [Qe 0] [(5,0)]
 (.seq (.block 0 (.loop ZbK))
 (Ql [Qa 5,Qb 0,Qd] [(2,1),(3,2)]
 .ret))))))
def KI:ZK:=⟨[0,1,4,5,6,7,10,25],29,Zht,[.tmp 2,.tmp 3],1⟩
def J9:Zg :=
 (.seq (Ql [Qa 7,Qa 4,Qf (.len (.l 1)),Qf (.bin 0 .lss (.l 0) (.l 2))] [(11,3)]
 (.cond (.t 11) .skip (.exit 0)))
 (.seq (.block 1 (Ql [Qa 0,Qa 4,Qa 7,Qf (.indexAddrS 1 (.l 1) (.l 2)),Qn 1 3,Qs Zbh [.l 0,.l 4],Qb 5,Qp 0 6,Qp 1 6,Qb 7,Qb 8] [(8,9),(9,10)]
 (Ql [Qa 8,Qa 1,Qf (.bin 0 .eql (.l 0) (.l 1)),Qb 2,⟨.mv (.t 9),some ((.l 3),true)⟩,⟨.mv (.t 6),some ((.l 3),true)⟩,⟨.bin 0 .lss (.l 4) (.l 5),some ((.l 3),true)⟩,Qf (.pick (.l 3) (.l 6) Qi)] [(12,7)]
 (.cond (.t 12) (Ql [Qa 4,Qa 7,Qf (.indexAddrS 1 (.l 0) (.l 1)),Qn 1 2,Qb 3] [(5,4)]
 (.region [Qa 9,Qb 0] [(6,1)])) .skip))))
 (.region [Qa 7,Qf (.bin 0 .add (.l 0) (Qh 1)),Qb 1] [(7,2)])))
def ZbL:Zg :=
 (Ql [Qf (.mv (.c (.slice none 0 0 none))),Qc] [(2,0),(3,1)]
 (.seq (Ql [Qa 0,Qs ZaB [.l 0],Qf (.un .not (.l 1)),Qb 2,⟨.mv (.t 1),some ((.l 3),false)⟩,⟨.bin 0 .lss (.l 4) (Qh 1),some ((.l 3),false)⟩,Qf (.pick (.l 3) Qj (.l 5))] [(10,6)]
 (.cond (.t 10) (Ql [Qf (.buildSlice 1 0 [] []),Qb 0,Qc] [(2,1),(3,2)]
 .ret) .skip))
 (Ql [Qa 0,Qf (.len (.l 0)),Qs Zku [.l 1],Qb 2] [(4,3)]
 (Ql [Qf (.buildSlice 1 0 [] []),Qa 0,Qf (.len (.l 1)),Qf (.bin 0 .add (.l 2) (Qh 1)),Qb 0,Qb 3] [(5,4),(6,5)]
 (.seq (Ql [Qe 0] [(7,0)]
 (.block 0 (.loop J9)))
 (Ql [Qa 5,Qa 5,Qf (.len (.l 1)),Qf (.bin 0 .gtr (.l 2) (Qh 0)),Qb 0,Qb 3] [(2,4),(3,5)]
 .ret))))))
def Jp:ZK:=⟨[0,1,4,5,6,7,8,9,10,11,18,30,49],59,ZbL,[.tmp 2,.tmp 3],2⟩
def ZrI:Zg :=
 (Ql [Qf (.box (.t 0)),⟨.mv (.c (.str ⟨#[]⟩)),none⟩] [(3,0),(4,1)]
 (.seq (Ql [Qa 1] [(10,0)]
 (.block 0 (Ql [⟨.bin 1 .eql (.t 10) (.c (.str ⟨#[109,111,109,101,110,116]⟩)),none⟩,Qb 0] [(11,1)]
 (.cond (.t 11) (Ql [Qo 0 3,Qn 1 0,Qa 2,Qs ZaC [.l 1,.l 2],Qp 0 3,Qp 1 3,Qs KV [.l 4,.l 5],Qb 6] [(4,7)]
 .ret) (Ql [⟨.bin 1 .eql (.t 10) (.c (.str ⟨#[109,111,115,116]⟩)),none⟩,Qb 0] [(12,1)]
 (.cond (.t 12) (Ql [Qo 3 3,Qn 1 0,Qa 2,Qs ZdW [.l 1,.l 2],Qp 0 3,Qp 1 3,Qs KV [.l 4,.l 5],Qb 6] [(4,7)]
 .ret) (Ql [⟨.bin 1 .eql (.t 10) (.c (.str ⟨#[115,116,101,112,115]⟩)),none⟩,Qb 0] [(13,1)]
 (.cond (.t 13) (Ql [Qo 3 3,Qn 1 0,Qa 2,Qs ZaD [.l 1,.l 2],Qb 3,Qp 0 4,Qp 1 4,Qb 5,Qb 6] [(5,7),(6,8)]
 (Ql [Qa 6] [(14,0)]
 (.cond (.t 14) (Ql [Qa 5,Qa 5,Qf (.len (.l 1)),Qf (.bin 0 .sub (.l 2) (Qh 1)),Qf (.indexAddrS 2 (.l 0) (.l 3)),Qf (.load true 2 (.l 4)),Qs Zbe [.l 5,Qj],Qb 6] [(4,7)]
 .ret) .skip))) (Ql [⟨.bin 1 .eql (.t 10) (.c (.str ⟨#[122,101,114,111]⟩)),none⟩,Qb 0] [(15,1)]
 (.cond (.t 15) (Ql [Qo 0 3,Qn 1 0,Qa 2,Qs Zcv [.l 1,.l 2],Qp 0 3,Qp 1 3,Qs KV [.l 4,.l 5],Qb 6] [(4,7)]
 .ret) (Ql [⟨.bin 1 .eql (.t 10) (.c (.str ⟨#[109,101,110,100]⟩)),none⟩,Qb 0] [(16,1)]
 (.cond (.t 16) (Ql [Qo 0 3,Qn 1 0,Qa 2,Qs ZfS [.l 1,.l 2],Qb 3,Qp 0 4,Qp 1 4,Qp 2 4,Qb 5,Qb 6,Qb 7] [(7,8),(8,9),(9,10)]
 (Ql [Qa 7,Qa 8,Qf (.buildSlice 1 2 [.int .i64 (0),.int .i64 (0)] [(0,1,(.l 0)),(1,1,(.l 1))]),Qa 9,Qs XB [.l 2,.l 3],Qb 4] [(4,5)]
 .ret)) (Ql [⟨.bin 1 .eql (.t 10) (.c (.str ⟨#[99,111,105,110,115]⟩)),none⟩,Qb 0] [(17,1)]
 (.cond (.t 17) (Ql [Qa 2,Qs JT [.l 0],Qp 0 1,Qp 1 1,Qs KV [.l 2,.l 3],Qb 4] [(4,5)]
 .ret) .skip))))))))))))))
 (Ql [⟨.mv (.c (.str ⟨#[63]⟩)),none⟩] [(4,0)]
 .ret)))
def ZiD:ZK:=⟨[0,1,2,3,6,7,8,9,10,11,12,13,22,31,40,48,57,72],79,ZrI,[.tmp 4],1⟩
def ZrJ:Zg :=
 (Ql [⟨.mv (.c (.str ⟨#[]⟩)),none⟩] [(1,0)]
 (Ql [Qa 0,⟨.bin 1 .add (.l 0) (.c (.str ⟨#[35]⟩)),none⟩,Qa 0,Qs Zkv [.l 2],Qs Ym [.l 3],Qf (.bin 1 .add (.l 1) (.l 4)),Qb 5] [(1,6)]
 .ret))
def ZiE:ZK:=⟨[0,2],9,ZrJ,[.tmp 1],1⟩
def ZkI:Zg :=
 (Ql [⟨.mv (.c (.str ⟨#[]⟩)),none⟩,⟨.mv (.c (.str ⟨#[]⟩)),none⟩,Qc] [(2,0),(3,1),(4,2)]
 (Ql [Qa 0,Qa 1,Qs YO [.l 0,.l 1],Qp 0 2,Qp 1 2,Qp 2 2,Qb 3,Qb 4,Qb 5] [(2,6),(3,7),(4,8)]
 .ret))
def ZcC:ZK:=⟨[0,1,4,5,6],13,ZkI,[.tmp 2,.tmp 3,.tmp 4],1⟩
def Ze3:Zg :=
 (Ql [⟨.alloc [.str ⟨#[]⟩,.str ⟨#[]⟩],none⟩,Qc] [(2,0),(3,1)]
 (Ql [Qa 1,Qs Kq [.l 0],Qb 1,Qp 0 2,Qp 1 2,Qb 3,Qb 4] [(4,5),(5,6)]
 (Ql [Qa 4,⟨.call (.c (.fn JS [] [])) [(.l 0),(.c (.str ⟨#[32]⟩))],none⟩,Qb 1,Qp 0 2,Qp 1 2,Qp 2 2,Qb 3,Qb 4,Qb 5] [(6,7)]
 (Ql [Qa 6,⟨.call (.c (.fn JS [] [])) [(.l 0),(.c (.str ⟨#[64]⟩))],none⟩,Qb 1,Qp 0 2,Qp 1 2,Qp 2 2,Qb 3,Qb 4,Qb 5] [(7,6),(8,7)]
 (Ql [Qa 7,Qa 8,⟨.build [.str ⟨#[]⟩,.str ⟨#[]⟩] [(0,1,(.l 0)),(1,1,(.l 1))],none⟩,⟨.alloc [.str ⟨#[]⟩,.str ⟨#[]⟩],none⟩,Qq 2 3 2] [(9,3)]
 (Ql [Qa 0,Qr 2 9,Qs J2 [.l 0,.l 1],Qb 2,Qp 0 3,Qp 1 3,Qb 4,Qb 5] [(10,6),(11,7)]
 (Ql [Qr 2 9,Qa 5,Qb 1,⟨.mv (.t 11),some ((.l 2),true)⟩,Qf (.pick (.l 2) (.l 3) Qi),Qb 4,⟨.mv (.t 10),some ((.l 5),true)⟩,⟨.mv (.t 1),some ((.l 5),true)⟩,⟨.bin 1 .add (.l 7) (.c (.str ⟨#[10]⟩)),some ((.l 5),true)⟩,⟨.bin 1 .eql (.l 6) (.l 8),some ((.l 5),true)⟩,Qf (.pick (.l 5) (.l 9) Qi),Qf (.store 2 (.t 2) (.l 0)),Qb 10] [(3,12)]
 .ret)))))))
def Zbo:ZK:=⟨[0,1,4,5,6,7,9,11,12,14,15,16],54,Ze3,[.cell 2 true 2,.tmp 3],1⟩
def Y1:Zg :=
 (Ql [Qf (.bin 0 .lss (.t 5) (.t 4))] [(6,0)]
 (.seq (.cond (.t 6) .skip (.exit 0))
 (.seq (.block 1 (Ql [Qa 5,Qb 0] [(3,1)]
 (Ql [Qa 1,Qa 0,Qa 3,Qf (.indexAddrS 1 (.l 1) (.l 2)),Qn 1 3,Qf (.bin 0 .eql (.l 0) (.l 4))] [(7,5)]
 (.cond (.t 7) (Ql [Qa 3,Qb 0] [(2,1)]
 .ret) .skip))))
 (.region [Qf (.bin 0 .add (.t 5) (Qh 1)),Qb 0] [(5,1)]))))
def ZaK:Zg :=
 (Ql [Qe 0] [(2,0)]
 (.seq (Ql [Qa 0,Qf (.len (.l 0)),Qe 0] [(4,1),(5,2)]
 (.block 0 (.loop Y1)))
 (Ql [Qe (-1)] [(2,0)]
 .ret)))
def Xm:ZK:=⟨[0,1,4,5,7,8,9,16],19,ZaK,[.tmp 2],1⟩
def Zbp:Zg :=
 (Ql [Qf (.box (.t 0)),Qf (.box (.t 1)),Qc] [(2,0),(3,1),(4,2)]
 (.seq (Ql [Qo 0 3,Qn 1 0] [(5,1)]
 (.block 0 (.seq (Ql [Qf (.bin 0 .eql (.t 5) (Qh 1)),Qb 0] [(6,1)]
 (.cond (.t 6) .skip (.region [Qf (.bin 0 .eql (.t 5) (Qh 4)),Qb 0] [(6,1)])))
 (.cond (.t 6) (Ql [Qo 3 3,Qn 1 0,Qf (.bin 0 .eql (.l 1) (Qh 0)),Qb 2] [(4,3)]
 .ret) (Ql [Qf (.bin 0 .eql (.t 5) (Qh 2)),Qb 0] [(7,1)]
 (.cond (.t 7) (Ql [Qo 1 3,Qn 1 0,Qo 0 2,Qn 1 2,Qf (.len (.l 3)),Qf (.bin 0 .sub (.l 4) (Qh 1)),Qs YX [.l 1,Qh 0,.l 5],Qb 6,⟨.fieldAddr 2 (.t 3),some ((.l 7),true)⟩,⟨.load false 1 (.l 8),some ((.l 7),true)⟩,⟨.bin 0 .eql (.l 9) (Qh 0),some ((.l 7),true)⟩,Qf (.pick (.l 7) (.l 10) Qi),Qb 11,⟨.fieldAddr 3 (.t 3),some ((.l 12),true)⟩,⟨.load false 1 (.l 13),some ((.l 12),true)⟩,⟨.bin 0 .eql (.l 14) (Qh 0),some ((.l 12),true)⟩,Qf (.pick (.l 12) (.l 15) Qi),Qb 16] [(4,17)]
 .ret) (Ql [Qf (.bin 0 .eql (.t 5) (Qh 3)),Qb 0] [(8,1)]
 (.cond (.t 8) (Ql [Qo 1 3,Qn 1 0,Qo 0 2,Qn 1 2,Qf (.len (.l 3)),Qf (.bin 0 .sub (.l 4) (Qh 1)),Qs YX [.l 1,Qh 0,.l 5],Qb 6,⟨.fieldAddr 3 (.t 3),some ((.l 7),true)⟩,⟨.load false 1 (.l 8),some ((.l 7),true)⟩,⟨.bin 0 .eql (.l 9) (Qh 0),some ((.l 7),true)⟩,Qf (.pick (.l 7) (.l 10) Qi),Qb 11] [(4,12)]
 .ret) (Ql [Qf (.bin 0 .eql (.t 5) (Qh 6)),Qb 0] [(9,1)]
 (.cond (.t 9) (Ql [Qo 1 3,Qn 1 0,Qo 3 2,Qn 1 2,Qf (.len (.l 3)),Qf (.bin 0 .sub (.l 4) (Qh 1)),Qs YX [.l 1,Qh 0,.l 5],Qb 6,⟨.fieldAddr 2 (.t 3),some ((.l 7),true)⟩,⟨.load false 1 (.l 8),some ((.l 7),true)⟩,⟨.bin 0 .eql (.l 9) (Qh 0),some ((.l 7),true)⟩,Qf (.pick (.l 7) (.l 10) Qi),Qb 11,⟨.fieldAddr 3 (.t 3),some ((.l 12),true)⟩,⟨.load false 1 (.l 13),some ((.l 12),true)⟩,⟨.bin 0 .eql (.l 14) (Qh 0),some ((.l 12),true)⟩,Qf (.pick (.l 12) (.l 15) Qi),Qb 16] [(4,17)]
 .ret) .skip))))))))))
 (Ql [Qo 0 3,Qn 1 0,Qf (.bin 0 .eql (.l 1) (Qh 5)),Qb 2] [(4,3)]
 .ret)))
def K1:ZK:=⟨[0,1,2,3,4,6,7,13,32,46],68,Zbp,[.tmp 4],1⟩
def Q7:Zg :=
 (Ql [Qf (.box (.t 0)),Qf (.box (.t 1)),Qf (.alloc [.slice none 0 0 none,.int .i64 (0),.int .i64 (0),.slice none 0 0 none,.int .i64 (0),.int .i64 (0)])] [(2,0),(3,1),(4,2)]
 (Ql [Qr 6 2,Qs Zbb [.l 0],Qf (.alloc [.slice none 0 0 none,.int .i64 (0),.int .i64 (0),.slice none 0 0 none,.int .i64 (0),.int .i64 (0)]),Qq 6 2 1] [(5,2)]
 (.seq (Ql [Qo 0 3,Qn 1 0] [(6,1)]
 (.block 0 (Ql [Qf (.bin 0 .eql (.t 6) (Qh 1)),Qb 0] [(7,1)]
 (.cond (.t 7) (.region [Qo 0 5,Qn 1 0,Qo 1 3,Qn 1 2,Qo 2 3,Qn 1 4,Qf (.build [.int .i64 (0),.int .i64 (0)] [(0,1,(.l 3)),(1,1,(.l 5))]),Qf (.buildSlice 2 1 [.int .i64 (0),.int .i64 (0)] [(0,2,(.l 6))]),Qf (.append false 2 16 (.l 1) (.l 7)),Qo 0 5,Qq 1 9 8] []) (Ql [Qf (.bin 0 .eql (.t 6) (Qh 2)),Qb 0] [(8,1)]
 (.cond (.t 8) (.draw [Qg (.fieldAddr 0 (.t 5)),Qg (.load false 1 (.l 0)),Qg (.fieldAddr 1 (.t 3)),Qg (.load false 1 (.l 2)),Qg (.sliceSl 2 (.l 1) none (some (.l 3)) none),Qg (.fieldAddr 0 (.t 5)),Qg (.load false 1 (.l 5)),Qg (.fieldAddr 1 (.t 3)),Qg (.load false 1 (.l 7)),Qg (.bin 0 .add (.l 8) (Qh 1)),Qg (.sliceSl 2 (.l 6) (some (.l 9)) none none),Qg (.append false 2 16 (.l 4) (.l 10)),Qg (.fieldAddr 0 (.t 5)),Qg (.store 1 (.l 12) (.l 11))] []) (Ql [Qf (.bin 0 .eql (.t 6) (Qh 3)),Qb 0] [(9,1)]
 (.cond (.t 9) (.region [Qo 0 5,Qn 1 0,Qo 1 3,Qn 1 2,Qo 2 3,Qn 1 4,Qf (.indexAddrS 2 (.l 1) (.l 3)),Qf (.fieldAddr 0 (.l 6)),Qq 1 7 5] []) (Ql [Qf (.bin 0 .eql (.t 6) (Qh 4)),Qb 0] [(10,1)]
 (.cond (.t 10) (Ql [Qo 1 3,Qn 1 0,Qo 1 5,Qq 1 2 1] []
 (.region [Qo 2 3,Qn 1 0,Qo 2 5,Qq 1 2 1] [])) (Ql [Qf (.bin 0 .eql (.t 6) (Qh 5)),Qb 0] [(11,1)]
 (.cond (.t 11) (.region [Qo 3 5,Qn 1 0,Qo 1 3,Qn 1 2,Qo 2 3,Qn 1 4,Qo 3 3,Qn 1 6,Qf (.build [.int .i64 (0),.int .i64 (0),.int .i64 (0)] [(0,1,(.l 3)),(1,1,(.l 5)),(2,1,(.l 7))]),Qf (.buildSlice 3 1 [.int .i64 (0),.int .i64 (0),.int .i64 (0)] [(0,3,(.l 8))]),Qf (.append false 3 24 (.l 1) (.l 9)),Qo 3 5,Qq 1 11 10] []) (Ql [Qf (.bin 0 .eql (.t 6) (Qh 6)),Qb 0] [(12,1)]
 (.cond (.t 12) (.draw [Qg (.fieldAddr 3 (.t 5)),Qg (.load false 1 (.l 0)),Qg (.fieldAddr 1 (.t 3)),Qg (.load false 1 (.l 2)),Qg (.sliceSl 3 (.l 1) none (some (.l 3)) none),Qg (.fieldAddr 3 (.t 5)),Qg (.load false 1 (.l 5)),Qg (.fieldAddr 1 (.t 3)),Qg (.load false 1 (.l 7)),Qg (.bin 0 .add (.l 8) (Qh 1)),Qg (.sliceSl 3 (.l 6) (some (.l 9)) none none),Qg (.append false 3 24 (.l 4) (.l 10)),Qg (.fieldAddr 3 (.t 5)),Qg (.store 1 (.l 12) (.l 11))] []) .skip))))))))))))))
 (Ql [Qr 6 5,Qf (.store 6 (.t 4) (.l 0))] []
 .ret))))
def JZ:ZK:=⟨[0,1,2,3,4,5,9,10,22,37,47,55,69],85,Q7,[.cell 4 true 6],2⟩
def ZrK:Zg :=
 (Ql [Qe 0] [(2,0)]
 (.seq (Ql [Qa 0,Qa 1,Qf (.bin 0 .gtr (.l 0) (.l 1))] [(3,2)]
 (.cond (.t 3) (Ql [Qa 0,Qb 0] [(2,1)]
 .ret) .skip))
 (Ql [Qa 1,Qb 0] [(2,1)]
 .ret)))
def ZiF:ZK:=⟨[0,1,4,7],10,ZrK,[.tmp 2],1⟩
def ZjN:Zg :=
 (Ql [Qe 0] [(2,0)]
 (.seq (Ql [Qa 0,Qa 1,Qf (.bin 0 .lss (.l 0) (.l 1))] [(3,2)]
 (.cond (.t 3) (Ql [Qa 0,Qb 0] [(2,1)]
 .ret) .skip))
 (Ql [Qa 1,Qb 0] [(2,1)]
 .ret)))
def Zdg:ZK:=⟨[0,1,4,7],10,ZjN,[.tmp 2],1⟩
def Zx:Zg :=
 (Ql [Qf (.bin 0 .lss (.t 5) (.t 4))] [(6,0)]
 (.seq (.cond (.t 6) .skip (.exit 0))
 (.seq (.block 1 (Ql [Qa 5,Qb 0] [(3,1)]
 (Ql [Qa 1,Qa 0,Qa 3,Qf (.indexAddrS 2 (.l 1) (.l 2)),Qf (.load true 2 (.l 3)),Qf (.call (.l 0) [(.l 4)])] [(7,5)]
 (.cond (.t 7) (Ql [Qa 3,Qb 0] [(2,1)]
 .ret) .skip))))
 (.region [Qf (.bin 0 .add (.t 5) (Qh 1)),Qb 0] [(5,1)]))))
def X9:Zg :=
 (Ql [Qe 0] [(2,0)]
 (.seq (Ql [Qa 0,Qf (.len (.l 0)),Qe 0] [(4,1),(5,2)]
 (.block 0 (.loop Zx)))
 (Ql [Qe (-1)] [(2,0)]
 .ret)))
def Z5:ZK:=⟨[0,1,4,5,7,8,9,16],19,X9,[.tmp 2],1⟩
def ZoZ:Zg :=
 (Ql [Qc] [(1,0)]
 (Ql [Qa 0,Qs YJ [.l 0,Qh 1,Qh 24],Qb 1] [(1,2)]
 .ret))
def Zgg:ZK:=⟨[0,2],5,ZoZ,[.tmp 1],1⟩
def Zz3:Zg :=
 (Ql [Qc] [(1,0)]
 (Ql [Qa 0,Qs YX [.l 0,Qh 0,Qh 60],Qb 1] [(1,2)]
 .ret))
def Zn0:ZK:=⟨[0,2],5,Zz3,[.tmp 1],1⟩
def ZuB:Zg :=
 (Ql [Qc] [(2,0)]
 (Ql [Qa 0,Qs YX [.l 0,Qh 1,Qh 24],Qb 1,⟨.mv (.t 1),some ((.l 2),true)⟩,⟨.call (.c (.fn YX [] [])) [(.l 3),(Qh 1),(Qh 24)],some ((.l 2),true)⟩,Qf (.pick (.l 2) (.l 4) Qi),Qb 5] [(2,6)]
 .ret))
def ZkJ:ZK:=⟨[0,1,4],11,ZuB,[.tmp 2],1⟩
def Zo0:Zg :=
 (Ql [Qe 0] [(3,0)]
 (.seq (.block 0 (Ql [Qa 0,Qa 1,Qs Y3 [.l 0,.l 1],Qf (.bin 0 .lss (.l 2) (Qh 0)),Qb 3] [(4,4)]
 (.cond (.t 4) (Ql [Qe (-1)] [(3,0)]
 .ret) (Ql [Qa 0,Qa 2,Qs Y3 [.l 0,.l 1],Qf (.bin 0 .gtr (.l 2) (Qh 0)),Qb 3] [(5,4)]
 (.cond (.t 5) (Ql [Qe 1] [(3,0)]
 .ret) .skip)))))
 (Ql [Qe 0] [(3,0)]
 .ret)))
def Zgh:ZK:=⟨[0,1,2,6,7,12],17,Zo0,[.tmp 3],1⟩
def JA:Zg :=
 (Ql [Qf (.bin 0 .lss (.t 7) (.t 6))] [(8,0)]
 (.seq (.cond (.t 8) .skip (.exit 0))
 (.seq (.block 1 (Ql [Qf (.indexAddrS 3 (.t 5) (.t 7)),Qf (.load true 3 (.l 0)),Qf (.alloc [.int .i64 (0),.int .i64 (0),.int .i64 (0)]),Qq 3 2 1] [(3,2)]
 (Ql [Qr 3 3,Qs Zaz [.l 0],Qf (.alloc [.int .i64 (0),.int .i64 (0)]),Qq 2 2 1] [(4,2)]
 (.region [Qf (.indexAddrA 2 1 (.t 2) (Qh 0)),Qn 1 0,Qf (.indexAddrA 2 1 (.t 4) (Qh 0)),Qn 1 2,Qf (.bin 0 .mul (.l 1) (.l 3)),Qf (.indexAddrA 2 1 (.t 2) (Qh 1)),Qn 1 5,Qf (.indexAddrA 2 1 (.t 4) (Qh 1)),Qn 1 7,Qf (.bin 0 .mul (.l 6) (.l 8)),Qs Xo [.l 4,.l 9],Qf (.store 2 (.t 2) (.l 10))] []))))
 (.region [Qf (.bin 0 .add (.t 7) (Qh 1)),Qb 0] [(7,1)]))))
def ZkK:Zg :=
 (Ql [Qf (.alloc [.int .i64 (0),.int .i64 (0)])] [(1,0)]
 (Ql [Qf (.build [.int .i64 (0),.int .i64 (0)] [(0,1,(Qh 1)),(1,1,(Qh 1))]),Qf (.alloc [.int .i64 (0),.int .i64 (0)]),Qq 2 1 0] [(2,1)]
 (.seq (Ql [Qa 0,Qf (.len (.l 0)),Qe 0] [(5,0),(6,1),(7,2)]
 (.block 0 (.loop JA)))
 (Ql [Qr 2 2,Qf (.store 2 (.t 1) (.l 0))] []
 .ret))))
def ZcD:ZK:=⟨[0,2,3,5,6,8,9,10,11],29,ZkK,[.cell 1 true 2],1⟩
def Zgi:Zg :=
 (Ql [Qa 0,Qf (.bin 0 .gtr (.l 0) (Qh 0))] [(2,1)]
 (.cond (.t 2) (.region [Qf (.load false 1 (.t 1)),Qa 0,Qf (.buildSlice 1 1 [.int .i64 (0)] [(0,1,(.l 1))]),Qf (.append false 1 8 (.l 0) (.l 2)),Qf (.store 1 (.t 1) (.l 3))] []) .skip))
def K2:ZK:=⟨[1,2,6],11,Zgi,[],0⟩
def JB:Zg :=
 (.seq (Ql [Qa 7,Qf (.bin 0 .leq (.l 0) (Qh 1))] [(9,1)]
 (.cond (.t 9) .skip (.exit 0)))
 (.seq (.block 1 (Ql [Qf (.load false 1 (.t 4)),Qa 0,Qa 7,Qf (.indexAddrS 1 (.l 0) (.l 1)),Qq 1 3 2] []
 (.draw [Qg (.load false 1 (.t 6)),Qg (.mv (.t 0)),Qg (.bin 0 .add (.l 1) (Qh 1)),Qg (.mv (.t 1)),Qg (.mv (.t 7)),Qg (.load false 1 (.t 2)),Qg (.mv (.t 0)),Qg (.indexAddrS 1 (.l 5) (.l 6)),Qg (.load false 1 (.l 7)),Qg (.bin 0 .mul (.l 4) (.l 8)),Qg (.bin 0 .add (.l 3) (.l 9)),Qg (.call (.l 0) [(.l 2),(.l 10)])] [])))
 (.region [Qa 7,Qf (.bin 0 .add (.l 0) (Qh 1)),Qb 1] [(7,2)])))
def KJ:Zg :=
 (.seq (Ql [Qa 0,Qf (.load false 1 (.t 2)),Qf (.len (.l 1)),Qf (.bin 0 .eql (.l 0) (.l 2))] [(8,3)]
 (.cond (.t 8) (Ql [Qf (.load false 1 (.t 3)),Qf (.load false 1 (.t 4)),Qa 1,Qf (.call (.l 0) [(.l 1),(.l 2)])] []
 .ret) .skip))
 (Ql [Qf (.load false 1 (.t 5)),Qb 0] [(7,1)]
 (.block 0 (.loop JB))))
def Z9:ZK:=⟨[0,1,2,3,4,5,6,9,13,20],39,KJ,[],0⟩
def Zm1:Zg :=
 (Ql [Qf (.alloc [.int .i64 (0),.int .i64 (0)])] [(2,0)]
 (Ql [Qa 0,Qa 0,Qf (.un .neg (.l 1)),Qf (.max2 (.l 0) (.l 2)),Qa 1,Qs ZfT [.l 3,.l 4],Qb 5] [(3,6)]
 (Qm [Qg (.mv (.t 0)),Qg (.mv (.t 3)),Qg (.bin 0 .quo (.l 0) (.l 1)),Qg (.mv (.t 1)),Qg (.mv (.t 3)),Qg (.bin 0 .quo (.l 3) (.l 4)),Qg (.build [.int .i64 (0),.int .i64 (0)] [(0,1,(.l 2)),(1,1,(.l 5))]),Qg (.store 2 (.t 2) (.l 6))] []
 .ret)))
def Zec:ZK:=⟨[0,1,4,5],19,Zm1,[.cell 2 true 2],1⟩
def ZkL:Zg :=
 (Ql [Qe 0,Qc] [(2,0),(3,1)]
 (Ql [Qa 0,Qa 1,Qs ZfU [.l 0,.l 1],Qb 2,Qp 0 3,Qp 1 3,Qf (.alloc [.int .i64 (0),.int .i64 (0)]),Qq 2 6 4,Qb 5] [(4,6),(5,8)]
 (.seq (Ql [Qa 5,Qf (.un .not (.l 0))] [(6,1)]
 (.cond (.t 6) (Ql [Qe 0,Qc] [(2,0),(3,1)]
 .ret) .skip))
 (Ql [Qf (.indexAddrA 2 1 (.t 4) (Qh 0)),Qn 1 0,Qf (.indexAddrA 2 1 (.t 4) (Qh 1)),Qn 1 2,Qf (.bin 0 .add (.l 1) (.l 3)),Qf (.bin 0 .sub (.l 4) (Qh 1)),Qf (.indexAddrA 2 1 (.t 4) (Qh 1)),Qn 1 6,Qf (.bin 0 .quo (.l 5) (.l 7)),Qb 8,Qd] [(2,9),(3,10)]
 .ret))))
def ZcE:ZK:=⟨[0,1,4,5,6,7,15],25,ZkL,[.tmp 2,.tmp 3],1⟩
def ZjO:Zg :=
 (Ql [Qf (.alloc [.int .i64 (0),.int .i64 (0)]),Qc] [(2,0),(3,1)]
 (.seq (Ql [Qa 0,Qs YR [.l 0],Qf (.un .not (.l 1)),Qb 2,⟨.mv (.t 1),some ((.l 3),false)⟩,⟨.call (.c (.fn Zah [] [])) [(.l 4)],some ((.l 3),false)⟩,⟨.un .not (.l 5),some ((.l 3),false)⟩,Qf (.pick (.l 3) Qj (.l 6))] [(5,7)]
 (.cond (.t 5) (Ql [Qf (.build [.int .i64 (0),.int .i64 (0)] []),Qf (.store 2 (.t 2) (.l 0)),Qc] [(3,2)]
 .ret) .skip))
 (Ql [Qa 0,Qs XZ [.l 0],Qf (.alloc [.int .i64 (0),.int .i64 (0)]),Qq 2 2 1] [(4,2)]
 (Ql [Qa 1,Qf (.indexAddrA 2 1 (.t 4) (Qh 0)),Qn 1 1,Qf (.bin 0 .mul (.l 0) (.l 2)),Qf (.indexAddrA 2 1 (.t 4) (Qh 1)),Qn 1 4,Qs Xo [.l 3,.l 5],Qf (.store 2 (.t 2) (.l 6)),Qd] [(3,8)]
 .ret))))
def Zdh:ZK:=⟨[0,1,4,5,6,14],25,ZjO,[.cell 2 true 2,.tmp 3],1⟩
def ZrL:Zg :=
 (Ql [Qc] [(1,0)]
 (Ql [Qa 0,Qs YJ [.l 0,Qh 0,Qh 1000000],Qb 1] [(1,2)]
 .ret))
def ZiG:ZK:=⟨[0,2],5,ZrL,[.tmp 1],1⟩
def ZcF:Zg :=
 (Ql [Qf (.box (.t 0)),Qf (.alloc [.int .i64 (0),.int .i64 (0)])] [(1,0),(2,1)]
 (.seq (Ql [Qo 0 1,Qn 1 0] [(3,1)]
 (.block 0 (Ql [Qf (.bin 0 .eql (.t 3) (Qh 2)),Qb 0] [(4,1)]
 (.cond (.t 4) (Ql [Qo 1 1,Qn 1 0,Qf (.build [.int .i64 (0),.int .i64 (0)] [(0,1,(.l 1)),(1,1,(Qh 1))]),Qf (.store 2 (.t 2) (.l 2))] []
 .ret) (Ql [Qf (.bin 0 .eql (.t 3) (Qh 5)),Qb 0] [(5,1)]
 (.cond (.t 5) (Ql [Qo 1 1,Qn 1 0,Qf (.bin 0 .mul (Qh 2) (.l 1)),Qo 1 1,Qn 1 3,Qo 2 1,Qn 1 5,Qf (.bin 0 .sub (.l 4) (.l 6)),Qs Xo [.l 2,.l 7],Qf (.store 2 (.t 2) (.l 8))] []
 .ret) .skip))))))
 (Ql [Qo 1 1,Qn 1 0,Qo 2 1,Qn 1 2,Qs Xo [.l 1,.l 3],Qf (.store 2 (.t 2) (.l 4))] []
 .ret)))
def K3:ZK:=⟨[0,1,2,4,5,10],26,ZcF,[.cell 2 true 2],1⟩
def ZkM:Zg :=
 (Ql [Qe 0,Qc] [(2,0),(3,1)]
 (Ql [Qa 0,Qa 1,Qs Ju [.l 0,.l 1],Qb 2,Qp 0 3,Qp 1 3,Qb 4,Qb 5] [(4,6),(5,7)]
 (Ql [Qa 4,Qa 5,Qb 1,⟨.mv (.t 4),some ((.l 2),true)⟩,⟨.bin 0 .neq (.l 3) (Qh 0),some ((.l 2),true)⟩,Qf (.pick (.l 2) (.l 4) Qi),Qb 0,Qb 5] [(2,6),(3,7)]
 .ret)))
def ZcG:ZK:=⟨[0,1,4,5,6,7],20,ZkM,[.tmp 2,.tmp 3],1⟩
def Zm2:Zg :=
 (Ql [Qc] [(1,0)]
 (Ql [Qa 0,Qs YJ [.l 0,Qh 2,Qh 40],Qb 1] [(1,2)]
 .ret))
def Zed:ZK:=⟨[0,2],5,Zm2,[.tmp 1],1⟩
def ZeH:Zg :=
 (Ql [Qf (.bin 0 .lss (.t 7) (.t 6))] [(8,0)]
 (.seq (.cond (.t 8) .skip (.exit 0))
 (.seq (.block 1 (Ql [Qa 7,Qb 0] [(4,1)]
 (.region [Qa 3,Qf (.bin 0 .mul (Qh 41) (.l 0)),Qa 0,Qa 4,Qf (.indexS (.l 2) (.l 3)),Qf (.conv .i64 (.l 4)),Qf (.bin 0 .add (.l 1) (.l 5)),Qf (.bin 0 .add (.l 6) (Qh 1)),Qf (.bin 0 .rem (.l 7) (Qh 999979)),Qb 8] [(3,9)])))
 (.region [Qf (.bin 0 .add (.t 7) (Qh 1)),Qb 0] [(7,1)]))))
def Zhu:Zg :=
 (Ql [Qe 0,Qc] [(1,0),(2,1)]
 (.seq (Ql [Qa 0,Qf (.lenStr (.l 0)),Qf (.bin 0 .gtr (.l 1) (Qh 4000))] [(5,2)]
 (.cond (.t 5) (Ql [Qe 0,Qc] [(1,0),(2,1)]
 .ret) .skip))
 (Ql [Qe 7] [(3,0)]
 (.seq (Ql [Qa 0,Qf (.lenStr (.l 0)),Qe 0] [(6,1),(7,2)]
 (.block 0 (.loop ZeH)))
 (Ql [Qa 3,Qb 0,Qd] [(1,1),(2,2)]
 .ret)))))
def Zb0:ZK:=⟨[0,2,3,4,5,8,10,11,12],25,Zhu,[.tmp 1,.tmp 2],1⟩
def Zb1:Zg :=
 (.seq (Ql [Qa 3,Qa 0,Qf (.len (.l 1)),Qf (.bin 0 .lss (.l 0) (.l 2))] [(4,3)]
 (.cond (.t 4) .skip (.exit 0)))
 (.seq (.block 1 (.seq (Ql [Qa 3,Qf (.bin 0 .gtr (.l 0) (Qh 0))] [(5,1)]
 (.cond (.t 5) (.region [Qa 2,⟨.bin 1 .add (.l 0) (.c (.str ⟨#[32]⟩)),none⟩,Qb 1] [(2,2)]) .skip))
 (.draw [Qg (.mv (.t 2)),Qg (.mv (.t 0)),Qg (.mv (.t 3)),Qg (.indexAddrS 2 (.l 1) (.l 2)),Qg (.fieldAddr 0 (.l 3)),Qg (.load false 1 (.l 4)),Qg (.mv (.t 0)),Qg (.mv (.t 3)),Qg (.indexAddrS 2 (.l 6) (.l 7)),Qg (.fieldAddr 1 (.l 8)),Qg (.load false 1 (.l 9)),⟨.call (.c (.fn Ym [] [])) [(.l 5)],none,[(10,Qn 1 9)]⟩,Qg (.bin 1 .add (.l 0) (.l 11)),⟨.bin 1 .add (.l 12) (.c (.str ⟨#[58]⟩)),none,[]⟩,Qt Ym [.l 10],Qg (.bin 1 .add (.l 13) (.l 14)),Qg (.mv (.l 15))] [(2,16)])))
 (.region [Qa 3,Qf (.bin 0 .add (.l 0) (Qh 1)),Qb 1] [(3,2)])))
def ZrM:Zg :=
 (Ql [⟨.mv (.c (.str ⟨#[]⟩)),none⟩] [(1,0)]
 (Ql [⟨.mv (.c (.str ⟨#[]⟩)),none⟩] [(2,0)]
 (.seq (Ql [Qe 0] [(3,0)]
 (.block 0 (.loop Zb1)))
 (.seq (Ql [Qa 0,Qf (.len (.l 0)),Qf (.bin 0 .eql (.l 1) (Qh 0))] [(6,2)]
 (.cond (.t 6) (Ql [⟨.mv (.c (.str ⟨#[110,111,110,101]⟩)),none⟩] [(1,0)]
 .ret) .skip))
 (Ql [Qa 2,Qb 0] [(1,1)]
 .ret)))))
def ZcQ:ZK:=⟨[0,2,3,4,8,12,33],35,ZrM,[.tmp 1],1⟩
def ZuC:Zg :=
 (Ql [Qf (.alloc [.int .i64 (0),.int .i64 (0)])] [(2,0)]
 (Ql [Qa 0,Qa 0,Qf (.un .neg (.l 1)),Qs ZcP [.l 0,.l 2],Qa 1,Qs Zkw [.l 3,.l 4],Qb 5] [(3,6)]
 (Qm [Qg (.mv (.t 0)),Qg (.mv (.t 3)),Qg (.bin 0 .quo (.l 0) (.l 1)),Qg (.mv (.t 1)),Qg (.mv (.t 3)),Qg (.bin 0 .quo (.l 3) (.l 4)),Qg (.build [.int .i64 (0),.int .i64 (0)] [(0,1,(.l 2)),(1,1,(.l 5))]),Qg (.store 2 (.t 2) (.l 6))] []
 .ret)))
def ZkN:ZK:=⟨[0,1,4,5],19,ZuC,[.cell 2 true 2],1⟩
def Kj:Zg :=
 (.seq (Ql [Qa 4,Qa 0,Qf (.len (.l 1)),Qf (.bin 0 .lss (.l 0) (.l 2))] [(5,3)]
 (.cond (.t 5) .skip (.exit 0)))
 (.seq (.block 1 (.draw [Qg (.mv (.t 3)),Qg (.mv (.t 0)),Qg (.mv (.t 4)),Qg (.indexAddrS 2 (.l 1) (.l 2)),Qg (.fieldAddr 1 (.l 3)),Qg (.load false 1 (.l 4)),Qg (.mv (.t 0)),Qg (.mv (.t 4)),Qg (.indexAddrS 2 (.l 6) (.l 7)),Qg (.fieldAddr 0 (.l 8)),Qg (.load false 1 (.l 9)),Qg (.mv (.t 1)),Qg (.bin 0 .sub (.l 10) (.l 11)),Qg (.bin 0 .mul (.l 5) (.l 12)),Qg (.bin 0 .add (.l 0) (.l 13)),Qg (.mv (.l 14))] [(3,15)]))
 (.region [Qa 4,Qf (.bin 0 .add (.l 0) (Qh 1)),Qb 1] [(4,2)])))
def Zm3:Zg :=
 (Ql [Qe 0] [(2,0)]
 (Ql [Qe 0] [(3,0)]
 (.seq (Ql [Qe 0] [(4,0)]
 (.block 0 (.loop Kj)))
 (Ql [Qa 3,Qb 0] [(2,1)]
 .ret))))
def Zee:ZK:=⟨[0,1,4,5,6,10],29,Zm3,[.tmp 2],1⟩
def ZkO:Zg :=
 (Ql [Qe 0,Qc] [(2,0),(3,1)]
 (.seq (Ql [Qa 0,Qa 1,Qs QG [.l 0,.l 1],Qf (.un .not (.l 2))] [(5,3)]
 (.cond (.t 5) (Ql [Qe 0,Qc] [(2,0),(3,1)]
 .ret) .skip))
 (Ql [Qa 0,Qs Jj [.l 0],Qf (.alloc [.int .i64 (0),.int .i64 (0)]),Qq 2 2 1] [(4,2)]
 (Ql [Qa 1,Qf (.indexAddrA 2 1 (.t 4) (Qh 1)),Qn 1 1,Qf (.bin 0 .mul (.l 0) (.l 2)),Qf (.indexAddrA 2 1 (.t 4) (Qh 0)),Qn 1 4,Qf (.bin 0 .add (.l 3) (.l 5)),Qf (.bin 0 .sub (.l 6) (Qh 1)),Qf (.indexAddrA 2 1 (.t 4) (Qh 0)),Qn 1 8,Qf (.bin 0 .quo (.l 7) (.l 9)),Qb 10,Qd] [(2,11),(3,12)]
 .ret))))
def ZcH:ZK:=⟨[0,1,4,5,6,10],24,ZkO,[.tmp 2,.tmp 3],1⟩
def ZbM:Zg :=
 (.seq (Ql [Qa 6,Qa 5,Qf (.len (.l 1)),Qf (.bin 0 .lss (.l 0) (.l 2))] [(8,3)]
 (.cond (.t 8) .skip (.exit 2)))
 (.seq (.block 3 (Ql [Qa 0,Qa 1,Qa 5,Qa 6,Qf (.indexAddrS 1 (.l 2) (.l 3)),Qn 1 4,Qs ZeX [.l 0,.l 1,.l 5]] [(9,6)]
 (.cond (.t 9) (.region [Qa 3,Qa 5,Qa 6,Qf (.indexAddrS 1 (.l 1) (.l 2)),Qn 1 3,Qf (.buildSlice 1 1 [.slice none 0 0 none] [(0,1,(.l 4))]),Qf (.append false 1 24 (.l 0) (.l 5)),Qb 6] [(3,7)]) .skip)))
 (.region [Qa 6,Qf (.bin 0 .add (.l 0) (Qh 1)),Qb 1] [(6,2)])))
def ZeI:Zg :=
 (.seq (Ql [Qa 4,Qa 0,Qf (.len (.l 1)),Qf (.bin 0 .leq (.l 0) (.l 2))] [(7,3)]
 (.cond (.t 7) .skip (.exit 0)))
 (.seq (.block 1 (Ql [Qa 0,Qf (.len (.l 0)),Qa 4,Qs Zir [.l 1,.l 2],Qb 3] [(5,4)]
 (Ql [Qe 0] [(6,0)]
 (.block 2 (.loop ZbM)))))
 (.region [Qa 4,Qf (.bin 0 .add (.l 0) (Qh 1)),Qb 1] [(4,2)])))
def Zm4:Zg :=
 (Ql [Qf (.mv (.c (.slice none 0 0 none)))] [(2,0)]
 (Ql [Qf (.buildSlice 1 0 [] []),Qb 0] [(3,1)]
 (.seq (Ql [Qe 0] [(4,0)]
 (.block 0 (.loop ZeI)))
 (Ql [Qa 3,Qb 0] [(2,1)]
 .ret))))
def Zb2:ZK:=⟨[0,1,4,5,6,7,8,13,23,32],41,Zm4,[.tmp 2],0⟩
def Q8:Zg :=
 (.seq (Ql [Qa 3,Qa 0,Qf (.len (.l 1)),Qf (.bin 0 .lss (.l 0) (.l 2))] [(4,3)]
 (.cond (.t 4) .skip (.exit 0)))
 (.seq (.block 1 (Ql [Qa 0,Qa 3,Qf (.indexAddrS 1 (.l 0) (.l 1)),Qn 1 2,Qa 1,Qf (.bin 0 .eql (.l 3) (.l 4))] [(5,5)]
 (.cond (.t 5) (Ql [Qd] [(2,0)]
 .ret) .skip)))
 (.region [Qa 3,Qf (.bin 0 .add (.l 0) (Qh 1)),Qb 1] [(3,2)])))
def ZuD:Zg :=
 (Ql [Qc] [(2,0)]
 (.seq (Ql [Qe 0] [(3,0)]
 (.block 0 (.loop Q8)))
 (Ql [Qc] [(2,0)]
 .ret)))
def ZkP:ZK:=⟨[0,1,4,5,9,17],18,ZuD,[.tmp 2],1⟩
def ZiH:Zg :=
 (Ql [Qf (.box (.t 0)),Qf (.alloc [.int .i64 (0),.int .i64 (0)])] [(1,0),(2,1)]
 (.seq (Ql [Qo 0 1,Qn 1 0] [(3,1)]
 (.block 0 (Ql [Qf (.bin 0 .eql (.t 3) (Qh 2)),Qb 0] [(4,1)]
 (.cond (.t 4) (Ql [Qo 1 1,Qn 1 0,Qf (.build [.int .i64 (0),.int .i64 (0)] [(0,1,(.l 1)),(1,1,(Qh 1))]),Qf (.store 2 (.t 2) (.l 2))] []
 .ret) (Ql [Qf (.bin 0 .eql (.t 3) (Qh 5)),Qb 0] [(5,1)]
 (.cond (.t 5) (Ql [Qo 1 1,Qn 1 0,Qf (.bin 0 .mul (Qh 2) (.l 1)),Qo 1 1,Qn 1 3,Qo 2 1,Qn 1 5,Qf (.bin 0 .sub (.l 4) (.l 6)),Qs ZbT [.l 2,.l 7],Qf (.store 2 (.t 2) (.l 8))] []
 .ret) .skip))))))
 (Ql [Qo 1 1,Qn 1 0,Qo 2 1,Qn 1 2,Qs ZbT [.l 1,.l 3],Qf (.store 2 (.t 2) (.l 4))] []
 .ret)))
def ZcR:ZK:=⟨[0,1,2,4,5,10],26,ZiH,[.cell 2 true 2],1⟩
def YV:Zg :=
 (.seq (Ql [Qa 2,Qa 0,Qf (.len (.l 1)),Qf (.bin 0 .lss (.l 0) (.l 2))] [(3,3)]
 (.cond (.t 3) .skip (.exit 0)))
 (.seq (.block 1 (Qm [Qg (.mv (.t 0)),Qg (.mv (.t 2)),Qg (.indexAddrS 1 (.l 0) (.l 1)),Qg (.load false 1 (.l 2)),Qt YX [.l 3,Qh 1,Qh 99],Qg (.un .not (.l 4)),Qg (.mv (.l 5)),⟨.mv (.t 2),some ((.l 6),false),[]⟩,⟨.bin 0 .gtr (.l 7) (Qh 0),some ((.l 6),false),[]⟩,⟨.mv (.l 8),some ((.l 6),false),[]⟩,⟨.mv (.t 0),some ((.l 9),true),[]⟩,⟨.mv (.t 2),some ((.l 9),true),[]⟩,⟨.bin 0 .sub (.l 11) (Qh 1),some ((.l 9),true),[]⟩,⟨.indexAddrS 1 (.l 10) (.l 12),some ((.l 9),true),[]⟩,⟨.load false 1 (.l 13),some ((.l 9),true),[]⟩,⟨.mv (.t 0),some ((.l 9),true),[]⟩,⟨.mv (.t 2),some ((.l 9),true),[]⟩,⟨.indexAddrS 1 (.l 15) (.l 16),some ((.l 9),true),[]⟩,⟨.load false 1 (.l 17),some ((.l 9),true),[]⟩,⟨.bin 0 .gtr (.l 14) (.l 18),some ((.l 9),true),[]⟩,⟨.pick (.l 9) (.l 19) Qi,some ((.l 6),false),[]⟩,Qg (.pick (.l 6) Qj (.l 20))] [(4,21)]
 (.cond (.t 4) (Ql [Qc] [(1,0)]
 .ret) .skip)))
 (.region [Qa 2,Qf (.bin 0 .add (.l 0) (Qh 1)),Qb 1] [(2,2)])))
def Zo1:Zg :=
 (Ql [Qc] [(1,0)]
 (.seq (Ql [Qe 0] [(2,0)]
 (.block 0 (.loop YV)))
 (Ql [Qa 0,Qf (.len (.l 0)),Qs YX [.l 1,Qh 1,Qh 6],Qb 2] [(1,3)]
 .ret)))
def JC:ZK:=⟨[0,2,3,7,31],35,Zo1,[.tmp 1],1⟩
def Zhv:Zg :=
 (.seq (Ql [Qa 4,Qa 0,Qf (.len (.l 1)),Qf (.bin 0 .lss (.l 0) (.l 2))] [(9,3)]
 (.cond (.t 9) .skip (.exit 0)))
 (.seq (.block 1 (.region [Qa 3,Qa 0,Qa 4,Qf (.indexAddrS 1 (.l 1) (.l 2)),Qn 1 3,Qf (.bin 0 .add (.l 0) (.l 4)),Qb 5] [(3,6)]))
 (.region [Qa 4,Qf (.bin 0 .add (.l 0) (Qh 1)),Qb 1] [(4,2)])))
def Zef:Zg :=
 (.seq (Ql [Qa 8,Qa 5,Qf (.len (.l 1)),Qf (.bin 0 .lss (.l 0) (.l 2))] [(11,3)]
 (.cond (.t 11) .skip (.exit 4)))
 (.seq (.block 5 (Ql [Qa 5,Qa 8,Qf (.indexAddrS 1 (.l 0) (.l 1)),Qn 1 2] [(12,3)]
 (.cond (.t 12) (Ql [Qa 7,Qa 8,Qf (.indexAddrS 1 (.l 0) (.l 1)),Qf (.store 1 (.l 2) Qj)] []
 (Ql [Qa 7,Qa 8,Qa 0,Qa 6,Qf (.indexAddrS 1 (.l 2) (.l 3)),Qn 1 4,Qf (.bin 0 .add (.l 1) (.l 5)),Qa 3,Qf (.bin 0 .mul (Qh 2) (.l 7)),Qs Zc3 [.l 6,.l 8],Qf (.indexAddrS 1 (.l 0) (.l 9)),Qf (.store 1 (.l 10) Qj)] []
 (Ql [Qa 1] [(13,0)]
 (.cond (.t 13) (.region [Qa 7,Qa 8,Qa 0,Qa 6,Qf (.indexAddrS 1 (.l 2) (.l 3)),Qn 1 4,Qf (.bin 0 .sub (.l 1) (.l 5)),Qs ZcP [.l 6,Qh 0],Qf (.indexAddrS 1 (.l 0) (.l 7)),Qf (.store 1 (.l 8) Qj)] []) .skip)))) .skip)))
 (.region [Qa 8,Qf (.bin 0 .add (.l 0) (Qh 1)),Qb 1] [(8,2)])))
def Zhw:Zg :=
 (.seq (Ql [Qa 6,Qa 0,Qf (.len (.l 1)),Qf (.bin 0 .lss (.l 0) (.l 2))] [(10,3)]
 (.cond (.t 10) .skip (.exit 2)))
 (.seq (.block 3 (Ql [Qa 5,Qf (.len (.l 0)),Qf (.makeSlice 1 1 [.bool false] (.l 1) (.l 1)),Qb 2] [(7,3)]
 (.seq (Ql [Qe 0] [(8,0)]
 (.block 4 (.loop Zef)))
 (.region [Qa 7,Qb 0] [(5,1)]))))
 (.region [Qa 6,Qf (.bin 0 .add (.l 0) (Qh 1)),Qb 1] [(6,2)])))
def ZrN:Zg :=
 (Ql [Qf (.mv (.c (.slice none 0 0 none)))] [(2,0)]
 (Ql [Qe 0] [(3,0)]
 (.seq (Ql [Qe 0] [(4,0)]
 (.block 0 (.loop Zhv)))
 (Ql [Qa 3,Qf (.bin 0 .mul (Qh 2) (.l 0)),Qf (.bin 0 .add (.l 1) (Qh 1)),Qf (.makeSlice 1 1 [.bool false] (.l 2) (.l 2)),Qb 3] [(5,4)]
 (Ql [Qa 5,Qa 3,Qf (.indexAddrS 1 (.l 0) (.l 1)),Qf (.store 1 (.l 2) Qj)] []
 (.seq (Ql [Qe 0] [(6,0)]
 (.block 2 (.loop Zhw)))
 (Ql [Qa 5,Qa 3,Qf (.sliceSl 1 (.l 0) (some (.l 1)) none none),Qb 2] [(2,3)]
 .ret)))))))
def ZcS:ZK:=⟨[0,1,4,5,6,7,8,9,10,14,33,42,48,63],77,ZrN,[.tmp 2],2⟩
def ZjP:Zg :=
 (.seq (Ql [Qa 6,Qf (.bin 0 .leq (.l 0) (Qh 1))] [(9,1)]
 (.cond (.t 9) .skip (.exit 4)))
 (.seq (.block 5 (.region [Qa 4,Qa 2,Qa 5,Qf (.indexAddrS 1 (.l 1) (.l 2)),Qn 1 3,Qs Zaw [.l 4],Qa 6,Qf (.buildSlice 1 1 [.int .i64 (0)] [(0,1,(.l 6))]),Qf (.append false 1 8 (.l 5) (.l 7)),Qf (.buildSlice 1 1 [.slice none 0 0 none] [(0,1,(.l 8))]),Qf (.append false 1 24 (.l 0) (.l 9)),Qb 10] [(4,11)]))
 (.region [Qa 6,Qf (.bin 0 .add (.l 0) (Qh 1)),Qb 1] [(6,2)])))
def ZjQ:Zg :=
 (.seq (Ql [Qa 5,Qa 2,Qf (.len (.l 1)),Qf (.bin 0 .lss (.l 0) (.l 2))] [(8,3)]
 (.cond (.t 8) .skip (.exit 2)))
 (.seq (.block 3 (Ql [Qe (-1)] [(6,0)]
 (.block 4 (.loop ZjP))))
 (.region [Qa 5,Qf (.bin 0 .add (.l 0) (Qh 1)),Qb 1] [(5,2)])))
def ZjR:Zg :=
 (.seq (Ql [Qa 3,Qa 0,Qf (.bin 0 .lss (.l 0) (.l 1))] [(7,2)]
 (.cond (.t 7) .skip (.exit 0)))
 (.seq (.block 1 (Ql [Qf (.buildSlice 1 0 [] []),Qb 0] [(4,1)]
 (.seq (Ql [Qe 0] [(5,0)]
 (.block 2 (.loop ZjQ)))
 (.region [Qa 4,Qb 0] [(2,1)]))))
 (.region [Qa 3,Qf (.bin 0 .add (.l 0) (Qh 1)),Qb 1] [(3,2)])))
def ZuE:Zg :=
 (Ql [Qf (.mv (.c (.slice none 0 0 none)))] [(1,0)]
 (Ql [Qf (.buildSlice 1 0 [] []),Qf (.buildSlice 1 1 [.slice none 0 0 none] [(0,1,(.l 0))]),Qb 1] [(2,2)]
 (.seq (Ql [Qe 0] [(3,0)]
 (.block 0 (.loop ZjR)))
 (Ql [Qa 2,Qb 0] [(1,1)]
 .ret))))
def Zhx:ZK:=⟨[0,2,3,4,5,6,7,12,19,23],39,ZuE,[.tmp 1],0⟩
def Zgj:Zg :=
 (.seq (Ql [Qa 6,Qa 0,Qf (.len (.l 1)),Qf (.bin 0 .lss (.l 0) (.l 2))] [(7,3)]
 (.cond (.t 7) .skip (.exit 0)))
 (.seq (.block 1 (Qm [Qg (.mv (.t 4)),Qg (.mv (.t 0)),Qg (.mv (.t 6)),Qg (.indexAddrS 1 (.l 1) (.l 2)),Qg (.load false 1 (.l 3)),Qg (.mv (.t 1)),Qg (.mv (.t 6)),Qg (.indexAddrS 1 (.l 5) (.l 6)),Qg (.load false 1 (.l 7)),Qg (.bin 0 .mul (.l 4) (.l 8)),Qg (.bin 0 .add (.l 0) (.l 9)),Qg (.mv (.l 10))] [(4,11)]
 (.draw [Qg (.mv (.t 5)),Qg (.mv (.t 1)),Qg (.mv (.t 6)),Qg (.indexAddrS 1 (.l 1) (.l 2)),Qg (.load false 1 (.l 3)),Qg (.mv (.t 1)),Qg (.mv (.t 6)),Qg (.indexAddrS 1 (.l 5) (.l 6)),Qg (.load false 1 (.l 7)),Qg (.bin 0 .mul (.l 4) (.l 8)),Qg (.bin 0 .add (.l 0) (.l 9)),Qg (.mv (.l 10))] [(5,11)])))
 (.region [Qa 6,Qf (.bin 0 .add (.l 0) (Qh 1)),Qb 1] [(6,2)])))
def Zo2:Zg :=
 (Ql [Qe 0,Qe 0] [(2,0),(3,1)]
 (Ql [Qe 0,Qe 0] [(4,0),(5,1)]
 (.seq (Ql [Qe 0] [(6,0)]
 (.block 0 (.loop Zgj)))
 (Ql [Qa 4,Qa 5,Qb 0,Qb 1] [(2,2),(3,3)]
 .ret))))
def Zdi:ZK:=⟨[0,1,4,5,6,7,8,12],39,Zo2,[.tmp 2,.tmp 3],1⟩
def Zhy:Zg :=
 (Ql [Qe 0,Qc] [(2,0),(3,1)]
 (.seq (Ql [Qa 0,Qs Jw [.l 0],Qf (.un .not (.l 1)),Qb 2,⟨.mv (.t 1),some ((.l 3),false)⟩,⟨.call (.c (.fn Zax [] [])) [(.l 4)],some ((.l 3),false)⟩,⟨.un .not (.l 5),some ((.l 3),false)⟩,Qf (.pick (.l 3) Qj (.l 6))] [(4,7)]
 (.cond (.t 4) (Ql [Qe 0,Qc] [(2,0),(3,1)]
 .ret) .skip))
 (Ql [Qa 0,Qa 1,Qs YL [.l 0,.l 1],Qb 2,Qd] [(2,3),(3,4)]
 .ret)))
def ZaL:ZK:=⟨[0,1,4,5,13],17,Zhy,[.tmp 2,.tmp 3],1⟩
def Zhz:Zg :=
 (Ql [Qe 0,Qc] [(2,0),(3,1)]
 (.seq (Ql [Qa 0,Qa 1,Qs QG [.l 0,.l 1],Qf (.un .not (.l 2))] [(5,3)]
 (.cond (.t 5) (Ql [Qe 0,Qc] [(2,0),(3,1)]
 .ret) .skip))
 (Ql [Qa 0,Qs Jj [.l 0],Qf (.alloc [.int .i64 (0),.int .i64 (0)]),Qq 2 2 1] [(4,2)]
 (Ql [Qa 1,Qf (.indexAddrA 2 1 (.t 4) (Qh 0)),Qn 1 1,Qf (.bin 0 .mul (.l 0) (.l 2)),Qf (.indexAddrA 2 1 (.t 4) (Qh 1)),Qn 1 4,Qf (.bin 0 .quo (.l 3) (.l 5)),Qb 6,Qd] [(2,7),(3,8)]
 .ret))))
def Zb3:ZK:=⟨[0,1,4,5,6,10],20,Zhz,[.tmp 2,.tmp 3],1⟩
def Zdj:Zg :=
 (.seq (Ql [Qa 5,Qa 0,Qf (.len (.l 1)),Qf (.bin 0 .lss (.l 0) (.l 2))] [(8,3)]
 (.cond (.t 8) .skip (.exit 0)))
 (.seq (.block 1 (Ql [Qa 0,Qa 5,Qf (.bin 0 .add (.l 1) (Qh 1)),Qf (.sliceSl 3 (.l 0) none (some (.l 2)) none),Qs Jj [.l 3],Qf (.alloc [.int .i64 (0),.int .i64 (0)]),Qq 2 5 4] [(6,5)]
 (.region [Qa 4,Qa 1,Qf (.indexAddrA 2 1 (.t 6) (Qh 1)),Qn 1 2,Qf (.bin 0 .mul (.l 1) (.l 3)),Qf (.indexAddrA 2 1 (.t 6) (Qh 0)),Qn 1 5,Qs ZbT [.l 4,.l 6],Qf (.buildSlice 2 1 [.int .i64 (0),.int .i64 (0)] [(0,2,(.l 7))]),Qf (.append false 2 16 (.l 0) (.l 8)),Qb 9] [(4,10)])))
 (.region [Qa 5,Qf (.bin 0 .add (.l 0) (Qh 1)),Qb 1] [(5,2)])))
def Zgk:Zg :=
 (Ql [Qf (.mv (.c (.slice none 0 0 none))),Qc] [(2,0),(3,1)]
 (.seq (Ql [Qa 0,Qa 1,Qs QG [.l 0,.l 1],Qf (.un .not (.l 2))] [(7,3)]
 (.cond (.t 7) (Ql [Qf (.buildSlice 2 0 [] []),Qb 0,Qc] [(2,1),(3,2)]
 .ret) .skip))
 (Ql [Qa 1,Qf (.build [.int .i64 (0),.int .i64 (0)] [(0,1,(.l 0)),(1,1,(Qh 1))]),Qf (.buildSlice 2 1 [.int .i64 (0),.int .i64 (0)] [(0,2,(.l 1))]),Qb 2] [(4,3)]
 (.seq (Ql [Qe 0] [(5,0)]
 (.block 0 (.loop Zdj)))
 (Ql [Qa 4,Qb 0,Qd] [(2,1),(3,2)]
 .ret)))))
def K4:ZK:=⟨[0,1,4,5,6,7,8,12,20],39,Zgk,[.tmp 2,.tmp 3],2⟩
def Zgl:Zg :=
 (Ql [Qe 0,Qc] [(2,0),(3,1)]
 (.seq (Ql [Qa 0,Qs Jw [.l 0],Qf (.un .not (.l 1)),Qb 2,⟨.mv (.t 1),some ((.l 3),false)⟩,⟨.call (.c (.fn Zax [] [])) [(.l 4)],some ((.l 3),false)⟩,⟨.un .not (.l 5),some ((.l 3),false)⟩,Qf (.pick (.l 3) Qj (.l 6))] [(4,7)]
 (.cond (.t 4) (Ql [Qe 0,Qc] [(2,0),(3,1)]
 .ret) .skip))
 (Ql [Qa 0,Qa 1,Qs ZbU [.l 0,.l 1],Qf (.len (.l 2)),Qb 3,Qd] [(2,4),(3,5)]
 .ret)))
def K5:ZK:=⟨[0,1,4,5,13],18,Zgl,[.tmp 2,.tmp 3],1⟩
def ZaM:Zg :=
 (.seq (Ql [Qa 5,Qa 0,Qf (.len (.l 1)),Qf (.bin 0 .lss (.l 0) (.l 2))] [(9,3)]
 (.cond (.t 9) .skip (.exit 0)))
 (.seq (.block 1 (Ql [Qa 0,Qa 1,Qs YL [.l 0,.l 1],Qb 2] [(6,3)]
 (.seq (Ql [Qa 6,Qa 0,Qa 5,Qf (.indexAddrS 2 (.l 1) (.l 2)),Qf (.fieldAddr 1 (.l 3)),Qn 1 4,Qf (.bin 0 .rem (.l 0) (.l 5)),Qf (.bin 0 .neq (.l 6) (Qh 0))] [(10,7)]
 (.cond (.t 10) (.exit 1) .skip))
 (Qm [Qg (.mv (.t 0)),Qg (.mv (.t 5)),Qg (.indexAddrS 2 (.l 0) (.l 1)),Qg (.fieldAddr 0 (.l 2)),Qg (.load false 1 (.l 3)),Qg (.mv (.t 6)),Qg (.mv (.t 0)),Qg (.mv (.t 5)),Qg (.indexAddrS 2 (.l 6) (.l 7)),Qg (.fieldAddr 1 (.l 8)),Qg (.load false 1 (.l 9)),Qg (.bin 0 .quo (.l 5) (.l 10)),Qg (.bin 0 .sub (.l 4) (.l 11)),Qg (.mv (.l 12))] [(7,13)]
 (Ql [Qa 7,Qs Zax [.l 0]] [(11,1)]
 (.cond (.t 11) (Ql [Qa 5,Qa 7,Qb 0,Qb 1,Qd] [(2,2),(3,3),(4,4)]
 .ret) .skip))))))
 (.region [Qa 5,Qf (.bin 0 .add (.l 0) (Qh 1)),Qb 1] [(5,2)])))
def Zgm:Zg :=
 (Ql [Qe 0,Qe 0,Qc] [(2,0),(3,1),(4,2)]
 (.seq (Ql [Qa 0,Qs Jw [.l 0],Qf (.un .not (.l 1)),Qb 2,⟨.mv (.t 1),some ((.l 3),false)⟩,⟨.call (.c (.fn Zax [] [])) [(.l 4)],some ((.l 3),false)⟩,⟨.un .not (.l 5),some ((.l 3),false)⟩,Qf (.pick (.l 3) Qj (.l 6)),Qb 7,⟨.mv (.t 0),some ((.l 8),false)⟩,⟨.mv (.t 1),some ((.l 8),false)⟩,⟨.call (.c (.fn YL [] [])) [(.l 9),(.l 10)],some ((.l 8),false)⟩,⟨.bin 0 .eql (.l 11) (Qh 0),some ((.l 8),false)⟩,Qf (.pick (.l 8) Qj (.l 12))] [(8,13)]
 (.cond (.t 8) (Ql [Qe 0,Qe 0,Qc] [(2,0),(3,1),(4,2)]
 .ret) .skip))
 (.seq (Ql [Qe 0] [(5,0)]
 (.block 0 (.loop ZaM)))
 (Ql [Qe 0,Qe 0,Qc] [(2,0),(3,1),(4,2)]
 .ret))))
def KK:ZK:=⟨[0,1,4,5,6,7,8,9,23,27,40,55],58,Zgm,[.tmp 2,.tmp 3,.tmp 4],1⟩
def Q9:Zg :=
 (Ql [Qe 0,Qc] [(1,0),(2,1)]
 (.seq (Ql [Qa 0,Qs ZfV [.l 0],Qf (.un .not (.l 1))] [(3,2)]
 (.cond (.t 3) (Ql [Qe 0,Qc] [(1,0),(2,1)]
 .ret) .skip))
 (Ql [Qa 0,Qs ZdX [.l 0],Qb 1,Qd] [(1,2),(2,3)]
 .ret)))
def XC:ZK:=⟨[0,2,3,6],9,Q9,[.tmp 1,.tmp 2],1⟩
def ZjS:Zg :=
 (.seq (Ql [Qa 3,Qa 0,Qf (.lenStr (.l 1)),Qf (.bin 0 .lss (.l 0) (.l 2))] [(4,3)]
 (.cond (.t 4) .skip (.exit 0)))
 (.seq (.block 1 (.region [Qa 2,Qf (.bin 0 .mul (Qh 41) (.l 0)),Qa 0,Qa 3,Qf (.indexS (.l 2) (.l 3)),Qf (.conv .i64 (.l 4)),Qf (.bin 0 .add (.l 1) (.l 5)),Qf (.bin 0 .add (.l 6) (Qh 1)),Qf (.bin 0 .rem (.l 7) (Qh 999979)),Qb 8] [(2,9)]))
 (.region [Qa 3,Qf (.bin 0 .add (.l 0) (Qh 1)),Qb 1] [(3,2)])))
def ZuF:Zg :=
 (Ql [Qe 0] [(1,0)]
 (Ql [Qe 7] [(2,0)]
 (.seq (Ql [Qe 0] [(3,0)]
 (.block 0 (.loop ZjS)))
 (Ql [Qa 2,Qb 0] [(1,1)]
 .ret))))
def ZkQ:ZK:=⟨[0,2,3,4,8],21,ZuF,[.tmp 1],1⟩
def XN:Zg :=
 (Ql [⟨.mv (.c (.str ⟨#[]⟩)),none⟩,⟨.mv (.c (.str ⟨#[]⟩)),none⟩,Qc] [(2,0),(3,1),(4,2)]
 (.seq (Ql [Qa 0,Qa 1,Qs Yt [.l 0,.l 1],Qb 2] [(5,3)]
 (Ql [Qa 5,Qf (.bin 0 .geq (.l 0) (Qh 0))] [(6,1)]
 (.cond (.t 6) (Qm [Qg (.mv (.t 0)),Qg (.mv (.t 5)),Qg (.sliceStr (.l 0) none (some (.l 1))),Qg (.mv (.t 0)),Qg (.mv (.t 5)),Qg (.mv (.t 1)),Qg (.lenStr (.l 5)),Qg (.bin 0 .add (.l 4) (.l 6)),Qg (.sliceStr (.l 3) (some (.l 7)) none),Qg (.mv (.l 2)),Qg (.mv (.l 8)),Qg (.mv Qj)] [(2,9),(3,10),(4,11)]
 .ret) .skip)))
 (Ql [Qa 0,Qb 0,⟨.mv (.c (.str ⟨#[]⟩)),none⟩,Qc] [(2,1),(3,2),(4,3)]
 .ret)))
def Yh:ZK:=⟨[0,1,4,5,6,7,12],23,XN,[.tmp 2,.tmp 3,.tmp 4],1⟩
def Kt:Zg :=
 (Ql [⟨.mv (.c (.str ⟨#[]⟩)),none⟩,Qc] [(1,0),(2,1)]
 (Ql [Qa 0,⟨.call (.c (.fn JS [] [])) [(.l 0),(.c (.str ⟨#[35]⟩))],none⟩,Qb 1,Qp 0 2,Qp 1 2,Qp 2 2,Qb 3,Qb 4,Qb 5] [(3,6)]
 (.seq (Ql [Qa 3,Qs XY [.l 0],Qb 1,Qp 0 2,Qp 1 2,Qb 3,Qb 4] [(4,5),(5,6)]
 (Ql [Qa 5,Qf (.un .not (.l 0)),Qb 1,⟨.mv (.t 4),some ((.l 2),false)⟩,⟨.mv (.t 0),some ((.l 2),false)⟩,⟨.bin 1 .neq (.l 3) (.l 4),some ((.l 2),false)⟩,Qf (.pick (.l 2) Qj (.l 5))] [(6,6)]
 (.cond (.t 6) (Ql [⟨.mv (.c (.str ⟨#[]⟩)),none⟩,Qc] [(1,0),(2,1)]
 .ret) .skip)))
 (Ql [Qa 3,Qb 0,Qd] [(1,1),(2,2)]
 .ret))))
def Y8:ZK:=⟨[0,2,3,4,7,8,26],28,Kt,[.tmp 1,.tmp 2],1⟩
def K6:Zg :=
 (.seq (Ql [Qa 1,Qf (.bin 0 .gtr (.l 0) (Qh 0))] [(3,1)]
 (.cond (.t 3) .skip (.exit 0)))
 (.block 1 (.draw [Qg (.mv (.t 1)),Qg (.mv (.t 0)),Qg (.mv (.t 1)),Qg (.bin 0 .rem (.l 1) (.l 2)),Qg (.mv (.l 0)),Qg (.mv (.l 3))] [(0,4),(1,5)])))
def Zo3:Zg :=
 (Ql [Qe 0] [(2,0)]
 (.seq (.block 0 (.loop K6))
 (Ql [Qa 0,Qb 0] [(2,1)]
 .ret)))
def Zgn:ZK:=⟨[0,1,4,6],12,Zo3,[.tmp 2],1⟩
def Zo4:Zg :=
 (Ql [Qf (.alloc [.int .i64 (0),.int .i64 (0)]),Qc] [(2,0),(3,1)]
 (.seq (Ql [Qa 0,Qs YR [.l 0],Qf (.un .not (.l 1)),Qb 2,⟨.mv (.t 1),some ((.l 3),false)⟩,⟨.call (.c (.fn Zah [] [])) [(.l 4)],some ((.l 3),false)⟩,⟨.un .not (.l 5),some ((.l 3),false)⟩,Qf (.pick (.l 3) Qj (.l 6))] [(5,7)]
 (.cond (.t 5) (Ql [Qf (.build [.int .i64 (0),.int .i64 (0)] []),Qf (.store 2 (.t 2) (.l 0)),Qc] [(3,2)]
 .ret) .skip))
 (Ql [Qa 0,Qs XZ [.l 0],Qf (.alloc [.int .i64 (0),.int .i64 (0)]),Qq 2 2 1] [(4,2)]
 (Ql [Qa 1,Qf (.indexAddrA 2 1 (.t 4) (Qh 1)),Qn 1 1,Qf (.bin 0 .mul (.l 0) (.l 2)),Qf (.indexAddrA 2 1 (.t 4) (Qh 0)),Qn 1 4,Qs Xo [.l 3,.l 5],Qf (.store 2 (.t 2) (.l 6)),Qd] [(3,8)]
 .ret))))
def Zgo:ZK:=⟨[0,1,4,5,6,14],25,Zo4,[.cell 2 true 2,.tmp 3],1⟩
def Zbq:Zg :=
 (.seq (Ql [Qa 1,Qf (.bin 0 .gtr (.l 0) (Qh 0))] [(3,1)]
 (.cond (.t 3) .skip (.exit 0)))
 (.block 1 (.draw [Qg (.mv (.t 1)),Qg (.mv (.t 0)),Qg (.mv (.t 1)),Qg (.bin 0 .rem (.l 1) (.l 2)),Qg (.mv (.l 0)),Qg (.mv (.l 3))] [(0,4),(1,5)])))
def ZuG:Zg :=
 (Ql [Qe 0] [(2,0)]
 (.seq (.block 0 (.loop Zbq))
 (Ql [Qa 0,Qb 0] [(2,1)]
 .ret)))
def ZkR:ZK:=⟨[0,1,4,6],12,ZuG,[.tmp 2],1⟩
def Zo5:Zg :=
 (Ql [Qc] [(2,0)]
 (Ql [Qa 0,Qs JJ [.l 0,Qh 5],Qb 1,⟨.mv (.t 1),some ((.l 2),true)⟩,⟨.call (.c (.fn YX [] [])) [(.l 3),(Qh 0),(Qh 1000000)],some ((.l 2),true)⟩,Qf (.pick (.l 2) (.l 4) Qi),Qb 5] [(2,6)]
 .ret))
def ZhA:ZK:=⟨[0,1,4],11,Zo5,[.tmp 2],1⟩
def Zeg:Zg :=
 (.seq (Ql [Qa 8,Qa 0,Qf (.bin 0 .lss (.l 0) (.l 1))] [(12,2)]
 (.cond (.t 12) .skip (.exit 4)))
 (.seq (.block 5 (.region [Qa 5,Qa 3,Qa 6,Qf (.indexAddrS 1 (.l 1) (.l 2)),Qn 1 3,Qs Zaw [.l 4],Qa 8,Qf (.buildSlice 1 1 [.int .i64 (0)] [(0,1,(.l 6))]),Qf (.append false 1 8 (.l 5) (.l 7)),Qf (.buildSlice 1 1 [.slice none 0 0 none] [(0,1,(.l 8))]),Qf (.append false 1 24 (.l 0) (.l 9)),Qb 10] [(5,11)]))
 (.region [Qa 8,Qf (.bin 0 .add (.l 0) (Qh 1)),Qb 1] [(8,2)])))
def Zeh:Zg :=
 (.seq (Ql [Qa 6,Qa 3,Qf (.len (.l 1)),Qf (.bin 0 .lss (.l 0) (.l 2))] [(10,3)]
 (.cond (.t 10) .skip (.exit 2)))
 (.seq (.block 3 (Ql [Qe 0] [(7,0)]
 (.seq (Ql [Qa 4,Qf (.bin 0 .gtr (.l 0) (Qh 0))] [(11,1)]
 (.cond (.t 11) (.region [Qa 3,Qa 6,Qf (.indexAddrS 1 (.l 0) (.l 1)),Qn 1 2,Qa 4,Qf (.bin 0 .sub (.l 4) (Qh 1)),Qf (.indexAddrS 1 (.l 3) (.l 5)),Qn 1 6,Qf (.bin 0 .add (.l 7) (Qh 1)),Qb 8] [(7,9)]) .skip))
 (Ql [Qa 7,Qb 0] [(8,1)]
 (.block 4 (.loop Zeg))))))
 (.region [Qa 6,Qf (.bin 0 .add (.l 0) (Qh 1)),Qb 1] [(6,2)])))
def ZhB:Zg :=
 (.seq (Ql [Qa 4,Qa 1,Qf (.bin 0 .lss (.l 0) (.l 1))] [(9,2)]
 (.cond (.t 9) .skip (.exit 0)))
 (.seq (.block 1 (Ql [Qf (.buildSlice 1 0 [] []),Qb 0] [(5,1)]
 (.seq (Ql [Qe 0] [(6,0)]
 (.block 2 (.loop Zeh)))
 (.region [Qa 5,Qb 0] [(3,1)]))))
 (.region [Qa 4,Qf (.bin 0 .add (.l 0) (Qh 1)),Qb 1] [(4,2)])))
def ZrO:Zg :=
 (Ql [Qf (.mv (.c (.slice none 0 0 none)))] [(2,0)]
 (Ql [Qf (.buildSlice 1 0 [] []),Qf (.buildSlice 1 1 [.slice none 0 0 none] [(0,1,(.l 0))]),Qb 1] [(3,2)]
 (.seq (Ql [Qe 0] [(4,0)]
 (.block 0 (.loop ZhB)))
 (Ql [Qa 3,Qb 0] [(2,1)]
 .ret))))
def Ze4:ZK:=⟨[0,1,4,5,6,7,8,9,10,15,22,26,39],55,ZrO,[.tmp 2],0⟩
def ZhC:Zg :=
 (.seq (Ql [Qa 5,Qa 2,Qf (.len (.l 1)),Qf (.bin 0 .lss (.l 0) (.l 2))] [(6,3)]
 (.cond (.t 6) .skip (.exit 0)))
 (.seq (.block 1 (.draw [Qg (.mv (.t 4)),Qg (.mv (.t 0)),Qg (.mv (.t 2)),Qg (.mv (.t 5)),Qg (.indexAddrS 1 (.l 2) (.l 3)),Qg (.load false 1 (.l 4)),Qg (.indexAddrS 2 (.l 1) (.l 5)),Qg (.fieldAddr 1 (.l 6)),Qg (.load false 1 (.l 7)),Qg (.mv (.t 0)),Qg (.mv (.t 2)),Qg (.mv (.t 5)),Qg (.indexAddrS 1 (.l 10) (.l 11)),Qg (.load false 1 (.l 12)),Qg (.indexAddrS 2 (.l 9) (.l 13)),Qg (.fieldAddr 0 (.l 14)),Qg (.load false 1 (.l 15)),Qg (.mv (.t 1)),Qg (.bin 0 .sub (.l 16) (.l 17)),Qg (.bin 0 .mul (.l 8) (.l 18)),Qg (.bin 0 .add (.l 0) (.l 19)),Qg (.mv (.l 20))] [(4,21)]))
 (.region [Qa 5,Qf (.bin 0 .add (.l 0) (Qh 1)),Qb 1] [(5,2)])))
def ZrP:Zg :=
 (Ql [Qc] [(3,0)]
 (Ql [Qe 0] [(4,0)]
 (.seq (Ql [Qe 0] [(5,0)]
 (.block 0 (.loop ZhC)))
 (Ql [Qa 4,Qf (.bin 0 .eql (.l 0) (Qh 0)),Qb 1] [(3,2)]
 .ret))))
def Ze5:ZK:=⟨[0,1,2,6,7,8,12],38,ZrP,[.tmp 3],1⟩
def Zo6:Zg :=
 (Ql [Qc] [(1,0)]
 (Ql [Qa 0,Qs YX [.l 0,Qh 2,Qh 40],Qb 1] [(1,2)]
 .ret))
def Zgp:ZK:=⟨[0,2],5,Zo6,[.tmp 1],1⟩
def ZeJ:Zg :=
 (.seq (Ql [Qa 3,Qa 0,Qf (.bin 0 .lss (.l 0) (.l 1))] [(4,2)]
 (.cond (.t 4) .skip (.exit 0)))
 (.block 1 (Ql [Qa 3,Qf (.bin 0 .mul (Qh 3) (.l 0)),Qb 1] [(3,2)]
 (.region [Qa 2,Qf (.bin 0 .add (.l 0) (Qh 1)),Qb 1] [(2,2)]))))
def Zm5:Zg :=
 (Ql [Qe 0] [(1,0)]
 (Ql [Qe 0,Qe 1] [(2,0),(3,1)]
 (.seq (.block 0 (.loop ZeJ))
 (Ql [Qa 2,Qb 0] [(1,1)]
 .ret))))
def Zb4:ZK:=⟨[0,2,3,4,7],13,Zm5,[.tmp 1],1⟩
def tab:List (FuncId×ZK) :=
 [(Qu,YK),(Jg,QH),(Jh,QI),(Yx,YC),(Yy,YD),(XV,Kr),(XW,Ks),(ZbA,Kd),(Zar,YZ),(Zas,Y0),(Zfz,Zbi),(Ju,ZaE),(Zcp,KW),(ZbB,Xp),(ZcY,Zbj),(Zkt,ZeY),(Zba,ZfZ),(Zhg,ZkA),(ZfA,Zf0),(XA,Zf1),(YQ,KA),(KQ,Zcx),(Xb,Q0),(Zbb,Zis),(Xu,Yp),(KR,Zo),(QQ,Xc),(KS,X2),(ZfB,Zc8),(QR,Xd),(QA,QJ),(Kx,KB),(QB,Jl),(Zbc,KC),(Jv,Zhk),(Yl,KD),(Ji,Zf2),(Y3,ZaF),(QD,Ke),(Ky,Zd0),(ZfC,Zf3),(ZdK,ZbW),(ZfD,Zf4),(ZdL,Zd1),(ZcZ,Zf5),(ZbR,Zd2),(ZeS,Zit),(YR,Zf6),(YJ,Ziu),(Yn,Yo),(Yb,Yc),(ZnY,ZkC),(JJ,Zd3),(YX,ZnZ),(Ym,Ze0),(ZeT,Ziv),(ZdM,JL),(Zig,Ziw),(KT,Yq),(ZZ,ZbG),(ZdN,KE),(XX,Zaj),(QE,Jm),(Zcq,Zcz),(QS,QT),(J2,XS),(ZbS,Zd5),(ZdO,Zd6),(ZfE,Zf7),(ZfF,Q1),(ZfG,KF),(ZfH,Q2),(ZeU,Zix),(Zc0,Zf8),(Kp,YE),(YN,Yg),(Zhh,Zda),(Zcr,JU),(ZU,ZV),(Zc1,Zf9),(Kz,Zd8),(ZJ,Zbm),(Zih,Ziy),(ZfI,Zga),(Zii,Ziz),(ZfJ,Zgb),(ZfK,JV),(Jw,ZkF),(Zij,ZiA),(ZfL,JW),(Xv,Jy),(XP,QV),(Zcs,ZcB),(Zc2,Zgc),(Zau,Jz),(ZfM,Zdb),(KU,JX),(XQ,Xe),(Zbd,Ze2),(YA,Xl),(ZdP,Zea),(ZdQ,ZbX),(ZfN,Zdc),(ZdR,ZbY),(Zav,K0),(ZfO,Q5),(JR,YT),(XY,YF),(ZfP,Zgf),(JK,Zeb),(Zbe,Zde),(ZdS,ZbZ),(Zbf,ZiB),(KV,ZiC),(ZfQ,Zdf),(XB,KH),(ZbD,Xt),(Zik,YU),(Zaw,ZkH),(Jj,Zbn),(ZdT,KI),(QF,Jp),(Zil,ZiD),(Zim,ZiE),(JS,ZcC),(Zin,Zbo),(Xk,Xm),(Zio,K1),(ZfR,JZ),(ZcP,ZiF),(Zc3,Zdg),(Z4,Z5),(Jk,Zgg),(Zax,Zn0),(ZeV,ZkJ),(Zbg,Zgh),(XZ,ZcD),(Zay,K2),(YB,Z9),(Xo,Zec),(Zct,ZcE),(Zc4,Zdh),(Zah,ZiG),(Zaz,K3),(ZaA,ZcG),(ZdU,Zed),(ZdV,Zb0),(Zip,ZcQ),(ZbT,ZkN),(YL,Zee),(Zcu,ZcH),(ZbU,Zb2),(Zhi,ZkP),(Ziq,ZcR),(ZaB,JC),(ZeW,ZcS),(Zku,Zhx),(Zbh,Zdi),(ZaC,ZaL),(ZdW,Zb3),(ZaD,K4),(Zcv,K5),(ZfS,KK),(JT,XC),(Zkv,ZkQ),(YO,Yh),(Kq,Y8),(ZfT,Zgn),(ZfU,Zgo),(Zkw,ZkR),(QG,ZhA),(Zir,Ze4),(ZeX,Ze5),(ZfV,Zgp),(ZdX,Zb4)]
def T:Zhf:=fun f=>tab.lookup f
theorem ZiZ:T Qu=some YK:=rfl
theorem Zje:T Jg=some QH:=rfl
theorem Zjf:T Jh=some QI:=rfl
theorem ZkS:T Yx=some YC:=rfl
theorem ZkT:T Yy=some YD:=rfl
theorem ZkU:T XV=some Kr:=rfl
theorem ZkV:T XW=some Ks:=rfl
theorem Zjg:T ZbA=some Kd:=rfl
theorem ZsI:T Zar=some YZ:=rfl
theorem ZsJ:T Zas=some Y0:=rfl
theorem ZxI:T Zfz=some Zbi:=rfl
theorem Zo7:T Ju=some ZaE:=rfl
theorem ZsK:T Zcp=some KW:=rfl
theorem Zqy:T ZbB=some Xp:=rfl
theorem ZxJ:T ZcY=some Zbj:=rfl
theorem ZDE:T Zkt=some ZeY:=rfl
theorem ZxK:T Zba=some ZfZ:=rfl
theorem ZDF:T Zhg=some ZkA:=rfl
theorem ZxL:T ZfA=some Zf0:=rfl
theorem ZxM:T XA=some Zf1:=rfl
theorem ZxN:T YQ=some KA:=rfl
theorem ZsL:T KQ=some Zcx:=rfl
theorem ZxO:T Xb=some Q0:=rfl
theorem ZA0:T Zbb=some Zis:=rfl
theorem Zl4:T Xu=some Yp:=rfl
theorem Zl5:T KR=some Zo:=rfl
theorem Zns:T QQ=some Xc:=rfl
theorem ZsM:T KS=some X2:=rfl
theorem ZxP:T ZfB=some Zc8:=rfl
theorem Znt:T QR=some Xd:=rfl
theorem Zqz:T QA=some QJ:=rfl
theorem ZuH:T Kx=some KB:=rfl
theorem Zjh:T QB=some Jl:=rfl
theorem ZxQ:T Zbc=some KC:=rfl
theorem ZDG:T Jv=some Zhk:=rfl
theorem Zo8:T Yl=some KD:=rfl
theorem ZxR:T Ji=some Zf2:=rfl
theorem Zo9:T Y3=some ZaF:=rfl
theorem ZqA:T QD=some Ke:=rfl
theorem ZuI:T Ky=some Zd0:=rfl
theorem ZxS:T ZfC=some Zf3:=rfl
theorem ZuJ:T ZdK=some ZbW:=rfl
theorem ZxT:T ZfD=some Zf4:=rfl
theorem ZuK:T ZdL=some Zd1:=rfl
theorem ZxU:T ZcZ=some Zf5:=rfl
theorem ZuL:T ZbR=some Zd2:=rfl
theorem ZA1:T ZeS=some Zit:=rfl
theorem ZxV:T YR=some Zf6:=rfl
theorem ZA2:T YJ=some Ziu:=rfl
theorem Zcg:T Yn=some Yo:=rfl
theorem Zbr:T Yb=some Yc:=rfl
theorem ZGp:T ZnY=some ZkC:=rfl
theorem ZuM:T JJ=some Zd3:=rfl
theorem ZGq:T YX=some ZnZ:=rfl
theorem Zpa:T Ym=some Ze0:=rfl
theorem ZA3:T ZeT=some Ziv:=rfl
theorem ZuN:T ZdM=some JL:=rfl
theorem ZA4:T Zig=some Ziw:=rfl
theorem Zl6:T KT=some Yq:=rfl
theorem ZqB:T ZZ=some ZbG:=rfl
theorem ZuO:T ZdN=some KE:=rfl
theorem Zm6:T XX=some Zaj:=rfl
theorem Zji:T QE=some Jm:=rfl
theorem ZsN:T Zcq=some Zcz:=rfl
theorem Znu:T QS=some QT:=rfl
theorem Znv:T J2=some XS:=rfl
theorem ZuP:T ZbS=some Zd5:=rfl
theorem ZuQ:T ZdO=some Zd6:=rfl
theorem ZxW:T ZfE=some Zf7:=rfl
theorem ZxX:T ZfF=some Q1:=rfl
theorem ZxY:T ZfG=some KF:=rfl
theorem ZxZ:T ZfH=some Q2:=rfl
theorem ZA5:T ZeU=some Zix:=rfl
theorem Zx0:T Zc0=some Zf8:=rfl
theorem ZkW:T Kp=some YE:=rfl
theorem ZdB:T YN=some Yg:=rfl
theorem ZDH:T Zhh=some Zda:=rfl
theorem ZsO:T Zcr=some JU:=rfl
theorem QL:T ZU=some ZV:=rfl
theorem Zx1:T Zc1=some Zf9:=rfl
theorem ZuR:T Kz=some Zd8:=rfl
theorem ZA6:T ZJ=some Zbm:=rfl
theorem ZA7:T Zih=some Ziy:=rfl
theorem Zx2:T ZfI=some Zga:=rfl
theorem ZA8:T Zii=some Ziz:=rfl
theorem Zx3:T ZfJ=some Zgb:=rfl
theorem Zx4:T ZfK=some JV:=rfl
theorem ZDI:T Jw=some ZkF:=rfl
theorem ZA9:T Zij=some ZiA:=rfl
theorem Zx5:T ZfL=some JW:=rfl
theorem ZBa:T Xv=some Jy:=rfl
theorem Znw:T XP=some QV:=rfl
theorem ZsP:T Zcs=some ZcB:=rfl
theorem Zx6:T Zc2=some Zgc:=rfl
theorem ZuS:T Zau=some Jz:=rfl
theorem Zx7:T ZfM=some Zdb:=rfl
theorem ZkX:T KU=some JX:=rfl
theorem Znx:T XQ=some Xe:=rfl
theorem ZBb:T Zbd=some Ze2:=rfl
theorem Zgq:T YA=some Xl:=rfl
theorem ZuT:T ZdP=some Zea:=rfl
theorem ZuU:T ZdQ=some ZbX:=rfl
theorem Zx8:T ZfN=some Zdc:=rfl
theorem Zm7:T ZdR=some ZbY:=rfl
theorem ZkY:T Zav=some K0:=rfl
theorem Zpb:T ZfO=some Q5:=rfl
theorem ZjT:T JR=some YT:=rfl
theorem ZkZ:T XY=some YF:=rfl
theorem Zx9:T ZfP=some Zgf:=rfl
theorem ZuV:T JK=some Zeb:=rfl
theorem Zya:T Zbe=some Zde:=rfl
theorem ZuW:T ZdS=some ZbZ:=rfl
theorem ZBc:T Zbf=some ZiB:=rfl
theorem ZBd:T KV=some ZiC:=rfl
theorem Zyb:T ZfQ=some Zdf:=rfl
theorem Zpc:T XB=some KH:=rfl
theorem ZqC:T ZbD=some Xt:=rfl
theorem ZBe:T Zik=some YU:=rfl
theorem ZDJ:T Zaw=some ZkH:=rfl
theorem Zpd:T Jj=some Zbn:=rfl
theorem ZuX:T ZdT=some KI:=rfl
theorem Zjj:T QF=some Jp:=rfl
theorem ZBf:T Zil=some ZiD:=rfl
theorem ZBg:T Zim=some ZiE:=rfl
theorem ZsQ:T JS=some ZcC:=rfl
theorem ZBh:T Zin=some Zbo:=rfl
theorem Zgr:T Xk=some Xm:=rfl
theorem ZBi:T Zio=some K1:=rfl
theorem Zyc:T ZfR=some JZ:=rfl
theorem ZBj:T ZcP=some ZiF:=rfl
theorem Zyd:T Zc3=some Zdg:=rfl
theorem ZaN:T Z4=some Z5:=rfl
theorem Zye:T Jk=some Zgg:=rfl
theorem ZGr:T Zax=some Zn0:=rfl
theorem ZDK:T ZeV=some ZkJ:=rfl
theorem Zyf:T Zbg=some Zgh:=rfl
theorem ZsR:T XZ=some ZcD:=rfl
theorem ZsS:T Zay=some K2:=rfl
theorem ZaO:T YB=some Z9:=rfl
theorem ZuY:T Xo=some Zec:=rfl
theorem ZsT:T Zct=some ZcE:=rfl
theorem Zpe:T Zc4=some Zdh:=rfl
theorem ZBk:T Zah=some ZiG:=rfl
theorem ZsU:T Zaz=some K3:=rfl
theorem ZsV:T ZaA=some ZcG:=rfl
theorem ZuZ:T ZdU=some Zed:=rfl
theorem Zm8:T ZdV=some Zb0:=rfl
theorem ZBl:T Zip=some ZcQ:=rfl
theorem ZDL:T ZbT=some ZkN:=rfl
theorem Zu0:T YL=some Zee:=rfl
theorem ZsW:T Zcu=some ZcH:=rfl
theorem Zu1:T ZbU=some Zb2:=rfl
theorem ZDM:T Zhi=some ZkP:=rfl
theorem ZBm:T Ziq=some ZcR:=rfl
theorem Zu2:T ZaB=some JC:=rfl
theorem ZBn:T ZeW=some ZcS:=rfl
theorem ZDN:T Zku=some Zhx:=rfl
theorem Zyg:T Zbh=some Zdi:=rfl
theorem Zpf:T ZaC=some ZaL:=rfl
theorem Zu3:T ZdW=some Zb3:=rfl
theorem Zk0:T ZaD=some K4:=rfl
theorem ZsX:T Zcv=some K5:=rfl
theorem Zyh:T ZfS=some KK:=rfl
theorem Zdk:T JT=some XC:=rfl
theorem ZDO:T Zkv=some ZkQ:=rfl
theorem ZdC:T YO=some Yh:=rfl
theorem Zk1:T Kq=some Y8:=rfl
theorem Zyi:T ZfT=some Zgn:=rfl
theorem Zyj:T ZfU=some Zgo:=rfl
theorem ZDP:T Zkw=some ZkR:=rfl
theorem Zu4:T QG=some ZhA:=rfl
theorem ZBo:T Zir=some Ze4:=rfl
theorem ZBp:T ZeX=some Ze5:=rfl
theorem Zyk:T ZfV=some Zgp:=rfl
theorem Zu5:T ZdX=some Zb4:=rfl
end Go.Proofs.YtemcdiajejekoaaGreatDoor.Slim
