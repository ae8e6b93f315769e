/- Parts of the proof. -/
import Derived.Test.YtemcdiajejekoaaGreatDoorSlimZw9
import Derived.Shelf.Strings.Builder1
import Derived.Shelf.Strings.Builder2
import Derived.Shelf.Strings.OnBuilder
import Derived.Shelf.Small.Bits
import Derived.Shelf.Utf8.RuneCount
import Derived.Shelf.Strconv.Atoi
import Derived.Shelf.Strconv.Itoa0
import Derived.Shelf.Strconv.Itoa1
import Derived.Shelf.LaysM
import Derived.Shelf.Strconv.Itoa2
import Derived.Shelf.Strconv.Itoa3
import Derived.Shelf.Strconv.AtoiErrFast
import Derived.Shelf.Strconv.ParseIntEmpty
import Derived.Shelf.Strconv.AtoiFail
import Derived.Shelf.Strconv.Clone
import Derived.Shelf.Strconv.SyntaxError
import Derived.Shelf.LaysC
import Derived.Shelf.Strconv.ToError
import Derived.Shelf.Strconv.AtoiErr
import Derived.Shelf.Strconv.Lower
import Derived.Shelf.Strconv.ParseUint10
import Derived.Shelf.Strconv.ParseUint10Empty
import Derived.Shelf.Strconv.ParseUint10Any
import Derived.Shelf.Strconv.ParseInt10
import Derived.Shelf.Strconv.AtoiLong
import Derived.Shelf.Strconv.AtoiInnerAll
import Derived.Shelf.Strconv.RangeError
import Derived.Shelf.Strconv.ToErrorRange
import Derived.Shelf.Strconv.AtoiAll
import Derived.Shelf.Strings.Search1
import Derived.Shelf.Strings.Search2
import Derived.Shelf.Strings.Search3
import Derived.Shelf.Strings.Cut
import Derived.Shelf.Strings.Count
import Derived.Shelf.Strings.Shaped
import Derived.Shelf.Sort.Plain
import Derived.Shelf.Strings.Split
import Derived.Shelf.Strings.SplitShaped
import Derived.Shelf.Unicode.Decode
import Derived.Shelf.Strings.RuneCount
import Derived.Shelf.Strings.Explode
import Derived.Shelf.Unicode.DecodeSlow
import Derived.Shelf.Unicode.DecodeAny
import Derived.Ground.Names2Prog
import Derived.Shelf.Slices.Clone
import Derived.Shelf.Slices.CompactI
import Derived.Shelf.Slices.SearchI
import Derived.Shelf.Slices.Cells
import Derived.Ground.SlgnProg
import Derived.Shelf.SlicesE.Clone
import Derived.Ground.SlsfProg
import Derived.Shelf.SlSortCmp.Insertion
import Derived.Shelf.SlSortCmp.SiftDown1
import Derived.Shelf.SlSortCmp.HeapSort1
import Derived.Shelf.SlSortCmp.Insertion1
import Derived.Shelf.SlSortCmp.Median1
import Derived.Shelf.SlSortCmp.Pivot1
import Derived.Shelf.SlSortCmp.ReverseRange1
import Derived.Shelf.SlSortCmp.PartialInsertion1
import Derived.Shelf.SlSortCmp.PartitionEqual1
import Derived.Shelf.SlSortCmp.Partition1
import Derived.Shelf.SlSortCmp.Pdq1
import Derived.Shelf.SlSortCmp.Whole1
import Derived.Test.YtemcdiajejekoaaGreatDoorProg
set_option linter.unusedSimpArgs false
set_option linter.unusedVariables false
namespace Go.Proofs.YtemcdiajejekoaaGreatDoor
open Go.Shelf
def Tryz.lays156_ren:Go.Shelf.Ren:=⟨fun | 156=>83 | 165=>143 | 166=>144 | 169=>145 | 240=>207 | 241=>208 | 276=>258 | 277=>259 | n=>n,fun | 31=>31 | 9=>9 | 3=>3 | 4=>4 | 0=>0 | 20=>20 | 72=>177 | 76=>181 | 70=>175 | 37=>47 | 75=>180 | 127=>231 | 164=>252 | 5=>5 | 80=>94 | n=>n,fun | n=>n⟩
theorem Tryz.lays156:Go.Proofs.Lays.n156 Tryz.prog Tryz.lays156_ren:={
  mixed:=by kernel_rfl
  f156:=Tryz.func83.trans (congrArg some (by kernel_rfl))
  f165:=Tryz.func143.trans (congrArg some (by kernel_rfl))
  f166:=Tryz.func144.trans (congrArg some (by kernel_rfl))
  f169:=Tryz.func145.trans (congrArg some (by kernel_rfl))
  f240:=Tryz.func207.trans (congrArg some (by kernel_rfl))
  f241:=Tryz.func208.trans (congrArg some (by kernel_rfl))
  f276:=Tryz.func258.trans (congrArg some (by kernel_rfl))
  f277:=Tryz.func259.trans (congrArg some (by kernel_rfl))
  t0:=Tryz.underlying0
  a0:=Tryz.isAgg0
  z0:=Tryz.sizeOf0
  v0:=Tryz.zeroValue0
  t3:=Tryz.underlying3
  a3:=Tryz.isAgg3
  z3:=Tryz.sizeOf3
  v3:=Tryz.zeroValue3
  t4:=Tryz.underlying4
  a4:=Tryz.isAgg4
  z4:=Tryz.sizeOf4
  v4:=Tryz.zeroValue4
  t9:=Tryz.underlying9
  a9:=Tryz.isAgg9
  z9:=Tryz.sizeOf9
  v9:=Tryz.zeroValue9
  t20:=Tryz.underlying20
  a20:=Tryz.isAgg20
  z20:=Tryz.sizeOf20
  v20:=Tryz.zeroValue20
  t31:=Tryz.underlying31
  a31:=Tryz.isAgg31
  z31:=Tryz.sizeOf31
  v31:=Tryz.zeroValue31
  t37:=Tryz.underlying47
  a37:=Tryz.isAgg47
  z37:=Tryz.sizeOf47
  v37:=Tryz.zeroValue47
  t70:=Tryz.underlying175
  a70:=Tryz.isAgg175
  z70:=Tryz.sizeOf175
  v70:=Tryz.zeroValue175
  t72:=Tryz.underlying177
  a72:=Tryz.isAgg177
  z72:=Tryz.sizeOf177
  v72:=Tryz.zeroValue177
  t75:=Tryz.underlying180
  a75:=Tryz.isAgg180
  z75:=Tryz.sizeOf180
  v75:=Tryz.zeroValue180
  t76:=Tryz.underlying181
  a76:=Tryz.isAgg181
  z76:=Tryz.sizeOf181
  v76:=Tryz.zeroValue181
  t127:=Tryz.underlying231
  a127:=Tryz.isAgg231
  z127:=Tryz.sizeOf231
  v127:=Tryz.zeroValue231
  t164:=Tryz.underlying252
  a164:=Tryz.isAgg252
  z164:=Tryz.sizeOf252
  v164:=Tryz.zeroValue252 }
theorem Tryz.Builder_Extra_156:Builder.Extra Tryz.prog Tryz.lays156_ren:={
  sizeBuilder:=by kernel_rfl
  liesBuilder:=by kernel_rfl
  t5:=Tryz.underlying5
  a5:=Tryz.isAgg5
  z5:=Tryz.sizeOf5
  v5:=Tryz.zeroValue5
  infoByte:=by kernel_rfl
  cellsByte:=by kernel_rfl
  sizeByte:=by kernel_rfl
  neB5:=by decide }
open Go.RowKit in
theorem Tryz.strings_Join (bk o c:Nat) (xs:List ByteArray) (sep:ByteArray) (w:World) (hcells:∀ (j:Nat) x,xs[j]?=some x→w.cell? ⟨bk,o+j,none⟩=some (.string x)) (hbk:bk<w.heap.size) (hN:xs.length≤140737488355328) (hcap:xs.length≤c) (hlen:(Lib.join (xs.map (·.data.toList)) sep.data.toList).length≤140737488355328) :
    Calls Tryz.prog 83 #[.slice (some ⟨bk,o,none⟩) xs.length c,.string sep] w fun e w'=>e=.returned (.string ⟨(Lib.join (xs.map (·.data.toList)) sep.data.toList).toArray⟩)∧Below w.heap.size w w':=Any.strings_Join Tryz.lays156 Tryz.Builder_Extra_156 bk o c xs sep w hcells hbk hN hcap hlen
def Tryz.laysM171_ren:Go.Shelf.Ren:=⟨fun | 171=>142 | 243=>206 | 246=>257 | 283=>290 | 284=>291 | 285=>292 | 286=>293 | 129=>269 | 317=>314 | 318=>315 | 319=>316 | 320=>317 | 337=>324 | 338=>325 | n=>n,fun | 3=>3 | 9=>9 | 2=>2 | 4=>4 | 171=>274 | 0=>0 | 53=>90 | 37=>47 | 5=>5 | 173=>276 | 212=>301 | 51=>263 | 20=>20 | 213=>302 | 46=>223 | 232=>312 | 233=>313 | n=>n,fun | 17=>5 | 18=>6 | 19=>7 | n=>n⟩
theorem Tryz.laysM171:Go.Proofs.LaysM.n171 Tryz.prog Tryz.laysM171_ren:={
  mixed:=by kernel_rfl
  f129:=Tryz.func269.trans (congrArg some (by kernel_rfl))
  f171:=Tryz.func142.trans (congrArg some (by kernel_rfl))
  f243:=Tryz.func206.trans (congrArg some (by kernel_rfl))
  f246:=Tryz.func257.trans (congrArg some (by kernel_rfl))
  f283:=Tryz.func290.trans (congrArg some (by kernel_rfl))
  f284:=Tryz.func291.trans (congrArg some (by kernel_rfl))
  f285:=Tryz.func292.trans (congrArg some (by kernel_rfl))
  f286:=Tryz.func293.trans (congrArg some (by kernel_rfl))
  f317:=Tryz.func314.trans (congrArg some (by kernel_rfl))
  f318:=Tryz.func315.trans (congrArg some (by kernel_rfl))
  f319:=Tryz.func316.trans (congrArg some (by kernel_rfl))
  f320:=Tryz.func317.trans (congrArg some (by kernel_rfl))
  f337:=Tryz.func324.trans (congrArg some (by kernel_rfl))
  f338:=Tryz.func325.trans (congrArg some (by kernel_rfl))
  t0:=Tryz.underlying0
  a0:=Tryz.isAgg0
  z0:=Tryz.sizeOf0
  v0:=Tryz.zeroValue0
  t2:=Tryz.underlying2
  a2:=Tryz.isAgg2
  z2:=Tryz.sizeOf2
  v2:=Tryz.zeroValue2
  t3:=Tryz.underlying3
  a3:=Tryz.isAgg3
  z3:=Tryz.sizeOf3
  v3:=Tryz.zeroValue3
  t4:=Tryz.underlying4
  a4:=Tryz.isAgg4
  z4:=Tryz.sizeOf4
  v4:=Tryz.zeroValue4
  t5:=Tryz.underlying5
  a5:=Tryz.isAgg5
  z5:=Tryz.sizeOf5
  v5:=Tryz.zeroValue5
  t9:=Tryz.underlying9
  a9:=Tryz.isAgg9
  z9:=Tryz.sizeOf9
  v9:=Tryz.zeroValue9
  t20:=Tryz.underlying20
  a20:=Tryz.isAgg20
  z20:=Tryz.sizeOf20
  v20:=Tryz.zeroValue20
  t37:=Tryz.underlying47
  a37:=Tryz.isAgg47
  z37:=Tryz.sizeOf47
  v37:=Tryz.zeroValue47
  t46:=Tryz.underlying223
  a46:=Tryz.isAgg223
  z46:=Tryz.sizeOf223
  v46:=Tryz.zeroValue223
  t51:=Tryz.underlying263
  a51:=Tryz.isAgg263
  z51:=Tryz.sizeOf263
  v51:=Tryz.zeroValue263
  t53:=Tryz.underlying90
  a53:=Tryz.isAgg90
  z53:=Tryz.sizeOf90
  v53:=Tryz.zeroValue90
  t171:=Tryz.underlying274
  a171:=Tryz.isAgg274
  z171:=Tryz.sizeOf274
  v171:=Tryz.zeroValue274
  t173:=Tryz.underlying276
  a173:=Tryz.isAgg276
  z173:=Tryz.sizeOf276
  v173:=Tryz.zeroValue276
  t212:=Tryz.underlying301
  a212:=Tryz.isAgg301
  z212:=Tryz.sizeOf301
  v212:=Tryz.zeroValue301
  t213:=Tryz.underlying302
  a213:=Tryz.isAgg302
  z213:=Tryz.sizeOf302
  t232:=Tryz.underlying312
  a232:=Tryz.isAgg312
  z232:=Tryz.sizeOf312
  v232:=Tryz.zeroValue312
  t233:=Tryz.underlying313
  a233:=Tryz.isAgg313
  z233:=Tryz.sizeOf313
  v233:=Tryz.zeroValue313
  g17:=by kernel_rfl
  g18:=by kernel_rfl
  g19:=by kernel_rfl
  i0:=by kernel_rfl
  i2:=by kernel_rfl
  i3:=by kernel_rfl
  i4:=by kernel_rfl
  i5:=by kernel_rfl
  i9:=by kernel_rfl
  i20:=by kernel_rfl
  i37:=by kernel_rfl
  i46:=by kernel_rfl
  i51:=by kernel_rfl
  i53:=by kernel_rfl
  i171:=by kernel_rfl
  i173:=by kernel_rfl
  i212:=by kernel_rfl
  i232:=by kernel_rfl
  i233:=by kernel_rfl
  m17:=by kernel_rfl
  m18:=by kernel_rfl
  m19:=by kernel_rfl }
open Go.RowKit Go.Sort Go.Lib in
theorem Tryz.strconv_Itoa (n : Int) (h0 : -9223372036854775808 ≤ n) (h1 : n ≤ 9223372036854775807) (w : World) (htab : Lib.TabIs Tryz.prog w "internal/strconv.uint64pow10" .u64 Lib.pow10Tab) :
    Calls Tryz.prog 142 #[.int .i64 n] w fun e w'=>e=.returned (.string ⟨(Lib.itoa n).toArray⟩)∧∃ k os,w'=grow (w.drewN k) os:=Any.strconv_Itoa Tryz.laysM171 n h0 h1 w htab
def Tryz.laysC172_ren:Go.Shelf.Ren:=⟨fun | 172=>161 | 244=>219 | 245=>220 | 247=>276 | 279=>277 | 280=>278 | 281=>279 | 282=>280 | 287=>302 | 316=>303 | 171=>142 | 205=>304 | 321=>319 | 322=>320 | 243=>206 | 246=>257 | 283=>290 | 284=>291 | 285=>292 | 286=>293 | 129=>269 | 317=>314 | 318=>315 | 319=>316 | 320=>317 | 337=>324 | 338=>325 | n=>n,fun | 9=>9 | 3=>3 | 75=>180 | 76=>181 | 4=>4 | 5=>5 | 167=>265 | 37=>47 | 0=>0 | 85=>266 | 2=>2 | 168=>268 | 53=>90 | 175=>290 | 46=>223 | 210=>293 | 127=>231 | 145=>308 | 143=>306 | 21=>21 | 171=>274 | 173=>276 | 212=>301 | 51=>263 | 20=>20 | 213=>302 | 232=>312 | 233=>313 | 80=>94 | n=>n,fun | 15=>3 | 16=>4 | 17=>5 | 18=>6 | 19=>7 | n=>n⟩
theorem Tryz.laysC172:Go.Proofs.LaysC.n172 Tryz.prog Tryz.laysC172_ren:={
  mixed:=by kernel_rfl
  f129:=Tryz.func269.trans (congrArg some (by kernel_rfl))
  f171:=Tryz.func142.trans (congrArg some (by kernel_rfl))
  f172:=Tryz.func161.trans (congrArg some (by kernel_rfl))
  f205:=Tryz.func304.trans (congrArg some (by kernel_rfl))
  f243:=Tryz.func206.trans (congrArg some (by kernel_rfl))
  f244:=Tryz.func219.trans (congrArg some (by kernel_rfl))
  f245:=Tryz.func220.trans (congrArg some (by kernel_rfl))
  f246:=Tryz.func257.trans (congrArg some (by kernel_rfl))
  f247:=Tryz.func276.trans (congrArg some (by kernel_rfl))
  f279:=Tryz.func277.trans (congrArg some (by kernel_rfl))
  f280:=Tryz.func278.trans (congrArg some (by kernel_rfl))
  f281:=Tryz.func279.trans (congrArg some (by kernel_rfl))
  f282:=Tryz.func280.trans (congrArg some (by kernel_rfl))
  f283:=Tryz.func290.trans (congrArg some (by kernel_rfl))
  f284:=Tryz.func291.trans (congrArg some (by kernel_rfl))
  f285:=Tryz.func292.trans (congrArg some (by kernel_rfl))
  f286:=Tryz.func293.trans (congrArg some (by kernel_rfl))
  f287:=Tryz.func302.trans (congrArg some (by kernel_rfl))
  f316:=Tryz.func303.trans (congrArg some (by kernel_rfl))
  f317:=Tryz.func314.trans (congrArg some (by kernel_rfl))
  f318:=Tryz.func315.trans (congrArg some (by kernel_rfl))
  f319:=Tryz.func316.trans (congrArg some (by kernel_rfl))
  f320:=Tryz.func317.trans (congrArg some (by kernel_rfl))
  f321:=Tryz.func319.trans (congrArg some (by kernel_rfl))
  f322:=Tryz.func320.trans (congrArg some (by kernel_rfl))
  f337:=Tryz.func324.trans (congrArg some (by kernel_rfl))
  f338:=Tryz.func325.trans (congrArg some (by kernel_rfl))
  t0:=Tryz.underlying0
  a0:=Tryz.isAgg0
  z0:=Tryz.sizeOf0
  v0:=Tryz.zeroValue0
  t2:=Tryz.underlying2
  a2:=Tryz.isAgg2
  z2:=Tryz.sizeOf2
  v2:=Tryz.zeroValue2
  t3:=Tryz.underlying3
  a3:=Tryz.isAgg3
  z3:=Tryz.sizeOf3
  v3:=Tryz.zeroValue3
  t4:=Tryz.underlying4
  a4:=Tryz.isAgg4
  z4:=Tryz.sizeOf4
  v4:=Tryz.zeroValue4
  t5:=Tryz.underlying5
  a5:=Tryz.isAgg5
  z5:=Tryz.sizeOf5
  v5:=Tryz.zeroValue5
  t9:=Tryz.underlying9
  a9:=Tryz.isAgg9
  z9:=Tryz.sizeOf9
  v9:=Tryz.zeroValue9
  t20:=Tryz.underlying20
  a20:=Tryz.isAgg20
  z20:=Tryz.sizeOf20
  v20:=Tryz.zeroValue20
  t21:=Tryz.underlying21
  a21:=Tryz.isAgg21
  z21:=Tryz.sizeOf21
  v21:=Tryz.zeroValue21
  t37:=Tryz.underlying47
  a37:=Tryz.isAgg47
  z37:=Tryz.sizeOf47
  v37:=Tryz.zeroValue47
  t46:=Tryz.underlying223
  a46:=Tryz.isAgg223
  z46:=Tryz.sizeOf223
  v46:=Tryz.zeroValue223
  t51:=Tryz.underlying263
  a51:=Tryz.isAgg263
  z51:=Tryz.sizeOf263
  v51:=Tryz.zeroValue263
  t53:=Tryz.underlying90
  a53:=Tryz.isAgg90
  z53:=Tryz.sizeOf90
  v53:=Tryz.zeroValue90
  t75:=Tryz.underlying180
  a75:=Tryz.isAgg180
  z75:=Tryz.sizeOf180
  v75:=Tryz.zeroValue180
  t76:=Tryz.underlying181
  a76:=Tryz.isAgg181
  z76:=Tryz.sizeOf181
  v76:=Tryz.zeroValue181
  t85:=Tryz.underlying266
  a85:=Tryz.isAgg266
  z85:=Tryz.sizeOf266
  v85:=Tryz.zeroValue266
  t127:=Tryz.underlying231
  a127:=Tryz.isAgg231
  z127:=Tryz.sizeOf231
  v127:=Tryz.zeroValue231
  t143:=Tryz.underlying306
  a143:=Tryz.isAgg306
  z143:=Tryz.sizeOf306
  v143:=Tryz.zeroValue306
  t145:=Tryz.underlying308
  a145:=Tryz.isAgg308
  z145:=Tryz.sizeOf308
  v145:=Tryz.zeroValue308
  t167:=Tryz.underlying265
  a167:=Tryz.isAgg265
  z167:=Tryz.sizeOf265
  v167:=Tryz.zeroValue265
  t168:=Tryz.underlying268
  a168:=Tryz.isAgg268
  z168:=Tryz.sizeOf268
  v168:=Tryz.zeroValue268
  t171:=Tryz.underlying274
  a171:=Tryz.isAgg274
  z171:=Tryz.sizeOf274
  v171:=Tryz.zeroValue274
  t173:=Tryz.underlying276
  a173:=Tryz.isAgg276
  z173:=Tryz.sizeOf276
  v173:=Tryz.zeroValue276
  t175:=Tryz.underlying290
  a175:=Tryz.isAgg290
  z175:=Tryz.sizeOf290
  v175:=Tryz.zeroValue290
  t210:=Tryz.underlying293
  a210:=Tryz.isAgg293
  z210:=Tryz.sizeOf293
  v210:=Tryz.zeroValue293
  t212:=Tryz.underlying301
  a212:=Tryz.isAgg301
  z212:=Tryz.sizeOf301
  v212:=Tryz.zeroValue301
  t213:=Tryz.underlying302
  a213:=Tryz.isAgg302
  z213:=Tryz.sizeOf302
  t232:=Tryz.underlying312
  a232:=Tryz.isAgg312
  z232:=Tryz.sizeOf312
  v232:=Tryz.zeroValue312
  t233:=Tryz.underlying313
  a233:=Tryz.isAgg313
  z233:=Tryz.sizeOf313
  v233:=Tryz.zeroValue313
  g15:=by kernel_rfl
  g16:=by kernel_rfl
  g17:=by kernel_rfl
  g18:=by kernel_rfl
  g19:=by kernel_rfl
  t80:=Tryz.underlying94
  a80:=Tryz.isAgg94
  z80:=Tryz.sizeOf94
  v80:=Tryz.zeroValue94
  i0:=by kernel_rfl
  i2:=by kernel_rfl
  i3:=by kernel_rfl
  i4:=by kernel_rfl
  i5:=by kernel_rfl
  i9:=by kernel_rfl
  i20:=by kernel_rfl
  i21:=by kernel_rfl
  i37:=by kernel_rfl
  i46:=by kernel_rfl
  i51:=by kernel_rfl
  i53:=by kernel_rfl
  i75:=by kernel_rfl
  i76:=by kernel_rfl
  i80:=by kernel_rfl
  i85:=by kernel_rfl
  i127:=by kernel_rfl
  i143:=by kernel_rfl
  i145:=by kernel_rfl
  i167:=by kernel_rfl
  i168:=by kernel_rfl
  i171:=by kernel_rfl
  i173:=by kernel_rfl
  i175:=by kernel_rfl
  i210:=by kernel_rfl
  i212:=by kernel_rfl
  i232:=by kernel_rfl
  i233:=by kernel_rfl
  m15:=by kernel_rfl
  m16:=by kernel_rfl
  m17:=by kernel_rfl
  m18:=by kernel_rfl
  m19:=by kernel_rfl
  c0:=by kernel_rfl
  c2:=by kernel_rfl
  c3:=by kernel_rfl
  c4:=by kernel_rfl
  c5:=by kernel_rfl
  c9:=by kernel_rfl
  c20:=by kernel_rfl
  c21:=by kernel_rfl
  c37:=by kernel_rfl
  c46:=by kernel_rfl
  c51:=by kernel_rfl
  c53:=by kernel_rfl
  c75:=by kernel_rfl
  c76:=by kernel_rfl
  c80:=by kernel_rfl
  c85:=by kernel_rfl
  c127:=by kernel_rfl
  c143:=by kernel_rfl
  c145:=by kernel_rfl
  c167:=by kernel_rfl
  c168:=by kernel_rfl
  c171:=by kernel_rfl
  c173:=by kernel_rfl
  c175:=by kernel_rfl
  c210:=by kernel_rfl
  c212:=by kernel_rfl
  c213:=by kernel_rfl
  c232:=by kernel_rfl
  c233:=by kernel_rfl }
open Go.RowKit in
theorem Tryz.strconv_Atoi_ok (s:ByteArray) (hmax:s.size≤9223372036854775806) (v:Int) (h:Lib.atoiAll s.data.toList=.ok v) (w:World) :
    Calls Tryz.prog 161 #[.string s] w fun e w'=>e=.returned (.tuple #[.int .i64 v,.nilIface])∧(w'=w∨∃ t,w'=Lib.bytesWorld w 5 t):=Any.strconv_Atoi_ok Tryz.laysC172 s hmax v h w
open Go.RowKit in
theorem Tryz.strconv_Atoi_syntax (s:ByteArray) (hlim:s.size≤281474976710656) (h:Lib.atoiAll s.data.toList=Lib.atoiAll []) (ev:Value) (w:World) (hv:w.cell? ⟨3,0,none⟩=some ev) (hev:ev=.nilIface∨∃ te pe,ev=.iface te pe) :
    Calls Tryz.prog 161 #[.string s] w fun e w'=>∃ N,e=.returned (.tuple #[.int .i64 (0),.iface 268 (.pointer (some ⟨N,0,none⟩))])∧w.heap.size≤N∧w'.heap[N]?=some (.cells #[.string ⟨#[65,116,111,105]⟩,.string s,ev] 293 (0,0))∧Below w.heap.size w w':=Any.strconv_Atoi_syntax Tryz.laysC172 s hlim h ev w hv hev
open Go.RowKit in
theorem Tryz.strconv_Atoi_range (s:ByteArray) (hlim:s.size≤281474976710656) (h:Lib.atoiAll s.data.toList=.range) (ev:Value) (w:World) (hv:w.cell? ⟨4,0,none⟩=some ev) (hev:ev=.nilIface∨∃ te pe,ev=.iface te pe) :
    Calls Tryz.prog 161 #[.string s] w fun e w'=>∃ N,e=.returned (.tuple #[.int .i64 (Lib.atoiSat s.data.toList),.iface 268 (.pointer (some ⟨N,0,none⟩))])∧w.heap.size≤N∧w'.heap[N]?=some (.cells #[.string ⟨#[65,116,111,105]⟩,.string s,ev] 293 (0,0))∧Below w.heap.size w w':=Any.strconv_Atoi_range Tryz.laysC172 s hlim h ev w hv hev
def Tryz.lays219_ren:Go.Shelf.Ren:=⟨fun | 219=>215 | 217=>272 | 225=>273 | 224=>274 | 267=>275 | 266=>300 | 314=>301 | n=>n,fun | 9=>9 | 3=>3 | 4=>4 | 5=>5 | 46=>223 | 146=>288 | 51=>263 | n=>n,fun | 1=>0 | n=>n⟩
theorem Tryz.lays219:Go.Proofs.Lays.n219 Tryz.prog Tryz.lays219_ren:={
  mixed:=by kernel_rfl
  f217:=Tryz.func272.trans (congrArg some (by kernel_rfl))
  f219:=Tryz.func215.trans (congrArg some (by kernel_rfl))
  f224:=Tryz.func274.trans (congrArg some (by kernel_rfl))
  f225:=Tryz.func273.trans (congrArg some (by kernel_rfl))
  f266:=Tryz.func300.trans (congrArg some (by kernel_rfl))
  f267:=Tryz.func275.trans (congrArg some (by kernel_rfl))
  f314:=Tryz.func301.trans (congrArg some (by kernel_rfl))
  t3:=Tryz.underlying3
  a3:=Tryz.isAgg3
  z3:=Tryz.sizeOf3
  v3:=Tryz.zeroValue3
  t4:=Tryz.underlying4
  a4:=Tryz.isAgg4
  z4:=Tryz.sizeOf4
  v4:=Tryz.zeroValue4
  t5:=Tryz.underlying5
  a5:=Tryz.isAgg5
  z5:=Tryz.sizeOf5
  v5:=Tryz.zeroValue5
  t9:=Tryz.underlying9
  a9:=Tryz.isAgg9
  z9:=Tryz.sizeOf9
  v9:=Tryz.zeroValue9
  t46:=Tryz.underlying223
  a46:=Tryz.isAgg223
  z46:=Tryz.sizeOf223
  v46:=Tryz.zeroValue223
  t51:=Tryz.underlying263
  a51:=Tryz.isAgg263
  z51:=Tryz.sizeOf263
  v51:=Tryz.zeroValue263
  t146:=Tryz.underlying288
  a146:=Tryz.isAgg288
  z146:=Tryz.sizeOf288
  v146:=Tryz.zeroValue288
  g1:=by kernel_rfl }
open Go.RowKit Go.Lib in
theorem Tryz.stringslite_Index_one (s:ByteArray) (c:UInt8) (w:World) :
    Calls Tryz.prog 215 #[.string s,.string ⟨#[c]⟩] w fun e w'=>e=.returned (.int .i64 (Lib.indexByte s.data.toList c))∧w'=w:=Any.stringslite_Index_one Tryz.lays219 s c w
def Tryz.lays143_ren:Go.Shelf.Ren:=⟨fun | 143=>156 | 219=>215 | 217=>272 | 225=>273 | 224=>274 | 267=>275 | 266=>300 | 314=>301 | n=>n,fun | 9=>9 | 3=>3 | 4=>4 | 5=>5 | 46=>223 | 146=>288 | 51=>263 | n=>n,fun | 1=>0 | n=>n⟩
theorem Tryz.lays143:Go.Proofs.Lays.n143 Tryz.prog Tryz.lays143_ren:={
  mixed:=by kernel_rfl
  f143:=Tryz.func156.trans (congrArg some (by kernel_rfl))
  f217:=Tryz.func272.trans (congrArg some (by kernel_rfl))
  f219:=Tryz.func215.trans (congrArg some (by kernel_rfl))
  f224:=Tryz.func274.trans (congrArg some (by kernel_rfl))
  f225:=Tryz.func273.trans (congrArg some (by kernel_rfl))
  f266:=Tryz.func300.trans (congrArg some (by kernel_rfl))
  f267:=Tryz.func275.trans (congrArg some (by kernel_rfl))
  f314:=Tryz.func301.trans (congrArg some (by kernel_rfl))
  t3:=Tryz.underlying3
  a3:=Tryz.isAgg3
  z3:=Tryz.sizeOf3
  v3:=Tryz.zeroValue3
  t4:=Tryz.underlying4
  a4:=Tryz.isAgg4
  z4:=Tryz.sizeOf4
  v4:=Tryz.zeroValue4
  t5:=Tryz.underlying5
  a5:=Tryz.isAgg5
  z5:=Tryz.sizeOf5
  v5:=Tryz.zeroValue5
  t9:=Tryz.underlying9
  a9:=Tryz.isAgg9
  z9:=Tryz.sizeOf9
  v9:=Tryz.zeroValue9
  t46:=Tryz.underlying223
  a46:=Tryz.isAgg223
  z46:=Tryz.sizeOf223
  v46:=Tryz.zeroValue223
  t51:=Tryz.underlying263
  a51:=Tryz.isAgg263
  z51:=Tryz.sizeOf263
  v51:=Tryz.zeroValue263
  t146:=Tryz.underlying288
  a146:=Tryz.isAgg288
  z146:=Tryz.sizeOf288
  v146:=Tryz.zeroValue288
  g1:=by kernel_rfl }
open Go.RowKit Go.Lib in
theorem Tryz.strings_Index_one (s:ByteArray) (c:UInt8) (w:World) :
    Calls Tryz.prog 156 #[.string s,.string ⟨#[c]⟩] w fun e w'=>e=.returned (.int .i64 (Lib.indexByte s.data.toList c))∧w'=w:=Any.strings_Index_one Tryz.lays143 s c w
def Tryz.lays144_ren:Go.Shelf.Ren:=⟨fun | 144=>112 | 143=>156 | 219=>215 | 217=>272 | 225=>273 | 224=>274 | 267=>275 | 266=>300 | 314=>301 | n=>n,fun | 9=>9 | 4=>4 | 3=>3 | 5=>5 | 46=>223 | 146=>288 | 51=>263 | n=>n,fun | 1=>0 | n=>n⟩
theorem Tryz.lays144:Go.Proofs.Lays.n144 Tryz.prog Tryz.lays144_ren:={
  mixed:=by kernel_rfl
  f143:=Tryz.func156.trans (congrArg some (by kernel_rfl))
  f144:=Tryz.func112.trans (congrArg some (by kernel_rfl))
  f217:=Tryz.func272.trans (congrArg some (by kernel_rfl))
  f219:=Tryz.func215.trans (congrArg some (by kernel_rfl))
  f224:=Tryz.func274.trans (congrArg some (by kernel_rfl))
  f225:=Tryz.func273.trans (congrArg some (by kernel_rfl))
  f266:=Tryz.func300.trans (congrArg some (by kernel_rfl))
  f267:=Tryz.func275.trans (congrArg some (by kernel_rfl))
  f314:=Tryz.func301.trans (congrArg some (by kernel_rfl))
  t3:=Tryz.underlying3
  a3:=Tryz.isAgg3
  z3:=Tryz.sizeOf3
  v3:=Tryz.zeroValue3
  t4:=Tryz.underlying4
  a4:=Tryz.isAgg4
  z4:=Tryz.sizeOf4
  v4:=Tryz.zeroValue4
  t5:=Tryz.underlying5
  a5:=Tryz.isAgg5
  z5:=Tryz.sizeOf5
  v5:=Tryz.zeroValue5
  t9:=Tryz.underlying9
  a9:=Tryz.isAgg9
  z9:=Tryz.sizeOf9
  v9:=Tryz.zeroValue9
  t46:=Tryz.underlying223
  a46:=Tryz.isAgg223
  z46:=Tryz.sizeOf223
  v46:=Tryz.zeroValue223
  t51:=Tryz.underlying263
  a51:=Tryz.isAgg263
  z51:=Tryz.sizeOf263
  v51:=Tryz.zeroValue263
  t146:=Tryz.underlying288
  a146:=Tryz.isAgg288
  z146:=Tryz.sizeOf288
  v146:=Tryz.zeroValue288
  g1:=by kernel_rfl }
open Go.RowKit Go.Lib in
theorem Tryz.strings_Contains_one (s:ByteArray) (c:UInt8) (w:World) :
    Calls Tryz.prog 112 #[.string s,.string ⟨#[c]⟩] w fun e w'=>e=.returned (.bool (decide (0≤Lib.indexByte s.data.toList c)))∧w'=w:=Any.strings_Contains_one Tryz.lays144 s c w
def Tryz.lays138_ren:Go.Shelf.Ren:=⟨fun | 138=>155 | 195=>212 | 218=>214 | 143=>156 | 219=>215 | 217=>272 | 225=>273 | 224=>274 | 267=>275 | 266=>300 | 314=>301 | n=>n,fun | 9=>9 | 3=>3 | 4=>4 | 5=>5 | 0=>0 | 46=>223 | 146=>288 | 51=>263 | n=>n,fun | 1=>0 | n=>n⟩
theorem Tryz.lays138:Go.Proofs.Lays.n138 Tryz.prog Tryz.lays138_ren:={
  mixed:=by kernel_rfl
  f138:=Tryz.func155.trans (congrArg some (by kernel_rfl))
  f143:=Tryz.func156.trans (congrArg some (by kernel_rfl))
  f195:=Tryz.func212.trans (congrArg some (by kernel_rfl))
  f217:=Tryz.func272.trans (congrArg some (by kernel_rfl))
  f218:=Tryz.func214.trans (congrArg some (by kernel_rfl))
  f219:=Tryz.func215.trans (congrArg some (by kernel_rfl))
  f224:=Tryz.func274.trans (congrArg some (by kernel_rfl))
  f225:=Tryz.func273.trans (congrArg some (by kernel_rfl))
  f266:=Tryz.func300.trans (congrArg some (by kernel_rfl))
  f267:=Tryz.func275.trans (congrArg some (by kernel_rfl))
  f314:=Tryz.func301.trans (congrArg some (by kernel_rfl))
  t0:=Tryz.underlying0
  a0:=Tryz.isAgg0
  z0:=Tryz.sizeOf0
  v0:=Tryz.zeroValue0
  t3:=Tryz.underlying3
  a3:=Tryz.isAgg3
  z3:=Tryz.sizeOf3
  v3:=Tryz.zeroValue3
  t4:=Tryz.underlying4
  a4:=Tryz.isAgg4
  z4:=Tryz.sizeOf4
  v4:=Tryz.zeroValue4
  t5:=Tryz.underlying5
  a5:=Tryz.isAgg5
  z5:=Tryz.sizeOf5
  v5:=Tryz.zeroValue5
  t9:=Tryz.underlying9
  a9:=Tryz.isAgg9
  z9:=Tryz.sizeOf9
  v9:=Tryz.zeroValue9
  t46:=Tryz.underlying223
  a46:=Tryz.isAgg223
  z46:=Tryz.sizeOf223
  v46:=Tryz.zeroValue223
  t51:=Tryz.underlying263
  a51:=Tryz.isAgg263
  z51:=Tryz.sizeOf263
  v51:=Tryz.zeroValue263
  t146:=Tryz.underlying288
  a146:=Tryz.isAgg288
  z146:=Tryz.sizeOf288
  v146:=Tryz.zeroValue288
  g1:=by kernel_rfl }
open Go.RowKit Go.Lib in
theorem Tryz.strings_Count_one (s:ByteArray) (c:UInt8) (w:World) :
    Calls Tryz.prog 155 #[.string s,.string ⟨#[c]⟩] w fun e w'=>e=.returned (.int .i64 (Lib.countByte s.data.toList c))∧w'=w:=Any.strings_Count_one Tryz.lays138 s c w
def Tryz.lays189_ren:Go.Shelf.Ren:=⟨fun | 189=>226 | 125=>210 | 257=>281 | 128=>268 | 129=>269 | 294=>305 | 295=>306 | 296=>307 | 297=>308 | 298=>309 | 299=>310 | 216=>311 | 300=>312 | 301=>313 | 328=>321 | 329=>295 | 330=>296 | 331=>322 | 332=>323 | 215=>299 | 343=>326 | n=>n,fun | 28=>73 | 3=>3 | 46=>223 | 0=>0 | 51=>263 | 53=>90 | 4=>4 | 183=>257 | 182=>256 | 131=>67 | 5=>5 | 9=>9 | 218=>278 | 222=>282 | 228=>303 | 229=>144 | n=>n,fun | n=>n⟩
theorem Tryz.lays189:Go.Proofs.Lays.n189 Tryz.prog Tryz.lays189_ren:={
  mixed:=by kernel_rfl
  f125:=Tryz.func210.trans (congrArg some (by kernel_rfl))
  f128:=Tryz.func268.trans (congrArg some (by kernel_rfl))
  f129:=Tryz.func269.trans (congrArg some (by kernel_rfl))
  f189:=Tryz.func226.trans (congrArg some (by kernel_rfl))
  f215:=Tryz.func299.trans (congrArg some (by kernel_rfl))
  f216:=Tryz.func311.trans (congrArg some (by kernel_rfl))
  f257:=Tryz.func281.trans (congrArg some (by kernel_rfl))
  f294:=Tryz.func305.trans (congrArg some (by kernel_rfl))
  f295:=Tryz.func306.trans (congrArg some (by kernel_rfl))
  f296:=Tryz.func307.trans (congrArg some (by kernel_rfl))
  f297:=Tryz.func308.trans (congrArg some (by kernel_rfl))
  f298:=Tryz.func309.trans (congrArg some (by kernel_rfl))
  f299:=Tryz.func310.trans (congrArg some (by kernel_rfl))
  f300:=Tryz.func312.trans (congrArg some (by kernel_rfl))
  f301:=Tryz.func313.trans (congrArg some (by kernel_rfl))
  f328:=Tryz.func321.trans (congrArg some (by kernel_rfl))
  f329:=Tryz.func295.trans (congrArg some (by kernel_rfl))
  f330:=Tryz.func296.trans (congrArg some (by kernel_rfl))
  f331:=Tryz.func322.trans (congrArg some (by kernel_rfl))
  f332:=Tryz.func323.trans (congrArg some (by kernel_rfl))
  f343:=Tryz.func326.trans (congrArg some (by kernel_rfl))
  t0:=Tryz.underlying0
  a0:=Tryz.isAgg0
  z0:=Tryz.sizeOf0
  v0:=Tryz.zeroValue0
  t3:=Tryz.underlying3
  a3:=Tryz.isAgg3
  z3:=Tryz.sizeOf3
  v3:=Tryz.zeroValue3
  t4:=Tryz.underlying4
  a4:=Tryz.isAgg4
  z4:=Tryz.sizeOf4
  v4:=Tryz.zeroValue4
  t5:=Tryz.underlying5
  a5:=Tryz.isAgg5
  z5:=Tryz.sizeOf5
  v5:=Tryz.zeroValue5
  t9:=Tryz.underlying9
  a9:=Tryz.isAgg9
  z9:=Tryz.sizeOf9
  v9:=Tryz.zeroValue9
  t28:=Tryz.underlying73
  a28:=Tryz.isAgg73
  z28:=Tryz.sizeOf73
  v28:=Tryz.zeroValue73
  t46:=Tryz.underlying223
  a46:=Tryz.isAgg223
  z46:=Tryz.sizeOf223
  v46:=Tryz.zeroValue223
  t51:=Tryz.underlying263
  a51:=Tryz.isAgg263
  z51:=Tryz.sizeOf263
  v51:=Tryz.zeroValue263
  t53:=Tryz.underlying90
  a53:=Tryz.isAgg90
  z53:=Tryz.sizeOf90
  v53:=Tryz.zeroValue90
  t131:=Tryz.underlying67
  a131:=Tryz.isAgg67
  z131:=Tryz.sizeOf67
  v131:=Tryz.zeroValue67
  t182:=Tryz.underlying256
  a182:=Tryz.isAgg256
  z182:=Tryz.sizeOf256
  v182:=Tryz.zeroValue256
  t183:=Tryz.underlying257
  a183:=Tryz.isAgg257
  z183:=Tryz.sizeOf257
  v183:=Tryz.zeroValue257
  t218:=Tryz.underlying278
  a218:=Tryz.isAgg278
  z218:=Tryz.sizeOf278
  v218:=Tryz.zeroValue278
  t222:=Tryz.underlying282
  a222:=Tryz.isAgg282
  z222:=Tryz.sizeOf282
  v222:=Tryz.zeroValue282
  t228:=Tryz.underlying303
  a228:=Tryz.isAgg303
  z228:=Tryz.sizeOf303
  v228:=Tryz.zeroValue303
  t229:=Tryz.underlying144
  a229:=Tryz.isAgg144
  z229:=Tryz.sizeOf144
  v229:=Tryz.zeroValue144 }
open Go.Sort Go.RowKit in
theorem Tryz.slices_Sort_int (blk off cap:Nat) (zs:List Int) (w:World) (hH:Holds (Value.int .i64) w blk off zs.toArray) (hblk:blk<w.heap.size) (hsz:zs.length<4611686018427387904) :
    Calls Tryz.prog 226 #[.slice (some ⟨blk,off,none⟩) zs.length cap] w fun e w'=>
      e=.returned (.tuple #[])∧∃ n os,w'=grow (putRow (Value.int .i64) (Sort.ahead w n) blk off (zs.mergeSort fun x y=>decide (x≤y)).toArray) os:=Any.slices_Sort_int Tryz.lays189 blk off cap zs w hH hblk hsz
def Tryz.lays146_ren:Go.Shelf.Ren:=⟨fun | 146=>53 | 221=>97 | 268=>154 | 138=>155 | 143=>156 | 195=>212 | 197=>213 | 218=>214 | 219=>215 | 260=>271 | 217=>272 | 225=>273 | 224=>274 | 267=>275 | 266=>300 | 314=>301 | n=>n,fun | 9=>9 | 31=>31 | 3=>3 | 4=>4 | 0=>0 | 105=>235 | 21=>21 | 5=>5 | 46=>223 | 119=>284 | 139=>287 | 138=>286 | 146=>288 | 51=>263 | n=>n,fun | 1=>0 | 3=>1 | 4=>2 | n=>n⟩
theorem Tryz.lays146:Go.Proofs.Lays.n146 Tryz.prog Tryz.lays146_ren:={
  mixed:=by kernel_rfl
  f138:=Tryz.func155.trans (congrArg some (by kernel_rfl))
  f143:=Tryz.func156.trans (congrArg some (by kernel_rfl))
  f146:=Tryz.func53.trans (congrArg some (by kernel_rfl))
  f195:=Tryz.func212.trans (congrArg some (by kernel_rfl))
  f197:=Tryz.func213.trans (congrArg some (by kernel_rfl))
  f217:=Tryz.func272.trans (congrArg some (by kernel_rfl))
  f218:=Tryz.func214.trans (congrArg some (by kernel_rfl))
  f219:=Tryz.func215.trans (congrArg some (by kernel_rfl))
  f221:=Tryz.func97.trans (congrArg some (by kernel_rfl))
  f224:=Tryz.func274.trans (congrArg some (by kernel_rfl))
  f225:=Tryz.func273.trans (congrArg some (by kernel_rfl))
  f260:=Tryz.func271.trans (congrArg some (by kernel_rfl))
  f266:=Tryz.func300.trans (congrArg some (by kernel_rfl))
  f267:=Tryz.func275.trans (congrArg some (by kernel_rfl))
  f268:=Tryz.func154.trans (congrArg some (by kernel_rfl))
  f314:=Tryz.func301.trans (congrArg some (by kernel_rfl))
  t0:=Tryz.underlying0
  a0:=Tryz.isAgg0
  z0:=Tryz.sizeOf0
  v0:=Tryz.zeroValue0
  t3:=Tryz.underlying3
  a3:=Tryz.isAgg3
  z3:=Tryz.sizeOf3
  v3:=Tryz.zeroValue3
  t4:=Tryz.underlying4
  a4:=Tryz.isAgg4
  z4:=Tryz.sizeOf4
  v4:=Tryz.zeroValue4
  t5:=Tryz.underlying5
  a5:=Tryz.isAgg5
  z5:=Tryz.sizeOf5
  v5:=Tryz.zeroValue5
  t9:=Tryz.underlying9
  a9:=Tryz.isAgg9
  z9:=Tryz.sizeOf9
  v9:=Tryz.zeroValue9
  t21:=Tryz.underlying21
  a21:=Tryz.isAgg21
  z21:=Tryz.sizeOf21
  v21:=Tryz.zeroValue21
  t31:=Tryz.underlying31
  a31:=Tryz.isAgg31
  z31:=Tryz.sizeOf31
  v31:=Tryz.zeroValue31
  t46:=Tryz.underlying223
  a46:=Tryz.isAgg223
  z46:=Tryz.sizeOf223
  v46:=Tryz.zeroValue223
  t51:=Tryz.underlying263
  a51:=Tryz.isAgg263
  z51:=Tryz.sizeOf263
  v51:=Tryz.zeroValue263
  t105:=Tryz.underlying235
  a105:=Tryz.isAgg235
  z105:=Tryz.sizeOf235
  v105:=Tryz.zeroValue235
  t119:=Tryz.underlying284
  a119:=Tryz.isAgg284
  z119:=Tryz.sizeOf284
  t138:=Tryz.underlying286
  a138:=Tryz.isAgg286
  z138:=Tryz.sizeOf286
  v138:=Tryz.zeroValue286
  t139:=Tryz.underlying287
  a139:=Tryz.isAgg287
  z139:=Tryz.sizeOf287
  v139:=Tryz.zeroValue287
  t146:=Tryz.underlying288
  a146:=Tryz.isAgg288
  z146:=Tryz.sizeOf288
  v146:=Tryz.zeroValue288
  g1:=by kernel_rfl
  g3:=by kernel_rfl
  g4:=by kernel_rfl }
def Tryz.laysNm220_ren:Go.Shelf.Ren:=⟨fun | 20=>227 | n=>n,fun | 22=>73 | 3=>3 | 4=>4 | 0=>0 | n=>n,fun | n=>n⟩
theorem Tryz.laysNm220:Go.Proofs.Lays2.n20 Tryz.prog Tryz.laysNm220_ren:={
  mixed:=by kernel_rfl
  f20:=Tryz.func227.trans (congrArg some (by kernel_rfl))
  t0:=Tryz.underlying0
  a0:=Tryz.isAgg0
  z0:=Tryz.sizeOf0
  v0:=Tryz.zeroValue0
  t3:=Tryz.underlying3
  a3:=Tryz.isAgg3
  z3:=Tryz.sizeOf3
  v3:=Tryz.zeroValue3
  t4:=Tryz.underlying4
  a4:=Tryz.isAgg4
  z4:=Tryz.sizeOf4
  v4:=Tryz.zeroValue4
  t22:=Tryz.underlying73
  a22:=Tryz.isAgg73
  z22:=Tryz.sizeOf73
  v22:=Tryz.zeroValue73
  i3:=by kernel_rfl }
open Go.RowKit Go.Lib Go.Sort in
theorem Tryz.slices_Compact_int (blk off cap:Nat) (zs:List Int) (w:World) (hH:Holds (Value.int .i64) w blk off zs.toArray) (hsz:zs.length≤9223372036854775807) (hcap:zs.length≤cap) :
    Calls Tryz.prog 227 #[.slice (some ⟨blk,off,none⟩) zs.length cap] w fun e w'=>e=.returned (.slice (some ⟨blk,off,none⟩) (Lib.compact zs).length cap)∧∃ q,w'=putRow (Value.int .i64) (Sort.ahead w q) blk off (Lib.compact zs++List.replicate (zs.length - (Lib.compact zs).length) 0).toArray:=Any.slices_Compact_int Tryz.laysNm220 blk off cap zs w hH hsz hcap
def Tryz.laysNm237_ren:Go.Shelf.Ren:=⟨fun | 37=>299 | n=>n,fun | 3=>3 | 4=>4 | n=>n,fun | n=>n⟩
theorem Tryz.laysNm237:Go.Proofs.Lays2.n37 Tryz.prog Tryz.laysNm237_ren:={
  mixed:=by kernel_rfl
  f37:=Tryz.func299.trans (congrArg some (by kernel_rfl))
  t3:=Tryz.underlying3
  a3:=Tryz.isAgg3
  z3:=Tryz.sizeOf3
  v3:=Tryz.zeroValue3
  t4:=Tryz.underlying4
  a4:=Tryz.isAgg4
  z4:=Tryz.sizeOf4
  v4:=Tryz.zeroValue4 }
open Go.RowKit Go.Lib in
theorem Tryz.cmp_isNaN_int2 (x:Int) (w:World) :
    Calls Tryz.prog 299 #[.int .i64 x] w fun e w'=>e=.returned (.bool false)∧w'=w:=Any.cmp_isNaN_int2 Tryz.laysNm237 x w
def Tryz.laysSlF6_f146_ren:Go.Shelf.Ren:=⟨fun | 6=>146 | 15=>210 | 14=>209 | 28=>268 | 29=>269 | 20=>260 | 21=>261 | 22=>262 | 23=>263 | 24=>264 | 25=>265 | 26=>266 | 27=>267 | 46=>294 | 47=>295 | 48=>296 | 49=>297 | 50=>298 | 57=>318 | n=>n,fun | 22=>118 | 24=>73 | 25=>184 | 3=>3 | 39=>223 | 0=>0 | 53=>263 | 55=>90 | 4=>4 | 46=>257 | 45=>256 | 50=>67 | 5=>5 | 9=>9 | 66=>278 | 70=>282 | 76=>303 | 77=>144 | n=>n,fun | n=>n⟩
theorem Tryz.laysSlF6_f146:Go.Proofs.SlLaysF.n6 Tryz.prog Tryz.laysSlF6_f146_ren:={
  mixed:=by kernel_rfl
  f6:=⟨Tryz.f146.name,by decide,Tryz.func146.trans (congrArg some (by kernel_rfl))⟩
  f14:=⟨Tryz.f209.name,by decide,Tryz.func209.trans (congrArg some (by kernel_rfl))⟩
  f15:=Tryz.func210.trans (congrArg some (by kernel_rfl))
  f20:=⟨Tryz.f260.name,by decide,Tryz.func260.trans (congrArg some (by kernel_rfl))⟩
  f21:=⟨Tryz.f261.name,by decide,Tryz.func261.trans (congrArg some (by kernel_rfl))⟩
  f22:=⟨Tryz.f262.name,by decide,Tryz.func262.trans (congrArg some (by kernel_rfl))⟩
  f23:=⟨Tryz.f263.name,by decide,Tryz.func263.trans (congrArg some (by kernel_rfl))⟩
  f24:=⟨Tryz.f264.name,by decide,Tryz.func264.trans (congrArg some (by kernel_rfl))⟩
  f25:=⟨Tryz.f265.name,by decide,Tryz.func265.trans (congrArg some (by kernel_rfl))⟩
  f26:=⟨Tryz.f266.name,by decide,Tryz.func266.trans (congrArg some (by kernel_rfl))⟩
  f27:=⟨Tryz.f267.name,by decide,Tryz.func267.trans (congrArg some (by kernel_rfl))⟩
  f28:=Tryz.func268.trans (congrArg some (by kernel_rfl))
  f29:=Tryz.func269.trans (congrArg some (by kernel_rfl))
  f46:=⟨Tryz.f294.name,by decide,Tryz.func294.trans (congrArg some (by kernel_rfl))⟩
  f47:=Tryz.func295.trans (congrArg some (by kernel_rfl))
  f48:=Tryz.func296.trans (congrArg some (by kernel_rfl))
  f49:=⟨Tryz.f297.name,by decide,Tryz.func297.trans (congrArg some (by kernel_rfl))⟩
  f50:=⟨Tryz.f298.name,by decide,Tryz.func298.trans (congrArg some (by kernel_rfl))⟩
  f57:=⟨Tryz.f318.name,by decide,Tryz.func318.trans (congrArg some (by kernel_rfl))⟩
  t0:=Tryz.underlying0
  a0:=Tryz.isAgg0
  z0:=Tryz.sizeOf0
  v0:=Tryz.zeroValue0
  t3:=Tryz.underlying3
  a3:=Tryz.isAgg3
  z3:=Tryz.sizeOf3
  v3:=Tryz.zeroValue3
  t4:=Tryz.underlying4
  a4:=Tryz.isAgg4
  z4:=Tryz.sizeOf4
  v4:=Tryz.zeroValue4
  t5:=Tryz.underlying5
  a5:=Tryz.isAgg5
  z5:=Tryz.sizeOf5
  v5:=Tryz.zeroValue5
  t9:=Tryz.underlying9
  a9:=Tryz.isAgg9
  z9:=Tryz.sizeOf9
  v9:=Tryz.zeroValue9
  t22:=Tryz.underlying118
  a22:=Tryz.isAgg118
  z22:=Tryz.sizeOf118
  v22:=Tryz.zeroValue118
  a24:=Tryz.isAgg73
  z24:=Tryz.sizeOf73
  t25:=Tryz.underlying184
  a25:=Tryz.isAgg184
  z25:=Tryz.sizeOf184
  v25:=Tryz.zeroValue184
  t39:=Tryz.underlying223
  a39:=Tryz.isAgg223
  z39:=Tryz.sizeOf223
  v39:=Tryz.zeroValue223
  t45:=Tryz.underlying256
  a45:=Tryz.isAgg256
  z45:=Tryz.sizeOf256
  v45:=Tryz.zeroValue256
  t46:=Tryz.underlying257
  a46:=Tryz.isAgg257
  z46:=Tryz.sizeOf257
  v46:=Tryz.zeroValue257
  t50:=Tryz.underlying67
  a50:=Tryz.isAgg67
  z50:=Tryz.sizeOf67
  v50:=Tryz.zeroValue67
  t53:=Tryz.underlying263
  a53:=Tryz.isAgg263
  z53:=Tryz.sizeOf263
  v53:=Tryz.zeroValue263
  t55:=Tryz.underlying90
  a55:=Tryz.isAgg90
  z55:=Tryz.sizeOf90
  v55:=Tryz.zeroValue90
  t66:=Tryz.underlying278
  a66:=Tryz.isAgg278
  z66:=Tryz.sizeOf278
  v66:=Tryz.zeroValue278
  t70:=Tryz.underlying282
  a70:=Tryz.isAgg282
  z70:=Tryz.sizeOf282
  v70:=Tryz.zeroValue282
  t76:=Tryz.underlying303
  a76:=Tryz.isAgg303
  z76:=Tryz.sizeOf303
  v76:=Tryz.zeroValue303
  t77:=Tryz.underlying144
  a77:=Tryz.isAgg144
  z77:=Tryz.sizeOf144
  v77:=Tryz.zeroValue144 }
open Go.RowKit Go.Lib Go.Sort in
theorem Tryz.slices_SortFunc_eq {α:Type} [Inhabited α] (enc:α→Value) (h1:OneCell enc) (cf:α→α→Int) (hO:SWO (ltOf cf)) (g:Nat) (cb:Array Value) (blk off cap:Nat) (d:Array α) (w:World) (eg:∀ args w,(callFunc g args).run Tryz.prog w=.ok (.enter g args) w) (hcmp:CmpLays1 Tryz.prog g cb enc cf blk off d.size w) (hH:Holds enc w blk off d) (hblk:blk<w.heap.size) (hsz:d.size<4611686018427387904) :
    Calls Tryz.prog 146 #[.slice (some ⟨blk,off,none⟩) d.size cap,.func (.func g) #[] cb] w fun e w'=>
      e=.returned (.tuple #[])∧∃ n os,w'=sortWorld enc w blk off n (pdq (ltOf cf) d 0 d.size (Lib.bitLen d.size) true true) os:=Any.slices_SortFunc_eq Tryz.laysSlF6_f146 enc h1 cf hO g cb blk off cap d w eg hcmp hH hblk hsz
end Go.Proofs.YtemcdiajejekoaaGreatDoor
namespace Go.Proofs.YtemcdiajejekoaaGreatDoor.Slim
open Go
set_option maxRecDepth 20000
abbrev Jv:FuncId:=6
abbrev Zjb:FuncId:=18
abbrev Kc:FuncId:=20
abbrev ZM:FuncId:=25
abbrev Jw:FuncId:=28
abbrev KZ:FuncId:=38
abbrev ZcW:FuncId:=39
abbrev ZaW:FuncId:=40
abbrev Xh:FuncId:=41
abbrev K0:FuncId:=42
abbrev Kd:FuncId:=43
abbrev Zci:FuncId:=44
abbrev Zcj:FuncId:=45
abbrev K1:FuncId:=53
abbrev YD:FuncId:=57
abbrev JT:FuncId:=58
abbrev KB:FuncId:=59
abbrev ZaO:FuncId:=60
abbrev Xa:FuncId:=63
abbrev JU:FuncId:=64
abbrev Kr:FuncId:=65
abbrev Ke:FuncId:=69
abbrev Q8:FuncId:=71
abbrev ZG:FuncId:=74
abbrev Zz:FuncId:=75
abbrev K2:FuncId:=76
abbrev XT:FuncId:=81
abbrev Ye:FuncId:=82
abbrev Jq:FuncId:=83
abbrev XI:FuncId:=84
abbrev YP:FuncId:=85
abbrev Kf:FuncId:=86
abbrev JE:FuncId:=87
abbrev Zav:FuncId:=88
abbrev K3:FuncId:=89
abbrev Zck:FuncId:=100
abbrev YE:FuncId:=101
abbrev Yh:FuncId:=102
abbrev Yf:FuncId:=103
abbrev Z4:FuncId:=104
abbrev Zjc:FuncId:=105
abbrev KN:FuncId:=106
abbrev JV:FuncId:=107
abbrev Zcl:FuncId:=111
abbrev Yb:FuncId:=112
abbrev Zbt:FuncId:=113
abbrev ZeD:FuncId:=114
abbrev JW:FuncId:=115
abbrev ZT:FuncId:=116
abbrev Zbu:FuncId:=117
abbrev Xx:FuncId:=118
abbrev Kg:FuncId:=119
abbrev Zaw:FuncId:=120
abbrev Ks:FuncId:=121
abbrev Jj:FuncId:=122
abbrev Jx:FuncId:=131
abbrev YB:FuncId:=132
abbrev Kh:FuncId:=133
abbrev Zbv:FuncId:=134
abbrev Zf9:FuncId:=135
abbrev Kt:FuncId:=136
abbrev ZQ:FuncId:=139
abbrev ZaX:FuncId:=140
abbrev JF:FuncId:=141
abbrev YL:FuncId:=142
abbrev Yn:FuncId:=146
abbrev ZE:FuncId:=147
abbrev ZcX:FuncId:=157
abbrev Zcm:FuncId:=158
abbrev Zcn:FuncId:=159
abbrev ZcY:FuncId:=160
abbrev Q9:FuncId:=161
abbrev Xb:FuncId:=162
abbrev Xt:FuncId:=163
abbrev Zax:FuncId:=164
abbrev ZaY:FuncId:=165
abbrev K4:FuncId:=166
abbrev ZcZ:FuncId:=167
abbrev JX:FuncId:=168
abbrev Xu:FuncId:=169
abbrev QO:FuncId:=170
abbrev Yq:FuncId:=171
abbrev Zbw:FuncId:=172
abbrev Zbx:FuncId:=173
abbrev Zc0:FuncId:=174
abbrev Zby:FuncId:=175
abbrev K5:FuncId:=176
abbrev Zc1:FuncId:=177
abbrev Ja:FuncId:=178
abbrev Xy:FuncId:=179
abbrev Zco:FuncId:=184
abbrev Jb:FuncId:=196
abbrev ZeE:FuncId:=197
abbrev Y2:FuncId:=198
abbrev ZeF:FuncId:=199
abbrev Zc2:FuncId:=200
abbrev ZaP:FuncId:=201
abbrev ZaZ:FuncId:=202
abbrev Ku:FuncId:=203
abbrev ZV:FuncId:=205
abbrev Zb4:FuncId:=211
abbrev Yo:FuncId:=215
abbrev XJ:FuncId:=216
abbrev ZeG:FuncId:=217
abbrev Zcp:FuncId:=218
abbrev ZJ:FuncId:=221
abbrev ZH:FuncId:=222
abbrev QP:FuncId:=223
abbrev Xz:FuncId:=224
abbrev K6:FuncId:=225
abbrev Xn:FuncId:=226
abbrev YM:FuncId:=227
abbrev Yr:FuncId:=228
abbrev Y6:FuncId:=229
abbrev Zay:FuncId:=230
abbrev Za0:FuncId:=231
abbrev KO:FuncId:=232
abbrev K7:FuncId:=233
abbrev K8:FuncId:=234
abbrev Zbz:FuncId:=235
abbrev ZbA:FuncId:=236
abbrev Zag:FuncId:=239
abbrev YC:FuncId:=255
abbrev Jy:FuncId:=256
abbrev Zc3:FuncId:=282
abbrev Zc4:FuncId:=283
@[go_sem] def Qa (n:Nat):YS:=⟨.mv (.t n),none⟩
@[go_sem] def Qb (n:Nat):YS:=⟨.mv (.l n),none⟩
@[go_sem] def Qc:YS:=⟨.mv (.c (.bool false)),none⟩
@[go_sem] def Qd:YS:=⟨.mv (.c (.bool true)),none⟩
@[go_sem] def Qe (n:Int):YS:=⟨.mv (.c (.int .i64 n)),none⟩
@[go_sem] def Qf (o:AO):YS:=⟨o,none⟩
@[go_sem] def Qg (o:AO):DE:=⟨o,none,[]⟩
@[go_sem] def Qh (n:Int):X:=.c (.int .i64 n)
@[go_sem] def Qi:X:=.c (.bool false)
@[go_sem] def Qj:X:=.c (.bool true)
@[go_sem] def Ql (a:List YS) (b:List (Nat×Nat)) (k:Zg):Zg:=.seq (.region a b) k
@[go_sem] def Qm (a:List DE) (b:List (Nat×Nat)) (k:Zg):Zg:=.seq (.draw a b) k
@[go_sem] def Qn (a n:Nat):YS:=⟨.load false a (.l n),none⟩
@[go_sem] def Qo (a n:Nat):YS:=⟨.fieldAddr a (.t n),none⟩
@[go_sem] def Qp (a n:Nat):YS:=⟨.extract a (.l n),none⟩
@[go_sem] def Qq (a n m:Nat):YS:=⟨.store a (.l n) (.l m),none⟩
@[go_sem] def Qr (a n:Nat):YS:=⟨.load true a (.t n),none⟩
@[go_sem] def Qs (f:FuncId) (a:List X):YS:=⟨.call (.c (.fn f [] [])) a,none⟩
@[go_sem] def Qt (f:FuncId) (a:List X):DE:=⟨.call (.c (.fn f [] [])) a,none,[]⟩
def Zf:Zg :=
 (.seq (.region [⟨.mv (.c (.bool false)),none⟩] [(1,0)])
 (.seq (.seq (.region [⟨.mv (.t 0),none⟩,⟨.call (.c (.fn Zjb [] [])) [(.l 0)],none⟩] [(19,1)])
 (.cond (.t 19) (.seq (.region [⟨.mv (.c (.bool true)),none⟩] [(1,0)])
 .ret) .skip))
 (.seq (.region [⟨.mv (.t 0),none⟩,⟨.call (.c (.fn KZ [] [])) [(.l 0)],none⟩,⟨.alloc [.slice none 0 0 none,.int .i64 (0),.int .i64 (0),.slice none 0 0 none,.int .i64 (0),.int .i64 (0)],none⟩,⟨.store 6 (.l 2) (.l 1),none⟩] [(2,2)])
 (.seq (.region [⟨.load true 6 (.t 2),none⟩,⟨.call (.c (.fn Kc [] [])) [(.l 0)],none⟩,⟨.mv (.l 1),none⟩,⟨.extract 0 (.l 2),none⟩,⟨.extract 1 (.l 2),none⟩,⟨.alloc [.slice none 0 0 none,.int .i64 (0),.int .i64 (0),.slice none 0 0 none,.int .i64 (0),.int .i64 (0),.str ⟨#[]⟩,.str ⟨#[]⟩,.int .i64 (0)],none⟩,⟨.store 9 (.l 5) (.l 3),none⟩,⟨.mv (.l 4),none⟩] [(3,5),(4,7)])
 (.seq (.seq (.region [⟨.mv (.t 4),none⟩,⟨.un .not (.l 0),none⟩] [(20,1)])
 (.cond (.t 20) (.seq (.region [⟨.load true 6 (.t 2),none⟩,⟨.call (.c (.fn ZcW [] [])) [(.l 0)],none⟩,⟨.un .not (.l 1),none⟩,⟨.mv (.l 2),none⟩] [(1,3)])
 .ret) .skip))
 (.seq (.region [⟨.load true 9 (.t 3),none⟩,⟨.call (.c (.fn ZM [] [])) [(.l 0),(.c (.str ⟨#[114,111,119]⟩))],none⟩,⟨.mv (.l 1),none⟩,⟨.extract 0 (.l 2),none⟩,⟨.extract 1 (.l 2),none⟩,⟨.alloc [.slice none 0 0 none,.int .i64 (0),.int .i64 (0),.slice none 0 0 none,.int .i64 (0),.int .i64 (0),.str ⟨#[]⟩,.str ⟨#[]⟩,.int .i64 (0)],none⟩,⟨.store 9 (.l 5) (.l 3),none⟩,⟨.mv (.l 4),none⟩] [(5,7)])
 (.seq (.region [⟨.load true 9 (.t 3),none⟩,⟨.call (.c (.fn ZM [] [])) [(.l 0),(.c (.str ⟨#[109,111,109,101,110,116,32,51,48]⟩))],none⟩,⟨.mv (.l 1),none⟩,⟨.extract 0 (.l 2),none⟩,⟨.extract 1 (.l 2),none⟩,⟨.alloc [.slice none 0 0 none,.int .i64 (0),.int .i64 (0),.slice none 0 0 none,.int .i64 (0),.int .i64 (0),.str ⟨#[]⟩,.str ⟨#[]⟩,.int .i64 (0)],none⟩,⟨.store 9 (.l 5) (.l 3),none⟩,⟨.mv (.l 4),none⟩] [(6,7)])
 (.seq (.region [⟨.load true 9 (.t 3),none⟩,⟨.call (.c (.fn ZM [] [])) [(.l 0),(.c (.str ⟨#[122,101,114,111,32,51,48]⟩))],none⟩,⟨.mv (.l 1),none⟩,⟨.extract 0 (.l 2),none⟩,⟨.extract 1 (.l 2),none⟩,⟨.alloc [.slice none 0 0 none,.int .i64 (0),.int .i64 (0),.slice none 0 0 none,.int .i64 (0),.int .i64 (0),.str ⟨#[]⟩,.str ⟨#[]⟩,.int .i64 (0)],none⟩,⟨.store 9 (.l 5) (.l 3),none⟩,⟨.mv (.l 4),none⟩] [(7,7)])
 (.seq (.region [⟨.load true 9 (.t 3),none⟩,⟨.call (.c (.fn ZM [] [])) [(.l 0),(.c (.str ⟨#[115,112,108,105,116]⟩))],none⟩,⟨.mv (.l 1),none⟩,⟨.extract 0 (.l 2),none⟩,⟨.extract 1 (.l 2),none⟩,⟨.alloc [.slice none 0 0 none,.int .i64 (0),.int .i64 (0),.slice none 0 0 none,.int .i64 (0),.int .i64 (0),.str ⟨#[]⟩,.str ⟨#[]⟩,.int .i64 (0)],none⟩,⟨.store 9 (.l 5) (.l 3),none⟩,⟨.mv (.l 4),none⟩] [(8,7)])
 (.seq (.region [⟨.load true 9 (.t 3),none⟩,⟨.call (.c (.fn ZM [] [])) [(.l 0),(.c (.str ⟨#[104,111,119,32,50,32,49,32,51]⟩))],none⟩,⟨.mv (.l 1),none⟩,⟨.extract 0 (.l 2),none⟩,⟨.extract 1 (.l 2),none⟩,⟨.alloc [.slice none 0 0 none,.int .i64 (0),.int .i64 (0),.slice none 0 0 none,.int .i64 (0),.int .i64 (0),.str ⟨#[]⟩,.str ⟨#[]⟩,.int .i64 (0)],none⟩,⟨.store 9 (.l 5) (.l 3),none⟩,⟨.mv (.l 4),none⟩] [(9,7)])
 (.seq (.region [⟨.load true 9 (.t 3),none⟩,⟨.call (.c (.fn ZM [] [])) [(.l 0),(.c (.str ⟨#[99,111,105,110,115,32,49,50]⟩))],none⟩,⟨.mv (.l 1),none⟩,⟨.extract 0 (.l 2),none⟩,⟨.extract 1 (.l 2),none⟩,⟨.alloc [.slice none 0 0 none,.int .i64 (0),.int .i64 (0),.slice none 0 0 none,.int .i64 (0),.int .i64 (0),.str ⟨#[]⟩,.str ⟨#[]⟩,.int .i64 (0)],none⟩,⟨.store 9 (.l 5) (.l 3),none⟩,⟨.mv (.l 4),none⟩] [(10,7)])
 (.seq (.region [⟨.fieldAddr 0 (.t 2),none⟩,⟨.load false 1 (.l 0),none⟩,⟨.call (.c (.fn ZaW [] [])) [(.l 1)],none⟩,⟨.mv (.l 2),none⟩,⟨.extract 0 (.l 3),none⟩,⟨.extract 1 (.l 3),none⟩,⟨.mv (.l 4),none⟩,⟨.mv (.l 5),none⟩] [(11,6),(12,7)])
 (.seq (.region [⟨.fieldAddr 0 (.t 2),none⟩,⟨.load false 1 (.l 0),none⟩,⟨.call (.c (.fn Xh [] [])) [(.l 1),(.c (.int .i64 (30)))],none⟩,⟨.mv (.l 2),none⟩,⟨.extract 0 (.l 3),none⟩,⟨.extract 1 (.l 3),none⟩,⟨.mv (.l 4),none⟩,⟨.mv (.l 5),none⟩] [(13,6),(14,7)])
 (.seq (.region [⟨.fieldAddr 0 (.t 2),none⟩,⟨.load false 1 (.l 0),none⟩,⟨.call (.c (.fn K0 [] [])) [(.l 1),(.c (.int .i64 (30)))],none⟩,⟨.mv (.l 2),none⟩,⟨.extract 0 (.l 3),none⟩,⟨.extract 1 (.l 3),none⟩,⟨.mv (.l 4),none⟩,⟨.mv (.l 5),none⟩] [(15,6),(16,7)])
 (.seq (.region [⟨.fieldAddr 0 (.t 2),none⟩,⟨.load false 1 (.l 0),none⟩,⟨.call (.c (.fn Kd [] [])) [(.l 1)],none⟩,⟨.mv (.l 2),none⟩,⟨.extract 0 (.l 3),none⟩,⟨.extract 1 (.l 3),none⟩,⟨.mv (.l 4),none⟩,⟨.mv (.l 5),none⟩] [(17,6),(18,7)])
 (.seq (.seq (.region [⟨.mv (.t 12),none⟩,⟨.un .not (.l 0),none⟩,⟨.mv (.l 1),none⟩,⟨.mv (.t 5),some ((.l 2),false)⟩,⟨.mv (.t 11),some ((.l 2),false)⟩,⟨.bin 1 .neq (.l 3) (.l 4),some ((.l 2),false)⟩,⟨.pick (.l 2) (.c (.bool true)) (.l 5),none⟩,⟨.mv (.l 6),none⟩,⟨.mv (.t 6),some ((.l 7),false)⟩,⟨.mv (.t 13),some ((.l 7),false)⟩,⟨.mv (.t 14),some ((.l 7),false)⟩,⟨.call (.c (.fn Zci [] [])) [(.l 9),(.l 10)],some ((.l 7),false)⟩,⟨.bin 1 .neq (.l 8) (.l 11),some ((.l 7),false)⟩,⟨.pick (.l 7) (.c (.bool true)) (.l 12),none⟩,⟨.mv (.l 13),none⟩,⟨.mv (.t 7),some ((.l 14),false)⟩,⟨.mv (.t 15),some ((.l 14),false)⟩,⟨.mv (.t 16),some ((.l 14),false)⟩,⟨.call (.c (.fn Zci [] [])) [(.l 16),(.l 17)],some ((.l 14),false)⟩,⟨.bin 1 .neq (.l 15) (.l 18),some ((.l 14),false)⟩,⟨.pick (.l 14) (.c (.bool true)) (.l 19),none⟩,⟨.mv (.l 20),none⟩,⟨.mv (.t 8),some ((.l 21),false)⟩,⟨.mv (.t 17),some ((.l 21),false)⟩,⟨.mv (.t 18),some ((.l 21),false)⟩,⟨.call (.c (.fn Zcj [] [])) [(.l 23),(.l 24)],some ((.l 21),false)⟩,⟨.bin 1 .neq (.l 22) (.l 25),some ((.l 21),false)⟩,⟨.pick (.l 21) (.c (.bool true)) (.l 26),none⟩] [(21,27)])
 (.cond (.t 21) (.seq (.region [⟨.mv (.c (.bool false)),none⟩] [(1,0)])
 .ret) .skip))
 (.seq (.region [⟨.mv (.t 9),none⟩,⟨.bin 1 .eql (.l 0) (.c (.str ⟨#[45,49,32,49]⟩)),none⟩,⟨.mv (.l 1),none⟩,⟨.mv (.t 10),some ((.l 2),true)⟩,⟨.bin 1 .eql (.l 3) (.c (.str ⟨#[51]⟩)),some ((.l 2),true)⟩,⟨.pick (.l 2) (.l 4) (.c (.bool false)),none⟩,⟨.mv (.l 5),none⟩] [(1,6)])
 .ret)))))))))))))))))
def Zy:ZZ:=⟨[0,2,3,4,5,7,9,11,13,15,17,18,19,20,21,22,23,24,25,27,36,121],128,Zf,[.tmp 1],1⟩
def Zr8:Zg :=
 (Ql [Qc] [(1,0)]
 (Ql [Qa 0,Qf (.len (.l 0)),Qf (.bin 0 .gtr (.l 1) (Qh 65536)),Qb 2] [(1,3)]
 .ret))
def Zjd:ZZ:=⟨[0,2],6,Zr8,[.tmp 1],1⟩
def Zb5:Zg :=
 (Ql [Qf (.box (.t 0)),⟨.alloc [.slice none 0 0 none,.int .i64 (0),.int .i64 (0),.slice none 0 0 none,.int .i64 (0),.int .i64 (0),.str ⟨#[]⟩,.str ⟨#[]⟩,.int .i64 (0)],none⟩,Qc] [(1,0),(2,1),(3,2)]
 (.seq (Ql [Qr 6 1,Qs YD [.l 0],Qf (.un .not (.l 1))] [(4,2)]
 (.cond (.t 4) (Ql [⟨.build [.slice none 0 0 none,.int .i64 (0),.int .i64 (0),.slice none 0 0 none,.int .i64 (0),.int .i64 (0),.str ⟨#[]⟩,.str ⟨#[]⟩,.int .i64 (0)] [],none⟩,Qf (.store 9 (.t 2) (.l 0)),Qc] [(3,2)]
 .ret) .skip))
 (Ql [Qr 6 1,Qs JT [.l 0],⟨.build [.slice none 0 0 none,.int .i64 (0),.int .i64 (0),.slice none 0 0 none,.int .i64 (0),.int .i64 (0),.str ⟨#[]⟩,.str ⟨#[]⟩,.int .i64 (0)] [(0,6,(.l 1))],none⟩,Qf (.store 9 (.t 2) (.l 2)),Qd] [(3,4)]
 .ret)))
def Ki:ZZ:=⟨[0,1,2,3,6],11,Zb5,[.cell 2 true 9,.tmp 3],2⟩
def XA:Zg :=
 (Ql [Qf (.box (.t 0)),⟨.alloc [.slice none 0 0 none,.int .i64 (0),.int .i64 (0),.slice none 0 0 none,.int .i64 (0),.int .i64 (0),.str ⟨#[]⟩,.str ⟨#[]⟩,.int .i64 (0)],none⟩,⟨.mv (.c (.str ⟨#[]⟩)),none⟩] [(2,0),(3,1),(4,2)]
 (Qm [Qg (.fieldAddr 0 (.t 2)),Qg (.load true 6 (.l 0)),Qg (.fieldAddr 6 (.t 2)),Qg (.load true 3 (.l 2)),⟨.call (.c (.fn JT [] [])) [(.l 1)],none,[(3,Qf (.load true 3 (.l 2)))]⟩,⟨.build [.slice none 0 0 none,.int .i64 (0),.int .i64 (0),.slice none 0 0 none,.int .i64 (0),.int .i64 (0),.str ⟨#[]⟩,.str ⟨#[]⟩,.int .i64 (0)] [(0,6,(.l 4)),(6,3,(.l 3))],none,[]⟩,⟨.alloc [.slice none 0 0 none,.int .i64 (0),.int .i64 (0),.slice none 0 0 none,.int .i64 (0),.int .i64 (0),.str ⟨#[]⟩,.str ⟨#[]⟩,.int .i64 (0)],none,[(1,Qf (.load true 6 (.l 0))),(3,Qf (.load true 3 (.l 2)))]⟩,Qg (.store 9 (.l 6) (.l 5))] [(5,6)]
 (.seq (.block 0 (Ql [Qr 9 2,Qs Jw [.l 0],Qf (.un .not (.l 1)),Qb 2] [(8,3)]
 (.cond (.t 8) (Ql [Qr 9 5,Qf (.store 9 (.t 3) (.l 0)),⟨.mv (.c (.str ⟨#[110,111]⟩)),none⟩] [(4,2)]
 .ret) (Ql [Qa 1,⟨.build [.str ⟨#[]⟩,.str ⟨#[]⟩] [(0,1,(.l 0))],none⟩,Qs Xa [.l 1],Qf (.un .not (.l 2)),Qb 3] [(9,4)]
 (.cond (.t 9) (Ql [Qr 9 5,Qf (.store 9 (.t 3) (.l 0)),⟨.mv (.c (.str ⟨#[98,97,100]⟩)),none⟩] [(4,2)]
 .ret) (Ql [Qo 6 2,Qf (.fieldAddr 2 (.l 0)),Qn 1 1,Qf (.bin 0 .eql (.l 2) (Qh 60)),Qb 3] [(10,4)]
 (.cond (.t 10) (Ql [Qr 9 5,Qf (.store 9 (.t 3) (.l 0)),⟨.mv (.c (.str ⟨#[102,117,108,108]⟩)),none⟩] [(4,2)]
 .ret) .skip)))))))
 (Ql [Qo 0 5,Qa 1,Qs JU [.l 0,.l 1],Qb 2,Qp 0 3,Qp 1 3,Qb 4,Qb 5] [(6,6),(7,7)]
 (.seq (Ql [Qa 7,Qf (.un .not (.l 0))] [(11,1)]
 (.cond (.t 11) (.region [⟨.mv (.c (.str ⟨#[63]⟩)),none⟩] [(6,0)]) .skip))
 (Ql [Qo 6 5,Qf (.load true 3 (.l 0)),Qa 1,Qa 6,⟨.build [.str ⟨#[]⟩,.str ⟨#[]⟩] [(0,1,(.l 2)),(1,1,(.l 3))],none⟩,Qs Kr [.l 1,.l 4],Qb 5,Qp 0 6,Qp 1 6,Qo 6 5,Qq 3 9 7] []
 (Ql [Qr 9 5,Qa 6,Qf (.store 9 (.t 3) (.l 0)),Qb 1] [(4,3)]
 .ret)))))))
def Ys:ZZ:=⟨[0,1,2,4,5,6,7,8,15,20,26,39],52,XA,[.cell 3 true 9,.tmp 4],2⟩
def ZbB:Zg :=
 (Ql [Qf (.box (.t 0)),Qc] [(1,0),(2,1)]
 (Ql [Qo 0 1,Qf (.load true 6 (.l 0)),Qs YD [.l 1],Qb 2,⟨.fieldAddr 6 (.t 1),some ((.l 3),true)⟩,⟨.load true 3 (.l 4),some ((.l 3),true)⟩,⟨.call (.c (.fn Ke [] [])) [(.l 5)],some ((.l 3),true)⟩,Qf (.pick (.l 3) (.l 6) Qi),Qb 7] [(2,8)]
 .ret))
def Jz:ZZ:=⟨[0,1,2],11,ZbB,[.tmp 2],1⟩
def Zd1:Zg :=
 (Ql [Qf (.alloc [.slice none 0 0 none,.int .i64 (0),.int .i64 (0),.slice none 0 0 none,.int .i64 (0),.int .i64 (0)])] [(1,0)]
 (Ql [Qa 0,Qf (.build [.slice none 0 0 none,.int .i64 (0),.int .u64 (0)] [(0,1,(.l 0))]),Qf (.box (.l 1)),Qb 2] [(2,3)]
 (Ql [Qa 2,Qs K2 [.l 0],Qf (.store 6 (.t 1) (.l 1))] []
 .ret)))
def JG:ZZ:=⟨[0,2,3],9,Zd1,[.cell 1 true 6],2⟩
def ZjO:Zg :=
 (Ql [Qf (.box (.t 0)),Qc] [(1,0),(2,1)]
 (Ql [Qr 6 1,Qs KB [.l 0],Qb 1] [(2,2)]
 .ret))
def Zc5:ZZ:=⟨[0,1,2],5,ZjO,[.tmp 2],1⟩
def Zc6:Zg :=
 (Ql [Qf (.bin 0 .lss (.t 9) (.t 8))] [(10,0)]
 (.seq (.cond (.t 10) .skip (.exit 0))
 (.seq (.block 1 (Ql [Qf (.indexAddrS 2 (.t 7) (.t 9)),Qf (.load true 2 (.l 0)),Qf (.alloc [.int .i64 (0),.int .i64 (0)]),Qq 2 2 1] [(4,2)]
 (.region [Qa 3,Qo 0 4,Qn 1 1,Qo 1 4,Qn 1 3,Qf (.buildSlice 1 2 [.int .i64 (0),.int .i64 (0)] [(0,1,(.l 2)),(1,1,(.l 4))]),⟨.call (.c (.fn Ye [] [])) [(.l 5),(.c (.str ⟨#[58]⟩))],none⟩,⟨.buildSlice 1 1 [.str ⟨#[]⟩] [(0,1,(.l 6))],none⟩,Qf (.append false 1 16 (.l 0) (.l 7)),Qb 8] [(3,9)])))
 (.region [Qf (.bin 0 .add (.t 9) (Qh 1)),Qb 0] [(9,1)]))))
def Zfz:Zg :=
 (Ql [⟨.mv (.c (.str ⟨#[]⟩)),none⟩,Qc] [(1,0),(2,1)]
 (.seq (Ql [Qa 0,Qs XT [.l 0],Qf (.un .not (.l 1))] [(5,2)]
 (.cond (.t 5) (Ql [⟨.mv (.c (.str ⟨#[]⟩)),none⟩,Qc] [(1,0),(2,1)]
 .ret) .skip))
 (.seq (Ql [Qa 0,Qf (.len (.l 0)),Qf (.bin 0 .eql (.l 1) (Qh 0))] [(6,2)]
 (.cond (.t 6) (Ql [⟨.mv (.c (.str ⟨#[110,111,110,101]⟩)),none⟩,Qd] [(1,0),(2,1)]
 .ret) .skip))
 (Ql [Qf (.buildSlice 1 0 [] []),Qb 0] [(3,1)]
 (.seq (Ql [Qa 0,Qf (.len (.l 0)),Qe 0] [(7,0),(8,1),(9,2)]
 (.block 0 (.loop Zc6)))
 (Ql [Qa 3,⟨.call (.c (.fn Jq [] [])) [(.l 0),(.c (.str ⟨#[32]⟩))],none⟩,Qb 1,Qd] [(1,2),(2,3)]
 .ret))))))
def QQ:ZZ:=⟨[0,2,3,4,6,9,12,14,15,16,17],32,Zfz,[.tmp 1,.tmp 2],1⟩
def Zd2:Zg :=
 (Ql [Qe 0,Qc] [(2,0),(3,1)]
 (.seq (Ql [Qa 0,Qs XT [.l 0],Qf (.un .not (.l 1)),Qb 2,⟨.mv (.t 1),some ((.l 3),false)⟩,⟨.call (.c (.fn XI [] [])) [(.l 4)],some ((.l 3),false)⟩,⟨.un .not (.l 5),some ((.l 3),false)⟩,Qf (.pick (.l 3) Qj (.l 6))] [(4,7)]
 (.cond (.t 4) (Ql [Qe 0,Qc] [(2,0),(3,1)]
 .ret) .skip))
 (Ql [Qa 0,Qa 1,Qs YP [.l 0,.l 1],Qb 2,Qd] [(2,3),(3,4)]
 .ret)))
def K9:ZZ:=⟨[0,1,4,5,13],17,Zd2,[.tmp 2,.tmp 3],1⟩
def Zc7:Zg :=
 (Ql [Qe 0,Qc] [(2,0),(3,1)]
 (.seq (Ql [Qa 0,Qs XT [.l 0],Qf (.un .not (.l 1)),Qb 2,⟨.mv (.t 1),some ((.l 3),false)⟩,⟨.call (.c (.fn XI [] [])) [(.l 4)],some ((.l 3),false)⟩,⟨.un .not (.l 5),some ((.l 3),false)⟩,Qf (.pick (.l 3) Qj (.l 6))] [(4,7)]
 (.cond (.t 4) (Ql [Qe 0,Qc] [(2,0),(3,1)]
 .ret) .skip))
 (Ql [Qa 0,Qa 1,Qs Kf [.l 0,.l 1],Qf (.len (.l 2)),Qb 3,Qd] [(2,4),(3,5)]
 .ret)))
def JY:ZZ:=⟨[0,1,4,5,13],18,Zc7,[.tmp 2,.tmp 3],1⟩
def Xv:Zg :=
 (Ql [Qf (.bin 0 .lss (.t 10) (.t 9))] [(11,0)]
 (.seq (.cond (.t 11) .skip (.exit 0))
 (.seq (.block 1 (Ql [Qf (.indexAddrS 1 (.t 8) (.t 10)),Qn 1 0,Qb 1] [(5,2)]
 (Ql [Qa 5,Qf (.len (.l 0)),Qf (.bin 0 .gtr (.l 1) (Qh 0)),Qb 2,⟨.mv (.t 5),some ((.l 3),true)⟩,⟨.len (.l 4),some ((.l 3),true)⟩,⟨.mv (.t 0),some ((.l 3),true)⟩,⟨.len (.l 6),some ((.l 3),true)⟩,⟨.bin 0 .lss (.l 5) (.l 7),some ((.l 3),true)⟩,Qf (.pick (.l 3) (.l 8) Qi),Qb 9,⟨.mv (.t 5),some ((.l 10),true)⟩,⟨.indexAddrS 1 (.l 11) (Qh 0),some ((.l 10),true)⟩,⟨.load false 1 (.l 12),some ((.l 10),true)⟩,⟨.bin 0 .eql (.l 13) (Qh 0),some ((.l 10),true)⟩,Qf (.pick (.l 10) (.l 14) Qi)] [(12,15)]
 (.cond (.t 12) (Ql [Qa 5,Qb 0,Qd] [(1,1),(2,2)]
 .ret) .skip))))
 (.region [Qf (.bin 0 .add (.t 10) (Qh 1)),Qb 0] [(10,1)]))))
def Zaa:Zg :=
 (Ql [Qf (.mv (.c (.slice none 0 0 none))),Qc] [(1,0),(2,1)]
 (.seq (Ql [Qa 0,Qs XT [.l 0],Qf (.un .not (.l 1)),Qb 2,⟨.mv (.t 0),some ((.l 3),false)⟩,⟨.len (.l 4),some ((.l 3),false)⟩,⟨.bin 0 .lss (.l 5) (Qh 2),some ((.l 3),false)⟩,Qf (.pick (.l 3) Qj (.l 6))] [(6,7)]
 (.cond (.t 6) (Ql [Qf (.mv (.c (.slice none 0 0 none))),Qc] [(1,0),(2,1)]
 .ret) .skip))
 (Ql [Qa 0,Qs YP [.l 0,Qh 0],Qa 0,Qs JE [.l 2],Qb 1,Qb 3] [(3,4),(4,5)]
 (.seq (Ql [Qa 3,Qa 4,Qf (.bin 0 .rem (.l 0) (.l 1)),Qf (.bin 0 .neq (.l 2) (Qh 0))] [(7,3)]
 (.cond (.t 7) (Ql [Qf (.mv (.c (.slice none 0 0 none))),Qc] [(1,0),(2,1)]
 .ret) .skip))
 (.seq (Ql [Qa 0,Qa 3,Qa 4,Qf (.bin 0 .quo (.l 1) (.l 2)),Qs Kf [.l 0,.l 3],Qf (.len (.l 4)),Qe 0] [(8,4),(9,5),(10,6)]
 (.block 0 (.loop Xv)))
 (Ql [Qf (.mv (.c (.slice none 0 0 none))),Qc] [(1,0),(2,1)]
 .ret))))))
def Y7:ZZ:=⟨[0,2,3,4,5,7,15,23,28,29,30,31,49],52,Zaa,[.tmp 1,.tmp 2],2⟩
def Zoz:Zg :=
 (Ql [⟨.mv (.c (.str ⟨#[]⟩)),none⟩] [(2,0)]
 (.seq (Ql [Qa 1,Qf (.un .not (.l 0))] [(4,1)]
 (.cond (.t 4) (Ql [⟨.mv (.c (.str ⟨#[63]⟩)),none⟩] [(2,0)]
 .ret) .skip))
 (Ql [Qa 0,Qs Zav [.l 0],Qb 1,Qp 0 2,Qp 1 2,Qb 3,Qb 4] [(3,5)]
 (Ql [Qa 3,Qb 0] [(2,1)]
 .ret))))
def Zga:ZZ:=⟨[0,1,4,5,8],15,Zoz,[.tmp 2],1⟩
def ZbC:Zg :=
 (.seq (Ql [Qa 4,Qa 0,Qf (.len (.l 1)),Qf (.bin 0 .lss (.l 0) (.l 2))] [(7,3)]
 (.cond (.t 7) .skip (.exit 0)))
 (.seq (.block 1 (.region [Qa 3,Qa 0,Qa 4,Qf (.indexAddrS 1 (.l 1) (.l 2)),Qn 1 3,Qs Zci [.l 4,Qj],⟨.buildSlice 1 1 [.str ⟨#[]⟩] [(0,1,(.l 5))],none⟩,Qf (.append false 1 16 (.l 0) (.l 6)),Qb 7] [(3,8)]))
 (.region [Qa 4,Qf (.bin 0 .add (.l 0) (Qh 1)),Qb 1] [(4,2)])))
def Zhr:Zg :=
 (Ql [⟨.mv (.c (.str ⟨#[]⟩)),none⟩] [(2,0)]
 (.seq (Ql [Qa 1,Qf (.un .not (.l 0))] [(6,1)]
 (.cond (.t 6) (Ql [⟨.mv (.c (.str ⟨#[63]⟩)),none⟩] [(2,0)]
 .ret) .skip))
 (Ql [Qf (.buildSlice 1 0 [] []),Qb 0] [(3,1)]
 (.seq (Ql [Qe 0] [(4,0)]
 (.block 0 (.loop ZbC)))
 (.seq (Ql [Qa 3,Qf (.len (.l 0)),Qf (.bin 0 .eql (.l 1) (Qh 0))] [(8,2)]
 (.cond (.t 8) (Ql [⟨.mv (.c (.str ⟨#[110,111,110,101]⟩)),none⟩] [(2,0)]
 .ret) .skip))
 (Ql [Qa 3,⟨.call (.c (.fn K3 [] [])) [(.l 0),(.c (.str ⟨#[32]⟩))],none⟩,Qb 1,Qp 0 2,Qp 1 2,Qb 3,Qb 4] [(5,5)]
 (Ql [Qa 5,Qb 0] [(2,1)]
 .ret)))))))
def QR:ZZ:=⟨[0,1,4,5,6,7,10,15,28],35,Zhr,[.tmp 2],1⟩
def QS:Zg :=
 (Ql [Qf (.box (.t 0)),Qc] [(1,0),(2,1)]
 (Ql [Qo 0 1,Qn 1 0,Qs XT [.l 1],Qb 2,⟨.fieldAddr 1 (.t 1),some ((.l 3),true)⟩,⟨.load false 1 (.l 4),some ((.l 3),true)⟩,⟨.fieldAddr 2 (.t 1),some ((.l 3),true)⟩,⟨.load false 1 (.l 6),some ((.l 3),true)⟩,⟨.call (.c (.fn Zck [] [])) [(.l 5),(.l 7)],some ((.l 3),true)⟩,Qf (.pick (.l 3) (.l 8) Qi),Qb 9,⟨.fieldAddr 3 (.t 1),some ((.l 10),true)⟩,⟨.load false 1 (.l 11),some ((.l 10),true)⟩,⟨.call (.c (.fn YE [] [])) [(.l 12)],some ((.l 10),true)⟩,Qf (.pick (.l 10) (.l 13) Qi),Qb 14,⟨.fieldAddr 5 (.t 1),some ((.l 15),true)⟩,⟨.load false 1 (.l 16),some ((.l 15),true)⟩,⟨.call (.c (.fn Yh [] [])) [(.l 17),(Qh 0),(Qh 1000)],some ((.l 15),true)⟩,Qf (.pick (.l 15) (.l 18) Qi),Qb 19,⟨.fieldAddr 4 (.t 1),some ((.l 20),true)⟩,⟨.load false 1 (.l 21),some ((.l 20),true)⟩,⟨.fieldAddr 5 (.t 1),some ((.l 20),true)⟩,⟨.load false 1 (.l 23),some ((.l 20),true)⟩,⟨.call (.c (.fn Yh [] [])) [(.l 22),(Qh 0),(.l 24)],some ((.l 20),true)⟩,Qf (.pick (.l 20) (.l 25) Qi),Qb 26] [(2,27)]
 .ret))
def JH:ZZ:=⟨[0,1,2],30,QS,[.tmp 2],1⟩
def Zgb:Zg :=
 (Ql [Qf (.box (.t 0)),Qf (.alloc [.slice none 0 0 none,.int .i64 (0),.int .i64 (0),.slice none 0 0 none,.int .i64 (0),.int .i64 (0)])] [(1,0),(2,1)]
 (Qm [Qg (.fieldAddr 0 (.t 1)),Qg (.load false 1 (.l 0)),Qg (.fieldAddr 3 (.t 1)),Qg (.load false 1 (.l 2)),⟨.call (.c (.fn Yf [] [])) [(.l 1)],none,[(3,Qn 1 2)]⟩,Qg (.fieldAddr 0 (.t 1)),Qt Z4 [.l 3],Qg (.store 1 (.l 5) (.l 4)),Qg (.fieldAddr 3 (.t 1)),Qg (.store 1 (.l 8) (.l 6))] []
 (Ql [Qr 6 1,Qf (.store 6 (.t 2) (.l 0))] []
 .ret)))
def Zaz:ZZ:=⟨[0,1,2],12,Zgb,[.cell 2 true 6],2⟩
def Za1:Zg :=
 (Ql [Qf (.box (.t 0)),Qc] [(1,0),(2,1)]
 (.seq (Ql [Qo 0 1,Qn 1 0,Qo 1 1,Qn 1 2,Qo 2 1,Qn 1 4,Qs Zjc [.l 1,.l 3,.l 5],Qf (.un .not (.l 6)),Qb 7,⟨.fieldAddr 3 (.t 1),some ((.l 8),false)⟩,⟨.load false 1 (.l 9),some ((.l 8),false)⟩,⟨.call (.c (.fn KN [] [])) [(.l 10),(Qh 5)],some ((.l 8),false)⟩,⟨.un .not (.l 11),some ((.l 8),false)⟩,Qf (.pick (.l 8) Qj (.l 12))] [(3,13)]
 (.cond (.t 3) (Ql [Qc] [(2,0)]
 .ret) .skip))
 (Ql [Qo 5 1,Qn 1 0,Qs JV [.l 1,Qh 0,Qh 1000],Qb 2,⟨.fieldAddr 4 (.t 1),some ((.l 3),true)⟩,⟨.load false 1 (.l 4),some ((.l 3),true)⟩,⟨.fieldAddr 5 (.t 1),some ((.l 3),true)⟩,⟨.load false 1 (.l 6),some ((.l 3),true)⟩,⟨.call (.c (.fn JV [] [])) [(.l 5),(Qh 0),(.l 7)],some ((.l 3),true)⟩,Qf (.pick (.l 3) (.l 8) Qi),Qb 9] [(2,10)]
 .ret)))
def KC:ZZ:=⟨[0,1,2,16],27,Za1,[.tmp 2],1⟩
def Zhs:Zg :=
 (Ql [Qf (.box (.t 0)),Qf (.alloc [.slice none 0 0 none,.int .i64 (0),.int .i64 (0),.slice none 0 0 none,.int .i64 (0),.int .i64 (0)])] [(1,0),(2,1)]
 (Ql [Qr 6 1,Qf (.alloc [.slice none 0 0 none,.int .i64 (0),.int .i64 (0),.slice none 0 0 none,.int .i64 (0),.int .i64 (0)]),Qq 6 1 0] [(3,1)]
 (Ql [Qf (.buildSlice 2 0 [] []),Qo 0 1,Qn 1 1,Qf (.append false 2 16 (.l 0) (.l 2)),Qo 0 3,Qq 1 4 3] []
 (Ql [Qf (.buildSlice 3 0 [] []),Qo 3 1,Qn 1 1,Qf (.append false 3 24 (.l 0) (.l 2)),Qo 3 3,Qq 1 4 3] []
 (Ql [Qr 6 3,Qf (.store 6 (.t 2) (.l 0))] []
 .ret)))))
def Zcq:ZZ:=⟨[0,1,2,3],16,Zhs,[.cell 2 true 6],2⟩
def Xc:Zg :=
 (Ql [Qf (.box (.t 0)),Qc] [(1,0),(2,1)]
 (Ql [Qo 0 1,Qn 1 0,Qf (.lenStr (.l 1)),Qs Yh [.l 2,Qh 1,Qh 160],Qb 3,⟨.fieldAddr 1 (.t 1),some ((.l 4),true)⟩,⟨.load false 1 (.l 5),some ((.l 4),true)⟩,⟨.lenStr (.l 6),some ((.l 4),true)⟩,⟨.bin 0 .leq (.l 7) (Qh 250),some ((.l 4),true)⟩,Qf (.pick (.l 4) (.l 8) Qi),Qb 9,⟨.fieldAddr 0 (.t 1),some ((.l 10),true)⟩,⟨.load false 1 (.l 11),some ((.l 10),true)⟩,⟨.call (.c (.fn Zcl [] [])) [(.l 12)],some ((.l 10),true)⟩,Qf (.pick (.l 10) (.l 13) Qi),Qb 14,⟨.fieldAddr 1 (.t 1),some ((.l 15),true)⟩,⟨.load false 1 (.l 16),some ((.l 15),true)⟩,⟨.call (.c (.fn Zcl [] [])) [(.l 17)],some ((.l 15),true)⟩,Qf (.pick (.l 15) (.l 18) Qi),Qb 19,⟨.fieldAddr 0 (.t 1),some ((.l 20),true)⟩,⟨.load false 1 (.l 21),some ((.l 20),true)⟩,⟨.call (.c (.fn Yb [] [])) [(.l 22),(.c (.str ⟨#[64]⟩))],some ((.l 20),true)⟩,⟨.un .not (.l 23),some ((.l 20),true)⟩,Qf (.pick (.l 20) (.l 24) Qi),Qb 25] [(2,26)]
 .ret))
def Yi:ZZ:=⟨[0,1,2],29,Xc,[.tmp 2],1⟩
def ZB:Zg :=
 (Ql [Qf (.bin 0 .lss (.t 14) (.t 13))] [(15,0)]
 (.seq (.cond (.t 15) .skip (.exit 0))
 (.seq (.block 1 (Ql [Qf (.indexAddrS 1 (.t 12) (.t 14)),Qn 1 0,Qb 1] [(7,2)]
 (Ql [Qa 7,Qs Zbt [.l 0],Qb 1,Qp 0 2,Qp 1 2,Qb 3,Qb 4] [(8,5),(9,6)]
 (.seq (Ql [Qa 9,Qf (.un .not (.l 0))] [(16,1)]
 (.cond (.t 16) (Ql [⟨.mv (.c (.str ⟨#[]⟩)),none⟩,Qc] [(2,0),(3,1)]
 .ret) .skip))
 (.region [Qa 6,Qa 8,Qf (.buildSlice 1 1 [.int .i64 (0)] [(0,1,(.l 1))]),Qf (.append false 1 8 (.l 0) (.l 2)),Qb 3] [(6,4)])))))
 (.region [Qf (.bin 0 .add (.t 14) (Qh 1)),Qb 0] [(14,1)]))))
def Zcr:Zg :=
 (Ql [⟨.mv (.c (.str ⟨#[]⟩)),none⟩,Qc] [(2,0),(3,1)]
 (Ql [Qa 1,⟨.call (.c (.fn K1 [] [])) [(.l 0),(.c (.str ⟨#[32]⟩))],none⟩,Qb 1] [(4,2)]
 (Ql [Qa 4,Qf (.indexAddrS 1 (.l 0) (Qh 0)),Qn 1 1,Qf (.buildSlice 1 0 [] []),Qb 2,Qb 3] [(5,4),(6,5)]
 (.seq (Ql [Qa 4,Qf (.sliceSl 1 (.l 0) (some (Qh 1)) none none),Qf (.len (.l 1)),Qe 0] [(12,1),(13,2),(14,3)]
 (.block 0 (.loop ZB)))
 (Ql [Qa 5,Qs ZeD [.l 0],Qb 1,Qp 0 2,Qp 1 2,Qb 3,Qb 4] [(10,5),(11,6)]
 (.seq (.block 2 (Ql [Qa 10,Qf (.bin 0 .gtr (.l 0) (Qh 0)),Qb 1] [(17,2)]
 (.cond (.t 17) (.seq (Ql [Qa 6,Qf (.len (.l 0)),Qa 11,Qf (.bin 0 .neq (.l 1) (.l 2))] [(18,3)]
 (.cond (.t 18) (Ql [⟨.mv (.c (.str ⟨#[]⟩)),none⟩,Qc] [(2,0),(3,1)]
 .ret) .skip))
 (Ql [Qa 0,Qa 10,Qa 6,Qs JW [.l 0,.l 1,.l 2],Qp 0 3,Qp 1 3,Qb 4,Qb 5] [(2,6),(3,7)]
 .ret)) (Ql [Qa 5,⟨.bin 1 .eql (.l 0) (.c (.str ⟨#[119,101,105,103,104]⟩)),none⟩,Qb 1] [(19,2)]
 (.cond (.t 19) (Ql [Qa 6,Qs Zbu [.l 0,Qj],Qp 0 1,Qp 1 1,Qs ZT [.l 2,.l 3],Qp 0 4,Qp 1 4,Qb 5,Qb 6] [(2,7),(3,8)]
 .ret) (Ql [Qa 5,⟨.bin 1 .eql (.l 0) (.c (.str ⟨#[104,111,119]⟩)),none⟩,Qb 1,⟨.mv (.t 6),some ((.l 2),true)⟩,⟨.len (.l 3),some ((.l 2),true)⟩,⟨.bin 0 .geq (.l 4) (Qh 2),some ((.l 2),true)⟩,Qf (.pick (.l 2) (.l 5) Qi),Qb 6] [(20,7)]
 (.cond (.t 20) (Qm [Qg (.mv (.t 6)),Qg (.sliceSl 1 (.l 0) (some (Qh 1)) none none),Qg (.mv (.t 6)),Qg (.indexAddrS 1 (.l 2) (Qh 0)),Qg (.load false 1 (.l 3)),Qt Kg [.l 1,.l 4],Qg (.extract 0 (.l 5)),Qg (.extract 1 (.l 5)),Qt Xx [.l 6,.l 7],Qg (.extract 0 (.l 8)),Qg (.extract 1 (.l 8)),Qg (.mv (.l 9)),Qg (.mv (.l 10))] [(2,11),(3,12)]
 .ret) (Ql [Qa 6,Qf (.len (.l 0)),Qf (.bin 0 .eql (.l 1) (Qh 0)),Qb 2] [(21,3)]
 (.cond (.t 21) (Ql [Qa 0,Qa 5,Qs Zaw [.l 0,.l 1],Qp 0 2,Qp 1 2,Qb 3,Qb 4] [(2,5),(3,6)]
 .ret) (Ql [Qa 6,Qf (.len (.l 0)),Qf (.bin 0 .eql (.l 1) (Qh 1)),Qb 2] [(22,3)]
 (.cond (.t 22) (Ql [Qa 0,Qa 5,Qa 6,Qf (.indexAddrS 1 (.l 2) (Qh 0)),Qn 1 3,Qs Ks [.l 0,.l 1,.l 4],Qp 0 5,Qp 1 5,Qb 6,Qb 7] [(2,8),(3,9)]
 .ret) .skip)))))))))))
 (Ql [⟨.mv (.c (.str ⟨#[]⟩)),none⟩,Qc] [(2,0),(3,1)]
 .ret)))))))
def Zm:ZZ:=⟨[0,1,4,5,6,7,8,10,11,12,13,14,22,23,24,25,34,45,51,58,68,87,96],108,Zcr,[.tmp 2,.tmp 3],0⟩
def Jk:Zg :=
 (Ql [Qf (.box (.t 0)),Qf (.box (.t 1)),⟨.alloc [.str ⟨#[]⟩,.str ⟨#[]⟩,.int .i64 (0)],none⟩,Qe 0] [(2,0),(3,1),(4,2),(5,3)]
 (.seq (.block 0 (Ql [Qr 3 2,Qs Ke [.l 0],Qf (.un .not (.l 1)),Qb 2,⟨.load true 2 (.t 3),some ((.l 3),false)⟩,⟨.call (.c (.fn Xa [] [])) [(.l 4)],some ((.l 3),false)⟩,⟨.un .not (.l 5),some ((.l 3),false)⟩,Qf (.pick (.l 3) Qj (.l 6)),Qb 7] [(7,8)]
 (.cond (.t 7) (Ql [Qr 3 2,Qf (.store 3 (.t 4) (.l 0)),Qe 1] [(5,2)]
 .ret) (Ql [Qo 2 2,Qn 1 0,Qf (.bin 0 .eql (.l 1) (Qh 60)),Qb 2] [(8,3)]
 (.cond (.t 8) (Ql [Qr 3 2,Qf (.store 3 (.t 4) (.l 0)),Qe 2] [(5,2)]
 .ret) .skip)))))
 (Ql [Qo 2 2,Qn 1 0,Qr 2 3,Qs Jj [.l 1,.l 2],Qb 3,Qp 0 4,Qp 1 4,Qb 5,Qb 6] [(6,7)]
 (Ql [Qo 0 2,Qn 1 0,Qo 1 2,Qn 1 2,Qa 6,Qf (.bin 1 .add (.l 3) (.l 4)),Qo 2 2,Qn 1 6,Qf (.bin 0 .add (.l 7) (Qh 1)),⟨.build [.str ⟨#[]⟩,.str ⟨#[]⟩,.int .i64 (0)] [(0,1,(.l 1)),(1,1,(.l 5)),(2,1,(.l 8))],none⟩,Qf (.store 3 (.t 4) (.l 9)),Qe 0] [(5,11)]
 .ret))))
def YU:ZZ:=⟨[0,1,2,3,4,5,6,8,18],40,Jk,[.cell 4 true 3,.tmp 5],1⟩
def Zb6:Zg :=
 (Ql [Qf (.box (.t 0)),Qc] [(1,0),(2,1)]
 (Ql [Qr 3 1,Qs Q8 [.l 0],Qb 1,Qp 0 2,Qp 1 2,Qb 3,Qb 4] [(3,6)]
 (Ql [Qa 3,Qb 0] [(2,1)]
 .ret)))
def Kj:ZZ:=⟨[0,1,2,4],11,Zb6,[.tmp 2],1⟩
def Kk:Zg :=
 (Ql [Qf (.box (.t 0)),Qf (.mv (.c (.slice none 0 0 none))),Qc] [(1,0),(2,1),(3,2)]
 (Ql [Qo 0 1,Qn 1 0,Qo 1 1,Qn 1 2,Qf (.bin 1 .add (.l 1) (.l 3)),Qb 4] [(4,5)]
 (.seq (Ql [Qa 4,Qf (.lenStr (.l 0)),Qf (.bin 0 .gtr (.l 1) (Qh 30000))] [(7,2)]
 (.cond (.t 7) (Ql [Qf (.mv (.c (.slice none 0 0 none))),Qc] [(2,0),(3,1)]
 .ret) .skip))
 (Ql [Qa 4,Qs Jx [.l 0],Qb 1,Qp 0 2,Qp 1 2,Qb 3,Qb 4] [(5,5),(6,6)]
 (Ql [Qf (.buildSlice 1 1 [.int .i64 (0)] [(0,1,(Qh 0))]),Qa 6,Qf (.append false 1 8 (.l 0) (.l 1)),Qb 2] [(6,3)]
 (Qm [Qg (.mv (.t 5)),Qg (.mv (.t 6)),Qg (.mv (.t 6)),Qg (.len (.l 2)),Qg (.bin 0 .sub (.l 3) (Qh 1)),Qg (.indexAddrS 1 (.l 1) (.l 4)),Qg (.load false 1 (.l 5)),Qg (.mv (.t 4)),Qg (.lenStr (.l 7)),Qg (.bin 0 .eql (.l 6) (.l 8)),Qg (.mv (.l 9)),⟨.mv (.t 6),some ((.l 10),true),[]⟩,⟨.fieldAddr 0 (.t 1),some ((.l 10),true),[]⟩,⟨.load false 1 (.l 12),some ((.l 10),true),[]⟩,⟨.lenStr (.l 13),some ((.l 10),true),[]⟩,⟨.call (.c (.fn YB [] [])) [(.l 11),(.l 14)],some ((.l 10),true),[]⟩,Qg (.pick (.l 10) (.l 15) Qi),Qg (.mv (.l 16)),⟨.fieldAddr 2 (.t 1),some ((.l 17),true),[]⟩,⟨.load false 1 (.l 18),some ((.l 17),true),[]⟩,⟨.mv (.t 5),some ((.l 17),true),[]⟩,⟨.len (.l 20),some ((.l 17),true),[]⟩,⟨.bin 0 .eql (.l 19) (.l 21),some ((.l 17),true),[]⟩,Qg (.pick (.l 17) (.l 22) Qi),Qg (.mv (.l 0)),Qg (.mv (.l 23))] [(2,24),(3,25)]
 .ret))))))
def XK:ZZ:=⟨[0,1,2,3,4,5,6,14],47,Kk,[.tmp 2,.tmp 3],2⟩
def Zd3:Zg :=
 (Ql [Qe 0] [(2,0)]
 (Ql [Qa 1,Qa 0,Qa 1,Qf (.len (.l 2)),Qs Zz [.l 1,.l 3],Qf (.indexAddrS 1 (.l 0) (.l 4)),Qn 1 5,Qb 6] [(2,7)]
 .ret))
def JI:ZZ:=⟨[0,1,4],12,Zd3,[.tmp 2],1⟩
def Zb7:Zg :=
 (Ql [Qe 0] [(2,0)]
 (.seq (Ql [Qa 1,Qf (.bin 0 .leq (.l 0) (Qh 1))] [(4,1)]
 (.cond (.t 4) (Ql [Qe 0] [(2,0)]
 .ret) .skip))
 (Ql [Qa 0,Qs Kh [.l 0],Qb 1] [(3,2)]
 (.seq (Ql [Qa 1,Qf (.bin 0 .gtr (.l 0) (Qh 200))] [(5,1)]
 (.cond (.t 5) (.region [Qa 3,Qf (.bin 0 .mul (.l 0) (Qh 256)),Qa 0,Qs Kh [.l 2],Qf (.bin 0 .add (.l 1) (.l 3)),Qb 4] [(3,5)]) .skip))
 (Ql [Qa 3,Qa 1,Qf (.bin 0 .rem (.l 0) (.l 1)),Qb 2] [(2,3)]
 .ret)))))
def XL:ZZ:=⟨[0,1,4,5,7,11],20,Zb7,[.tmp 2],1⟩
def QT:Zg :=
 (.seq (Ql [Qa 5,Qf (.bin 0 .gtr (.l 0) (Qh 0)),Qb 1,⟨.mv (.t 4),some ((.l 2),true)⟩,Qf (.pick (.l 2) (.l 3) Qi)] [(8,4)]
 (.cond (.t 8) .skip (.exit 0)))
 (.seq (.block 1 (Qm [Qg (.load true 6 (.t 3)),Qg (.mv (.t 0)),Qg (.load true 6 (.t 3)),⟨.call (.c (.fn Kt [] [])) [(.l 1),(.l 2)],none,[(0,Qr 6 3)]⟩,Qt Zf9 [.l 0,.l 3],Qg (.mv (.l 4)),Qg (.extract 0 (.l 5)),Qg (.extract 1 (.l 5)),⟨.alloc [.slice none 0 0 none,.int .i64 (0),.int .i64 (0),.slice none 0 0 none,.int .i64 (0),.int .i64 (0)],none,[(0,Qr 6 3),(2,Qr 6 3)]⟩,Qg (.store 6 (.l 8) (.l 6)),Qg (.mv (.l 7))] [(6,8),(7,10)]
 (Ql [Qa 7] [(9,0)]
 (.cond (.t 9) (.region [Qr 6 6,Qf (.store 6 (.t 3) (.l 0))] []) .skip))))
 (.region [Qa 5,Qf (.bin 0 .sub (.l 0) (Qh 1)),Qb 1] [(5,2)])))
def ZP:Zg :=
 (.seq (.region [⟨.alloc [.slice none 0 0 none,.int .i64 (0),.int .i64 (0),.slice none 0 0 none,.int .i64 (0),.int .i64 (0)],none⟩] [(1,0)])
 (.seq (.region [⟨.mv (.t 0),none⟩,⟨.call (.c (.fn Zz [] [])) [(.l 0),(.c (.int .i64 (4)))],none⟩,⟨.bin 0 .add (.c (.int .i64 (27))) (.l 1),none⟩,⟨.mv (.l 2),none⟩] [(2,3)])
 (.seq (.region [⟨.mv (.t 2),none⟩,⟨.mv (.t 2),none⟩,⟨.mv (.t 0),none⟩,⟨.call (.c (.fn Zz [] [])) [(.l 2),(.c (.int .i64 (5)))],none⟩,⟨.bin 0 .add (.l 1) (.l 3),none⟩,⟨.call (.c (.fn Zbv [] [])) [(.l 0),(.l 4)],none⟩,⟨.mv (.l 5),none⟩,⟨.extract 0 (.l 6),none⟩,⟨.extract 1 (.l 6),none⟩,⟨.alloc [.slice none 0 0 none,.int .i64 (0),.int .i64 (0),.slice none 0 0 none,.int .i64 (0),.int .i64 (0)],none⟩,⟨.store 6 (.l 9) (.l 7),none⟩,⟨.mv (.l 8),none⟩] [(3,9),(4,11)])
 (.seq (.seq (.region [⟨.mv (.t 0),none⟩,⟨.call (.c (.fn Zz [] [])) [(.l 0),(.c (.int .i64 (8)))],none⟩,⟨.bin 0 .add (.c (.int .i64 (1))) (.l 1),none⟩,⟨.mv (.l 2),none⟩] [(5,3)])
 (.block 0 (.loop QT)))
 (.seq (.seq (.region [⟨.mv (.t 0),none⟩,⟨.call (.c (.fn Zz [] [])) [(.l 0),(.c (.int .i64 (48)))],none⟩] [(10,1)])
 (.block 2 (.seq (.region [⟨.bin 0 .eql (.t 10) (.c (.int .i64 (0))),none⟩,⟨.mv (.l 0),none⟩] [(11,1)])
 (.cond (.t 11) (.region [⟨.mv (.t 0),none⟩,⟨.buildSlice 1 3 [.int .i64 (0),.int .i64 (0),.int .i64 (0)] [(0,1,(.c (.int .i64 (-1)))),(1,1,(.c (.int .i64 (1000)))),(2,1,(.c (.int .i64 (1001))))],none⟩,⟨.call (.c (.fn ZG [] [])) [(.l 0),(.l 1)],none⟩,⟨.fieldAddr 5 (.t 3),none⟩,⟨.store 1 (.l 3) (.l 2),none⟩] []) (.seq (.region [⟨.bin 0 .eql (.t 10) (.c (.int .i64 (1))),none⟩,⟨.mv (.l 0),none⟩] [(12,1)])
 (.cond (.t 12) (.region [⟨.mv (.t 0),none⟩,⟨.fieldAddr 5 (.t 3),none⟩,⟨.load false 1 (.l 1),none⟩,⟨.bin 0 .add (.l 2) (.c (.int .i64 (1))),none⟩,⟨.buildSlice 1 3 [.int .i64 (0),.int .i64 (0),.int .i64 (0)] [(0,1,(.c (.int .i64 (-1)))),(1,1,(.l 3)),(2,1,(.c (.int .i64 (0))))],none⟩,⟨.call (.c (.fn ZG [] [])) [(.l 0),(.l 4)],none⟩,⟨.fieldAddr 4 (.t 3),none⟩,⟨.store 1 (.l 6) (.l 5),none⟩] []) (.seq (.region [⟨.bin 0 .eql (.t 10) (.c (.int .i64 (2))),none⟩,⟨.mv (.l 0),none⟩] [(13,1)])
 (.cond (.t 13) (.region [⟨.mv (.t 0),none⟩,⟨.buildSlice 1 4 [.int .i64 (0),.int .i64 (0),.int .i64 (0),.int .i64 (0)] [(0,1,(.c (.int .i64 (-1)))),(1,1,(.c (.int .i64 (60)))),(2,1,(.c (.int .i64 (61)))),(3,1,(.c (.int .i64 (0))))],none⟩,⟨.call (.c (.fn ZG [] [])) [(.l 0),(.l 1)],none⟩,⟨.fieldAddr 2 (.t 3),none⟩,⟨.store 1 (.l 3) (.l 2),none⟩] []) (.seq (.region [⟨.bin 0 .eql (.t 10) (.c (.int .i64 (3))),none⟩,⟨.mv (.l 0),none⟩] [(14,1)])
 (.cond (.t 14) (.region [⟨.buildSlice 2 0 [] [],none⟩,⟨.fieldAddr 0 (.t 3),none⟩,⟨.load false 1 (.l 1),none⟩,⟨.append false 2 16 (.l 0) (.l 2),none⟩,⟨.build [.int .i64 (0),.int .i64 (0)] [(0,1,(.c (.int .i64 (61))))],none⟩,⟨.buildSlice 2 1 [.int .i64 (0),.int .i64 (0)] [(0,2,(.l 4))],none⟩,⟨.append false 2 16 (.l 3) (.l 5),none⟩,⟨.fieldAddr 0 (.t 3),none⟩,⟨.store 1 (.l 7) (.l 6),none⟩] []) .skip))))))))))
 (.seq (.region [⟨.load true 6 (.t 3),none⟩,⟨.store 6 (.t 1) (.l 0),none⟩] [])
 .ret))))))
def Xi:ZZ:=⟨[0,2,3,4,5,6,7,8,28,39,42,43,49,58,64],75,ZP,[.cell 1 true 6],2⟩
def ZjP:Zg :=
 (Ql [Qc] [(1,0)]
 (.seq (Ql [Qa 0,Qf (.len (.l 0)),Qf (.bin 0 .gtr (.l 1) (Qh 12))] [(2,2)]
 (.cond (.t 2) (Ql [Qc] [(1,0)]
 .ret) .skip))
 (Ql [Qa 0,Qf (.call (.c (.fn ZQ [] [])) [(.l 0),(.c (.fn ZaX [] []))]),Qf (.un .not (.l 1)),Qb 2] [(1,3)]
 .ret)))
def Zd4:ZZ:=⟨[0,2,5],9,ZjP,[.tmp 1],1⟩
def QU:Zg :=
 (Ql [Qf (.bin 0 .lss (.t 7) (.t 6))] [(8,0)]
 (.seq (.cond (.t 8) .skip (.exit 0))
 (.seq (.block 1 (Ql [Qf (.indexAddrS 1 (.t 5) (.t 7)),Qn 1 0,Qb 1] [(4,2)]
 (.region [Qa 3,Qa 4,Qs YL [.l 1],⟨.buildSlice 1 1 [.str ⟨#[]⟩] [(0,1,(.l 2))],none⟩,Qf (.append false 1 16 (.l 0) (.l 3)),Qb 4] [(3,5)])))
 (.region [Qf (.bin 0 .add (.t 7) (Qh 1)),Qb 0] [(7,1)]))))
def Zd5:Zg :=
 (Ql [⟨.mv (.c (.str ⟨#[]⟩)),none⟩] [(2,0)]
 (Ql [Qf (.buildSlice 1 0 [] []),Qb 0] [(3,1)]
 (.seq (Ql [Qa 0,Qf (.len (.l 0)),Qe 0] [(5,0),(6,1),(7,2)]
 (.block 0 (.loop QU)))
 (Ql [Qa 3,Qa 1,Qs Jq [.l 0,.l 1],Qb 2] [(2,3)]
 .ret))))
def JJ:ZZ:=⟨[0,1,4,5,7,9,10,11,12],24,Zd5,[.tmp 2],1⟩
def ZjQ:Zg :=
 (Ql [Qc] [(1,0)]
 (Ql [Qa 0,Qs Yh [.l 0,Qh 0,Qh 60],Qb 1] [(1,2)]
 .ret))
def Zc8:ZZ:=⟨[0,2],5,ZjQ,[.tmp 1],1⟩
def Xd:Zg :=
 (Ql [Qf (.bin 0 .lss (.t 7) (.t 6))] [(8,0)]
 (.seq (.cond (.t 8) .skip (.exit 0))
 (.seq (.block 1 (Ql [Qf (.indexAddrS 2 (.t 5) (.t 7)),Qf (.load true 2 (.l 0)),Qf (.alloc [.int .i64 (0),.int .i64 (0)]),Qq 2 2 1] [(4,2)]
 (.region [Qa 3,Qo 1 4,Qn 1 1,Qo 0 4,Qn 1 3,Qa 1,Qf (.bin 0 .sub (.l 4) (.l 5)),Qf (.bin 0 .mul (.l 2) (.l 6)),Qf (.bin 0 .add (.l 0) (.l 7)),Qb 8] [(3,9)])))
 (.region [Qf (.bin 0 .add (.t 7) (Qh 1)),Qb 0] [(7,1)]))))
def Zd6:Zg :=
 (Ql [Qe 0] [(2,0)]
 (Ql [Qe 0] [(3,0)]
 (.seq (Ql [Qa 0,Qf (.len (.l 0)),Qe 0] [(5,0),(6,1),(7,2)]
 (.block 0 (.loop Xd)))
 (Ql [Qa 3,Qb 0] [(2,1)]
 .ret))))
def Qk:ZZ:=⟨[0,1,4,5,7,8,9,10,11],25,Zd6,[.tmp 2],1⟩
def Jl:Zg :=
 (Ql [Qf (.bin 0 .lss (.t 14) (.t 13))] [(15,0)]
 (.seq (.cond (.t 15) .skip (.exit 2))
 (.seq (.block 3 (Ql [Qa 14,Qf (.indexAddrS 2 (.t 12) (.t 14)),Qf (.load true 2 (.l 1)),Qf (.alloc [.int .i64 (0),.int .i64 (0)]),Qb 0,Qq 2 3 2] [(7,4),(8,3)]
 (Ql [Qa 4,Qa 7,Qf (.bin 0 .shr (.l 0) (.l 1)),Qf (.bin 0 .and (.l 2) (Qh 1)),Qf (.bin 0 .eql (.l 3) (Qh 1))] [(16,4)]
 (.cond (.t 16) (Ql [Qa 5,Qa 7,Qf (.buildSlice 1 1 [.int .i64 (0)] [(0,1,(.l 1))]),Qf (.append false 1 8 (.l 0) (.l 2)),Qb 3] [(5,4)]
 (.region [Qa 6,Qo 1 8,Qn 1 1,Qo 0 8,Qn 1 3,Qa 1,Qf (.bin 0 .sub (.l 4) (.l 5)),Qf (.bin 0 .mul (.l 2) (.l 6)),Qf (.bin 0 .add (.l 0) (.l 7)),Qb 8] [(6,9)])) .skip))))
 (.region [Qf (.bin 0 .add (.t 14) (Qh 1)),Qb 0] [(14,1)]))))
def Zap:Zg :=
 (Ql [Qf (.bin 0 .lss (.t 10) (.t 9))] [(11,0)]
 (.seq (.cond (.t 11) .skip (.exit 0))
 (.seq (.block 1 (Ql [Qa 10,Qb 0] [(4,1)]
 (Ql [Qf (.buildSlice 1 0 [] []),Qb 0,Qe 0] [(5,1),(6,2)]
 (.seq (Ql [Qa 0,Qf (.len (.l 0)),Qe 0] [(12,0),(13,1),(14,2)]
 (.block 2 (.loop Jl)))
 (Ql [Qa 6,Qf (.bin 0 .eql (.l 0) (Qh 0))] [(17,1)]
 (.cond (.t 17) (.region [Qa 3,Qa 5,Qf (.buildSlice 1 1 [.slice none 0 0 none] [(0,1,(.l 1))]),Qf (.append false 1 24 (.l 0) (.l 2)),Qb 3] [(3,4)]) .skip))))))
 (.region [Qf (.bin 0 .add (.t 10) (Qh 1)),Qb 0] [(10,1)]))))
def Zfa:Zg :=
 (Ql [Qf (.mv (.c (.slice none 0 0 none)))] [(2,0)]
 (Ql [Qf (.buildSlice 1 0 [] []),Qb 0] [(3,1)]
 (.seq (Ql [Qa 0,Qf (.len (.l 0)),Qf (.bin 0 .shl (Qh 1) (.l 1)),Qe 0] [(9,2),(10,3)]
 (.block 0 (.loop Zap)))
 (Ql [Qa 3,Qf (.call (.c (.fn Yn [] [])) [(.l 0),(.c (.fn ZE [] []))])] []
 (Ql [Qa 3,Qb 0] [(2,1)]
 .ret)))))
def Jr:ZZ:=⟨[0,1,4,5,6,7,8,9,10,14,15,16,19,20,21,22,30,46],55,Zfa,[.tmp 2],0⟩
def Js:Zg :=
 (Ql [Qf (.bin 0 .lss (.t 6) (.t 5))] [(7,0)]
 (.seq (.cond (.t 7) .skip (.exit 0))
 (.seq (.block 1 (Ql [Qf (.indexAddrS 2 (.t 4) (.t 6)),Qf (.load true 2 (.l 0)),Qf (.alloc [.int .i64 (0),.int .i64 (0)]),Qq 2 2 1] [(3,2)]
 (.region [Qa 2,Qo 1 3,Qn 1 1,Qf (.bin 0 .add (.l 0) (.l 2)),Qb 3] [(2,4)])))
 (.region [Qf (.bin 0 .add (.t 6) (Qh 1)),Qb 0] [(6,1)]))))
def Zib:Zg :=
 (Ql [Qe 0] [(1,0)]
 (Ql [Qe 0] [(2,0)]
 (.seq (Ql [Qa 0,Qf (.len (.l 0)),Qe 0] [(4,0),(5,1),(6,2)]
 (.block 0 (.loop Js)))
 (Ql [Qa 2,Qb 0] [(1,1)]
 .ret))))
def ZbD:ZZ:=⟨[0,2,3,5,6,7,8,9],18,Zib,[.tmp 1],1⟩
def Zgc:Zg :=
 (Ql [⟨.mv (.c (.str ⟨#[]⟩)),none⟩,Qc] [(1,0),(2,1)]
 (.seq (Ql [Qa 0,Qs Yh [.l 0,Qh (-999999),Qh 999999],Qf (.un .not (.l 1))] [(3,2)]
 (.cond (.t 3) (Ql [⟨.mv (.c (.str ⟨#[]⟩)),none⟩,Qc] [(1,0),(2,1)]
 .ret) .skip))
 (Ql [Qa 0,Qs YL [.l 0],Qb 1,Qd] [(1,2),(2,3)]
 .ret)))
def ZaA:ZZ:=⟨[0,2,3,6],9,Zgc,[.tmp 1,.tmp 2],1⟩
def QV:Zg :=
 (Ql [Qf (.bin 0 .lss (.t 9) (.t 8))] [(10,0)]
 (.seq (.cond (.t 10) .skip (.exit 0))
 (.seq (.block 1 (Ql [Qf (.indexAddrS 1 (.t 7) (.t 9)),Qn 1 0,Qb 1] [(5,2)]
 (Ql [Qa 4,Qa 5,Qf (.lenStr (.l 1)),Qf (.bin 0 .add (.l 0) (.l 2)),Qb 3] [(4,4)]
 (Ql [Qa 5,Qa 1,Qs Yb [.l 0,.l 1],Qb 2,⟨.mv (.t 4),some ((.l 3),false)⟩,⟨.bin 0 .gtr (.l 4) (Qh 4000),some ((.l 3),false)⟩,Qf (.pick (.l 3) Qj (.l 5))] [(11,6)]
 (.cond (.t 11) (Ql [⟨.mv (.c (.str ⟨#[]⟩)),none⟩,Qc] [(2,0),(3,1)]
 .ret) .skip)))))
 (.region [Qf (.bin 0 .add (.t 9) (Qh 1)),Qb 0] [(9,1)]))))
def Zd7:Zg :=
 (Ql [⟨.mv (.c (.str ⟨#[]⟩)),none⟩,Qc] [(2,0),(3,1)]
 (.seq (Ql [Qa 0,Qf (.len (.l 0)),Qf (.bin 0 .eql (.l 1) (Qh 0)),Qb 2,⟨.mv (.t 1),some ((.l 3),false)⟩,⟨.lenStr (.l 4),some ((.l 3),false)⟩,⟨.bin 0 .neq (.l 5) (Qh 1),some ((.l 3),false)⟩,Qf (.pick (.l 3) Qj (.l 6))] [(6,7)]
 (.cond (.t 6) (Ql [⟨.mv (.c (.str ⟨#[]⟩)),none⟩,Qc] [(2,0),(3,1)]
 .ret) .skip))
 (Ql [Qa 0,Qf (.len (.l 0)),Qf (.bin 0 .sub (.l 1) (Qh 1)),Qb 2] [(4,3)]
 (.seq (Ql [Qa 0,Qf (.len (.l 0)),Qe 0] [(7,0),(8,1),(9,2)]
 (.block 0 (.loop QV)))
 (Ql [Qa 0,Qa 1,Qs Jq [.l 0,.l 1],Qb 2,Qd] [(2,3),(3,4)]
 .ret)))))
def JK:ZZ:=⟨[0,1,4,5,6,8,16,20,21,22,23,36],41,Zd7,[.tmp 2,.tmp 3],1⟩
def Zmc:Zg :=
 (Ql [Qc] [(2,0)]
 (Ql [Qa 0,Qs XI [.l 0],Qb 1,⟨.mv (.t 1),some ((.l 2),true)⟩,⟨.call (.c (.fn XI [] [])) [(.l 3)],some ((.l 2),true)⟩,Qf (.pick (.l 2) (.l 4) Qi),Qb 5,⟨.mv (.t 0),some ((.l 6),true)⟩,⟨.mv (.t 1),some ((.l 6),true)⟩,⟨.bin 0 .leq (.l 7) (.l 8),some ((.l 6),true)⟩,Qf (.pick (.l 6) (.l 9) Qi),Qb 10] [(2,11)]
 .ret))
def ZeH:ZZ:=⟨[0,1,4],16,Zmc,[.tmp 2],1⟩
def XB:Zg :=
 (Ql [Qf (.bin 0 .lss (.t 5) (.t 4))] [(6,0)]
 (.seq (.cond (.t 6) .skip (.exit 0))
 (.seq (.block 1 (Ql [Qf (.indexAddrS 3 (.t 3) (.t 5)),Qf (.load true 3 (.l 0)),Qf (.alloc [.int .i64 (0),.int .i64 (0),.int .i64 (0)]),Qq 3 2 1] [(2,2)]
 (Ql [Qr 3 2,Qs ZcX [.l 0],Qf (.un .not (.l 1))] [(7,2)]
 (.cond (.t 7) (Ql [Qc] [(1,0)]
 .ret) .skip))))
 (.region [Qf (.bin 0 .add (.t 5) (Qh 1)),Qb 0] [(5,1)]))))
def ZjR:Zg :=
 (Ql [Qc] [(1,0)]
 (.seq (Ql [Qa 0,Qf (.len (.l 0)),Qe 0] [(3,0),(4,1),(5,2)]
 (.block 0 (.loop XB)))
 (Ql [Qa 0,Qf (.len (.l 0)),Qf (.bin 0 .leq (.l 1) (Qh 5)),Qb 2] [(1,3)]
 .ret)))
def Zc9:ZZ:=⟨[0,2,4,5,6,7,8,13],18,ZjR,[.tmp 1],1⟩
def Zmd:Zg :=
 (Ql [Qc] [(3,0)]
 (Ql [Qa 0,Qa 1,Qf (.bin 0 .geq (.l 0) (.l 1)),Qb 2,⟨.mv (.t 0),some ((.l 3),true)⟩,⟨.mv (.t 2),some ((.l 3),true)⟩,⟨.bin 0 .leq (.l 4) (.l 5),some ((.l 3),true)⟩,Qf (.pick (.l 3) (.l 6) Qi),Qb 7] [(3,8)]
 .ret))
def ZeI:ZZ:=⟨[0,1,2,6],15,Zmd,[.tmp 3],1⟩
def Jm:Zg :=
 (Ql [Qf (.mv (.c (.slice none 0 0 none)))] [(1,0)]
 (.seq (Ql [Qa 0,Qf (.bin 3 .eql (.l 0) (.c (.slice none 0 0 none)))] [(2,1)]
 (.cond (.t 2) (Ql [Qf (.mv (.c (.slice none 0 0 none)))] [(1,0)]
 .ret) .skip))
 (Ql [Qf (.buildSlice 2 0 [] []),Qa 0,Qf (.append false 2 16 (.l 0) (.l 1)),Qb 2] [(1,3)]
 .ret)))
def Yg:ZZ:=⟨[0,2,4],8,Jm,[.tmp 1],2⟩
def XU:Zg :=
 (Ql [Qf (.mv (.c (.slice none 0 0 none)))] [(1,0)]
 (.seq (Ql [Qa 0,Qf (.bin 3 .eql (.l 0) (.c (.slice none 0 0 none)))] [(2,1)]
 (.cond (.t 2) (Ql [Qf (.mv (.c (.slice none 0 0 none)))] [(1,0)]
 .ret) .skip))
 (Ql [Qf (.buildSlice 3 0 [] []),Qa 0,Qf (.append false 3 24 (.l 0) (.l 1)),Qb 2] [(1,3)]
 .ret)))
def Z5:ZZ:=⟨[0,2,4],8,XU,[.tmp 1],2⟩
def Zm8:Zg :=
 (Ql [Qc] [(3,0)]
 (Ql [Qa 0,Qs Zcm [.l 0],Qb 1,⟨.mv (.t 1),some ((.l 2),true)⟩,⟨.mv (.t 2),some ((.l 2),true)⟩,⟨.call (.c (.fn Zcn [] [])) [(.l 3),(.l 4)],some ((.l 2),true)⟩,Qf (.pick (.l 2) (.l 5) Qi),Qb 6] [(3,7)]
 .ret))
def Zgd:ZZ:=⟨[0,1,2,6],14,Zm8,[.tmp 3],1⟩
def Y8:Zg :=
 (.seq (Ql [Qa 3,Qa 0,Qf (.len (.l 1)),Qf (.bin 0 .lss (.l 0) (.l 2))] [(4,3)]
 (.cond (.t 4) .skip (.exit 0)))
 (.seq (.block 1 (Ql [Qa 0,Qa 3,Qf (.indexAddrS 3 (.l 0) (.l 1)),Qf (.load true 3 (.l 2)),Qs ZcY [.l 3],Qf (.un .not (.l 4))] [(5,5)]
 (.cond (.t 5) (Ql [Qc] [(2,0)]
 .ret) .skip)))
 (.region [Qa 3,Qf (.bin 0 .add (.l 0) (Qh 1)),Qb 1] [(3,2)])))
def Zic:Zg :=
 (Ql [Qc] [(2,0)]
 (.seq (Ql [Qe 0] [(3,0)]
 (.block 0 (.loop Y8)))
 (Ql [Qa 0,Qf (.len (.l 0)),Qa 1,Qf (.bin 0 .leq (.l 1) (.l 2)),Qb 3] [(2,4)]
 .ret)))
def ZbE:ZZ:=⟨[0,1,4,5,9,17],22,Zic,[.tmp 2],1⟩
def Zr9:Zg :=
 (Ql [Qc] [(3,0)]
 (Ql [Qa 0,Qa 1,Qf (.bin 0 .geq (.l 0) (.l 1)),Qb 2,⟨.mv (.t 0),some ((.l 3),true)⟩,⟨.mv (.t 2),some ((.l 3),true)⟩,⟨.bin 0 .leq (.l 4) (.l 5),some ((.l 3),true)⟩,Qf (.pick (.l 3) (.l 6) Qi),Qb 7] [(3,8)]
 .ret))
def Zje:ZZ:=⟨[0,1,2,6],15,Zr9,[.tmp 3],1⟩
def XC:Zg :=
 (Ql [Qf (.bin 0 .lss (.t 4) (.t 3))] [(5,0)]
 (.seq (.cond (.t 5) .skip (.exit 0))
 (.seq (.block 1 (Ql [Qa 4,Qb 0] [(2,1)]
 (Ql [Qa 0,Qa 2,Qf (.indexS (.l 0) (.l 1)),Qf (.bin 0 .lss (.l 2) (.c (.int .u8 (32)))),Qb 3,⟨.mv (.t 0),some ((.l 4),false)⟩,⟨.mv (.t 2),some ((.l 4),false)⟩,⟨.indexS (.l 5) (.l 6),some ((.l 4),false)⟩,⟨.bin 0 .gtr (.l 7) (.c (.int .u8 (126))),some ((.l 4),false)⟩,Qf (.pick (.l 4) Qj (.l 8)),Qb 9,⟨.mv (.t 0),some ((.l 10),false)⟩,⟨.mv (.t 2),some ((.l 10),false)⟩,⟨.indexS (.l 11) (.l 12),some ((.l 10),false)⟩,⟨.bin 0 .eql (.l 13) (.c (.int .u8 (35))),some ((.l 10),false)⟩,Qf (.pick (.l 10) Qj (.l 14))] [(6,15)]
 (.cond (.t 6) (Ql [Qc] [(1,0)]
 .ret) .skip))))
 (.region [Qf (.bin 0 .add (.t 4) (Qh 1)),Qb 0] [(4,1)]))))
def Zme:Zg :=
 (Ql [Qc] [(1,0)]
 (.seq (Ql [Qa 0,Qf (.lenStr (.l 0)),Qe 0] [(3,1),(4,2)]
 (.block 0 (.loop XC)))
 (Ql [Qd] [(1,0)]
 .ret)))
def ZeJ:ZZ:=⟨[0,2,3,5,6,7,24],26,Zme,[.tmp 1],1⟩
def KP:Zg :=
 (Ql [Qe 0,Qc] [(1,0),(2,1)]
 (Ql [Qa 0,Qs Q9 [.l 0],Qb 1,Qp 0 2,Qp 1 2,Qb 3,Qb 4] [(3,5),(4,6)]
 (.seq (Ql [Qa 4,Qf (.bin 4 .neq (.l 0) (.c (.nilif))),Qb 1,⟨.mv (.t 3),some ((.l 2),false)⟩,⟨.call (.c (.fn YL [] [])) [(.l 3)],some ((.l 2),false)⟩,⟨.mv (.t 0),some ((.l 2),false)⟩,⟨.bin 1 .neq (.l 4) (.l 5),some ((.l 2),false)⟩,Qf (.pick (.l 2) Qj (.l 6)),Qb 7,⟨.mv (.t 3),some ((.l 8),false)⟩,⟨.call (.c (.fn Yh [] [])) [(.l 9),(Qh (-999999)),(Qh 999999)],some ((.l 8),false)⟩,⟨.un .not (.l 10),some ((.l 8),false)⟩,Qf (.pick (.l 8) Qj (.l 11))] [(5,12)]
 (.cond (.t 5) (Ql [Qe 0,Qc] [(1,0),(2,1)]
 .ret) .skip))
 (Ql [Qa 3,Qb 0,Qd] [(1,1),(2,2)]
 .ret))))
def X7:ZZ:=⟨[0,2,3,4,5,23],25,KP,[.tmp 1,.tmp 2],1⟩
def Zmf:Zg :=
 (Ql [Qe 0,Qe 0] [(1,0),(2,1)]
 (.seq (Ql [Qa 0] [(3,0)]
 (.block 0 (Ql [⟨.bin 1 .eql (.t 3) (.c (.str ⟨#[108,111,97,100]⟩)),none⟩,Qb 0] [(4,1)]
 (.cond (.t 4) (Ql [Qe 1,Qe 2] [(1,0),(2,1)]
 .ret) (Ql [⟨.bin 1 .eql (.t 3) (.c (.str ⟨#[116,97,107,101]⟩)),none⟩,Qb 0] [(5,1)]
 (.cond (.t 5) (Ql [Qe 2,Qe 1] [(1,0),(2,1)]
 .ret) (Ql [⟨.bin 1 .eql (.t 3) (.c (.str ⟨#[109,111,118,101]⟩)),none⟩,Qb 0] [(6,1)]
 (.cond (.t 6) (Ql [Qe 3,Qe 2] [(1,0),(2,1)]
 .ret) (Ql [⟨.bin 1 .eql (.t 3) (.c (.str ⟨#[98,97,115,101]⟩)),none⟩,Qb 0] [(7,1)]
 (.cond (.t 7) (Ql [Qe 4,Qe 2] [(1,0),(2,1)]
 .ret) (Ql [⟨.bin 1 .eql (.t 3) (.c (.str ⟨#[115,116,97,103,101]⟩)),none⟩,Qb 0] [(8,1)]
 (.cond (.t 8) (Ql [Qe 5,Qe 3] [(1,0),(2,1)]
 .ret) (Ql [⟨.bin 1 .eql (.t 3) (.c (.str ⟨#[100,114,111,112]⟩)),none⟩,Qb 0] [(9,1)]
 (.cond (.t 9) (Ql [Qe 6,Qe 1] [(1,0),(2,1)]
 .ret) .skip))))))))))))))
 (Ql [Qe 0,Qe 0] [(1,0),(2,1)]
 .ret)))
def ZeK:ZZ:=⟨[0,2,3,4,5,7,9,11,13,15],17,Zmf,[.tmp 1,.tmp 2],1⟩
def Zcs:Zg :=
 (Ql [⟨.mv (.c (.str ⟨#[]⟩)),none⟩,Qc] [(3,0),(4,1)]
 (Ql [Qa 2,Qf (.buildSlice 1 3 [.int .i64 (0),.int .i64 (0),.int .i64 (0)] [(0,1,(Qh 0)),(1,1,(Qh 0)),(2,1,(Qh 0))]),Qf (.append false 1 8 (.l 0) (.l 1)),Qb 2] [(2,3)]
 (Qm [Qg (.mv (.t 0)),Qg (.nilCheck (.l 0)),Qg (.load true 6 (.l 1)),Qg (.mv (.t 1)),Qg (.mv (.t 2)),Qg (.indexAddrS 1 (.l 4) (Qh 0)),Qg (.load false 1 (.l 5)),Qg (.mv (.t 2)),Qg (.indexAddrS 1 (.l 7) (Qh 1)),Qg (.load false 1 (.l 8)),Qg (.mv (.t 2)),Qg (.indexAddrS 1 (.l 10) (Qh 2)),Qg (.load false 1 (.l 11)),Qg (.build [.int .i64 (0),.int .i64 (0),.int .i64 (0),.int .i64 (0)] [(0,1,(.l 3)),(1,1,(.l 6)),(2,1,(.l 9)),(3,1,(.l 12))]),Qt Xb [.l 2,.l 13],Qg (.mv (.l 14)),Qg (.extract 0 (.l 15)),Qg (.extract 1 (.l 15)),⟨.alloc [.slice none 0 0 none,.int .i64 (0),.int .i64 (0),.slice none 0 0 none,.int .i64 (0),.int .i64 (0)],none,[(2,Qf (.load true 6 (.l 1))),(6,Qn 1 5),(9,Qn 1 8),(12,Qn 1 11)]⟩,Qg (.store 6 (.l 18) (.l 16)),Qg (.mv (.l 17))] [(5,18),(6,20)]
 (.seq (Ql [Qa 6,Qf (.un .not (.l 0))] [(7,1)]
 (.cond (.t 7) (Ql [⟨.mv (.c (.str ⟨#[]⟩)),none⟩,Qc] [(3,0),(4,1)]
 .ret) .skip))
 (Ql [Qa 0,Qr 6 5,Qf (.nilCheck (.l 0)),Qq 6 2 1] []
 (.seq (Ql [Qa 1,Qf (.bin 0 .eql (.l 0) (Qh 5)),Qb 1,⟨.mv (.t 1),some ((.l 2),false)⟩,⟨.bin 0 .eql (.l 3) (Qh 6),some ((.l 2),false)⟩,Qf (.pick (.l 2) Qj (.l 4))] [(8,5)]
 (.cond (.t 8) (Ql [Qa 0,Qf (.nilCheck (.l 0)),Qf (.fieldAddr 3 (.l 1)),Qn 1 2,Qs Zax [.l 3],Qp 0 4,Qp 1 4,Qs Xt [.l 5,.l 6],Qp 0 7,Qp 1 7,Qb 8,Qb 9] [(3,10),(4,11)]
 .ret) .skip))
 (Qm [Qg (.mv (.t 0)),Qg (.nilCheck (.l 0)),Qg (.fieldAddr 0 (.l 1)),Qg (.load false 1 (.l 2)),Qg (.mv (.t 0)),Qg (.nilCheck (.l 4)),Qg (.fieldAddr 1 (.l 5)),Qg (.load false 1 (.l 6)),Qg (.mv (.t 0)),Qg (.nilCheck (.l 8)),Qg (.fieldAddr 2 (.l 9)),Qg (.load false 1 (.l 10)),Qt ZaY [.l 3,.l 7,.l 11],Qg (.extract 0 (.l 12)),Qg (.extract 1 (.l 12)),Qt ZT [.l 13,.l 14],Qg (.extract 0 (.l 15)),Qg (.extract 1 (.l 15)),Qg (.mv (.l 16)),Qg (.mv (.l 17))] [(3,18),(4,19)]
 .ret)))))))
def Yj:ZZ:=⟨[0,1,2,6,7,8,9,32,41],70,Zcs,[.tmp 3,.tmp 4],0⟩
def Zfb:Zg :=
 (Ql [⟨.mv (.c (.str ⟨#[]⟩)),none⟩,Qc] [(2,0),(3,1)]
 (Ql [Qa 0,Qs YL [.l 0],Qa 1,Qb 1,Qb 2] [(2,3),(3,4)]
 .ret))
def Zab:ZZ:=⟨[0,1,4,5],9,Zfb,[.tmp 2,.tmp 3],1⟩
def Zac:Zg :=
 (Ql [Qf (.bin 0 .lss (.t 11) (.t 10))] [(12,0)]
 (.seq (.cond (.t 12) .skip (.exit 0))
 (.seq (.block 1 (Ql [Qf (.indexAddrS 1 (.t 9) (.t 11)),Qn 1 0,Qb 1] [(6,2)]
 (.seq (Ql [Qa 6,Qa 5,Qf (.bin 0 .add (.l 1) (Qh 1)),Qf (.bin 0 .neq (.l 0) (.l 2))] [(13,3)]
 (.cond (.t 13) (.exit 0) .skip))
 (.region [Qa 6,Qb 0] [(5,1)]))))
 (.region [Qf (.bin 0 .add (.t 11) (Qh 1)),Qb 0] [(11,1)]))))
def Zd8:Zg :=
 (Ql [Qe 0,Qc] [(2,0),(3,1)]
 (.seq (Ql [Qa 0,Qs K4 [.l 0],Qf (.un .not (.l 1))] [(7,2)]
 (.cond (.t 7) (Ql [Qe 0,Qc] [(2,0),(3,1)]
 .ret) .skip))
 (Ql [Qe 0] [(4,0)]
 (.seq (Ql [Qa 1] [(8,0)]
 (.cond (.t 8) (.region [Qe (-1)] [(4,0)]) .skip))
 (Ql [Qe 0] [(5,0)]
 (.seq (Ql [Qa 0,Qa 4,Qs ZcZ [.l 0,.l 1],Qf (.len (.l 2)),Qe 0] [(9,2),(10,3),(11,4)]
 (.block 0 (.loop Zac)))
 (Ql [Qa 5,Qb 0,Qd] [(2,1),(3,2)]
 .ret)))))))
def JL:ZZ:=⟨[0,1,4,5,6,7,9,12,13,16,17,18,19,25],29,Zd8,[.tmp 2,.tmp 3],1⟩
def ZbF:Zg :=
 (Ql [⟨.mv (.c (.str ⟨#[]⟩)),none⟩,Qc] [(2,0),(3,1)]
 (.seq (Ql [Qa 0,Qf (.len (.l 0)),Qf (.bin 0 .eql (.l 1) (Qh 0))] [(4,2)]
 (.cond (.t 4) (Ql [Qa 1,⟨.mv (.c (.str ⟨#[110,111,110,101]⟩)),none⟩,Qb 0] [(2,1),(3,2)]
 .ret) .skip))
 (Ql [Qa 0,⟨.call (.c (.fn Ye [] [])) [(.l 0),(.c (.str ⟨#[32]⟩))],none⟩,Qa 1,Qb 1,Qb 2] [(2,3),(3,4)]
 .ret)))
def KQ:ZZ:=⟨[0,1,4,5,8],13,ZbF,[.tmp 2,.tmp 3],1⟩
def Zad:Zg :=
 (Ql [Qf (.box (.t 1)),Qf (.mv (.c (.slice none 0 0 none))),Qc] [(2,0),(3,1),(4,2)]
 (.seq (Ql [Qa 0,Qs K4 [.l 0],Qf (.un .not (.l 1)),Qb 2,⟨.load false 1 (.t 2),some ((.l 3),false)⟩,⟨.bin 0 .lss (.l 4) (Qh 1),some ((.l 3),false)⟩,Qf (.pick (.l 3) Qj (.l 5))] [(6,6)]
 (.cond (.t 6) (Ql [Qf (.mv (.c (.slice none 0 0 none))),Qc] [(3,0),(4,1)]
 .ret) .skip))
 (Ql [Qf (.buildSlice 1 0 [] []),Qf (.alloc [.slice none 0 0 none]),Qq 1 1 0] [(5,1)]
 (Ql [Qa 0,Qf (.makeFunc Xu [] [(.t 2),(.t 5)]),Qs JX [.l 0,Qh (-1),.l 1]] []
 (Qm [Qg (.load false 1 (.t 5)),Qg (.load false 1 (.t 5)),Qg (.len (.l 1)),Qg (.bin 0 .gtr (.l 2) (Qh 0)),Qg (.mv (.l 0)),Qg (.mv (.l 3))] [(3,4),(4,5)]
 .ret)))))
def XM:ZZ:=⟨[0,1,3,4,5,6,13],22,Zad,[.tmp 3,.tmp 4],2⟩
def Zge:Zg :=
 (Ql [⟨.mv (.c (.str ⟨#[]⟩)),none⟩,Qc] [(2,0),(3,1)]
 (.seq (Ql [Qa 1] [(4,0)]
 (.block 0 (Ql [⟨.bin 1 .eql (.t 4) (.c (.str ⟨#[114,111,119]⟩)),none⟩,Qb 0] [(5,1)]
 (.cond (.t 5) (Ql [Qa 0,Qf (.nilCheck (.l 0)),Qf (.fieldAddr 0 (.l 1)),Qn 1 2,Qs ZaW [.l 3],Qp 0 4,Qp 1 4,Qb 5,Qb 6] [(2,7),(3,8)]
 .ret) (Ql [⟨.bin 1 .eql (.t 4) (.c (.str ⟨#[119,101,105,103,104,116]⟩)),none⟩,Qb 0] [(6,1)]
 (.cond (.t 6) (Ql [Qa 0,Qf (.nilCheck (.l 0)),Qf (.fieldAddr 0 (.l 1)),Qn 1 2,Qs Zbw [.l 3],Qp 0 4,Qp 1 4,Qs ZT [.l 5,.l 6],Qp 0 7,Qp 1 7,Qb 8,Qb 9] [(2,10),(3,11)]
 .ret) (Ql [⟨.bin 1 .eql (.t 4) (.c (.str ⟨#[99,101,110,116,114,101]⟩)),none⟩,Qb 0] [(7,1)]
 (.cond (.t 7) (Ql [Qa 0,Qf (.nilCheck (.l 0)),Qf (.fieldAddr 0 (.l 1)),Qn 1 2,Qs Zbx [.l 3],Qp 0 4,Qp 1 4,Qs Xt [.l 5,.l 6],Qp 0 7,Qp 1 7,Qb 8,Qb 9] [(2,10),(3,11)]
 .ret) (Ql [⟨.bin 1 .eql (.t 4) (.c (.str ⟨#[115,105,100,101]⟩)),none⟩,Qb 0] [(8,1)]
 (.cond (.t 8) (Qm [Qg (.mv (.t 0)),Qg (.nilCheck (.l 0)),Qg (.fieldAddr 0 (.l 1)),Qg (.load false 1 (.l 2)),Qg (.mv (.t 0)),Qg (.nilCheck (.l 4)),Qg (.fieldAddr 1 (.l 5)),Qg (.load false 1 (.l 6)),Qg (.mv (.t 0)),Qg (.nilCheck (.l 8)),Qg (.fieldAddr 2 (.l 9)),Qg (.load false 1 (.l 10)),Qt ZaY [.l 3,.l 7,.l 11],Qg (.extract 0 (.l 12)),Qg (.extract 1 (.l 12)),Qt ZT [.l 13,.l 14],Qg (.extract 0 (.l 15)),Qg (.extract 1 (.l 15)),Qg (.mv (.l 16)),Qg (.mv (.l 17))] [(2,18),(3,19)]
 .ret) (Ql [⟨.bin 1 .eql (.t 4) (.c (.str ⟨#[116,105,112,115]⟩)),none⟩,Qb 0] [(9,1)]
 (.cond (.t 9) (Ql [Qa 0,Qf (.nilCheck (.l 0)),Qf (.fieldAddr 4 (.l 1)),Qn 1 2,Qs ZT [.l 3,Qj],Qp 0 4,Qp 1 4,Qb 5,Qb 6] [(2,7),(3,8)]
 .ret) (Ql [⟨.bin 1 .eql (.t 4) (.c (.str ⟨#[112,117,108,108]⟩)),none⟩,Qb 0] [(10,1)]
 (.cond (.t 10) (Ql [Qa 0,Qf (.nilCheck (.l 0)),Qf (.load true 6 (.l 1)),Qs Zc0 [.l 2],Qp 0 3,Qp 1 3,Qs ZT [.l 4,.l 5],Qp 0 6,Qp 1 6,Qb 7,Qb 8] [(2,9),(3,10)]
 .ret) (Ql [⟨.bin 1 .eql (.t 4) (.c (.str ⟨#[115,112,108,105,116]⟩)),none⟩,Qb 0] [(11,1)]
 (.cond (.t 11) (Ql [Qa 0,Qf (.nilCheck (.l 0)),Qf (.fieldAddr 0 (.l 1)),Qn 1 2,Qs Kd [.l 3],Qp 0 4,Qp 1 4,Qs Xx [.l 5,.l 6],Qp 0 7,Qp 1 7,Qb 8,Qb 9] [(2,10),(3,11)]
 .ret) .skip))))))))))))))))
 (Ql [⟨.mv (.c (.str ⟨#[]⟩)),none⟩,Qc] [(2,0),(3,1)]
 .ret)))
def ZaB:ZZ:=⟨[0,1,4,5,6,7,16,28,40,60,69,80],92,Zge,[.tmp 2,.tmp 3],1⟩
def ZdH:Zg :=
 (Ql [⟨.mv (.c (.str ⟨#[]⟩)),none⟩,Qc] [(3,0),(4,1)]
 (.seq (Ql [Qa 1] [(10,0)]
 (.block 0 (Ql [⟨.bin 1 .eql (.t 10) (.c (.str ⟨#[109,111,109,101,110,116]⟩)),none⟩,Qb 0] [(11,1)]
 (.cond (.t 11) (Ql [Qa 0,Qf (.nilCheck (.l 0)),Qf (.fieldAddr 0 (.l 1)),Qn 1 2,Qa 2,Qs Xh [.l 3,.l 4],Qp 0 5,Qp 1 5,Qs ZT [.l 6,.l 7],Qp 0 8,Qp 1 8,Qb 9,Qb 10] [(3,11),(4,12)]
 .ret) (Ql [⟨.bin 1 .eql (.t 10) (.c (.str ⟨#[109,111,115,116]⟩)),none⟩,Qb 0] [(12,1)]
 (.cond (.t 12) (Ql [Qa 0,Qf (.nilCheck (.l 0)),Qf (.fieldAddr 3 (.l 1)),Qn 1 2,Qa 2,Qs Zby [.l 3,.l 4],Qp 0 5,Qp 1 5,Qs ZT [.l 6,.l 7],Qp 0 8,Qp 1 8,Qb 9,Qb 10] [(3,11),(4,12)]
 .ret) (Ql [⟨.bin 1 .eql (.t 10) (.c (.str ⟨#[115,116,101,112,115]⟩)),none⟩,Qb 0] [(13,1)]
 (.cond (.t 13) (Ql [Qa 0,Qf (.nilCheck (.l 0)),Qf (.fieldAddr 3 (.l 1)),Qn 1 2,Qa 2,Qs K5 [.l 3,.l 4],Qb 5,Qp 0 6,Qp 1 6,Qb 7,Qb 8] [(5,9),(6,10)]
 (.seq (Ql [Qa 6,Qf (.un .not (.l 0))] [(14,1)]
 (.cond (.t 14) (Ql [⟨.mv (.c (.str ⟨#[]⟩)),none⟩,Qc] [(3,0),(4,1)]
 .ret) .skip))
 (Ql [Qa 5,Qa 5,Qf (.len (.l 1)),Qf (.bin 0 .sub (.l 2) (Qh 1)),Qf (.indexAddrS 2 (.l 0) (.l 3)),Qf (.load true 2 (.l 4)),Qs Xt [.l 5,Qj],Qp 0 6,Qp 1 6,Qb 7,Qb 8] [(3,9),(4,10)]
 .ret))) (Ql [⟨.bin 1 .eql (.t 10) (.c (.str ⟨#[122,101,114,111]⟩)),none⟩,Qb 0] [(15,1)]
 (.cond (.t 15) (Ql [Qa 0,Qf (.nilCheck (.l 0)),Qf (.fieldAddr 0 (.l 1)),Qn 1 2,Qa 2,Qs K0 [.l 3,.l 4],Qp 0 5,Qp 1 5,Qs ZT [.l 6,.l 7],Qp 0 8,Qp 1 8,Qb 9,Qb 10] [(3,11),(4,12)]
 .ret) (Ql [⟨.bin 1 .eql (.t 10) (.c (.str ⟨#[109,101,110,100]⟩)),none⟩,Qb 0] [(16,1)]
 (.cond (.t 16) (Ql [Qa 0,Qf (.nilCheck (.l 0)),Qf (.fieldAddr 0 (.l 1)),Qn 1 2,Qa 2,Qs Zc1 [.l 3,.l 4],Qb 5,Qp 0 6,Qp 1 6,Qp 2 6,Qb 7,Qb 8,Qb 9] [(7,10),(8,11),(9,12)]
 (Ql [Qa 7,Qa 8,Qf (.buildSlice 1 2 [.int .i64 (0),.int .i64 (0)] [(0,1,(.l 0)),(1,1,(.l 1))]),Qa 9,Qs Xx [.l 2,.l 3],Qp 0 4,Qp 1 4,Qb 5,Qb 6] [(3,7),(4,8)]
 .ret)) (Ql [⟨.bin 1 .eql (.t 10) (.c (.str ⟨#[99,111,105,110,115]⟩)),none⟩,Qb 0] [(17,1)]
 (.cond (.t 17) (Ql [Qa 2,Qs Ja [.l 0],Qp 0 1,Qp 1 1,Qs ZT [.l 2,.l 3],Qp 0 4,Qp 1 4,Qb 5,Qb 6] [(3,7),(4,8)]
 .ret) .skip))))))))))))))
 (Ql [⟨.mv (.c (.str ⟨#[]⟩)),none⟩,Qc] [(3,0),(4,1)]
 .ret)))
def Kv:ZZ:=⟨[0,1,2,6,7,8,9,10,11,12,13,14,27,40,52,62,75,94],103,ZdH,[.tmp 3,.tmp 4],1⟩
def Kw:Zg :=
 (Ql [Qf (.box (.t 1)),⟨.mv (.c (.str ⟨#[]⟩)),none⟩,Qc] [(2,0),(3,1),(4,2)]
 (.seq (Ql [Qa 0,Qs Yh [.l 0,Qh 0,Qh 59],Qf (.un .not (.l 1)),Qb 2,⟨.load true 2 (.t 2),some ((.l 3),false)⟩,⟨.call (.c (.fn Xa [] [])) [(.l 4)],some ((.l 3),false)⟩,⟨.un .not (.l 5),some ((.l 3),false)⟩,Qf (.pick (.l 3) Qj (.l 6))] [(7,7)]
 (.cond (.t 7) (Ql [⟨.mv (.c (.str ⟨#[]⟩)),none⟩,Qc] [(3,0),(4,1)]
 .ret) .skip))
 (Qm [Qg (.mv (.t 0)),Qg (.fieldAddr 0 (.t 2)),Qg (.load false 1 (.l 1)),Qg (.fieldAddr 1 (.t 2)),Qg (.load false 1 (.l 3)),⟨.call (.c (.fn YL [] [])) [(.l 0)],none,[(2,Qn 1 1),(4,Qn 1 3)]⟩,⟨.bin 1 .add (.l 5) (.c (.str ⟨#[32]⟩)),none,[]⟩,Qg (.bin 1 .add (.l 6) (.l 2)),⟨.bin 1 .add (.l 7) (.c (.str ⟨#[64]⟩)),none,[]⟩,Qg (.bin 1 .add (.l 8) (.l 4)),Qt Xy [.l 9],Qg (.mv (.l 10)),Qg (.extract 0 (.l 11)),Qg (.extract 1 (.l 11)),Qg (.mv (.l 12)),Qg (.mv (.l 13))] [(5,14),(6,15)]
 (Ql [Qa 5,⟨.bin 1 .add (.l 0) (.c (.str ⟨#[10]⟩)),none⟩,Qa 6,Qb 1,Qb 2] [(3,3),(4,4)]
 .ret))))
def Xw:ZZ:=⟨[0,1,3,4,5,6,7,15],33,Kw,[.tmp 3,.tmp 4],1⟩
def Y0:Zg :=
 (.seq (Ql [Qa 3,Qf (.len (.l 0)),Qf (.bin 0 .lss (.l 1) (Qh 60))] [(10,2)]
 (.cond (.t 10) .skip (.exit 0)))
 (.block 1 (Ql [Qa 0,Qa 5,Qf (.sliceStr (.l 0) (some (.l 1)) none),⟨.call (.c (.fn Jb [] [])) [(.l 2),(.c (.str ⟨#[10]⟩))],none⟩,Qb 3,Qp 0 4,Qp 1 4,Qp 2 4,Qb 5,Qb 6,Qb 7] [(6,8),(7,10)]
 (Ql [Qa 3,Qf (.len (.l 0)),Qa 6,Qs ZeE [.l 1,.l 2],Qb 3,Qp 0 4,Qp 1 4,⟨.alloc [.str ⟨#[]⟩,.str ⟨#[]⟩],none⟩,Qq 2 7 5,Qb 6] [(8,7),(9,9)]
 (.seq (Ql [Qa 7,Qf (.un .not (.l 0)),Qb 1,⟨.mv (.t 9),some ((.l 2),false)⟩,⟨.un .not (.l 3),some ((.l 2),false)⟩,Qf (.pick (.l 2) Qj (.l 4))] [(11,5)]
 (.cond (.t 11) (.exit 0) .skip))
 (Ql [Qa 5,Qa 6,Qf (.lenStr (.l 1)),Qf (.bin 0 .add (.l 2) (Qh 1)),Qf (.bin 0 .add (.l 0) (.l 3)),Qb 4] [(5,5)]
 (.region [Qa 3,Qr 2 8,⟨.buildSlice 2 1 [.str ⟨#[]⟩,.str ⟨#[]⟩] [(0,2,(.l 1))],none⟩,Qf (.append false 2 32 (.l 0) (.l 2)),Qa 4,Qa 5,Qf (.buildSlice 1 1 [.int .i64 (0)] [(0,1,(.l 5))]),Qf (.append false 1 8 (.l 4) (.l 6)),Qb 3,Qb 7] [(3,8),(4,9)])))))))
def ZbG:Zg :=
 (Ql [Qf (.mv (.c (.slice none 0 0 none))),Qf (.mv (.c (.slice none 0 0 none)))] [(1,0),(2,1)]
 (Ql [Qf (.buildSlice 2 0 [] []),Qf (.buildSlice 1 0 [] []),Qb 0,Qb 1,Qe 0] [(3,2),(4,3),(5,4)]
 (.seq (.block 0 (.loop Y0))
 (Ql [Qa 3,Qa 4,Qb 0,Qb 1] [(1,2),(2,3)]
 .ret))))
def Yt:ZZ:=⟨[0,2,3,4,5,6,7,9,10,11,16,37],53,ZbG,[.tmp 1,.tmp 2],2⟩
def J4:Zg :=
 (Ql [Qc] [(2,0)]
 (Ql [Qa 0,Qa 1,Qs Y2 [.l 0,.l 1],Qf (.bin 0 .geq (.l 2) (Qh 0)),Qb 3] [(2,4)]
 .ret))
def Z7:ZZ:=⟨[0,1,4],9,J4,[.tmp 2],1⟩
def Zb8:Zg :=
 (Ql [Qe 0] [(1,0)]
 (Ql [Qe 0] [(2,0)]
 (.seq (Qm [Qg (.mv (.t 0)),Qg (.nilCheck (.l 0)),Qg (.fieldAddr 1 (.l 1)),Qg (.load false 1 (.l 2)),Qg (.mv (.t 0)),Qg (.nilCheck (.l 4)),Qg (.fieldAddr 0 (.l 5)),Qg (.load false 1 (.l 6)),Qg (.len (.l 7)),Qg (.bin 0 .lss (.l 3) (.l 8))] [(3,9)]
 (.cond (.t 3) (.draw [Qg (.mv (.t 0)),Qg (.nilCheck (.l 0)),Qg (.fieldAddr 0 (.l 1)),Qg (.load false 1 (.l 2)),Qg (.mv (.t 0)),Qg (.nilCheck (.l 4)),Qg (.fieldAddr 1 (.l 5)),Qg (.load false 1 (.l 6)),Qg (.indexAddrS 1 (.l 3) (.l 7)),Qg (.load false 1 (.l 8)),Qg (.conv .i64 (.l 9)),Qg (.mv (.l 10))] [(2,11)]) .skip))
 (Ql [Qa 0,Qf (.nilCheck (.l 0)),Qf (.fieldAddr 1 (.l 1)),Qn 1 2,Qf (.bin 0 .add (.l 3) (Qh 1)),Qf (.nilCheck (.l 0)),Qf (.fieldAddr 1 (.l 5)),Qq 1 6 4] []
 (Ql [Qa 0,Qa 0,Qf (.nilCheck (.l 1)),Qf (.fieldAddr 2 (.l 2)),Qn 1 3,Qf (.bin 0 .mul (.l 4) (.c (.int .u64 (6364136223846793005)))),Qa 2,Qf (.conv .u64 (.l 6)),Qf (.bin 0 .add (.l 5) (.l 7)),Qf (.bin 0 .add (.l 8) (.c (.int .u64 (462197)))),Qf (.nilCheck (.l 0)),Qf (.fieldAddr 2 (.l 10)),Qq 1 11 9] []
 (.seq (Qm [Qg (.mv (.t 0)),Qg (.nilCheck (.l 0)),Qg (.fieldAddr 1 (.l 1)),Qg (.load false 1 (.l 2)),Qg (.mv (.t 0)),Qg (.nilCheck (.l 4)),Qg (.fieldAddr 0 (.l 5)),Qg (.load false 1 (.l 6)),Qg (.len (.l 7)),Qg (.bin 0 .leq (.l 3) (.l 8))] [(4,9)]
 (.cond (.t 4) (Ql [Qa 2,Qb 0] [(1,1)]
 .ret) .skip))
 (Ql [Qa 0,Qf (.nilCheck (.l 0)),Qf (.fieldAddr 2 (.l 1)),Qn 1 2,Qf (.bin 0 .shr (.l 3) (.c (.int .u64 (40)))),Qf (.bin 0 .and (.l 4) (.c (.int .u64 (255)))),Qf (.conv .i64 (.l 5)),Qb 6] [(1,7)]
 .ret)))))))
def Kl:ZZ:=⟨[0,2,3,13,53],62,Zb8,[.tmp 1],1⟩
def Zid:Zg :=
 (Ql [Qf (.alloc [.slice none 0 0 none,.int .i64 (0),.int .i64 (0),.slice none 0 0 none,.int .i64 (0),.int .i64 (0)]),Qc] [(2,0),(3,1)]
 (.seq (Ql [Qa 0,Qa 1,Qs Zcn [.l 0,.l 1],Qf (.un .not (.l 2))] [(4,3)]
 (.cond (.t 4) (Ql [Qf (.build [.slice none 0 0 none,.int .i64 (0),.int .i64 (0),.slice none 0 0 none,.int .i64 (0),.int .i64 (0)] []),Qf (.store 6 (.t 2) (.l 0)),Qc] [(3,2)]
 .ret) .skip))
 (Ql [Qa 0,Qa 1,Qf (.build [.slice none 0 0 none,.int .i64 (0),.int .i64 (0),.slice none 0 0 none,.int .i64 (0),.int .i64 (0)] [(1,1,(.l 0)),(2,1,(.l 1))]),Qs ZaO [.l 2],Qf (.store 6 (.t 2) (.l 3)),Qd] [(3,5)]
 .ret)))
def ZbH:ZZ:=⟨[0,1,4,5,9],15,Zid,[.cell 2 true 6,.tmp 3],2⟩
def Zd9:Zg :=
 (Ql [Qf (.box (.t 0)),Qf (.box (.t 1)),Qf (.alloc [.slice none 0 0 none,.int .i64 (0),.int .i64 (0),.slice none 0 0 none,.int .i64 (0),.int .i64 (0)]),Qc] [(2,0),(3,1),(4,2),(5,3)]
 (.seq (Ql [Qr 6 2,Qr 4 3,Qs ZeF [.l 0,.l 1],Qf (.un .not (.l 2))] [(7,3)]
 (.cond (.t 7) (Ql [Qf (.build [.slice none 0 0 none,.int .i64 (0),.int .i64 (0),.slice none 0 0 none,.int .i64 (0),.int .i64 (0)] []),Qf (.store 6 (.t 4) (.l 0)),Qc] [(5,2)]
 .ret) .skip))
 (Ql [Qr 6 2,Qr 4 3,Qs Zc2 [.l 0,.l 1],Qf (.alloc [.slice none 0 0 none,.int .i64 (0),.int .i64 (0),.slice none 0 0 none,.int .i64 (0),.int .i64 (0)]),Qq 6 3 2] [(6,3)]
 (Ql [Qo 5 2,Qn 1 0,Qf (.bin 0 .add (.l 1) (Qh 1)),Qo 5 6,Qq 1 3 2] []
 (.seq (Ql [Qr 6 6,Qs KB [.l 0],Qf (.un .not (.l 1))] [(8,2)]
 (.cond (.t 8) (Ql [Qf (.build [.slice none 0 0 none,.int .i64 (0),.int .i64 (0),.slice none 0 0 none,.int .i64 (0),.int .i64 (0)] []),Qf (.store 6 (.t 4) (.l 0)),Qc] [(5,2)]
 .ret) .skip))
 (.seq (Ql [Qo 0 6,Qn 1 0,Qo 1 6,Qn 1 2,Qo 2 6,Qn 1 4,Qs Zco [.l 1,.l 3,.l 5],Qf (.bin 0 .neq (.l 6) (Qh 0))] [(9,7)]
 (.cond (.t 9) (.region [Qo 4 2,Qn 1 0,Qf (.bin 0 .add (.l 1) (Qh 1)),Qo 4 6,Qq 1 3 2] []) .skip))
 (Ql [Qr 6 6,Qf (.store 6 (.t 4) (.l 0)),Qd] [(5,2)]
 .ret)))))))
def Za2:ZZ:=⟨[0,1,2,3,4,5,6,10,21,30],36,Zd9,[.cell 4 true 6,.tmp 5],2⟩
def ZL:Zg :=
 (.seq (.region [⟨.box (.t 1),none⟩,⟨.alloc [.int .i64 (0),.int .i64 (0),.int .i64 (0),.int .i64 (0)],none⟩] [(2,0),(3,1)])
 (.seq (.region [⟨.mv (.t 0),none⟩,⟨.buildSlice 1 10 [.int .i64 (0),.int .i64 (0),.int .i64 (0),.int .i64 (0),.int .i64 (0),.int .i64 (0),.int .i64 (0),.int .i64 (0),.int .i64 (0),.int .i64 (0)] [(0,1,(.c (.int .i64 (1)))),(1,1,(.c (.int .i64 (1)))),(2,1,(.c (.int .i64 (1)))),(3,1,(.c (.int .i64 (2)))),(4,1,(.c (.int .i64 (3)))),(5,1,(.c (.int .i64 (3)))),(6,1,(.c (.int .i64 (4)))),(7,1,(.c (.int .i64 (5)))),(8,1,(.c (.int .i64 (5)))),(9,1,(.c (.int .i64 (6))))],none⟩,⟨.call (.c (.fn ZG [] [])) [(.l 0),(.l 1)],none⟩,⟨.build [.int .i64 (0),.int .i64 (0),.int .i64 (0),.int .i64 (0)] [(0,1,(.l 2))],none⟩,⟨.alloc [.int .i64 (0),.int .i64 (0),.int .i64 (0),.int .i64 (0)],none⟩,⟨.store 4 (.l 4) (.l 3),none⟩] [(4,4)])
 (.seq (.region [⟨.fieldAddr 0 (.t 2),none⟩,⟨.load false 1 (.l 0),none⟩,⟨.len (.l 1),none⟩,⟨.call (.c (.fn ZaZ [] [])) [(.l 2),(.c (.int .i64 (12)))],none⟩,⟨.call (.c (.fn ZaP [] [])) [(.c (.int .i64 (1))),(.l 3)],none⟩,⟨.mv (.l 4),none⟩] [(5,5)])
 (.seq (.seq (.region [⟨.fieldAddr 0 (.t 4),none⟩,⟨.load false 1 (.l 0),none⟩] [(7,1)])
 (.block 0 (.seq (.region [⟨.bin 0 .eql (.t 7) (.c (.int .i64 (1))),none⟩,⟨.mv (.l 0),none⟩] [(8,1)])
 (.cond (.t 8) (.seq (.region [⟨.mv (.t 0),none⟩,⟨.call (.c (.fn Zz [] [])) [(.l 0),(.c (.int .i64 (9)))],none⟩,⟨.bin 0 .add (.c (.int .i64 (26))) (.l 1),none⟩,⟨.fieldAddr 1 (.t 4),none⟩,⟨.store 1 (.l 3) (.l 2),none⟩] [])
 (.region [⟨.mv (.t 0),none⟩,⟨.call (.c (.fn Zz [] [])) [(.l 0),(.c (.int .i64 (6)))],none⟩,⟨.bin 0 .add (.c (.int .i64 (1))) (.l 1),none⟩,⟨.fieldAddr 2 (.t 4),none⟩,⟨.store 1 (.l 3) (.l 2),none⟩] [])) (.seq (.region [⟨.bin 0 .eql (.t 7) (.c (.int .i64 (2))),none⟩,⟨.mv (.l 0),none⟩] [(9,1)])
 (.cond (.t 9) (.region [⟨.mv (.t 0),none⟩,⟨.mv (.t 5),none⟩,⟨.call (.c (.fn Zz [] [])) [(.l 0),(.l 1)],none⟩,⟨.fieldAddr 1 (.t 4),none⟩,⟨.store 1 (.l 3) (.l 2),none⟩] []) (.seq (.region [⟨.bin 0 .eql (.t 7) (.c (.int .i64 (3))),none⟩,⟨.mv (.l 0),none⟩] [(10,1)])
 (.cond (.t 10) (.seq (.region [⟨.mv (.t 0),none⟩,⟨.mv (.t 5),none⟩,⟨.call (.c (.fn Zz [] [])) [(.l 0),(.l 1)],none⟩,⟨.fieldAddr 1 (.t 4),none⟩,⟨.store 1 (.l 3) (.l 2),none⟩] [])
 (.region [⟨.mv (.t 0),none⟩,⟨.call (.c (.fn Zz [] [])) [(.l 0),(.c (.int .i64 (9)))],none⟩,⟨.bin 0 .add (.c (.int .i64 (26))) (.l 1),none⟩,⟨.fieldAddr 2 (.t 4),none⟩,⟨.store 1 (.l 3) (.l 2),none⟩] [])) (.seq (.region [⟨.bin 0 .eql (.t 7) (.c (.int .i64 (4))),none⟩,⟨.mv (.l 0),none⟩] [(11,1)])
 (.cond (.t 11) (.seq (.region [⟨.mv (.t 0),none⟩,⟨.call (.c (.fn Zz [] [])) [(.l 0),(.c (.int .i64 (4)))],none⟩,⟨.bin 0 .add (.c (.int .i64 (27))) (.l 1),none⟩,⟨.fieldAddr 1 (.t 4),none⟩,⟨.store 1 (.l 3) (.l 2),none⟩] [])
 (.draw [⟨.fieldAddr 1 (.t 4),none,[]⟩,⟨.load false 1 (.l 0),none,[]⟩,⟨.mv (.t 0),none,[]⟩,⟨.call (.c (.fn Zz [] [])) [(.l 2),(.c (.int .i64 (5)))],none,[(1,⟨.load false 1 (.l 0),none⟩)]⟩,⟨.bin 0 .add (.l 1) (.l 3),none,[]⟩,⟨.fieldAddr 2 (.t 4),none,[]⟩,⟨.store 1 (.l 5) (.l 4),none,[]⟩] [])) (.seq (.region [⟨.bin 0 .eql (.t 7) (.c (.int .i64 (5))),none⟩,⟨.mv (.l 0),none⟩] [(12,1)])
 (.cond (.t 12) (.seq (.region [⟨.mv (.t 0),none⟩,⟨.call (.c (.fn Ku [] [])) [(.l 0)],none⟩,⟨.alloc [.int .i64 (0),.int .i64 (0),.int .i64 (0)],none⟩,⟨.store 3 (.l 2) (.l 1),none⟩] [(6,2)])
 (.seq (.region [⟨.fieldAddr 0 (.t 6),none⟩,⟨.load false 1 (.l 0),none⟩,⟨.fieldAddr 1 (.t 4),none⟩,⟨.store 1 (.l 2) (.l 1),none⟩] [])
 (.seq (.region [⟨.fieldAddr 1 (.t 6),none⟩,⟨.load false 1 (.l 0),none⟩,⟨.fieldAddr 2 (.t 4),none⟩,⟨.store 1 (.l 2) (.l 1),none⟩] [])
 (.region [⟨.fieldAddr 2 (.t 6),none⟩,⟨.load false 1 (.l 0),none⟩,⟨.fieldAddr 3 (.t 4),none⟩,⟨.store 1 (.l 2) (.l 1),none⟩] [])))) (.seq (.region [⟨.bin 0 .eql (.t 7) (.c (.int .i64 (6))),none⟩,⟨.mv (.l 0),none⟩] [(13,1)])
 (.cond (.t 13) (.region [⟨.mv (.t 0),none⟩,⟨.fieldAddr 3 (.t 2),none⟩,⟨.load false 1 (.l 1),none⟩,⟨.len (.l 2),none⟩,⟨.call (.c (.fn ZaZ [] [])) [(.l 3),(.c (.int .i64 (5)))],none⟩,⟨.call (.c (.fn ZaP [] [])) [(.c (.int .i64 (1))),(.l 4)],none⟩,⟨.call (.c (.fn Zz [] [])) [(.l 0),(.l 5)],none⟩,⟨.fieldAddr 1 (.t 4),none⟩,⟨.store 1 (.l 7) (.l 6),none⟩] []) .skip))))))))))))))
 (.seq (.seq (.region [⟨.mv (.t 0),none⟩,⟨.call (.c (.fn Zz [] [])) [(.l 0),(.c (.int .i64 (32)))],none⟩] [(14,1)])
 (.block 1 (.seq (.region [⟨.bin 0 .eql (.t 14) (.c (.int .i64 (0))),none⟩,⟨.mv (.l 0),none⟩] [(15,1)])
 (.cond (.t 15) (.region [⟨.mv (.t 0),none⟩,⟨.buildSlice 1 5 [.int .i64 (0),.int .i64 (0),.int .i64 (0),.int .i64 (0),.int .i64 (0)] [(0,1,(.c (.int .i64 (-1)))),(1,1,(.c (.int .i64 (60)))),(2,1,(.c (.int .i64 (61)))),(3,1,(.c (.int .i64 (12)))),(4,1,(.c (.int .i64 (4611686018427387904))))],none⟩,⟨.call (.c (.fn ZG [] [])) [(.l 0),(.l 1)],none⟩,⟨.fieldAddr 1 (.t 4),none⟩,⟨.store 1 (.l 3) (.l 2),none⟩] []) (.seq (.region [⟨.bin 0 .eql (.t 14) (.c (.int .i64 (1))),none⟩,⟨.mv (.l 0),none⟩] [(16,1)])
 (.cond (.t 16) (.region [⟨.mv (.t 0),none⟩,⟨.buildSlice 1 4 [.int .i64 (0),.int .i64 (0),.int .i64 (0),.int .i64 (0)] [(0,1,(.c (.int .i64 (0)))),(1,1,(.c (.int .i64 (99)))),(2,1,(.c (.int .i64 (100)))),(3,1,(.c (.int .i64 (-1))))],none⟩,⟨.call (.c (.fn ZG [] [])) [(.l 0),(.l 1)],none⟩,⟨.fieldAddr 2 (.t 4),none⟩,⟨.store 1 (.l 3) (.l 2),none⟩] []) (.seq (.region [⟨.bin 0 .eql (.t 14) (.c (.int .i64 (2))),none⟩,⟨.mv (.l 0),none⟩] [(17,1)])
 (.cond (.t 17) (.region [⟨.mv (.t 0),none⟩,⟨.buildSlice 1 3 [.int .i64 (0),.int .i64 (0),.int .i64 (0)] [(0,1,(.c (.int .i64 (1)))),(1,1,(.c (.int .i64 (25)))),(2,1,(.c (.int .i64 (-1))))],none⟩,⟨.call (.c (.fn ZG [] [])) [(.l 0),(.l 1)],none⟩,⟨.fieldAddr 3 (.t 4),none⟩,⟨.store 1 (.l 3) (.l 2),none⟩] []) (.seq (.region [⟨.bin 0 .eql (.t 14) (.c (.int .i64 (3))),none⟩,⟨.mv (.l 0),none⟩] [(18,1)])
 (.cond (.t 18) (.region [⟨.mv (.t 0),none⟩,⟨.buildSlice 1 3 [.int .i64 (0),.int .i64 (0),.int .i64 (0)] [(0,1,(.c (.int .i64 (0)))),(1,1,(.c (.int .i64 (7)))),(2,1,(.c (.int .i64 (-1))))],none⟩,⟨.call (.c (.fn ZG [] [])) [(.l 0),(.l 1)],none⟩,⟨.fieldAddr 0 (.t 4),none⟩,⟨.store 1 (.l 3) (.l 2),none⟩] []) .skip))))))))))
 (.seq (.region [⟨.load true 4 (.t 4),none⟩,⟨.store 4 (.t 3) (.l 0),none⟩] [])
 .ret))))))
def YV:ZZ:=⟨[0,1,3,4,5,6,7,18,19,29,35,45,57,70,81,82,88,94,100],107,ZL,[.cell 3 true 4],1⟩
def Y9:Zg :=
 (Ql [Qc] [(2,0)]
 (Ql [Qa 0,Qa 1,Qs ZV [.l 0,.l 1],Qf (.bin 0 .geq (.l 2) (Qh 0)),Qb 3] [(2,4)]
 .ret))
def ZR:ZZ:=⟨[0,1,4],9,Y9,[.tmp 2],1⟩
def ZjS:Zg :=
 (Ql [Qf (.box (.t 0)),Qc] [(1,0),(2,1)]
 (Ql [Qo 0 1,Qn 1 0,Qs XI [.l 1],Qf (.un .not (.l 2)),Qb 3,⟨.fieldAddr 1 (.t 1),some ((.l 4),false)⟩,⟨.load false 1 (.l 5),some ((.l 4),false)⟩,⟨.call (.c (.fn JF [] [])) [(.l 6)],some ((.l 4),false)⟩,⟨.un .not (.l 7),some ((.l 4),false)⟩,Qf (.pick (.l 4) Qj (.l 8)),Qb 9] [(2,10)]
 .ret))
def Zda:ZZ:=⟨[0,1,2],13,ZjS,[.tmp 2],1⟩
def Zie:Zg :=
 (Ql [Qc] [(1,0)]
 (Ql [Qa 0,Qs Yh [.l 0,Qh 1,Qh 99],Qb 1] [(1,2)]
 .ret))
def ZbI:ZZ:=⟨[0,2],5,Zie,[.tmp 1],1⟩
def Zht:Zg :=
 (Ql [Qe 0] [(2,0)]
 (.seq (Ql [Qa 0,Qf (.len (.l 0)),Qa 1,Qf (.len (.l 2)),Qf (.bin 0 .neq (.l 1) (.l 3))] [(3,4)]
 (.cond (.t 3) (Ql [Qa 0,Qf (.len (.l 0)),Qa 1,Qf (.len (.l 2)),Qf (.bin 0 .sub (.l 1) (.l 3)),Qb 4] [(2,5)]
 .ret) .skip))
 (Ql [Qa 0,Qa 1,Qs Zb4 [.l 0,.l 1],Qb 2] [(2,3)]
 .ret)))
def QW:ZZ:=⟨[0,1,4,9],18,Zht,[.tmp 2],1⟩
def KD:Zg :=
 (Ql [Qf (.box (.t 0)),Qc] [(1,0),(2,1)]
 (.seq (Ql [Qo 0 1,Qn 1 0] [(3,1)]
 (.block 0 (.seq (Ql [Qf (.bin 0 .eql (.t 3) (Qh 1)),Qb 0] [(4,1)]
 (.cond (.t 4) .skip (.region [Qf (.bin 0 .eql (.t 3) (Qh 3)),Qb 0] [(4,1)])))
 (.cond (.t 4) (Ql [Qo 1 1,Qn 1 0,Qs XJ [.l 1],Qb 2,⟨.fieldAddr 2 (.t 1),some ((.l 3),true)⟩,⟨.load false 1 (.l 4),some ((.l 3),true)⟩,⟨.call (.c (.fn XJ [] [])) [(.l 5)],some ((.l 3),true)⟩,Qf (.pick (.l 3) (.l 6) Qi),Qb 7] [(2,8)]
 .ret) (Ql [Qf (.bin 0 .eql (.t 3) (Qh 2)),Qb 0] [(5,1)]
 (.cond (.t 5) (Ql [Qo 1 1,Qn 1 0,Qs XJ [.l 1],Qb 2,⟨.fieldAddr 2 (.t 1),some ((.l 3),true)⟩,⟨.load false 1 (.l 4),some ((.l 3),true)⟩,⟨.bin 0 .eql (.l 5) (Qh 0),some ((.l 3),true)⟩,Qf (.pick (.l 3) (.l 6) Qi),Qb 7] [(2,8)]
 .ret) (Ql [Qf (.bin 0 .eql (.t 3) (Qh 4)),Qb 0] [(6,1)]
 (.cond (.t 6) (Ql [Qo 1 1,Qn 1 0,Qs XJ [.l 1],Qb 2,⟨.fieldAddr 2 (.t 1),some ((.l 3),true)⟩,⟨.load false 1 (.l 4),some ((.l 3),true)⟩,⟨.call (.c (.fn XJ [] [])) [(.l 5)],some ((.l 3),true)⟩,Qf (.pick (.l 3) (.l 6) Qi),Qb 7,⟨.fieldAddr 1 (.t 1),some ((.l 8),true)⟩,⟨.load false 1 (.l 9),some ((.l 8),true)⟩,⟨.fieldAddr 2 (.t 1),some ((.l 8),true)⟩,⟨.load false 1 (.l 11),some ((.l 8),true)⟩,⟨.bin 0 .geq (.l 10) (.l 12),some ((.l 8),true)⟩,Qf (.pick (.l 8) (.l 13) Qi),Qb 14] [(2,15)]
 .ret) (Ql [Qf (.bin 0 .eql (.t 3) (Qh 5)),Qb 0] [(7,1)]
 (.cond (.t 7) (Ql [Qo 1 1,Qn 1 0,Qs XJ [.l 1],Qb 2,⟨.fieldAddr 2 (.t 1),some ((.l 3),true)⟩,⟨.load false 1 (.l 4),some ((.l 3),true)⟩,⟨.call (.c (.fn XJ [] [])) [(.l 5)],some ((.l 3),true)⟩,Qf (.pick (.l 3) (.l 6) Qi),Qb 7,⟨.fieldAddr 1 (.t 1),some ((.l 8),true)⟩,⟨.load false 1 (.l 9),some ((.l 8),true)⟩,⟨.fieldAddr 2 (.t 1),some ((.l 8),true)⟩,⟨.load false 1 (.l 11),some ((.l 8),true)⟩,⟨.bin 0 .gtr (.l 10) (.l 12),some ((.l 8),true)⟩,Qf (.pick (.l 8) (.l 13) Qi),Qb 14] [(2,15)]
 .ret) .skip))))))))))
 (Ql [Qc] [(2,0)]
 .ret)))
def Jc:ZZ:=⟨[0,1,2,4,5,16,26,43],60,KD,[.tmp 2],1⟩
def XN:Zg :=
 (.seq (Ql [Qa 2,Qa 0,Qf (.len (.l 1)),Qf (.bin 0 .lss (.l 0) (.l 2)),Qb 3,⟨.mv (.t 2),some ((.l 4),true)⟩,⟨.bin 0 .leq (.l 5) (Qh 12),some ((.l 4),true)⟩,Qf (.pick (.l 4) (.l 6) Qi)] [(3,7)]
 (.cond (.t 3) .skip (.exit 0)))
 (.seq (.block 1 (Ql [Qa 0,Qa 2,Qf (.indexAddrS 2 (.l 0) (.l 1)),Qf (.fieldAddr 0 (.l 2)),Qn 1 3,Qs ZeG [.l 4],Qf (.un .not (.l 5)),Qb 6,⟨.mv (.t 0),some ((.l 7),false)⟩,⟨.mv (.t 2),some ((.l 7),false)⟩,⟨.indexAddrS 2 (.l 8) (.l 9),some ((.l 7),false)⟩,⟨.fieldAddr 1 (.l 10),some ((.l 7),false)⟩,⟨.load false 1 (.l 11),some ((.l 7),false)⟩,⟨.call (.c (.fn JV [] [])) [(.l 12),(Qh 1),(Qh 99)],some ((.l 7),false)⟩,⟨.un .not (.l 13),some ((.l 7),false)⟩,Qf (.pick (.l 7) Qj (.l 14))] [(4,15)]
 (.cond (.t 4) (Ql [Qc] [(1,0)]
 .ret) .skip)))
 (.region [Qa 2,Qf (.bin 0 .add (.l 0) (Qh 1)),Qb 1] [(2,2)])))
def ZoA:Zg :=
 (Ql [Qc] [(1,0)]
 (.seq (Ql [Qe 0] [(2,0)]
 (.block 0 (.loop XN)))
 (Ql [Qa 0,Qf (.len (.l 0)),Qf (.bin 0 .leq (.l 1) (Qh 12)),Qb 2] [(1,3)]
 .ret)))
def Zgf:ZZ:=⟨[0,2,3,11,29],33,ZoA,[.tmp 1],1⟩
def Zmg:Zg :=
 (Ql [Qc] [(2,0)]
 (Ql [Qa 0,Qs ZeG [.l 0],Qb 1,⟨.mv (.t 1),some ((.l 2),true)⟩,⟨.call (.c (.fn ZeG [] [])) [(.l 3)],some ((.l 2),true)⟩,Qf (.pick (.l 2) (.l 4) Qi),Qb 5,⟨.mv (.t 0),some ((.l 6),true)⟩,⟨.mv (.t 1),some ((.l 6),true)⟩,⟨.bin 0 .leq (.l 7) (.l 8),some ((.l 6),true)⟩,Qf (.pick (.l 6) (.l 9) Qi),Qb 10] [(2,11)]
 .ret))
def ZeL:ZZ:=⟨[0,1,4],16,Zmg,[.tmp 2],1⟩
def KE:Zg :=
 (Ql [Qf (.box (.t 0)),Qc] [(1,0),(2,1)]
 (.seq (Ql [Qo 0 1,Qn 1 0] [(3,1)]
 (.block 0 (.seq (Ql [Qf (.bin 0 .eql (.t 3) (Qh 1)),Qb 0] [(4,1)]
 (.cond (.t 4) .skip (.region [Qf (.bin 0 .eql (.t 3) (Qh 3)),Qb 0] [(4,1)])))
 (.cond (.t 4) (Ql [Qo 1 1,Qn 1 0,Qo 2 1,Qn 1 2,Qs Zcp [.l 1,.l 3],Qb 4] [(2,5)]
 .ret) (Ql [Qf (.bin 0 .eql (.t 3) (Qh 2)),Qb 0] [(5,1)]
 (.cond (.t 5) (Ql [Qo 1 1,Qn 1 0,Qs JV [.l 1,Qh 1,Qh 24],Qb 2,⟨.fieldAddr 2 (.t 1),some ((.l 3),true)⟩,⟨.load false 1 (.l 4),some ((.l 3),true)⟩,⟨.bin 0 .eql (.l 5) (Qh 0),some ((.l 3),true)⟩,Qf (.pick (.l 3) (.l 6) Qi),Qb 7] [(2,8)]
 .ret) (Ql [Qf (.bin 0 .eql (.t 3) (Qh 4)),Qb 0] [(6,1)]
 (.cond (.t 6) (Ql [Qo 1 1,Qn 1 0,Qo 2 1,Qn 1 2,Qs Zcp [.l 1,.l 3],Qb 4,⟨.fieldAddr 1 (.t 1),some ((.l 5),true)⟩,⟨.load false 1 (.l 6),some ((.l 5),true)⟩,⟨.fieldAddr 2 (.t 1),some ((.l 5),true)⟩,⟨.load false 1 (.l 8),some ((.l 5),true)⟩,⟨.bin 0 .geq (.l 7) (.l 9),some ((.l 5),true)⟩,Qf (.pick (.l 5) (.l 10) Qi),Qb 11] [(2,12)]
 .ret) (Ql [Qf (.bin 0 .eql (.t 3) (Qh 5)),Qb 0] [(7,1)]
 (.cond (.t 7) (Ql [Qo 1 1,Qn 1 0,Qo 2 1,Qn 1 2,Qs Zcp [.l 1,.l 3],Qb 4,⟨.fieldAddr 1 (.t 1),some ((.l 5),true)⟩,⟨.load false 1 (.l 6),some ((.l 5),true)⟩,⟨.fieldAddr 2 (.t 1),some ((.l 5),true)⟩,⟨.load false 1 (.l 8),some ((.l 5),true)⟩,⟨.bin 0 .gtr (.l 7) (.l 9),some ((.l 5),true)⟩,Qf (.pick (.l 5) (.l 10) Qi),Qb 11] [(2,12)]
 .ret) .skip))))))))))
 (Ql [Qc] [(2,0)]
 .ret)))
def Jd:ZZ:=⟨[0,1,2,4,5,13,23,37],51,KE,[.tmp 2],1⟩
def ZD:Zg :=
 (.seq (.region [⟨.box (.t 0),none⟩,⟨.box (.t 1),none⟩,⟨.alloc [.slice none 0 0 none,.int .i64 (0),.int .i64 (0),.slice none 0 0 none,.int .i64 (0),.int .i64 (0)],none⟩,⟨.mv (.c (.bool false)),none⟩] [(2,0),(3,1),(4,2),(5,3)])
 (.seq (.seq (.region [⟨.load true 6 (.t 2),none⟩,⟨.call (.c (.fn YD [] [])) [(.l 0)],none⟩,⟨.un .not (.l 1),none⟩] [(10,2)])
 (.cond (.t 10) (.seq (.region [⟨.build [.slice none 0 0 none,.int .i64 (0),.int .i64 (0),.slice none 0 0 none,.int .i64 (0),.int .i64 (0)] [],none⟩,⟨.store 6 (.t 4) (.l 0),none⟩,⟨.mv (.c (.bool false)),none⟩] [(5,2)])
 .ret) .skip))
 (.seq (.region [⟨.load true 6 (.t 2),none⟩,⟨.call (.c (.fn JT [] [])) [(.l 0)],none⟩,⟨.alloc [.slice none 0 0 none,.int .i64 (0),.int .i64 (0),.slice none 0 0 none,.int .i64 (0),.int .i64 (0)],none⟩,⟨.store 6 (.l 2) (.l 1),none⟩,⟨.mv (.c (.bool false)),none⟩] [(6,2),(7,4)])
 (.seq (.draw [⟨.fieldAddr 1 (.t 3),none,[]⟩,⟨.load false 1 (.l 0),none,[]⟩,⟨.fieldAddr 0 (.t 2),none,[]⟩,⟨.load false 1 (.l 2),none,[]⟩,⟨.len (.l 3),none,[]⟩,⟨.bin 0 .sub (.l 4) (.c (.int .i64 (1))),none,[]⟩,⟨.fieldAddr 1 (.t 3),none,[]⟩,⟨.load false 1 (.l 6),none,[]⟩,⟨.fieldAddr 3 (.t 2),none,[]⟩,⟨.load false 1 (.l 8),none,[]⟩,⟨.len (.l 9),none,[]⟩,⟨.bin 0 .sub (.l 10) (.c (.int .i64 (1))),none,[]⟩,⟨.call (.c (.fn Yh [] [])) [(.l 1),(.c (.int .i64 (0))),(.l 5)],none,[(7,⟨.load false 1 (.l 6),none⟩),(9,⟨.load false 1 (.l 8),none⟩)]⟩,⟨.call (.c (.fn Yh [] [])) [(.l 7),(.c (.int .i64 (0))),(.l 11)],none,[]⟩,⟨.mv (.l 12),none,[]⟩,⟨.mv (.l 13),none,[]⟩] [(8,14),(9,15)])
 (.seq (.seq (.region [⟨.fieldAddr 0 (.t 3),none⟩,⟨.load false 1 (.l 0),none⟩] [(11,1)])
 (.block 0 (.seq (.region [⟨.bin 0 .eql (.t 11) (.c (.int .i64 (1))),none⟩,⟨.mv (.l 0),none⟩] [(12,1)])
 (.cond (.t 12) (.draw [⟨.fieldAddr 0 (.t 6),none,[]⟩,⟨.load false 1 (.l 0),none,[]⟩,⟨.fieldAddr 1 (.t 3),none,[]⟩,⟨.load false 1 (.l 2),none,[]⟩,⟨.fieldAddr 2 (.t 3),none,[]⟩,⟨.load false 1 (.l 4),none,[]⟩,⟨.build [.int .i64 (0),.int .i64 (0)] [(0,1,(.l 3)),(1,1,(.l 5))],none,[]⟩,⟨.fieldAddr 3 (.t 3),none,[]⟩,⟨.load false 1 (.l 7),none,[]⟩,⟨.bin 0 .eql (.l 8) (.c (.int .i64 (0))),none,[]⟩,⟨.buildSlice 2 1 [.int .i64 (0),.int .i64 (0)] [(0,2,(.l 6))],none,[(1,⟨.load false 1 (.l 0),none⟩),(8,⟨.load false 1 (.l 7),none⟩)]⟩,⟨.append false 2 16 (.l 1) (.l 10),none,[(8,⟨.load false 1 (.l 7),none⟩)]⟩,⟨.fieldAddr 0 (.t 6),none,[]⟩,⟨.store 1 (.l 12) (.l 11),none,[(8,⟨.load false 1 (.l 7),none⟩)]⟩,⟨.mv (.l 9),none,[]⟩] [(7,14)]) (.seq (.region [⟨.bin 0 .eql (.t 11) (.c (.int .i64 (2))),none⟩,⟨.mv (.l 0),none⟩] [(13,1)])
 (.cond (.t 13) (.seq (.region [⟨.mv (.t 8),none⟩] [(14,0)])
 (.cond (.t 14) (.draw [⟨.fieldAddr 0 (.t 6),none,[]⟩,⟨.load false 1 (.l 0),none,[]⟩,⟨.fieldAddr 1 (.t 3),none,[]⟩,⟨.load false 1 (.l 2),none,[]⟩,⟨.fieldAddr 1 (.t 3),none,[]⟩,⟨.load false 1 (.l 4),none,[]⟩,⟨.bin 0 .add (.l 5) (.c (.int .i64 (1))),none,[]⟩,⟨.fieldAddr 2 (.t 3),none,[]⟩,⟨.load false 1 (.l 7),none,[]⟩,⟨.bin 0 .eql (.l 8) (.c (.int .i64 (0))),none,[]⟩,⟨.call (.c (.fn ZJ [] [])) [(.l 1),(.l 3),(.l 6)],none,[(8,⟨.load false 1 (.l 7),none⟩)]⟩,⟨.mv (.l 9),none,[]⟩,⟨.fieldAddr 3 (.t 3),some ((.l 11),true),[]⟩,⟨.load false 1 (.l 12),some ((.l 11),true),[]⟩,⟨.bin 0 .eql (.l 13) (.c (.int .i64 (0))),some ((.l 11),true),[]⟩,⟨.pick (.l 11) (.l 14) (.c (.bool false)),none,[]⟩,⟨.fieldAddr 0 (.t 6),none,[]⟩,⟨.store 1 (.l 16) (.l 10),none,[(13,⟨.load false 1 (.l 12),some ((.l 11),true)⟩)]⟩,⟨.mv (.l 15),none,[]⟩] [(7,18)]) .skip)) (.seq (.region [⟨.bin 0 .eql (.t 11) (.c (.int .i64 (3))),none⟩,⟨.mv (.l 0),none⟩] [(15,1)])
 (.cond (.t 15) (.seq (.region [⟨.mv (.t 8),none⟩] [(16,0)])
 (.cond (.t 16) (.draw [⟨.fieldAddr 0 (.t 6),none,[]⟩,⟨.load false 1 (.l 0),none,[]⟩,⟨.fieldAddr 1 (.t 3),none,[]⟩,⟨.load false 1 (.l 2),none,[]⟩,⟨.fieldAddr 2 (.t 3),none,[]⟩,⟨.load false 1 (.l 4),none,[]⟩,⟨.fieldAddr 3 (.t 3),none,[]⟩,⟨.load false 1 (.l 6),none,[]⟩,⟨.bin 0 .eql (.l 7) (.c (.int .i64 (0))),none,[]⟩,⟨.indexAddrS 2 (.l 1) (.l 3),none,[]⟩,⟨.fieldAddr 0 (.l 9),none,[]⟩,⟨.store 1 (.l 10) (.l 5),none,[(7,⟨.load false 1 (.l 6),none⟩)]⟩,⟨.mv (.l 8),none,[]⟩] [(7,12)]) .skip)) (.seq (.region [⟨.bin 0 .eql (.t 11) (.c (.int .i64 (4))),none⟩,⟨.mv (.l 0),none⟩] [(17,1)])
 (.cond (.t 17) (.draw [⟨.fieldAddr 1 (.t 3),none,[]⟩,⟨.load false 1 (.l 0),none,[]⟩,⟨.fieldAddr 2 (.t 3),none,[]⟩,⟨.load false 1 (.l 2),none,[]⟩,⟨.fieldAddr 3 (.t 3),none,[]⟩,⟨.load false 1 (.l 4),none,[]⟩,⟨.bin 0 .eql (.l 5) (.c (.int .i64 (0))),none,[]⟩,⟨.fieldAddr 1 (.t 6),none,[]⟩,⟨.store 1 (.l 7) (.l 1),none,[(3,⟨.load false 1 (.l 2),none⟩),(5,⟨.load false 1 (.l 4),none⟩)]⟩,⟨.fieldAddr 2 (.t 6),none,[]⟩,⟨.store 1 (.l 9) (.l 3),none,[(5,⟨.load false 1 (.l 4),none⟩)]⟩,⟨.mv (.l 6),none,[]⟩] [(7,11)]) (.seq (.region [⟨.bin 0 .eql (.t 11) (.c (.int .i64 (5))),none⟩,⟨.mv (.l 0),none⟩] [(18,1)])
 (.cond (.t 18) (.region [⟨.fieldAddr 3 (.t 6),none⟩,⟨.load false 1 (.l 0),none⟩,⟨.fieldAddr 1 (.t 3),none⟩,⟨.load false 1 (.l 2),none⟩,⟨.fieldAddr 2 (.t 3),none⟩,⟨.load false 1 (.l 4),none⟩,⟨.fieldAddr 3 (.t 3),none⟩,⟨.load false 1 (.l 6),none⟩,⟨.build [.int .i64 (0),.int .i64 (0),.int .i64 (0)] [(0,1,(.l 3)),(1,1,(.l 5)),(2,1,(.l 7))],none⟩,⟨.buildSlice 3 1 [.int .i64 (0),.int .i64 (0),.int .i64 (0)] [(0,3,(.l 8))],none⟩,⟨.append false 3 24 (.l 1) (.l 9),none⟩,⟨.fieldAddr 3 (.t 6),none⟩,⟨.store 1 (.l 11) (.l 10),none⟩,⟨.mv (.c (.bool true)),none⟩] [(7,13)]) (.seq (.region [⟨.bin 0 .eql (.t 11) (.c (.int .i64 (6))),none⟩,⟨.mv (.l 0),none⟩] [(19,1)])
 (.cond (.t 19) (.seq (.region [⟨.mv (.t 9),none⟩] [(20,0)])
 (.cond (.t 20) (.draw [⟨.fieldAddr 3 (.t 6),none,[]⟩,⟨.load false 1 (.l 0),none,[]⟩,⟨.fieldAddr 1 (.t 3),none,[]⟩,⟨.load false 1 (.l 2),none,[]⟩,⟨.fieldAddr 1 (.t 3),none,[]⟩,⟨.load false 1 (.l 4),none,[]⟩,⟨.bin 0 .add (.l 5) (.c (.int .i64 (1))),none,[]⟩,⟨.fieldAddr 2 (.t 3),none,[]⟩,⟨.load false 1 (.l 7),none,[]⟩,⟨.bin 0 .eql (.l 8) (.c (.int .i64 (0))),none,[]⟩,⟨.call (.c (.fn ZH [] [])) [(.l 1),(.l 3),(.l 6)],none,[(8,⟨.load false 1 (.l 7),none⟩)]⟩,⟨.mv (.l 9),none,[]⟩,⟨.fieldAddr 3 (.t 3),some ((.l 11),true),[]⟩,⟨.load false 1 (.l 12),some ((.l 11),true),[]⟩,⟨.bin 0 .eql (.l 13) (.c (.int .i64 (0))),some ((.l 11),true),[]⟩,⟨.pick (.l 11) (.l 14) (.c (.bool false)),none,[]⟩,⟨.fieldAddr 3 (.t 6),none,[]⟩,⟨.store 1 (.l 16) (.l 10),none,[(13,⟨.load false 1 (.l 12),some ((.l 11),true)⟩)]⟩,⟨.mv (.l 15),none,[]⟩] [(7,18)]) .skip)) .skip))))))))))))))
 (.seq (.region [⟨.fieldAddr 5 (.t 6),none⟩,⟨.load false 1 (.l 0),none⟩,⟨.bin 0 .add (.l 1) (.c (.int .i64 (1))),none⟩,⟨.fieldAddr 5 (.t 6),none⟩,⟨.store 1 (.l 3) (.l 2),none⟩] [])
 (.seq (.seq (.region [⟨.mv (.t 7),none⟩,⟨.un .not (.l 0),none⟩,⟨.mv (.l 1),none⟩,⟨.load true 6 (.t 6),some ((.l 2),false)⟩,⟨.call (.c (.fn YD [] [])) [(.l 3)],some ((.l 2),false)⟩,⟨.un .not (.l 4),some ((.l 2),false)⟩,⟨.pick (.l 2) (.c (.bool true)) (.l 5),none⟩] [(21,6)])
 (.cond (.t 21) (.seq (.region [⟨.build [.slice none 0 0 none,.int .i64 (0),.int .i64 (0),.slice none 0 0 none,.int .i64 (0),.int .i64 (0)] [],none⟩,⟨.store 6 (.t 4) (.l 0),none⟩,⟨.mv (.c (.bool false)),none⟩] [(5,2)])
 .ret) .skip))
 (.seq (.seq (.region [⟨.fieldAddr 0 (.t 6),none⟩,⟨.load false 1 (.l 0),none⟩,⟨.fieldAddr 1 (.t 6),none⟩,⟨.load false 1 (.l 2),none⟩,⟨.fieldAddr 2 (.t 6),none⟩,⟨.load false 1 (.l 4),none⟩,⟨.call (.c (.fn QP [] [])) [(.l 1),(.l 3),(.l 5)],none⟩,⟨.bin 0 .neq (.l 6) (.c (.int .i64 (0))),none⟩] [(22,7)])
 (.cond (.t 22) (.region [⟨.fieldAddr 4 (.t 6),none⟩,⟨.load false 1 (.l 0),none⟩,⟨.bin 0 .add (.l 1) (.c (.int .i64 (1))),none⟩,⟨.fieldAddr 4 (.t 6),none⟩,⟨.store 1 (.l 3) (.l 2),none⟩] []) .skip))
 (.seq (.region [⟨.load true 6 (.t 6),none⟩,⟨.store 6 (.t 4) (.l 0),none⟩,⟨.mv (.c (.bool true)),none⟩] [(5,2)])
 .ret)))))))))
def XV:ZZ:=⟨[0,1,2,3,4,5,6,7,8,9,12,31,32,47,49,67,69,81,92,106,108,136,145],151,ZD,[.cell 4 true 6,.tmp 5],2⟩
def ZdI:Zg :=
 (Ql [Qf (.box (.t 0)),⟨.mv (.c (.str ⟨#[]⟩)),none⟩,Qc] [(2,0),(3,1),(4,2)]
 (Ql [Qf (.sliceArr 2 1 (.t 2) none none none),⟨.call (.c (.fn Ye [] [])) [(.l 0),(.c (.str ⟨#[47]⟩))],none⟩,Qa 1,Qb 1,Qb 2] [(3,3),(4,4)]
 .ret))
def Kx:ZZ:=⟨[0,1,2,4,5],9,ZdI,[.tmp 3,.tmp 4],1⟩
def Zgg:Zg :=
 (Ql [Qf (.alloc [.int .i64 (0),.int .i64 (0)]),Qc] [(1,0),(2,1)]
 (.seq (Ql [Qa 0,Qs YE [.l 0],Qf (.un .not (.l 1))] [(3,2)]
 (.cond (.t 3) (Ql [Qf (.build [.int .i64 (0),.int .i64 (0)] []),Qf (.store 2 (.t 1) (.l 0)),Qc] [(2,2)]
 .ret) .skip))
 (Ql [Qa 0,Qs Xz [.l 0],Qf (.store 2 (.t 1) (.l 1)),Qd] [(2,3)]
 .ret)))
def ZaC:ZZ:=⟨[0,2,3,6],10,Zgg,[.cell 1 true 2,.tmp 2],1⟩
def ZjT:Zg :=
 (Ql [Qe 0,Qc] [(3,0),(4,1)]
 (.seq (Ql [Qa 0,Qs XT [.l 0],Qf (.un .not (.l 1)),Qb 2,⟨.mv (.t 1),some ((.l 3),false)⟩,⟨.mv (.t 2),some ((.l 3),false)⟩,⟨.call (.c (.fn Zck [] [])) [(.l 4),(.l 5)],some ((.l 3),false)⟩,⟨.un .not (.l 6),some ((.l 3),false)⟩,Qf (.pick (.l 3) Qj (.l 7))] [(5,8)]
 (.cond (.t 5) (Ql [Qe 0,Qc] [(3,0),(4,1)]
 .ret) .skip))
 (Ql [Qa 0,Qa 1,Qa 2,Qs QP [.l 0,.l 1,.l 2],Qb 3,Qd] [(3,4),(4,5)]
 .ret)))
def Zdb:ZZ:=⟨[0,1,2,6,7,16],21,ZjT,[.tmp 3,.tmp 4],1⟩
def YF:Zg :=
 (Ql [Qf (.bin 0 .lss (.t 6) (.t 5))] [(7,0)]
 (.seq (.cond (.t 7) .skip (.exit 0))
 (.seq (.block 1 (Ql [Qa 6,Qf (.indexAddrS 1 (.t 4) (.t 6)),Qn 1 1,Qb 0,Qb 2] [(2,3),(3,4)]
 (Ql [Qa 3,Qs JF [.l 0],Qf (.un .not (.l 1)),Qb 2,⟨.mv (.t 2),some ((.l 3),false)⟩,⟨.bin 0 .gtr (.l 4) (Qh 0),some ((.l 3),false)⟩,⟨.mv (.l 5),some ((.l 3),false)⟩,⟨.mv (.t 3),some ((.l 6),true)⟩,⟨.mv (.t 0),some ((.l 6),true)⟩,⟨.mv (.t 2),some ((.l 6),true)⟩,⟨.bin 0 .sub (.l 9) (Qh 1),some ((.l 6),true)⟩,⟨.indexAddrS 1 (.l 8) (.l 10),some ((.l 6),true)⟩,⟨.load false 1 (.l 11),some ((.l 6),true)⟩,⟨.bin 0 .lss (.l 7) (.l 12),some ((.l 6),true)⟩,⟨.pick (.l 6) (.l 13) Qi,some ((.l 3),false)⟩,Qf (.pick (.l 3) Qj (.l 14))] [(8,15)]
 (.cond (.t 8) (Ql [Qc] [(1,0)]
 .ret) .skip))))
 (.region [Qf (.bin 0 .add (.t 6) (Qh 1)),Qb 0] [(6,1)]))))
def ZjU:Zg :=
 (Ql [Qc] [(1,0)]
 (.seq (Ql [Qa 0,Qf (.len (.l 0)),Qe 0] [(4,0),(5,1),(6,2)]
 (.block 0 (.loop YF)))
 (Ql [Qa 0,Qf (.len (.l 0)),Qs Yh [.l 1,Qh 1,Qh 6],Qb 2] [(1,3)]
 .ret)))
def XW:ZZ:=⟨[0,2,3,4,5,6,7,8,27],32,ZjU,[.tmp 1],1⟩
def ZjV:Zg :=
 (Ql [Qf (.mv (.c (.slice none 0 0 none)))] [(2,0)]
 (Ql [Qf (.buildSlice 1 0 [] []),Qf (.alloc [.slice none 0 0 none]),Qq 1 1 0] [(3,1)]
 (Ql [Qa 0,Qa 1,Qf (.makeFunc K6 [] [(.t 3)]),Qs JX [.l 0,.l 1,.l 2]] []
 (Ql [Qf (.load false 1 (.t 3)),Qs Xn [.l 0]] []
 (Ql [Qf (.load false 1 (.t 3)),Qs YM [.l 0],Qb 1] [(2,2)]
 .ret)))))
def Za3:ZZ:=⟨[0,1,4,5],15,ZjV,[.tmp 2],2⟩
def Zdc:Zg :=
 (Ql [Qf (.box (.t 0)),Qf (.box (.t 1)),Qf (.box (.t 2))] [(3,0),(4,1),(5,2)]
 (Ql [Qf (.load false 1 (.t 3)),Qf (.len (.l 0)),Qf (.makeSlice 1 8 [.int .i64 (0)] (.l 1) (.l 1)),Qf (.alloc [.slice none 0 0 none]),Qq 1 3 2] [(6,3)]
 (Ql [Qf (.alloc [.nilfn])] [(7,0)]
 (Ql [Qf (.makeFunc Yr [] [(.t 3),(.t 5),(.t 6),(.t 4),(.t 7)]),Qf (.store 1 (.t 7) (.l 0))] []
 (.region [Qf (.load false 1 (.t 7)),Qf (.call (.l 0) [(Qh 0),(Qh 0)])] [])))))
def Je:ZZ:=⟨[0,1,2,3,4,5,6,7],14,Zdc,[],0⟩
def Jn:Zg :=
 (Qm [Qg (.mv (.t 1)),Qg (.load false 1 (.t 2)),Qg (.bin 0 .eql (.l 0) (.l 1)),Qg (.mv (.l 2)),⟨.load false 1 (.t 3),some ((.l 3),true),[]⟩,⟨.len (.l 4),some ((.l 3),true),[]⟩,⟨.bin 0 .eql (.l 5) (Qh 0),some ((.l 3),true),[]⟩,⟨.mv (.l 6),some ((.l 3),true),[]⟩,⟨.mv (.t 0),some ((.l 7),false),[]⟩,⟨.load false 1 (.t 3),some ((.l 7),false),[]⟩,⟨.call (.c (.fn QO [] [])) [(.l 8)],some ((.l 7),false),[(9,⟨.load false 1 (.t 3),some ((.l 7),false)⟩)]⟩,⟨.call (.c (.fn QO [] [])) [(.l 9)],some ((.l 7),false),[]⟩,⟨.bin 0 .lss (.l 10) (.l 11),some ((.l 7),false),[]⟩,⟨.pick (.l 7) Qj (.l 12),some ((.l 3),true),[]⟩,Qg (.pick (.l 3) (.l 13) Qi)] [(4,14)]
 (.cond (.t 4) (.region [Qa 0,Qs Yq [.l 0],Qf (.store 1 (.t 3) (.l 1))] []) .skip))
def YW:ZZ:=⟨[0,1,2,3,20],23,Jn,[],0⟩
def ZbJ:Zg :=
 (Ql [Qf (.bin 0 .lss (.t 6) (.t 5))] [(7,0)]
 (.seq (.cond (.t 7) .skip (.exit 0))
 (.seq (.block 1 (Ql [Qf (.indexAddrS 1 (.t 4) (.t 6)),Qn 1 0,Qb 1] [(3,2)]
 (Ql [Qa 3,Qf (.bin 0 .neq (.l 0) (Qh 0))] [(8,1)]
 (.cond (.t 8) (.region [Qa 2,Qf (.bin 0 .add (.l 0) (Qh 1)),Qb 1] [(2,2)]) .skip))))
 (.region [Qf (.bin 0 .add (.t 6) (Qh 1)),Qb 0] [(6,1)]))))
def Zmh:Zg :=
 (Ql [Qe 0] [(1,0)]
 (Ql [Qe 0] [(2,0)]
 (.seq (Ql [Qa 0,Qf (.len (.l 0)),Qe 0] [(4,0),(5,1),(6,2)]
 (.block 0 (.loop ZbJ)))
 (Ql [Qa 2,Qb 0] [(1,1)]
 .ret))))
def Zct:ZZ:=⟨[0,2,3,5,6,7,8,9,13],18,Zmh,[.tmp 1],1⟩
def Qu:Zg :=
 (Ql [Qf (.mv (.c (.slice none 0 0 none)))] [(1,0)]
 (.seq (Ql [Qa 0,Qf (.bin 3 .eql (.l 0) (.c (.slice none 0 0 none)))] [(2,1)]
 (.cond (.t 2) (Ql [Qf (.mv (.c (.slice none 0 0 none)))] [(1,0)]
 .ret) .skip))
 (Ql [Qf (.buildSlice 1 0 [] []),Qa 0,Qf (.append false 1 8 (.l 0) (.l 1)),Qb 2] [(1,3)]
 .ret)))
def Y3:ZZ:=⟨[0,2,4],8,Qu,[.tmp 1],2⟩
def Zif:Zg :=
 (Ql [Qe 0,Qc] [(1,0),(2,1)]
 (.seq (Ql [Qa 0,Qs XT [.l 0],Qf (.un .not (.l 1))] [(3,2)]
 (.cond (.t 3) (Ql [Qe 0,Qc] [(1,0),(2,1)]
 .ret) .skip))
 (Ql [Qa 0,Qs JE [.l 0],Qb 1,Qd] [(1,2),(2,3)]
 .ret)))
def ZbK:ZZ:=⟨[0,2,3,6],9,Zif,[.tmp 1,.tmp 2],1⟩
def Zea:Zg :=
 (Ql [Qf (.alloc [.int .i64 (0),.int .i64 (0)]),Qc] [(1,0),(2,1)]
 (.seq (Ql [Qa 0,Qs XT [.l 0],Qf (.un .not (.l 1)),Qb 2,⟨.mv (.t 0),some ((.l 3),false)⟩,⟨.len (.l 4),some ((.l 3),false)⟩,⟨.bin 0 .eql (.l 5) (Qh 0),some ((.l 3),false)⟩,Qf (.pick (.l 3) Qj (.l 6))] [(3,7)]
 (.cond (.t 3) (Ql [Qf (.build [.int .i64 (0),.int .i64 (0)] []),Qf (.store 2 (.t 1) (.l 0)),Qc] [(2,2)]
 .ret) .skip))
 (Ql [Qa 0,Qs YP [.l 0,Qh 0],Qa 0,Qs JE [.l 2],Qs Y6 [.l 1,.l 3],Qf (.store 2 (.t 1) (.l 4)),Qd] [(2,6)]
 .ret)))
def Zah:ZZ:=⟨[0,2,3,11],18,Zea,[.cell 1 true 2,.tmp 2],1⟩
def ZfA:Zg :=
 (Ql [Qf (.box (.t 0)),Qe 0,Qc] [(1,0),(2,1),(3,2)]
 (.seq (Ql [Qr 6 1,Qs YD [.l 0],Qf (.un .not (.l 1))] [(4,2)]
 (.cond (.t 4) (Ql [Qe 0,Qc] [(2,0),(3,1)]
 .ret) .skip))
 (Qm [Qg (.fieldAddr 3 (.t 1)),Qg (.load false 1 (.l 0)),Qg (.fieldAddr 0 (.t 1)),Qg (.load false 1 (.l 2)),⟨.call (.c (.fn JE [] [])) [(.l 3)],none,[(1,Qn 1 0)]⟩,Qt Zay [.l 1,.l 4],Qg (.extract 0 (.l 5)),Qg (.extract 1 (.l 5)),Qg (.mv (.l 6)),Qg (.mv (.l 7))] [(2,8),(3,9)]
 .ret)))
def Za4:ZZ:=⟨[0,1,2,3,6],15,ZfA,[.tmp 2,.tmp 3],1⟩
def Zeb:Zg :=
 (Ql [Qe 0,Qc] [(2,0),(3,1)]
 (Ql [Qa 0,Qa 1,Qs Za0 [.l 0,.l 1],Qb 2,Qp 0 3,Qp 1 3,Qf (.alloc [.int .i64 (0),.int .i64 (0)]),Qq 2 6 4,Qb 5] [(4,6),(5,8)]
 (.seq (Ql [Qa 5,Qf (.un .not (.l 0))] [(6,1)]
 (.cond (.t 6) (Ql [Qe 0,Qc] [(2,0),(3,1)]
 .ret) .skip))
 (Ql [Qf (.indexAddrA 2 1 (.t 4) (Qh 0)),Qn 1 0,Qf (.indexAddrA 2 1 (.t 4) (Qh 1)),Qn 1 2,Qf (.bin 0 .quo (.l 1) (.l 3)),Qb 4,Qd] [(2,5),(3,6)]
 .ret))))
def Zai:ZZ:=⟨[0,1,4,5,6,7,15],21,Zeb,[.tmp 2,.tmp 3],1⟩
def Za5:Zg :=
 (Ql [Qf (.bin 0 .lss (.t 11) (.t 10))] [(12,0)]
 (.seq (.cond (.t 12) .skip (.exit 0))
 (.seq (.block 1 (Ql [Qf (.indexAddrS 3 (.t 9) (.t 11)),Qf (.load true 3 (.l 0)),Qf (.alloc [.int .i64 (0),.int .i64 (0),.int .i64 (0)]),Qq 3 2 1] [(6,2)]
 (Ql [Qr 3 6,Qs K7 [.l 0],Qf (.alloc [.int .i64 (0),.int .i64 (0)]),Qq 2 2 1] [(7,2)]
 (Ql [Qf (.indexAddrA 2 1 (.t 4) (Qh 0)),Qn 1 0,Qf (.indexAddrA 2 1 (.t 7) (Qh 1)),Qn 1 2,Qf (.bin 0 .mul (.l 1) (.l 3)),Qf (.indexAddrA 2 1 (.t 4) (Qh 1)),Qn 1 5,Qf (.indexAddrA 2 1 (.t 7) (Qh 0)),Qn 1 7,Qf (.bin 0 .mul (.l 6) (.l 8)),Qs Y6 [.l 4,.l 9],Qf (.store 2 (.t 4) (.l 10))] []
 (.region [Qa 5,Qr 2 4,Qf (.buildSlice 2 1 [.int .i64 (0),.int .i64 (0)] [(0,2,(.l 1))]),Qf (.append false 2 16 (.l 0) (.l 2)),Qb 3] [(5,4)])))))
 (.region [Qf (.bin 0 .add (.t 11) (Qh 1)),Qb 0] [(11,1)]))))
def Zdd:Zg :=
 (Ql [Qf (.mv (.c (.slice none 0 0 none))),Qc] [(2,0),(3,1)]
 (.seq (Ql [Qa 0,Qs YE [.l 0],Qf (.un .not (.l 1)),Qb 2,⟨.mv (.t 1),some ((.l 3),false)⟩,⟨.call (.c (.fn KO [] [])) [(.l 4)],some ((.l 3),false)⟩,⟨.un .not (.l 5),some ((.l 3),false)⟩,Qf (.pick (.l 3) Qj (.l 6))] [(8,7)]
 (.cond (.t 8) (Ql [Qf (.mv (.c (.slice none 0 0 none))),Qc] [(2,0),(3,1)]
 .ret) .skip))
 (Ql [Qa 1,Qf (.build [.int .i64 (0),.int .i64 (0)] [(0,1,(.l 0)),(1,1,(Qh 1))]),Qf (.alloc [.int .i64 (0),.int .i64 (0)]),Qq 2 2 1] [(4,2)]
 (Ql [Qr 2 4,Qf (.buildSlice 2 1 [.int .i64 (0),.int .i64 (0)] [(0,2,(.l 0))]),Qb 1] [(5,2)]
 (.seq (Ql [Qa 0,Qf (.len (.l 0)),Qe 0] [(9,0),(10,1),(11,2)]
 (.block 0 (.loop Za5)))
 (Ql [Qa 5,Qb 0,Qd] [(2,1),(3,2)]
 .ret))))))
def JZ:ZZ:=⟨[0,1,4,5,6,7,9,10,18,23,24,25,26],48,Zdd,[.tmp 2,.tmp 3],2⟩
def Qv:Zg :=
 (Ql [Qf (.bin 0 .lss (.t 13) (.t 12))] [(14,0)]
 (.seq (.cond (.t 14) .skip (.exit 0))
 (.seq (.block 1 (Ql [Qa 13,Qf (.indexAddrS 2 (.t 11) (.t 13)),Qf (.load true 2 (.l 1)),Qf (.alloc [.int .i64 (0),.int .i64 (0)]),Qb 0,Qq 2 3 2] [(7,4),(8,3)]
 (Qm [Qg (.fieldAddr 0 (.t 8)),Qg (.load false 1 (.l 0)),Qg (.mv (.t 5)),Qg (.fieldAddr 1 (.t 8)),Qg (.load false 1 (.l 3)),Qg (.bin 0 .quo (.l 2) (.l 4)),Qg (.bin 0 .sub (.l 1) (.l 5)),Qg (.mv (.l 6))] [(9,7)]
 (Ql [Qa 5,Qo 1 8,Qn 1 1,Qf (.bin 0 .rem (.l 0) (.l 2)),Qf (.bin 0 .eql (.l 3) (Qh 0)),Qb 4,⟨.mv (.t 9),some ((.l 5),true)⟩,⟨.call (.c (.fn XI [] [])) [(.l 6)],some ((.l 5),true)⟩,Qf (.pick (.l 5) (.l 7) Qi)] [(15,8)]
 (.cond (.t 15) (Ql [Qa 7,Qa 9,Qb 0,Qb 1,Qd] [(2,2),(3,3),(4,4)]
 .ret) .skip)))))
 (.region [Qf (.bin 0 .add (.t 13) (Qh 1)),Qb 0] [(13,1)]))))
def ZfB:Zg :=
 (Ql [Qe 0,Qe 0,Qc] [(2,0),(3,1),(4,2)]
 (Ql [Qa 0,Qa 1,Qs K8 [.l 0,.l 1],Qb 2,Qp 0 3,Qp 1 3,Qb 4,Qb 5] [(5,6),(6,7)]
 (.seq (Ql [Qa 6,Qf (.un .not (.l 0))] [(10,1)]
 (.cond (.t 10) (Ql [Qe 0,Qe 0,Qc] [(2,0),(3,1),(4,2)]
 .ret) .skip))
 (.seq (Ql [Qa 0,Qf (.len (.l 0)),Qe 0] [(11,0),(12,1),(13,2)]
 (.block 0 (.loop Qv)))
 (Ql [Qe 0,Qe 0,Qc] [(2,0),(3,1),(4,2)]
 .ret)))))
def KF:ZZ:=⟨[0,1,4,5,6,7,8,9,10,11,19,20,21,22,23,42],46,ZfB,[.tmp 2,.tmp 3,.tmp 4],1⟩
def JM:Zg :=
 (.seq (Ql [Qa 4,Qa 0,Qf (.bin 0 .lss (.l 0) (.l 1))] [(6,2)]
 (.cond (.t 6) .skip (.exit 0)))
 (.seq (.block 1 (.region [Qa 3,Qf (.bin 0 .add (.l 0) (Qh 1)),Qb 1] [(3,2)]))
 (.region [Qa 4,Qf (.bin 0 .mul (.l 0) (Qh 3)),Qb 1] [(4,2)])))
def KG:Zg :=
 (Ql [Qe 0,Qc] [(1,0),(2,1)]
 (.seq (Ql [Qa 0,Qs Zbz [.l 0],Qf (.un .not (.l 1))] [(5,2)]
 (.cond (.t 5) (Ql [Qe 0,Qc] [(1,0),(2,1)]
 .ret) .skip))
 (Ql [Qe 0] [(3,0)]
 (.seq (Ql [Qe 1] [(4,0)]
 (.block 0 (.loop JM)))
 (Ql [Qa 3,Qb 0,Qd] [(1,1),(2,2)]
 .ret)))))
def YG:ZZ:=⟨[0,2,3,4,5,8,11],17,KG,[.tmp 1,.tmp 2],1⟩
def XD:Zg :=
 (Ql [⟨.mv (.c (.str ⟨#[]⟩)),none⟩,Qc] [(1,0),(2,1)]
 (Ql [Qa 0,Qs ZbA [.l 0],Qb 1,Qp 0 2,Qp 1 2,Qb 3,Qb 4] [(3,5),(4,6)]
 (Ql [Qa 0,⟨.bin 1 .add (.l 0) (.c (.str ⟨#[35]⟩)),none⟩,Qa 3,Qs YL [.l 2],Qf (.bin 1 .add (.l 1) (.l 3)),Qb 4] [(5,5)]
 (.seq (Ql [Qa 4,Qf (.un .not (.l 0)),Qb 1,⟨.mv (.t 0),some ((.l 2),false)⟩,⟨.call (.c (.fn Yb [] [])) [(.l 3),(.c (.str ⟨#[35]⟩))],some ((.l 2),false)⟩,Qf (.pick (.l 2) Qj (.l 4)),Qb 5,⟨.mv (.t 5),some ((.l 6),false)⟩,⟨.lenStr (.l 7),some ((.l 6),false)⟩,⟨.bin 0 .gtr (.l 8) (Qh 4000),some ((.l 6),false)⟩,Qf (.pick (.l 6) Qj (.l 9))] [(6,10)]
 (.cond (.t 6) (Ql [⟨.mv (.c (.str ⟨#[]⟩)),none⟩,Qc] [(1,0),(2,1)]
 .ret) .skip))
 (Ql [Qa 5,Qb 0,Qd] [(1,1),(2,2)]
 .ret)))))
def Yu:ZZ:=⟨[0,2,3,4,5,6,27],29,XD,[.tmp 1,.tmp 2],1⟩
def Zmi:Zg :=
 (Ql [Qe 0] [(3,0)]
 (.seq (Ql [Qa 0,Qa 1,Qs Zag [.l 0,.l 1],Qf (.bin 0 .lss (.l 2) (Qh 0))] [(4,3)]
 (.cond (.t 4) (Ql [Qe (-1)] [(3,0)]
 .ret) .skip))
 (.seq (Ql [Qa 0,Qa 2,Qs Zag [.l 0,.l 1],Qf (.bin 0 .gtr (.l 2) (Qh 0))] [(5,3)]
 (.cond (.t 5) (Ql [Qe 1] [(3,0)]
 .ret) .skip))
 (Ql [Qe 0] [(3,0)]
 .ret))))
def ZeM:ZZ:=⟨[0,1,2,6,10,14],15,Zmi,[.tmp 3],1⟩
def Zgh:Zg :=
 (Ql [⟨.mv (.c (.str ⟨#[]⟩)),none⟩,⟨.mv (.c (.str ⟨#[]⟩)),none⟩,Qc] [(2,0),(3,1),(4,2)]
 (Ql [Qa 0,Qa 1,Qs YC [.l 0,.l 1],Qp 0 2,Qp 1 2,Qp 2 2,Qb 3,Qb 4,Qb 5] [(2,6),(3,7),(4,8)]
 .ret))
def ZaD:ZZ:=⟨[0,1,4,5,6],13,Zgh,[.tmp 2,.tmp 3,.tmp 4],1⟩
def Zcu:Zg :=
 (Ql [⟨.alloc [.str ⟨#[]⟩,.str ⟨#[]⟩],none⟩,Qc] [(2,0),(3,1)]
 (Ql [Qa 1,Qs Jy [.l 0],Qb 1,Qp 0 2,Qp 1 2,Qb 3,Qb 4] [(4,5),(5,6)]
 (Ql [Qa 4,⟨.call (.c (.fn Jb [] [])) [(.l 0),(.c (.str ⟨#[32]⟩))],none⟩,Qb 1,Qp 0 2,Qp 1 2,Qp 2 2,Qb 3,Qb 4,Qb 5] [(6,7)]
 (Ql [Qa 6,⟨.call (.c (.fn Jb [] [])) [(.l 0),(.c (.str ⟨#[64]⟩))],none⟩,Qb 1,Qp 0 2,Qp 1 2,Qp 2 2,Qb 3,Qb 4,Qb 5] [(7,6),(8,7)]
 (Ql [Qa 7,Qa 8,⟨.build [.str ⟨#[]⟩,.str ⟨#[]⟩] [(0,1,(.l 0)),(1,1,(.l 1))],none⟩,⟨.alloc [.str ⟨#[]⟩,.str ⟨#[]⟩],none⟩,Qq 2 3 2] [(9,3)]
 (Ql [Qa 0,Qr 2 9,Qs Jj [.l 0,.l 1],Qb 2,Qp 0 3,Qp 1 3,Qb 4,Qb 5] [(10,6),(11,7)]
 (Ql [Qr 2 9,Qa 5,Qb 1,⟨.mv (.t 11),some ((.l 2),true)⟩,Qf (.pick (.l 2) (.l 3) Qi),Qb 4,⟨.mv (.t 10),some ((.l 5),true)⟩,⟨.mv (.t 1),some ((.l 5),true)⟩,⟨.bin 1 .add (.l 7) (.c (.str ⟨#[10]⟩)),some ((.l 5),true)⟩,⟨.bin 1 .eql (.l 6) (.l 8),some ((.l 5),true)⟩,Qf (.pick (.l 5) (.l 9) Qi),Qf (.store 2 (.t 2) (.l 0)),Qb 10] [(3,12)]
 .ret)))))))
def QX:ZZ:=⟨[0,1,4,5,6,7,9,11,12,14,15,16],54,Zcu,[.cell 2 true 2,.tmp 3],1⟩
def YN:Zg :=
 (Ql [Qf (.bin 0 .lss (.t 5) (.t 4))] [(6,0)]
 (.seq (.cond (.t 6) .skip (.exit 0))
 (.seq (.block 1 (Ql [Qa 5,Qb 0] [(3,1)]
 (Ql [Qa 1,Qa 0,Qa 3,Qf (.indexAddrS 1 (.l 1) (.l 2)),Qn 1 3,Qf (.bin 0 .eql (.l 0) (.l 4))] [(7,5)]
 (.cond (.t 7) (Ql [Qa 3,Qb 0] [(2,1)]
 .ret) .skip))))
 (.region [Qf (.bin 0 .add (.t 5) (Qh 1)),Qb 0] [(5,1)]))))
def Qw:Zg :=
 (Ql [Qe 0] [(2,0)]
 (.seq (Ql [Qa 0,Qf (.len (.l 0)),Qe 0] [(4,1),(5,2)]
 (.block 0 (.loop YN)))
 (Ql [Qe (-1)] [(2,0)]
 .ret)))
def Y4:ZZ:=⟨[0,1,4,5,7,8,9,16],19,Qw,[.tmp 2],1⟩
def QY:Zg :=
 (Ql [Qf (.box (.t 0)),Qf (.box (.t 1)),Qc] [(2,0),(3,1),(4,2)]
 (.seq (Ql [Qo 0 3,Qn 1 0] [(5,1)]
 (.block 0 (.seq (Ql [Qf (.bin 0 .eql (.t 5) (Qh 1)),Qb 0] [(6,1)]
 (.cond (.t 6) .skip (.region [Qf (.bin 0 .eql (.t 5) (Qh 4)),Qb 0] [(6,1)])))
 (.cond (.t 6) (Ql [Qo 3 3,Qn 1 0,Qf (.bin 0 .eql (.l 1) (Qh 0)),Qb 2] [(4,3)]
 .ret) (Ql [Qf (.bin 0 .eql (.t 5) (Qh 2)),Qb 0] [(7,1)]
 (.cond (.t 7) (Ql [Qo 1 3,Qn 1 0,Qo 0 2,Qn 1 2,Qf (.len (.l 3)),Qf (.bin 0 .sub (.l 4) (Qh 1)),Qs JV [.l 1,Qh 0,.l 5],Qb 6,⟨.fieldAddr 2 (.t 3),some ((.l 7),true)⟩,⟨.load false 1 (.l 8),some ((.l 7),true)⟩,⟨.bin 0 .eql (.l 9) (Qh 0),some ((.l 7),true)⟩,Qf (.pick (.l 7) (.l 10) Qi),Qb 11,⟨.fieldAddr 3 (.t 3),some ((.l 12),true)⟩,⟨.load false 1 (.l 13),some ((.l 12),true)⟩,⟨.bin 0 .eql (.l 14) (Qh 0),some ((.l 12),true)⟩,Qf (.pick (.l 12) (.l 15) Qi),Qb 16] [(4,17)]
 .ret) (Ql [Qf (.bin 0 .eql (.t 5) (Qh 3)),Qb 0] [(8,1)]
 (.cond (.t 8) (Ql [Qo 1 3,Qn 1 0,Qo 0 2,Qn 1 2,Qf (.len (.l 3)),Qf (.bin 0 .sub (.l 4) (Qh 1)),Qs JV [.l 1,Qh 0,.l 5],Qb 6,⟨.fieldAddr 3 (.t 3),some ((.l 7),true)⟩,⟨.load false 1 (.l 8),some ((.l 7),true)⟩,⟨.bin 0 .eql (.l 9) (Qh 0),some ((.l 7),true)⟩,Qf (.pick (.l 7) (.l 10) Qi),Qb 11] [(4,12)]
 .ret) (Ql [Qf (.bin 0 .eql (.t 5) (Qh 6)),Qb 0] [(9,1)]
 (.cond (.t 9) (Ql [Qo 1 3,Qn 1 0,Qo 3 2,Qn 1 2,Qf (.len (.l 3)),Qf (.bin 0 .sub (.l 4) (Qh 1)),Qs JV [.l 1,Qh 0,.l 5],Qb 6,⟨.fieldAddr 2 (.t 3),some ((.l 7),true)⟩,⟨.load false 1 (.l 8),some ((.l 7),true)⟩,⟨.bin 0 .eql (.l 9) (Qh 0),some ((.l 7),true)⟩,Qf (.pick (.l 7) (.l 10) Qi),Qb 11,⟨.fieldAddr 3 (.t 3),some ((.l 12),true)⟩,⟨.load false 1 (.l 13),some ((.l 12),true)⟩,⟨.bin 0 .eql (.l 14) (Qh 0),some ((.l 12),true)⟩,Qf (.pick (.l 12) (.l 15) Qi),Qb 16] [(4,17)]
 .ret) .skip))))))))))
 (Ql [Qo 0 3,Qn 1 0,Qf (.bin 0 .eql (.l 1) (Qh 5)),Qb 2] [(4,3)]
 .ret)))
def J0:ZZ:=⟨[0,1,2,3,4,6,7,13,32,46],68,QY,[.tmp 4],1⟩
def KH:Zg :=
 (Ql [Qf (.box (.t 0)),Qf (.box (.t 1)),Qf (.alloc [.slice none 0 0 none,.int .i64 (0),.int .i64 (0),.slice none 0 0 none,.int .i64 (0),.int .i64 (0)])] [(2,0),(3,1),(4,2)]
 (Ql [Qr 6 2,Qs ZaO [.l 0],Qf (.alloc [.slice none 0 0 none,.int .i64 (0),.int .i64 (0),.slice none 0 0 none,.int .i64 (0),.int .i64 (0)]),Qq 6 2 1] [(5,2)]
 (.seq (Ql [Qo 0 3,Qn 1 0] [(6,1)]
 (.block 0 (Ql [Qf (.bin 0 .eql (.t 6) (Qh 1)),Qb 0] [(7,1)]
 (.cond (.t 7) (.region [Qo 0 5,Qn 1 0,Qo 1 3,Qn 1 2,Qo 2 3,Qn 1 4,Qf (.build [.int .i64 (0),.int .i64 (0)] [(0,1,(.l 3)),(1,1,(.l 5))]),Qf (.buildSlice 2 1 [.int .i64 (0),.int .i64 (0)] [(0,2,(.l 6))]),Qf (.append false 2 16 (.l 1) (.l 7)),Qo 0 5,Qq 1 9 8] []) (Ql [Qf (.bin 0 .eql (.t 6) (Qh 2)),Qb 0] [(8,1)]
 (.cond (.t 8) (.draw [Qg (.fieldAddr 0 (.t 5)),Qg (.load false 1 (.l 0)),Qg (.fieldAddr 1 (.t 3)),Qg (.load false 1 (.l 2)),Qg (.sliceSl 2 (.l 1) none (some (.l 3)) none),Qg (.fieldAddr 0 (.t 5)),Qg (.load false 1 (.l 5)),Qg (.fieldAddr 1 (.t 3)),Qg (.load false 1 (.l 7)),Qg (.bin 0 .add (.l 8) (Qh 1)),Qg (.sliceSl 2 (.l 6) (some (.l 9)) none none),Qg (.append false 2 16 (.l 4) (.l 10)),Qg (.fieldAddr 0 (.t 5)),Qg (.store 1 (.l 12) (.l 11))] []) (Ql [Qf (.bin 0 .eql (.t 6) (Qh 3)),Qb 0] [(9,1)]
 (.cond (.t 9) (.region [Qo 0 5,Qn 1 0,Qo 1 3,Qn 1 2,Qo 2 3,Qn 1 4,Qf (.indexAddrS 2 (.l 1) (.l 3)),Qf (.fieldAddr 0 (.l 6)),Qq 1 7 5] []) (Ql [Qf (.bin 0 .eql (.t 6) (Qh 4)),Qb 0] [(10,1)]
 (.cond (.t 10) (Ql [Qo 1 3,Qn 1 0,Qo 1 5,Qq 1 2 1] []
 (.region [Qo 2 3,Qn 1 0,Qo 2 5,Qq 1 2 1] [])) (Ql [Qf (.bin 0 .eql (.t 6) (Qh 5)),Qb 0] [(11,1)]
 (.cond (.t 11) (.region [Qo 3 5,Qn 1 0,Qo 1 3,Qn 1 2,Qo 2 3,Qn 1 4,Qo 3 3,Qn 1 6,Qf (.build [.int .i64 (0),.int .i64 (0),.int .i64 (0)] [(0,1,(.l 3)),(1,1,(.l 5)),(2,1,(.l 7))]),Qf (.buildSlice 3 1 [.int .i64 (0),.int .i64 (0),.int .i64 (0)] [(0,3,(.l 8))]),Qf (.append false 3 24 (.l 1) (.l 9)),Qo 3 5,Qq 1 11 10] []) (Ql [Qf (.bin 0 .eql (.t 6) (Qh 6)),Qb 0] [(12,1)]
 (.cond (.t 12) (.draw [Qg (.fieldAddr 3 (.t 5)),Qg (.load false 1 (.l 0)),Qg (.fieldAddr 1 (.t 3)),Qg (.load false 1 (.l 2)),Qg (.sliceSl 3 (.l 1) none (some (.l 3)) none),Qg (.fieldAddr 3 (.t 5)),Qg (.load false 1 (.l 5)),Qg (.fieldAddr 1 (.t 3)),Qg (.load false 1 (.l 7)),Qg (.bin 0 .add (.l 8) (Qh 1)),Qg (.sliceSl 3 (.l 6) (some (.l 9)) none none),Qg (.append false 3 24 (.l 4) (.l 10)),Qg (.fieldAddr 3 (.t 5)),Qg (.store 1 (.l 12) (.l 11))] []) .skip))))))))))))))
 (Ql [Qr 6 5,Qf (.store 6 (.t 4) (.l 0))] []
 .ret))))
def Jf:ZZ:=⟨[0,1,2,3,4,5,9,10,22,37,47,55,69],85,KH,[.cell 4 true 6],2⟩
def Zmj:Zg :=
 (Ql [Qe 0] [(2,0)]
 (.seq (Ql [Qa 0,Qa 1,Qf (.bin 0 .gtr (.l 0) (.l 1))] [(3,2)]
 (.cond (.t 3) (Ql [Qa 0,Qb 0] [(2,1)]
 .ret) .skip))
 (Ql [Qa 1,Qb 0] [(2,1)]
 .ret)))
def ZeN:ZZ:=⟨[0,1,4,7],10,Zmj,[.tmp 2],1⟩
def ZjW:Zg :=
 (Ql [Qe 0] [(2,0)]
 (.seq (Ql [Qa 0,Qa 1,Qf (.bin 0 .lss (.l 0) (.l 1))] [(3,2)]
 (.cond (.t 3) (Ql [Qa 0,Qb 0] [(2,1)]
 .ret) .skip))
 (Ql [Qa 1,Qb 0] [(2,1)]
 .ret)))
def Zde:ZZ:=⟨[0,1,4,7],10,ZjW,[.tmp 2],1⟩
def ZO:Zg :=
 (.seq (.region [⟨.alloc [.int .i64 (0),.int .i64 (0),.int .i64 (0)],none⟩] [(1,0)])
 (.seq (.region [⟨.mv (.t 0),none⟩,⟨.buildSlice 1 5 [.int .i64 (0),.int .i64 (0),.int .i64 (0),.int .i64 (0),.int .i64 (0)] [(0,1,(.c (.int .i64 (1)))),(1,1,(.c (.int .i64 (2)))),(2,1,(.c (.int .i64 (3)))),(3,1,(.c (.int .i64 (4)))),(4,1,(.c (.int .i64 (5))))],none⟩,⟨.call (.c (.fn ZG [] [])) [(.l 0),(.l 1)],none⟩,⟨.mv (.t 0),none⟩,⟨.call (.c (.fn Zz [] [])) [(.l 3),(.c (.int .i64 (6)))],none⟩,⟨.bin 0 .add (.c (.int .i64 (1))) (.l 4),none⟩,⟨.mv (.t 0),none⟩,⟨.call (.c (.fn Zz [] [])) [(.l 6),(.c (.int .i64 (4)))],none⟩,⟨.bin 0 .add (.c (.int .i64 (1))) (.l 7),none⟩,⟨.build [.int .i64 (0),.int .i64 (0),.int .i64 (0)] [(0,1,(.l 2)),(1,1,(.l 5)),(2,1,(.l 8))],none⟩,⟨.alloc [.int .i64 (0),.int .i64 (0),.int .i64 (0)],none⟩,⟨.store 3 (.l 10) (.l 9),none⟩] [(2,10)])
 (.seq (.seq (.region [⟨.fieldAddr 0 (.t 2),none⟩,⟨.load false 1 (.l 0),none⟩] [(3,1)])
 (.block 0 (.seq (.region [⟨.bin 0 .eql (.t 3) (.c (.int .i64 (2))),none⟩,⟨.mv (.l 0),none⟩] [(4,1)])
 (.cond (.t 4) (.region [⟨.fieldAddr 2 (.t 2),none⟩,⟨.store 1 (.l 0) (.c (.int .i64 (0))),none⟩] []) (.seq (.region [⟨.bin 0 .eql (.t 3) (.c (.int .i64 (4))),none⟩,⟨.mv (.l 0),none⟩] [(5,1)])
 (.cond (.t 5) (.region [⟨.fieldAddr 1 (.t 2),none⟩,⟨.load false 1 (.l 0),none⟩,⟨.fieldAddr 2 (.t 2),none⟩,⟨.load false 1 (.l 2),none⟩,⟨.call (.c (.fn ZaP [] [])) [(.l 1),(.l 3)],none⟩,⟨.fieldAddr 1 (.t 2),none⟩,⟨.store 1 (.l 5) (.l 4),none⟩] []) (.seq (.region [⟨.bin 0 .eql (.t 3) (.c (.int .i64 (5))),none⟩,⟨.mv (.l 0),none⟩] [(6,1)])
 (.cond (.t 6) (.region [⟨.fieldAddr 2 (.t 2),none⟩,⟨.load false 1 (.l 0),none⟩,⟨.fieldAddr 1 (.t 2),none⟩,⟨.load false 1 (.l 2),none⟩,⟨.bin 0 .add (.l 1) (.l 3),none⟩,⟨.fieldAddr 1 (.t 2),none⟩,⟨.store 1 (.l 5) (.l 4),none⟩] []) .skip))))))))
 (.seq (.seq (.region [⟨.mv (.t 0),none⟩,⟨.call (.c (.fn Zz [] [])) [(.l 0),(.c (.int .i64 (40)))],none⟩] [(7,1)])
 (.block 1 (.seq (.region [⟨.bin 0 .eql (.t 7) (.c (.int .i64 (0))),none⟩,⟨.mv (.l 0),none⟩] [(8,1)])
 (.cond (.t 8) (.region [⟨.mv (.t 0),none⟩,⟨.buildSlice 1 4 [.int .i64 (0),.int .i64 (0),.int .i64 (0),.int .i64 (0)] [(0,1,(.c (.int .i64 (0)))),(1,1,(.c (.int .i64 (-1)))),(2,1,(.c (.int .i64 (24)))),(3,1,(.c (.int .i64 (25))))],none⟩,⟨.call (.c (.fn ZG [] [])) [(.l 0),(.l 1)],none⟩,⟨.fieldAddr 1 (.t 2),none⟩,⟨.store 1 (.l 3) (.l 2),none⟩] []) (.seq (.region [⟨.bin 0 .eql (.t 7) (.c (.int .i64 (1))),none⟩,⟨.mv (.l 0),none⟩] [(9,1)])
 (.cond (.t 9) (.region [⟨.mv (.t 0),none⟩,⟨.buildSlice 1 4 [.int .i64 (0),.int .i64 (0),.int .i64 (0),.int .i64 (0)] [(0,1,(.c (.int .i64 (0)))),(1,1,(.c (.int .i64 (24)))),(2,1,(.c (.int .i64 (25)))),(3,1,(.c (.int .i64 (-1))))],none⟩,⟨.call (.c (.fn ZG [] [])) [(.l 0),(.l 1)],none⟩,⟨.fieldAddr 2 (.t 2),none⟩,⟨.store 1 (.l 3) (.l 2),none⟩] []) (.seq (.region [⟨.bin 0 .eql (.t 7) (.c (.int .i64 (2))),none⟩,⟨.mv (.l 0),none⟩] [(10,1)])
 (.cond (.t 10) (.region [⟨.mv (.t 0),none⟩,⟨.buildSlice 1 3 [.int .i64 (0),.int .i64 (0),.int .i64 (0)] [(0,1,(.c (.int .i64 (0)))),(1,1,(.c (.int .i64 (6)))),(2,1,(.c (.int .i64 (-1))))],none⟩,⟨.call (.c (.fn ZG [] [])) [(.l 0),(.l 1)],none⟩,⟨.fieldAddr 0 (.t 2),none⟩,⟨.store 1 (.l 3) (.l 2),none⟩] []) .skip))))))))
 (.seq (.region [⟨.load true 3 (.t 2),none⟩,⟨.store 3 (.t 1) (.l 0),none⟩] [])
 .ret)))))
def YX:ZZ:=⟨[0,2,3,15,16,19,27,36,37,43,49],56,ZO,[.cell 1 true 3],1⟩
def Zv:Zg :=
 (Ql [Qf (.bin 0 .lss (.t 5) (.t 4))] [(6,0)]
 (.seq (.cond (.t 6) .skip (.exit 0))
 (.seq (.block 1 (Ql [Qa 5,Qb 0] [(3,1)]
 (Ql [Qa 1,Qa 0,Qa 3,Qf (.indexAddrS 2 (.l 1) (.l 2)),Qf (.load true 2 (.l 3)),Qf (.call (.l 0) [(.l 4)])] [(7,5)]
 (.cond (.t 7) (Ql [Qa 3,Qb 0] [(2,1)]
 .ret) .skip))))
 (.region [Qf (.bin 0 .add (.t 5) (Qh 1)),Qb 0] [(5,1)]))))
def XE:Zg :=
 (Ql [Qe 0] [(2,0)]
 (.seq (Ql [Qa 0,Qf (.len (.l 0)),Qe 0] [(4,1),(5,2)]
 (.block 0 (.loop Zv)))
 (Ql [Qe (-1)] [(2,0)]
 .ret)))
def ZW:ZZ:=⟨[0,1,4,5,7,8,9,16],19,XE,[.tmp 2],1⟩
def ZjX:Zg :=
 (Ql [Qc] [(1,0)]
 (Ql [Qa 0,Qs Yh [.l 0,Qh 1,Qh 24],Qb 1] [(1,2)]
 .ret))
def Zdf:ZZ:=⟨[0,2],5,ZjX,[.tmp 1],1⟩
def Zsa:Zg :=
 (Ql [Qc] [(1,0)]
 (Ql [Qa 0,Qs JV [.l 0,Qh 0,Qh 60],Qb 1] [(1,2)]
 .ret))
def Zjf:ZZ:=⟨[0,2],5,Zsa,[.tmp 1],1⟩
def ZoB:Zg :=
 (Ql [Qc] [(2,0)]
 (Ql [Qa 0,Qs JV [.l 0,Qh 1,Qh 24],Qb 1,⟨.mv (.t 1),some ((.l 2),true)⟩,⟨.call (.c (.fn JV [] [])) [(.l 3),(Qh 1),(Qh 24)],some ((.l 2),true)⟩,Qf (.pick (.l 2) (.l 4) Qi),Qb 5] [(2,6)]
 .ret))
def Zgi:ZZ:=⟨[0,1,4],11,ZoB,[.tmp 2],1⟩
def ZjY:Zg :=
 (Ql [Qe 0] [(3,0)]
 (.seq (.block 0 (Ql [Qa 0,Qa 1,Qs YP [.l 0,.l 1],Qf (.bin 0 .lss (.l 2) (Qh 0)),Qb 3] [(4,4)]
 (.cond (.t 4) (Ql [Qe (-1)] [(3,0)]
 .ret) (Ql [Qa 0,Qa 2,Qs YP [.l 0,.l 1],Qf (.bin 0 .gtr (.l 2) (Qh 0)),Qb 3] [(5,4)]
 (.cond (.t 5) (Ql [Qe 1] [(3,0)]
 .ret) .skip)))))
 (Ql [Qe 0] [(3,0)]
 .ret)))
def Zdg:ZZ:=⟨[0,1,2,6,7,12],17,ZjY,[.tmp 3],1⟩
def XX:Zg :=
 (Ql [Qf (.bin 0 .lss (.t 7) (.t 6))] [(8,0)]
 (.seq (.cond (.t 8) .skip (.exit 0))
 (.seq (.block 1 (Ql [Qf (.indexAddrS 3 (.t 5) (.t 7)),Qf (.load true 3 (.l 0)),Qf (.alloc [.int .i64 (0),.int .i64 (0),.int .i64 (0)]),Qq 3 2 1] [(3,2)]
 (Ql [Qr 3 3,Qs K7 [.l 0],Qf (.alloc [.int .i64 (0),.int .i64 (0)]),Qq 2 2 1] [(4,2)]
 (.region [Qf (.indexAddrA 2 1 (.t 2) (Qh 0)),Qn 1 0,Qf (.indexAddrA 2 1 (.t 4) (Qh 0)),Qn 1 2,Qf (.bin 0 .mul (.l 1) (.l 3)),Qf (.indexAddrA 2 1 (.t 2) (Qh 1)),Qn 1 5,Qf (.indexAddrA 2 1 (.t 4) (Qh 1)),Qn 1 7,Qf (.bin 0 .mul (.l 6) (.l 8)),Qs Y6 [.l 4,.l 9],Qf (.store 2 (.t 2) (.l 10))] []))))
 (.region [Qf (.bin 0 .add (.t 7) (Qh 1)),Qb 0] [(7,1)]))))
def Zgj:Zg :=
 (Ql [Qf (.alloc [.int .i64 (0),.int .i64 (0)])] [(1,0)]
 (Ql [Qf (.build [.int .i64 (0),.int .i64 (0)] [(0,1,(Qh 1)),(1,1,(Qh 1))]),Qf (.alloc [.int .i64 (0),.int .i64 (0)]),Qq 2 1 0] [(2,1)]
 (.seq (Ql [Qa 0,Qf (.len (.l 0)),Qe 0] [(5,0),(6,1),(7,2)]
 (.block 0 (.loop XX)))
 (Ql [Qr 2 2,Qf (.store 2 (.t 1) (.l 0))] []
 .ret))))
def ZaE:ZZ:=⟨[0,2,3,5,6,8,9,10,11],29,Zgj,[.cell 1 true 2],1⟩
def Zdh:Zg :=
 (Ql [Qa 0,Qf (.bin 0 .gtr (.l 0) (Qh 0))] [(2,1)]
 (.cond (.t 2) (.region [Qf (.load false 1 (.t 1)),Qa 0,Qf (.buildSlice 1 1 [.int .i64 (0)] [(0,1,(.l 1))]),Qf (.append false 1 8 (.l 0) (.l 2)),Qf (.store 1 (.t 1) (.l 3))] []) .skip))
def J1:ZZ:=⟨[1,2,6],11,Zdh,[],0⟩
def XY:Zg :=
 (.seq (Ql [Qa 7,Qf (.bin 0 .leq (.l 0) (Qh 1))] [(9,1)]
 (.cond (.t 9) .skip (.exit 0)))
 (.seq (.block 1 (Ql [Qf (.load false 1 (.t 4)),Qa 0,Qa 7,Qf (.indexAddrS 1 (.l 0) (.l 1)),Qq 1 3 2] []
 (.draw [Qg (.load false 1 (.t 6)),Qg (.mv (.t 0)),Qg (.bin 0 .add (.l 1) (Qh 1)),Qg (.mv (.t 1)),Qg (.mv (.t 7)),Qg (.load false 1 (.t 2)),Qg (.mv (.t 0)),Qg (.indexAddrS 1 (.l 5) (.l 6)),Qg (.load false 1 (.l 7)),Qg (.bin 0 .mul (.l 4) (.l 8)),Qg (.bin 0 .add (.l 3) (.l 9)),Qg (.call (.l 0) [(.l 2),(.l 10)])] [])))
 (.region [Qa 7,Qf (.bin 0 .add (.l 0) (Qh 1)),Qb 1] [(7,2)])))
def JN:Zg :=
 (.seq (Ql [Qa 0,Qf (.load false 1 (.t 2)),Qf (.len (.l 1)),Qf (.bin 0 .eql (.l 0) (.l 2))] [(8,3)]
 (.cond (.t 8) (Ql [Qf (.load false 1 (.t 3)),Qf (.load false 1 (.t 4)),Qa 1,Qf (.call (.l 0) [(.l 1),(.l 2)])] []
 .ret) .skip))
 (Ql [Qf (.load false 1 (.t 5)),Qb 0] [(7,1)]
 (.block 0 (.loop XY))))
def Z1:ZZ:=⟨[0,1,2,3,4,5,6,9,13,20],39,JN,[],0⟩
def Zig:Zg :=
 (Ql [Qf (.alloc [.int .i64 (0),.int .i64 (0)])] [(2,0)]
 (Ql [Qa 0,Qa 0,Qf (.un .neg (.l 1)),Qf (.max2 (.l 0) (.l 2)),Qa 1,Qs Zc3 [.l 3,.l 4],Qb 5] [(3,6)]
 (Qm [Qg (.mv (.t 0)),Qg (.mv (.t 3)),Qg (.bin 0 .quo (.l 0) (.l 1)),Qg (.mv (.t 1)),Qg (.mv (.t 3)),Qg (.bin 0 .quo (.l 3) (.l 4)),Qg (.build [.int .i64 (0),.int .i64 (0)] [(0,1,(.l 2)),(1,1,(.l 5))]),Qg (.store 2 (.t 2) (.l 6))] []
 .ret)))
def ZbL:ZZ:=⟨[0,1,4,5],19,Zig,[.cell 2 true 2],1⟩
def Zgk:Zg :=
 (Ql [Qe 0,Qc] [(2,0),(3,1)]
 (Ql [Qa 0,Qa 1,Qs Zc4 [.l 0,.l 1],Qb 2,Qp 0 3,Qp 1 3,Qf (.alloc [.int .i64 (0),.int .i64 (0)]),Qq 2 6 4,Qb 5] [(4,6),(5,8)]
 (.seq (Ql [Qa 5,Qf (.un .not (.l 0))] [(6,1)]
 (.cond (.t 6) (Ql [Qe 0,Qc] [(2,0),(3,1)]
 .ret) .skip))
 (Ql [Qf (.indexAddrA 2 1 (.t 4) (Qh 0)),Qn 1 0,Qf (.indexAddrA 2 1 (.t 4) (Qh 1)),Qn 1 2,Qf (.bin 0 .add (.l 1) (.l 3)),Qf (.bin 0 .sub (.l 4) (Qh 1)),Qf (.indexAddrA 2 1 (.t 4) (Qh 1)),Qn 1 6,Qf (.bin 0 .quo (.l 5) (.l 7)),Qb 8,Qd] [(2,9),(3,10)]
 .ret))))
def ZaF:ZZ:=⟨[0,1,4,5,6,7,15],25,Zgk,[.tmp 2,.tmp 3],1⟩
def ZfC:Zg :=
 (Ql [Qf (.alloc [.int .i64 (0),.int .i64 (0)]),Qc] [(2,0),(3,1)]
 (.seq (Ql [Qa 0,Qs YE [.l 0],Qf (.un .not (.l 1)),Qb 2,⟨.mv (.t 1),some ((.l 3),false)⟩,⟨.call (.c (.fn KO [] [])) [(.l 4)],some ((.l 3),false)⟩,⟨.un .not (.l 5),some ((.l 3),false)⟩,Qf (.pick (.l 3) Qj (.l 6))] [(5,7)]
 (.cond (.t 5) (Ql [Qf (.build [.int .i64 (0),.int .i64 (0)] []),Qf (.store 2 (.t 2) (.l 0)),Qc] [(3,2)]
 .ret) .skip))
 (Ql [Qa 0,Qs Xz [.l 0],Qf (.alloc [.int .i64 (0),.int .i64 (0)]),Qq 2 2 1] [(4,2)]
 (Ql [Qa 1,Qf (.indexAddrA 2 1 (.t 4) (Qh 0)),Qn 1 1,Qf (.bin 0 .mul (.l 0) (.l 2)),Qf (.indexAddrA 2 1 (.t 4) (Qh 1)),Qn 1 4,Qs Y6 [.l 3,.l 5],Qf (.store 2 (.t 2) (.l 6)),Qd] [(3,8)]
 .ret))))
def Za6:ZZ:=⟨[0,1,4,5,6,14],25,ZfC,[.cell 2 true 2,.tmp 3],1⟩
def Zmk:Zg :=
 (Ql [Qc] [(1,0)]
 (Ql [Qa 0,Qs Yh [.l 0,Qh 0,Qh 1000000],Qb 1] [(1,2)]
 .ret))
def ZeO:ZZ:=⟨[0,2],5,Zmk,[.tmp 1],1⟩
def ZaG:Zg :=
 (Ql [Qf (.box (.t 0)),Qf (.alloc [.int .i64 (0),.int .i64 (0)])] [(1,0),(2,1)]
 (.seq (Ql [Qo 0 1,Qn 1 0] [(3,1)]
 (.block 0 (Ql [Qf (.bin 0 .eql (.t 3) (Qh 2)),Qb 0] [(4,1)]
 (.cond (.t 4) (Ql [Qo 1 1,Qn 1 0,Qf (.build [.int .i64 (0),.int .i64 (0)] [(0,1,(.l 1)),(1,1,(Qh 1))]),Qf (.store 2 (.t 2) (.l 2))] []
 .ret) (Ql [Qf (.bin 0 .eql (.t 3) (Qh 5)),Qb 0] [(5,1)]
 (.cond (.t 5) (Ql [Qo 1 1,Qn 1 0,Qf (.bin 0 .mul (Qh 2) (.l 1)),Qo 1 1,Qn 1 3,Qo 2 1,Qn 1 5,Qf (.bin 0 .sub (.l 4) (.l 6)),Qs Y6 [.l 2,.l 7],Qf (.store 2 (.t 2) (.l 8))] []
 .ret) .skip))))))
 (Ql [Qo 1 1,Qn 1 0,Qo 2 1,Qn 1 2,Qs Y6 [.l 1,.l 3],Qf (.store 2 (.t 2) (.l 4))] []
 .ret)))
def J2:ZZ:=⟨[0,1,2,4,5,10],26,ZaG,[.cell 2 true 2],1⟩
def Zgl:Zg :=
 (Ql [Qe 0,Qc] [(2,0),(3,1)]
 (Ql [Qa 0,Qa 1,Qs Xh [.l 0,.l 1],Qb 2,Qp 0 3,Qp 1 3,Qb 4,Qb 5] [(4,6),(5,7)]
 (Ql [Qa 4,Qa 5,Qb 1,⟨.mv (.t 4),some ((.l 2),true)⟩,⟨.bin 0 .neq (.l 3) (Qh 0),some ((.l 2),true)⟩,Qf (.pick (.l 2) (.l 4) Qi),Qb 0,Qb 5] [(2,6),(3,7)]
 .ret)))
def ZaH:ZZ:=⟨[0,1,4,5,6,7],20,Zgl,[.tmp 2,.tmp 3],1⟩
def Zih:Zg :=
 (Ql [Qc] [(1,0)]
 (Ql [Qa 0,Qs Yh [.l 0,Qh 2,Qh 40],Qb 1] [(1,2)]
 .ret))
def ZbM:ZZ:=⟨[0,2],5,Zih,[.tmp 1],1⟩
def Zb9:Zg :=
 (Ql [Qf (.bin 0 .lss (.t 7) (.t 6))] [(8,0)]
 (.seq (.cond (.t 8) .skip (.exit 0))
 (.seq (.block 1 (Ql [Qa 7,Qb 0] [(4,1)]
 (.region [Qa 3,Qf (.bin 0 .mul (Qh 41) (.l 0)),Qa 0,Qa 4,Qf (.indexS (.l 2) (.l 3)),Qf (.conv .i64 (.l 4)),Qf (.bin 0 .add (.l 1) (.l 5)),Qf (.bin 0 .add (.l 6) (Qh 1)),Qf (.bin 0 .rem (.l 7) (Qh 999979)),Qb 8] [(3,9)])))
 (.region [Qf (.bin 0 .add (.t 7) (Qh 1)),Qb 0] [(7,1)]))))
def Zec:Zg :=
 (Ql [Qe 0,Qc] [(1,0),(2,1)]
 (.seq (Ql [Qa 0,Qf (.lenStr (.l 0)),Qf (.bin 0 .gtr (.l 1) (Qh 4000))] [(5,2)]
 (.cond (.t 5) (Ql [Qe 0,Qc] [(1,0),(2,1)]
 .ret) .skip))
 (Ql [Qe 7] [(3,0)]
 (.seq (Ql [Qa 0,Qf (.lenStr (.l 0)),Qe 0] [(6,1),(7,2)]
 (.block 0 (.loop Zb9)))
 (Ql [Qa 3,Qb 0,Qd] [(1,1),(2,2)]
 .ret)))))
def Zaj:ZZ:=⟨[0,2,3,4,5,8,10,11,12],25,Zec,[.tmp 1,.tmp 2],1⟩
def Jt:Zg :=
 (.seq (Ql [Qa 4,Qa 0,Qf (.len (.l 1)),Qf (.bin 0 .lss (.l 0) (.l 2))] [(5,3)]
 (.cond (.t 5) .skip (.exit 0)))
 (.seq (.block 1 (.draw [Qg (.mv (.t 3)),Qg (.mv (.t 0)),Qg (.mv (.t 4)),Qg (.indexAddrS 2 (.l 1) (.l 2)),Qg (.fieldAddr 1 (.l 3)),Qg (.load false 1 (.l 4)),Qg (.mv (.t 0)),Qg (.mv (.t 4)),Qg (.indexAddrS 2 (.l 6) (.l 7)),Qg (.fieldAddr 0 (.l 8)),Qg (.load false 1 (.l 9)),Qg (.mv (.t 1)),Qg (.bin 0 .sub (.l 10) (.l 11)),Qg (.bin 0 .mul (.l 5) (.l 12)),Qg (.bin 0 .add (.l 0) (.l 13)),Qg (.mv (.l 14))] [(3,15)]))
 (.region [Qa 4,Qf (.bin 0 .add (.l 0) (Qh 1)),Qb 1] [(4,2)])))
def Zii:Zg :=
 (Ql [Qe 0] [(2,0)]
 (Ql [Qe 0] [(3,0)]
 (.seq (Ql [Qe 0] [(4,0)]
 (.block 0 (.loop Jt)))
 (Ql [Qa 3,Qb 0] [(2,1)]
 .ret))))
def ZbN:ZZ:=⟨[0,1,4,5,6,10],29,Zii,[.tmp 2],1⟩
def Xp:Zg :=
 (Ql [⟨.mv (.c (.str ⟨#[]⟩)),none⟩,⟨.mv (.c (.str ⟨#[]⟩)),none⟩,Qc] [(2,0),(3,1),(4,2)]
 (.seq (Ql [Qa 0,Qa 1,Qs Yo [.l 0,.l 1],Qb 2] [(5,3)]
 (Ql [Qa 5,Qf (.bin 0 .geq (.l 0) (Qh 0))] [(6,1)]
 (.cond (.t 6) (Qm [Qg (.mv (.t 0)),Qg (.mv (.t 5)),Qg (.sliceStr (.l 0) none (some (.l 1))),Qg (.mv (.t 0)),Qg (.mv (.t 5)),Qg (.mv (.t 1)),Qg (.lenStr (.l 5)),Qg (.bin 0 .add (.l 4) (.l 6)),Qg (.sliceStr (.l 3) (some (.l 7)) none),Qg (.mv (.l 2)),Qg (.mv (.l 8)),Qg (.mv Qj)] [(2,9),(3,10),(4,11)]
 .ret) .skip)))
 (Ql [Qa 0,Qb 0,⟨.mv (.c (.str ⟨#[]⟩)),none⟩,Qc] [(2,1),(3,2),(4,3)]
 .ret)))
def Z8:ZZ:=⟨[0,1,4,5,6,7,12],23,Xp,[.tmp 2,.tmp 3,.tmp 4],1⟩
def JA:Zg :=
 (Ql [⟨.mv (.c (.str ⟨#[]⟩)),none⟩,Qc] [(1,0),(2,1)]
 (Ql [Qa 0,⟨.call (.c (.fn Jb [] [])) [(.l 0),(.c (.str ⟨#[35]⟩))],none⟩,Qb 1,Qp 0 2,Qp 1 2,Qp 2 2,Qb 3,Qb 4,Qb 5] [(3,6)]
 (.seq (Ql [Qa 3,Qs Xy [.l 0],Qb 1,Qp 0 2,Qp 1 2,Qb 3,Qb 4] [(4,5),(5,6)]
 (Ql [Qa 5,Qf (.un .not (.l 0)),Qb 1,⟨.mv (.t 4),some ((.l 2),false)⟩,⟨.mv (.t 0),some ((.l 2),false)⟩,⟨.bin 1 .neq (.l 3) (.l 4),some ((.l 2),false)⟩,Qf (.pick (.l 2) Qj (.l 5))] [(6,6)]
 (.cond (.t 6) (Ql [⟨.mv (.c (.str ⟨#[]⟩)),none⟩,Qc] [(1,0),(2,1)]
 .ret) .skip)))
 (Ql [Qa 3,Qb 0,Qd] [(1,1),(2,2)]
 .ret))))
def YT:ZZ:=⟨[0,2,3,4,7,8,26],28,JA,[.tmp 1,.tmp 2],1⟩
def J3:Zg :=
 (.seq (Ql [Qa 1,Qf (.bin 0 .gtr (.l 0) (Qh 0))] [(3,1)]
 (.cond (.t 3) .skip (.exit 0)))
 (.block 1 (.draw [Qg (.mv (.t 1)),Qg (.mv (.t 0)),Qg (.mv (.t 1)),Qg (.bin 0 .rem (.l 1) (.l 2)),Qg (.mv (.l 0)),Qg (.mv (.l 3))] [(0,4),(1,5)])))
def ZjZ:Zg :=
 (Ql [Qe 0] [(2,0)]
 (.seq (.block 0 (.loop J3))
 (Ql [Qa 0,Qb 0] [(2,1)]
 .ret)))
def Zdi:ZZ:=⟨[0,1,4,6],12,ZjZ,[.tmp 2],1⟩
def Zj0:Zg :=
 (Ql [Qf (.alloc [.int .i64 (0),.int .i64 (0)]),Qc] [(2,0),(3,1)]
 (.seq (Ql [Qa 0,Qs YE [.l 0],Qf (.un .not (.l 1)),Qb 2,⟨.mv (.t 1),some ((.l 3),false)⟩,⟨.call (.c (.fn KO [] [])) [(.l 4)],some ((.l 3),false)⟩,⟨.un .not (.l 5),some ((.l 3),false)⟩,Qf (.pick (.l 3) Qj (.l 6))] [(5,7)]
 (.cond (.t 5) (Ql [Qf (.build [.int .i64 (0),.int .i64 (0)] []),Qf (.store 2 (.t 2) (.l 0)),Qc] [(3,2)]
 .ret) .skip))
 (Ql [Qa 0,Qs Xz [.l 0],Qf (.alloc [.int .i64 (0),.int .i64 (0)]),Qq 2 2 1] [(4,2)]
 (Ql [Qa 1,Qf (.indexAddrA 2 1 (.t 4) (Qh 1)),Qn 1 1,Qf (.bin 0 .mul (.l 0) (.l 2)),Qf (.indexAddrA 2 1 (.t 4) (Qh 0)),Qn 1 4,Qs Y6 [.l 3,.l 5],Qf (.store 2 (.t 2) (.l 6)),Qd] [(3,8)]
 .ret))))
def Zdj:ZZ:=⟨[0,1,4,5,6,14],25,Zj0,[.cell 2 true 2,.tmp 3],1⟩
def tab:List (FuncId×ZZ) :=
 [(Jv,Zy),(Zjb,Zjd),(Kc,Ki),(ZM,Ys),(Jw,Jz),(KZ,JG),(ZcW,Zc5),(ZaW,QQ),(Xh,K9),(K0,JY),(Kd,Y7),(Zci,Zga),(Zcj,QR),(YD,JH),(JT,Zaz),(KB,KC),(ZaO,Zcq),(Xa,Yi),(JU,Zm),(Kr,YU),(Ke,Kj),(Q8,XK),(ZG,JI),(Zz,XL),(K2,Xi),(XT,Zd4),(Ye,JJ),(XI,Zc8),(YP,Qk),(Kf,Jr),(JE,ZbD),(Zav,ZaA),(K3,JK),(Zck,ZeH),(YE,Zc9),(Yh,ZeI),(Yf,Yg),(Z4,Z5),(Zjc,Zgd),(KN,ZbE),(JV,Zje),(Zcl,ZeJ),(Zbt,X7),(ZeD,ZeK),(JW,Yj),(ZT,Zab),(Zbu,JL),(Xx,KQ),(Kg,XM),(Zaw,ZaB),(Ks,Kv),(Jj,Xw),(Jx,Yt),(YB,Z7),(Kh,Kl),(Zbv,ZbH),(Zf9,Za2),(Kt,YV),(ZQ,ZR),(ZaX,Zda),(JF,ZbI),(ZE,QW),(ZcX,Jc),(Zcm,Zgf),(Zcn,ZeL),(ZcY,Jd),(Xb,XV),(Xt,Kx),(Zax,ZaC),(ZaY,Zdb),(K4,XW),(ZcZ,Za3),(JX,Je),(Xu,YW),(QO,Zct),(Yq,Y3),(Zbw,ZbK),(Zbx,Zah),(Zc0,Za4),(Zby,Zai),(K5,JZ),(Zc1,KF),(Ja,YG),(Xy,Yu),(Zco,ZeM),(Jb,ZaD),(ZeE,QX),(Y2,Y4),(ZeF,J0),(Zc2,Jf),(ZaP,ZeN),(ZaZ,Zde),(Ku,YX),(ZV,ZW),(XJ,Zdf),(ZeG,Zjf),(Zcp,Zgi),(QP,Zdg),(Xz,ZaE),(K6,J1),(Yr,Z1),(Y6,ZbL),(Zay,ZaF),(Za0,Za6),(KO,ZeO),(K7,J2),(K8,ZaH),(Zbz,ZbM),(ZbA,Zaj),(Zag,ZbN),(YC,Z8),(Jy,YT),(Zc3,Zdi),(Zc4,Zdj)]
def T:Zd0:=fun f=>tab.lookup f
theorem Zgm:T Jv=some Zy:=rfl
theorem Zyd:T Zjb=some Zjd:=rfl
theorem Zfc:T Kc=some Ki:=rfl
theorem Zgn:T ZM=some Ys:=rfl
theorem Zgo:T Jw=some Jz:=rfl
theorem Zj1:T KZ=some JG:=rfl
theorem ZqE:T ZcW=some Zc5:=rfl
theorem ZqF:T ZaW=some QQ:=rfl
theorem Zj2:T Xh=some K9:=rfl
theorem Zm9:T K0=some JY:=rfl
theorem Zlm:T Kd=some Y7:=rfl
theorem Zvl:T Zci=some Zga:=rfl
theorem Zml:T Zcj=some QR:=rfl
theorem ZqG:T YD=some JH:=rfl
theorem Zna:T JT=some Zaz:=rfl
theorem ZqH:T KB=some KC:=rfl
theorem Zmm:T ZaO=some Zcq:=rfl
theorem Zhu:T Xa=some Yi:=rfl
theorem Zhv:T JU=some Zm:=rfl
theorem ZiE:T Kr=some YU:=rfl
theorem Zln:T Ke=some Kj:=rfl
theorem Zfd:T Q8=some XK:=rfl
theorem Zj3:T ZG=some JI:=rfl
theorem Zlo:T Zz=some XL:=rfl
theorem Zj4:T K2=some Xi:=rfl
theorem Zvm:T XT=some Zd4:=rfl
theorem Zj5:T Ye=some JJ:=rfl
theorem ZqI:T XI=some Zc8:=rfl
theorem Zj6:T YP=some Qk:=rfl
theorem Zlp:T Kf=some Jr:=rfl
theorem ZoC:T JE=some ZbD:=rfl
theorem Znb:T Zav=some ZaA:=rfl
theorem Zj7:T K3=some JK:=rfl
theorem Ztd:T Zck=some ZeH:=rfl
theorem ZqJ:T YE=some Zc9:=rfl
theorem Zte:T Yh=some ZeI:=rfl
theorem Zaq:T Yf=some Yg:=rfl
theorem QZ:T Z4=some Z5:=rfl
theorem Zye:T Zjc=some Zgd:=rfl
theorem ZoD:T KN=some ZbE:=rfl
theorem Zyf:T JV=some Zje:=rfl
theorem Ztf:T Zcl=some ZeJ:=rfl
theorem ZoE:T Zbt=some X7:=rfl
theorem Ztg:T ZeD=some ZeK:=rfl
theorem Zhw:T JW=some Yj:=rfl
theorem Zlq:T ZT=some Zab:=rfl
theorem ZoF:T Zbu=some JL:=rfl
theorem Zij:T Xx=some KQ:=rfl
theorem Zfe:T Kg=some XM:=rfl
theorem Znc:T Zaw=some ZaB:=rfl
theorem ZiF:T Ks=some Kv:=rfl
theorem ZiG:T Jj=some Xw:=rfl
theorem Zgp:T Jx=some Yt:=rfl
theorem Zbk:T YB=some Z7:=rfl
theorem Zlr:T Kh=some Kl:=rfl
theorem ZoG:T Zbv=some ZbH:=rfl
theorem Zvn:T Zf9=some Za2:=rfl
theorem ZiH:T Kt=some YV:=rfl
theorem Km:T ZQ=some ZR:=rfl
theorem ZqK:T ZaX=some Zda:=rfl
theorem ZoH:T JF=some ZbI:=rfl
theorem Zth:T ZE=some QW:=rfl
theorem ZqL:T ZcX=some Jc:=rfl
theorem Zvo:T Zcm=some Zgf:=rfl
theorem Zti:T Zcn=some ZeL:=rfl
theorem ZqM:T ZcY=some Jd:=rfl
theorem Ztj:T Xb=some XV:=rfl
theorem ZiI:T Xt=some Kx:=rfl
theorem Znd:T Zax=some ZaC:=rfl
theorem ZqN:T ZaY=some Zdb:=rfl
theorem ZoI:T K4=some XW:=rfl
theorem ZqO:T ZcZ=some Za3:=rfl
theorem Zgq:T JX=some Je:=rfl
theorem ZiJ:T Xu=some YW:=rfl
theorem Ztk:T QO=some Zct:=rfl
theorem Zdk:T Yq=some Y3:=rfl
theorem ZoJ:T Zbw=some ZbK:=rfl
theorem ZoK:T Zbx=some Zah:=rfl
theorem ZqP:T Zc0=some Za4:=rfl
theorem Zik:T Zby=some Zai:=rfl
theorem Zgr:T K5=some JZ:=rfl
theorem Zj8:T Zc1=some KF:=rfl
theorem ZfD:T Ja=some YG:=rfl
theorem Zgs:T Xy=some Yu:=rfl
theorem Ztl:T Zco=some ZeM:=rfl
theorem Zne:T Jb=some ZaD:=rfl
theorem Ztm:T ZeE=some QX:=rfl
theorem Zdl:T Y2=some Y4:=rfl
theorem Ztn:T ZeF=some J0:=rfl
theorem ZqQ:T Zc2=some Jf:=rfl
theorem Zto:T ZaP=some ZeN:=rfl
theorem ZqR:T ZaZ=some Zde:=rfl
theorem ZiK:T Ku=some YX:=rfl
theorem Qx:T ZV=some ZW:=rfl
theorem ZqS:T XJ=some Zdf:=rfl
theorem Zyg:T ZeG=some Zjf:=rfl
theorem Zvp:T Zcp=some Zgi:=rfl
theorem ZqT:T QP=some Zdg:=rfl
theorem Znf:T Xz=some ZaE:=rfl
theorem Zng:T K6=some J1:=rfl
theorem Qy:T Yr=some Z1:=rfl
theorem ZoL:T Y6=some ZbL:=rfl
theorem Znh:T Zay=some ZaF:=rfl
theorem Zj9:T Za0=some Za6:=rfl
theorem Ztp:T KO=some ZeO:=rfl
theorem Zni:T K7=some J2:=rfl
theorem Znj:T K8=some ZaH:=rfl
theorem ZoM:T Zbz=some ZbM:=rfl
theorem Zil:T ZbA=some Zaj:=rfl
theorem ZoN:T Zag=some ZbN:=rfl
theorem Zbl:T YC=some Z8:=rfl
theorem Zgt:T Jy=some YT:=rfl
theorem ZqU:T Zc3=some Zdi:=rfl
theorem ZqV:T Zc4=some Zdj:=rfl
