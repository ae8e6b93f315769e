/- Parts of the proof. -/
import Derived.Test.YtemcdiajejekoaaGreatDoorSlimZ9
import Derived.Shelf.Strings.Builder1
import Derived.Shelf.Strings.Builder2
import Derived.Shelf.Strings.OnBuilder
import Derived.Shelf.Small.Bits
import Derived.Shelf.Utf8.RuneCount
import Derived.Shelf.Strconv.Atoi
import Derived.Shelf.Strconv.Itoa0
import Derived.Shelf.Strconv.Itoa1
import Derived.Shelf.LaysM
import Derived.Shelf.Strconv.Itoa2
import Derived.Shelf.Strconv.Itoa3
import Derived.Shelf.Strconv.AtoiErrFast
import Derived.Shelf.Strconv.ParseIntEmpty
import Derived.Shelf.Strconv.AtoiFail
import Derived.Shelf.Strconv.Clone
import Derived.Shelf.Strconv.SyntaxError
import Derived.Shelf.LaysC
import Derived.Shelf.Strconv.ToError
import Derived.Shelf.Strconv.AtoiErr
import Derived.Shelf.Strconv.Lower
import Derived.Shelf.Strconv.ParseUint10
import Derived.Shelf.Strconv.ParseUint10Empty
import Derived.Shelf.Strconv.ParseUint10Any
import Derived.Shelf.Strconv.ParseInt10
import Derived.Shelf.Strconv.AtoiLong
import Derived.Shelf.Strconv.AtoiInnerAll
import Derived.Shelf.Strconv.RangeError
import Derived.Shelf.Strconv.ToErrorRange
import Derived.Shelf.Strconv.AtoiAll
import Derived.Shelf.Strings.Search1
import Derived.Shelf.Strings.Search2
import Derived.Shelf.Strings.Search3
import Derived.Shelf.Strings.Cut
import Derived.Shelf.Strings.Count
import Derived.Shelf.Strings.Shaped
import Derived.Shelf.Sort.Plain
import Derived.Shelf.Strings.Split
import Derived.Shelf.Strings.SplitShaped
import Derived.Shelf.Unicode.Decode
import Derived.Shelf.Strings.RuneCount
import Derived.Shelf.Strings.Explode
import Derived.Shelf.Unicode.DecodeSlow
import Derived.Shelf.Unicode.DecodeAny
import Derived.Ground.Names2Prog
import Derived.Shelf.Slices.Clone
import Derived.Shelf.Slices.CompactI
import Derived.Shelf.Slices.SearchI
import Derived.Shelf.Slices.Cells
import Derived.Ground.SlgnProg
import Derived.Shelf.SlicesE.Clone
import Derived.Ground.SlsfProg
import Derived.Shelf.SlSortCmp.Insertion
import Derived.Shelf.SlSortCmp.SiftDown1
import Derived.Shelf.SlSortCmp.HeapSort1
import Derived.Shelf.SlSortCmp.Insertion1
import Derived.Shelf.SlSortCmp.Median1
import Derived.Shelf.SlSortCmp.Pivot1
import Derived.Shelf.SlSortCmp.ReverseRange1
import Derived.Shelf.SlSortCmp.PartialInsertion1
import Derived.Shelf.SlSortCmp.PartitionEqual1
import Derived.Shelf.SlSortCmp.Partition1
import Derived.Shelf.SlSortCmp.Pdq1
import Derived.Shelf.SlSortCmp.Whole1
import Derived.Test.YtemcdiajejekoaaGreatDoorProg
set_option linter.unusedSimpArgs false
set_option linter.unusedVariables false
namespace Go.Proofs.YtemcdiajejekoaaGreatDoor
open Go.Shelf
def Tryz.lays156_ren:Go.Shelf.Ren:=⟨fun | 156=>83 | 165=>143 | 166=>144 | 169=>145 | 240=>207 | 241=>208 | 276=>258 | 277=>259 | n=>n,fun | 31=>31 | 9=>9 | 3=>3 | 4=>4 | 0=>0 | 20=>20 | 72=>177 | 76=>181 | 70=>175 | 37=>47 | 75=>180 | 127=>231 | 164=>252 | 5=>5 | 80=>94 | n=>n,fun | n=>n⟩
theorem Tryz.lays156:Go.Proofs.Lays.n156 Tryz.prog Tryz.lays156_ren:={
  mixed:=by kernel_rfl
  f156:=Tryz.func83.trans (congrArg some (by kernel_rfl))
  f165:=Tryz.func143.trans (congrArg some (by kernel_rfl))
  f166:=Tryz.func144.trans (congrArg some (by kernel_rfl))
  f169:=Tryz.func145.trans (congrArg some (by kernel_rfl))
  f240:=Tryz.func207.trans (congrArg some (by kernel_rfl))
  f241:=Tryz.func208.trans (congrArg some (by kernel_rfl))
  f276:=Tryz.func258.trans (congrArg some (by kernel_rfl))
  f277:=Tryz.func259.trans (congrArg some (by kernel_rfl))
  t0:=Tryz.underlying0
  a0:=Tryz.isAgg0
  z0:=Tryz.sizeOf0
  v0:=Tryz.zeroValue0
  t3:=Tryz.underlying3
  a3:=Tryz.isAgg3
  z3:=Tryz.sizeOf3
  v3:=Tryz.zeroValue3
  t4:=Tryz.underlying4
  a4:=Tryz.isAgg4
  z4:=Tryz.sizeOf4
  v4:=Tryz.zeroValue4
  t9:=Tryz.underlying9
  a9:=Tryz.isAgg9
  z9:=Tryz.sizeOf9
  v9:=Tryz.zeroValue9
  t20:=Tryz.underlying20
  a20:=Tryz.isAgg20
  z20:=Tryz.sizeOf20
  v20:=Tryz.zeroValue20
  t31:=Tryz.underlying31
  a31:=Tryz.isAgg31
  z31:=Tryz.sizeOf31
  v31:=Tryz.zeroValue31
  t37:=Tryz.underlying47
  a37:=Tryz.isAgg47
  z37:=Tryz.sizeOf47
  v37:=Tryz.zeroValue47
  t70:=Tryz.underlying175
  a70:=Tryz.isAgg175
  z70:=Tryz.sizeOf175
  v70:=Tryz.zeroValue175
  t72:=Tryz.underlying177
  a72:=Tryz.isAgg177
  z72:=Tryz.sizeOf177
  v72:=Tryz.zeroValue177
  t75:=Tryz.underlying180
  a75:=Tryz.isAgg180
  z75:=Tryz.sizeOf180
  v75:=Tryz.zeroValue180
  t76:=Tryz.underlying181
  a76:=Tryz.isAgg181
  z76:=Tryz.sizeOf181
  v76:=Tryz.zeroValue181
  t127:=Tryz.underlying231
  a127:=Tryz.isAgg231
  z127:=Tryz.sizeOf231
  v127:=Tryz.zeroValue231
  t164:=Tryz.underlying252
  a164:=Tryz.isAgg252
  z164:=Tryz.sizeOf252
  v164:=Tryz.zeroValue252 }
theorem Tryz.Builder_Extra_156:Builder.Extra Tryz.prog Tryz.lays156_ren:={
  sizeBuilder:=by kernel_rfl
  liesBuilder:=by kernel_rfl
  t5:=Tryz.underlying5
  a5:=Tryz.isAgg5
  z5:=Tryz.sizeOf5
  v5:=Tryz.zeroValue5
  infoByte:=by kernel_rfl
  cellsByte:=by kernel_rfl
  sizeByte:=by kernel_rfl
  neB5:=by decide }
open Go.RowKit in
theorem Tryz.strings_Join (bk o c:Nat) (xs:List ByteArray) (sep:ByteArray) (w:World) (hcells:∀ (j:Nat) x,xs[j]?=some x→w.cell? ⟨bk,o+j,none⟩=some (.string x)) (hbk:bk<w.heap.size) (hN:xs.length≤140737488355328) (hcap:xs.length≤c) (hlen:(Lib.join (xs.map (·.data.toList)) sep.data.toList).length≤140737488355328) :
    Calls Tryz.prog 83 #[.slice (some ⟨bk,o,none⟩) xs.length c,.string sep] w fun e w'=>e=.returned (.string ⟨(Lib.join (xs.map (·.data.toList)) sep.data.toList).toArray⟩)∧Below w.heap.size w w':=Any.strings_Join Tryz.lays156 Tryz.Builder_Extra_156 bk o c xs sep w hcells hbk hN hcap hlen
def Tryz.laysM171_ren:Go.Shelf.Ren:=⟨fun | 171=>142 | 243=>206 | 246=>257 | 283=>290 | 284=>291 | 285=>292 | 286=>293 | 129=>269 | 317=>314 | 318=>315 | 319=>316 | 320=>317 | 337=>324 | 338=>325 | n=>n,fun | 3=>3 | 9=>9 | 2=>2 | 4=>4 | 171=>274 | 0=>0 | 53=>90 | 37=>47 | 5=>5 | 173=>276 | 212=>301 | 51=>263 | 20=>20 | 213=>302 | 46=>223 | 232=>312 | 233=>313 | n=>n,fun | 17=>5 | 18=>6 | 19=>7 | n=>n⟩
theorem Tryz.laysM171:Go.Proofs.LaysM.n171 Tryz.prog Tryz.laysM171_ren:={
  mixed:=by kernel_rfl
  f129:=Tryz.func269.trans (congrArg some (by kernel_rfl))
  f171:=Tryz.func142.trans (congrArg some (by kernel_rfl))
  f243:=Tryz.func206.trans (congrArg some (by kernel_rfl))
  f246:=Tryz.func257.trans (congrArg some (by kernel_rfl))
  f283:=Tryz.func290.trans (congrArg some (by kernel_rfl))
  f284:=Tryz.func291.trans (congrArg some (by kernel_rfl))
  f285:=Tryz.func292.trans (congrArg some (by kernel_rfl))
  f286:=Tryz.func293.trans (congrArg some (by kernel_rfl))
  f317:=Tryz.func314.trans (congrArg some (by kernel_rfl))
  f318:=Tryz.func315.trans (congrArg some (by kernel_rfl))
  f319:=Tryz.func316.trans (congrArg some (by kernel_rfl))
  f320:=Tryz.func317.trans (congrArg some (by kernel_rfl))
  f337:=Tryz.func324.trans (congrArg some (by kernel_rfl))
  f338:=Tryz.func325.trans (congrArg some (by kernel_rfl))
  t0:=Tryz.underlying0
  a0:=Tryz.isAgg0
  z0:=Tryz.sizeOf0
  v0:=Tryz.zeroValue0
  t2:=Tryz.underlying2
  a2:=Tryz.isAgg2
  z2:=Tryz.sizeOf2
  v2:=Tryz.zeroValue2
  t3:=Tryz.underlying3
  a3:=Tryz.isAgg3
  z3:=Tryz.sizeOf3
  v3:=Tryz.zeroValue3
  t4:=Tryz.underlying4
  a4:=Tryz.isAgg4
  z4:=Tryz.sizeOf4
  v4:=Tryz.zeroValue4
  t5:=Tryz.underlying5
  a5:=Tryz.isAgg5
  z5:=Tryz.sizeOf5
  v5:=Tryz.zeroValue5
  t9:=Tryz.underlying9
  a9:=Tryz.isAgg9
  z9:=Tryz.sizeOf9
  v9:=Tryz.zeroValue9
  t20:=Tryz.underlying20
  a20:=Tryz.isAgg20
  z20:=Tryz.sizeOf20
  v20:=Tryz.zeroValue20
  t37:=Tryz.underlying47
  a37:=Tryz.isAgg47
  z37:=Tryz.sizeOf47
  v37:=Tryz.zeroValue47
  t46:=Tryz.underlying223
  a46:=Tryz.isAgg223
  z46:=Tryz.sizeOf223
  v46:=Tryz.zeroValue223
  t51:=Tryz.underlying263
  a51:=Tryz.isAgg263
  z51:=Tryz.sizeOf263
  v51:=Tryz.zeroValue263
  t53:=Tryz.underlying90
  a53:=Tryz.isAgg90
  z53:=Tryz.sizeOf90
  v53:=Tryz.zeroValue90
  t171:=Tryz.underlying274
  a171:=Tryz.isAgg274
  z171:=Tryz.sizeOf274
  v171:=Tryz.zeroValue274
  t173:=Tryz.underlying276
  a173:=Tryz.isAgg276
  z173:=Tryz.sizeOf276
  v173:=Tryz.zeroValue276
  t212:=Tryz.underlying301
  a212:=Tryz.isAgg301
  z212:=Tryz.sizeOf301
  v212:=Tryz.zeroValue301
  t213:=Tryz.underlying302
  a213:=Tryz.isAgg302
  z213:=Tryz.sizeOf302
  t232:=Tryz.underlying312
  a232:=Tryz.isAgg312
  z232:=Tryz.sizeOf312
  v232:=Tryz.zeroValue312
  t233:=Tryz.underlying313
  a233:=Tryz.isAgg313
  z233:=Tryz.sizeOf313
  v233:=Tryz.zeroValue313
  g17:=by kernel_rfl
  g18:=by kernel_rfl
  g19:=by kernel_rfl
  i0:=by kernel_rfl
  i2:=by kernel_rfl
  i3:=by kernel_rfl
  i4:=by kernel_rfl
  i5:=by kernel_rfl
  i9:=by kernel_rfl
  i20:=by kernel_rfl
  i37:=by kernel_rfl
  i46:=by kernel_rfl
  i51:=by kernel_rfl
  i53:=by kernel_rfl
  i171:=by kernel_rfl
  i173:=by kernel_rfl
  i212:=by kernel_rfl
  i232:=by kernel_rfl
  i233:=by kernel_rfl
  m17:=by kernel_rfl
  m18:=by kernel_rfl
  m19:=by kernel_rfl }
open Go.RowKit Go.Sort Go.Lib in
theorem Tryz.strconv_Itoa (n : Int) (h0 : -9223372036854775808 ≤ n) (h1 : n ≤ 9223372036854775807) (w : World) (htab : Lib.TabIs Tryz.prog w "internal/strconv.uint64pow10" .u64 Lib.pow10Tab) :
    Calls Tryz.prog 142 #[.int .i64 n] w fun e w'=>e=.returned (.string ⟨(Lib.itoa n).toArray⟩)∧∃ k os,w'=grow (w.drewN k) os:=Any.strconv_Itoa Tryz.laysM171 n h0 h1 w htab
def Tryz.laysC172_ren:Go.Shelf.Ren:=⟨fun | 172=>161 | 244=>219 | 245=>220 | 247=>276 | 279=>277 | 280=>278 | 281=>279 | 282=>280 | 287=>302 | 316=>303 | 171=>142 | 205=>304 | 321=>319 | 322=>320 | 243=>206 | 246=>257 | 283=>290 | 284=>291 | 285=>292 | 286=>293 | 129=>269 | 317=>314 | 318=>315 | 319=>316 | 320=>317 | 337=>324 | 338=>325 | n=>n,fun | 9=>9 | 3=>3 | 75=>180 | 76=>181 | 4=>4 | 5=>5 | 167=>265 | 37=>47 | 0=>0 | 85=>266 | 2=>2 | 168=>268 | 53=>90 | 175=>290 | 46=>223 | 210=>293 | 127=>231 | 145=>308 | 143=>306 | 21=>21 | 171=>274 | 173=>276 | 212=>301 | 51=>263 | 20=>20 | 213=>302 | 232=>312 | 233=>313 | 80=>94 | n=>n,fun | 15=>3 | 16=>4 | 17=>5 | 18=>6 | 19=>7 | n=>n⟩
theorem Tryz.laysC172:Go.Proofs.LaysC.n172 Tryz.prog Tryz.laysC172_ren:={
  mixed:=by kernel_rfl
  f129:=Tryz.func269.trans (congrArg some (by kernel_rfl))
  f171:=Tryz.func142.trans (congrArg some (by kernel_rfl))
  f172:=Tryz.func161.trans (congrArg some (by kernel_rfl))
  f205:=Tryz.func304.trans (congrArg some (by kernel_rfl))
  f243:=Tryz.func206.trans (congrArg some (by kernel_rfl))
  f244:=Tryz.func219.trans (congrArg some (by kernel_rfl))
  f245:=Tryz.func220.trans (congrArg some (by kernel_rfl))
  f246:=Tryz.func257.trans (congrArg some (by kernel_rfl))
  f247:=Tryz.func276.trans (congrArg some (by kernel_rfl))
  f279:=Tryz.func277.trans (congrArg some (by kernel_rfl))
  f280:=Tryz.func278.trans (congrArg some (by kernel_rfl))
  f281:=Tryz.func279.trans (congrArg some (by kernel_rfl))
  f282:=Tryz.func280.trans (congrArg some (by kernel_rfl))
  f283:=Tryz.func290.trans (congrArg some (by kernel_rfl))
  f284:=Tryz.func291.trans (congrArg some (by kernel_rfl))
  f285:=Tryz.func292.trans (congrArg some (by kernel_rfl))
  f286:=Tryz.func293.trans (congrArg some (by kernel_rfl))
  f287:=Tryz.func302.trans (congrArg some (by kernel_rfl))
  f316:=Tryz.func303.trans (congrArg some (by kernel_rfl))
  f317:=Tryz.func314.trans (congrArg some (by kernel_rfl))
  f318:=Tryz.func315.trans (congrArg some (by kernel_rfl))
  f319:=Tryz.func316.trans (congrArg some (by kernel_rfl))
  f320:=Tryz.func317.trans (congrArg some (by kernel_rfl))
  f321:=Tryz.func319.trans (congrArg some (by kernel_rfl))
  f322:=Tryz.func320.trans (congrArg some (by kernel_rfl))
  f337:=Tryz.func324.trans (congrArg some (by kernel_rfl))
  f338:=Tryz.func325.trans (congrArg some (by kernel_rfl))
  t0:=Tryz.underlying0
  a0:=Tryz.isAgg0
  z0:=Tryz.sizeOf0
  v0:=Tryz.zeroValue0
  t2:=Tryz.underlying2
  a2:=Tryz.isAgg2
  z2:=Tryz.sizeOf2
  v2:=Tryz.zeroValue2
  t3:=Tryz.underlying3
  a3:=Tryz.isAgg3
  z3:=Tryz.sizeOf3
  v3:=Tryz.zeroValue3
  t4:=Tryz.underlying4
  a4:=Tryz.isAgg4
  z4:=Tryz.sizeOf4
  v4:=Tryz.zeroValue4
  t5:=Tryz.underlying5
  a5:=Tryz.isAgg5
  z5:=Tryz.sizeOf5
  v5:=Tryz.zeroValue5
  t9:=Tryz.underlying9
  a9:=Tryz.isAgg9
  z9:=Tryz.sizeOf9
  v9:=Tryz.zeroValue9
  t20:=Tryz.underlying20
  a20:=Tryz.isAgg20
  z20:=Tryz.sizeOf20
  v20:=Tryz.zeroValue20
  t21:=Tryz.underlying21
  a21:=Tryz.isAgg21
  z21:=Tryz.sizeOf21
  v21:=Tryz.zeroValue21
  t37:=Tryz.underlying47
  a37:=Tryz.isAgg47
  z37:=Tryz.sizeOf47
  v37:=Tryz.zeroValue47
  t46:=Tryz.underlying223
  a46:=Tryz.isAgg223
  z46:=Tryz.sizeOf223
  v46:=Tryz.zeroValue223
  t51:=Tryz.underlying263
  a51:=Tryz.isAgg263
  z51:=Tryz.sizeOf263
  v51:=Tryz.zeroValue263
  t53:=Tryz.underlying90
  a53:=Tryz.isAgg90
  z53:=Tryz.sizeOf90
  v53:=Tryz.zeroValue90
  t75:=Tryz.underlying180
  a75:=Tryz.isAgg180
  z75:=Tryz.sizeOf180
  v75:=Tryz.zeroValue180
  t76:=Tryz.underlying181
  a76:=Tryz.isAgg181
  z76:=Tryz.sizeOf181
  v76:=Tryz.zeroValue181
  t85:=Tryz.underlying266
  a85:=Tryz.isAgg266
  z85:=Tryz.sizeOf266
  v85:=Tryz.zeroValue266
  t127:=Tryz.underlying231
  a127:=Tryz.isAgg231
  z127:=Tryz.sizeOf231
  v127:=Tryz.zeroValue231
  t143:=Tryz.underlying306
  a143:=Tryz.isAgg306
  z143:=Tryz.sizeOf306
  v143:=Tryz.zeroValue306
  t145:=Tryz.underlying308
  a145:=Tryz.isAgg308
  z145:=Tryz.sizeOf308
  v145:=Tryz.zeroValue308
  t167:=Tryz.underlying265
  a167:=Tryz.isAgg265
  z167:=Tryz.sizeOf265
  v167:=Tryz.zeroValue265
  t168:=Tryz.underlying268
  a168:=Tryz.isAgg268
  z168:=Tryz.sizeOf268
  v168:=Tryz.zeroValue268
  t171:=Tryz.underlying274
  a171:=Tryz.isAgg274
  z171:=Tryz.sizeOf274
  v171:=Tryz.zeroValue274
  t173:=Tryz.underlying276
  a173:=Tryz.isAgg276
  z173:=Tryz.sizeOf276
  v173:=Tryz.zeroValue276
  t175:=Tryz.underlying290
  a175:=Tryz.isAgg290
  z175:=Tryz.sizeOf290
  v175:=Tryz.zeroValue290
  t210:=Tryz.underlying293
  a210:=Tryz.isAgg293
  z210:=Tryz.sizeOf293
  v210:=Tryz.zeroValue293
  t212:=Tryz.underlying301
  a212:=Tryz.isAgg301
  z212:=Tryz.sizeOf301
  v212:=Tryz.zeroValue301
  t213:=Tryz.underlying302
  a213:=Tryz.isAgg302
  z213:=Tryz.sizeOf302
  t232:=Tryz.underlying312
  a232:=Tryz.isAgg312
  z232:=Tryz.sizeOf312
  v232:=Tryz.zeroValue312
  t233:=Tryz.underlying313
  a233:=Tryz.isAgg313
  z233:=Tryz.sizeOf313
  v233:=Tryz.zeroValue313
  g15:=by kernel_rfl
  g16:=by kernel_rfl
  g17:=by kernel_rfl
  g18:=by kernel_rfl
  g19:=by kernel_rfl
  t80:=Tryz.underlying94
  a80:=Tryz.isAgg94
  z80:=Tryz.sizeOf94
  v80:=Tryz.zeroValue94
  i0:=by kernel_rfl
  i2:=by kernel_rfl
  i3:=by kernel_rfl
  i4:=by kernel_rfl
  i5:=by kernel_rfl
  i9:=by kernel_rfl
  i20:=by kernel_rfl
  i21:=by kernel_rfl
  i37:=by kernel_rfl
  i46:=by kernel_rfl
  i51:=by kernel_rfl
  i53:=by kernel_rfl
  i75:=by kernel_rfl
  i76:=by kernel_rfl
  i80:=by kernel_rfl
  i85:=by kernel_rfl
  i127:=by kernel_rfl
  i143:=by kernel_rfl
  i145:=by kernel_rfl
  i167:=by kernel_rfl
  i168:=by kernel_rfl
  i171:=by kernel_rfl
  i173:=by kernel_rfl
  i175:=by kernel_rfl
  i210:=by kernel_rfl
  i212:=by kernel_rfl
  i232:=by kernel_rfl
  i233:=by kernel_rfl
  m15:=by kernel_rfl
  m16:=by kernel_rfl
  m17:=by kernel_rfl
  m18:=by kernel_rfl
  m19:=by kernel_rfl
  c0:=by kernel_rfl
  c2:=by kernel_rfl
  c3:=by kernel_rfl
  c4:=by kernel_rfl
  c5:=by kernel_rfl
  c9:=by kernel_rfl
  c20:=by kernel_rfl
  c21:=by kernel_rfl
  c37:=by kernel_rfl
  c46:=by kernel_rfl
  c51:=by kernel_rfl
  c53:=by kernel_rfl
  c75:=by kernel_rfl
  c76:=by kernel_rfl
  c80:=by kernel_rfl
  c85:=by kernel_rfl
  c127:=by kernel_rfl
  c143:=by kernel_rfl
  c145:=by kernel_rfl
  c167:=by kernel_rfl
  c168:=by kernel_rfl
  c171:=by kernel_rfl
  c173:=by kernel_rfl
  c175:=by kernel_rfl
  c210:=by kernel_rfl
  c212:=by kernel_rfl
  c213:=by kernel_rfl
  c232:=by kernel_rfl
  c233:=by kernel_rfl }
open Go.RowKit in
theorem Tryz.strconv_Atoi_ok (s:ByteArray) (hmax:s.size≤9223372036854775806) (v:Int) (h:Lib.atoiAll s.data.toList=.ok v) (w:World) :
    Calls Tryz.prog 161 #[.string s] w fun e w'=>e=.returned (.tuple #[.int .i64 v,.nilIface])∧(w'=w∨∃ t,w'=Lib.bytesWorld w 5 t):=Any.strconv_Atoi_ok Tryz.laysC172 s hmax v h w
open Go.RowKit in
theorem Tryz.strconv_Atoi_syntax (s:ByteArray) (hlim:s.size≤281474976710656) (h:Lib.atoiAll s.data.toList=Lib.atoiAll []) (ev:Value) (w:World) (hv:w.cell? ⟨3,0,none⟩=some ev) (hev:ev=.nilIface∨∃ te pe,ev=.iface te pe) :
    Calls Tryz.prog 161 #[.string s] w fun e w'=>∃ N,e=.returned (.tuple #[.int .i64 (0),.iface 268 (.pointer (some ⟨N,0,none⟩))])∧w.heap.size≤N∧w'.heap[N]?=some (.cells #[.string ⟨#[65,116,111,105]⟩,.string s,ev] 293 (0,0))∧Below w.heap.size w w':=Any.strconv_Atoi_syntax Tryz.laysC172 s hlim h ev w hv hev
open Go.RowKit in
theorem Tryz.strconv_Atoi_range (s:ByteArray) (hlim:s.size≤281474976710656) (h:Lib.atoiAll s.data.toList=.range) (ev:Value) (w:World) (hv:w.cell? ⟨4,0,none⟩=some ev) (hev:ev=.nilIface∨∃ te pe,ev=.iface te pe) :
    Calls Tryz.prog 161 #[.string s] w fun e w'=>∃ N,e=.returned (.tuple #[.int .i64 (Lib.atoiSat s.data.toList),.iface 268 (.pointer (some ⟨N,0,none⟩))])∧w.heap.size≤N∧w'.heap[N]?=some (.cells #[.string ⟨#[65,116,111,105]⟩,.string s,ev] 293 (0,0))∧Below w.heap.size w w':=Any.strconv_Atoi_range Tryz.laysC172 s hlim h ev w hv hev
def Tryz.lays219_ren:Go.Shelf.Ren:=⟨fun | 219=>215 | 217=>272 | 225=>273 | 224=>274 | 267=>275 | 266=>300 | 314=>301 | n=>n,fun | 9=>9 | 3=>3 | 4=>4 | 5=>5 | 46=>223 | 146=>288 | 51=>263 | n=>n,fun | 1=>0 | n=>n⟩
theorem Tryz.lays219:Go.Proofs.Lays.n219 Tryz.prog Tryz.lays219_ren:={
  mixed:=by kernel_rfl
  f217:=Tryz.func272.trans (congrArg some (by kernel_rfl))
  f219:=Tryz.func215.trans (congrArg some (by kernel_rfl))
  f224:=Tryz.func274.trans (congrArg some (by kernel_rfl))
  f225:=Tryz.func273.trans (congrArg some (by kernel_rfl))
  f266:=Tryz.func300.trans (congrArg some (by kernel_rfl))
  f267:=Tryz.func275.trans (congrArg some (by kernel_rfl))
  f314:=Tryz.func301.trans (congrArg some (by kernel_rfl))
  t3:=Tryz.underlying3
  a3:=Tryz.isAgg3
  z3:=Tryz.sizeOf3
  v3:=Tryz.zeroValue3
  t4:=Tryz.underlying4
  a4:=Tryz.isAgg4
  z4:=Tryz.sizeOf4
  v4:=Tryz.zeroValue4
  t5:=Tryz.underlying5
  a5:=Tryz.isAgg5
  z5:=Tryz.sizeOf5
  v5:=Tryz.zeroValue5
  t9:=Tryz.underlying9
  a9:=Tryz.isAgg9
  z9:=Tryz.sizeOf9
  v9:=Tryz.zeroValue9
  t46:=Tryz.underlying223
  a46:=Tryz.isAgg223
  z46:=Tryz.sizeOf223
  v46:=Tryz.zeroValue223
  t51:=Tryz.underlying263
  a51:=Tryz.isAgg263
  z51:=Tryz.sizeOf263
  v51:=Tryz.zeroValue263
  t146:=Tryz.underlying288
  a146:=Tryz.isAgg288
  z146:=Tryz.sizeOf288
  v146:=Tryz.zeroValue288
  g1:=by kernel_rfl }
open Go.RowKit Go.Lib in
theorem Tryz.stringslite_Index_one (s:ByteArray) (c:UInt8) (w:World) :
    Calls Tryz.prog 215 #[.string s,.string ⟨#[c]⟩] w fun e w'=>e=.returned (.int .i64 (Lib.indexByte s.data.toList c))∧w'=w:=Any.stringslite_Index_one Tryz.lays219 s c w
def Tryz.lays143_ren:Go.Shelf.Ren:=⟨fun | 143=>156 | 219=>215 | 217=>272 | 225=>273 | 224=>274 | 267=>275 | 266=>300 | 314=>301 | n=>n,fun | 9=>9 | 3=>3 | 4=>4 | 5=>5 | 46=>223 | 146=>288 | 51=>263 | n=>n,fun | 1=>0 | n=>n⟩
theorem Tryz.lays143:Go.Proofs.Lays.n143 Tryz.prog Tryz.lays143_ren:={
  mixed:=by kernel_rfl
  f143:=Tryz.func156.trans (congrArg some (by kernel_rfl))
  f217:=Tryz.func272.trans (congrArg some (by kernel_rfl))
  f219:=Tryz.func215.trans (congrArg some (by kernel_rfl))
  f224:=Tryz.func274.trans (congrArg some (by kernel_rfl))
  f225:=Tryz.func273.trans (congrArg some (by kernel_rfl))
  f266:=Tryz.func300.trans (congrArg some (by kernel_rfl))
  f267:=Tryz.func275.trans (congrArg some (by kernel_rfl))
  f314:=Tryz.func301.trans (congrArg some (by kernel_rfl))
  t3:=Tryz.underlying3
  a3:=Tryz.isAgg3
  z3:=Tryz.sizeOf3
  v3:=Tryz.zeroValue3
  t4:=Tryz.underlying4
  a4:=Tryz.isAgg4
  z4:=Tryz.sizeOf4
  v4:=Tryz.zeroValue4
  t5:=Tryz.underlying5
  a5:=Tryz.isAgg5
  z5:=Tryz.sizeOf5
  v5:=Tryz.zeroValue5
  t9:=Tryz.underlying9
  a9:=Tryz.isAgg9
  z9:=Tryz.sizeOf9
  v9:=Tryz.zeroValue9
  t46:=Tryz.underlying223
  a46:=Tryz.isAgg223
  z46:=Tryz.sizeOf223
  v46:=Tryz.zeroValue223
  t51:=Tryz.underlying263
  a51:=Tryz.isAgg263
  z51:=Tryz.sizeOf263
  v51:=Tryz.zeroValue263
  t146:=Tryz.underlying288
  a146:=Tryz.isAgg288
  z146:=Tryz.sizeOf288
  v146:=Tryz.zeroValue288
  g1:=by kernel_rfl }
open Go.RowKit Go.Lib in
theorem Tryz.strings_Index_one (s:ByteArray) (c:UInt8) (w:World) :
    Calls Tryz.prog 156 #[.string s,.string ⟨#[c]⟩] w fun e w'=>e=.returned (.int .i64 (Lib.indexByte s.data.toList c))∧w'=w:=Any.strings_Index_one Tryz.lays143 s c w
def Tryz.lays144_ren:Go.Shelf.Ren:=⟨fun | 144=>112 | 143=>156 | 219=>215 | 217=>272 | 225=>273 | 224=>274 | 267=>275 | 266=>300 | 314=>301 | n=>n,fun | 9=>9 | 4=>4 | 3=>3 | 5=>5 | 46=>223 | 146=>288 | 51=>263 | n=>n,fun | 1=>0 | n=>n⟩
theorem Tryz.lays144:Go.Proofs.Lays.n144 Tryz.prog Tryz.lays144_ren:={
  mixed:=by kernel_rfl
  f143:=Tryz.func156.trans (congrArg some (by kernel_rfl))
  f144:=Tryz.func112.trans (congrArg some (by kernel_rfl))
  f217:=Tryz.func272.trans (congrArg some (by kernel_rfl))
  f219:=Tryz.func215.trans (congrArg some (by kernel_rfl))
  f224:=Tryz.func274.trans (congrArg some (by kernel_rfl))
  f225:=Tryz.func273.trans (congrArg some (by kernel_rfl))
  f266:=Tryz.func300.trans (congrArg some (by kernel_rfl))
  f267:=Tryz.func275.trans (congrArg some (by kernel_rfl))
  f314:=Tryz.func301.trans (congrArg some (by kernel_rfl))
  t3:=Tryz.underlying3
  a3:=Tryz.isAgg3
  z3:=Tryz.sizeOf3
  v3:=Tryz.zeroValue3
  t4:=Tryz.underlying4
  a4:=Tryz.isAgg4
  z4:=Tryz.sizeOf4
  v4:=Tryz.zeroValue4
  t5:=Tryz.underlying5
  a5:=Tryz.isAgg5
  z5:=Tryz.sizeOf5
  v5:=Tryz.zeroValue5
  t9:=Tryz.underlying9
  a9:=Tryz.isAgg9
  z9:=Tryz.sizeOf9
  v9:=Tryz.zeroValue9
  t46:=Tryz.underlying223
  a46:=Tryz.isAgg223
  z46:=Tryz.sizeOf223
  v46:=Tryz.zeroValue223
  t51:=Tryz.underlying263
  a51:=Tryz.isAgg263
  z51:=Tryz.sizeOf263
  v51:=Tryz.zeroValue263
  t146:=Tryz.underlying288
  a146:=Tryz.isAgg288
  z146:=Tryz.sizeOf288
  v146:=Tryz.zeroValue288
  g1:=by kernel_rfl }
open Go.RowKit Go.Lib in
theorem Tryz.strings_Contains_one (s:ByteArray) (c:UInt8) (w:World) :
    Calls Tryz.prog 112 #[.string s,.string ⟨#[c]⟩] w fun e w'=>e=.returned (.bool (decide (0≤Lib.indexByte s.data.toList c)))∧w'=w:=Any.strings_Contains_one Tryz.lays144 s c w
def Tryz.lays138_ren:Go.Shelf.Ren:=⟨fun | 138=>155 | 195=>212 | 218=>214 | 143=>156 | 219=>215 | 217=>272 | 225=>273 | 224=>274 | 267=>275 | 266=>300 | 314=>301 | n=>n,fun | 9=>9 | 3=>3 | 4=>4 | 5=>5 | 0=>0 | 46=>223 | 146=>288 | 51=>263 | n=>n,fun | 1=>0 | n=>n⟩
theorem Tryz.lays138:Go.Proofs.Lays.n138 Tryz.prog Tryz.lays138_ren:={
  mixed:=by kernel_rfl
  f138:=Tryz.func155.trans (congrArg some (by kernel_rfl))
  f143:=Tryz.func156.trans (congrArg some (by kernel_rfl))
  f195:=Tryz.func212.trans (congrArg some (by kernel_rfl))
  f217:=Tryz.func272.trans (congrArg some (by kernel_rfl))
  f218:=Tryz.func214.trans (congrArg some (by kernel_rfl))
  f219:=Tryz.func215.trans (congrArg some (by kernel_rfl))
  f224:=Tryz.func274.trans (congrArg some (by kernel_rfl))
  f225:=Tryz.func273.trans (congrArg some (by kernel_rfl))
  f266:=Tryz.func300.trans (congrArg some (by kernel_rfl))
  f267:=Tryz.func275.trans (congrArg some (by kernel_rfl))
  f314:=Tryz.func301.trans (congrArg some (by kernel_rfl))
  t0:=Tryz.underlying0
  a0:=Tryz.isAgg0
  z0:=Tryz.sizeOf0
  v0:=Tryz.zeroValue0
  t3:=Tryz.underlying3
  a3:=Tryz.isAgg3
  z3:=Tryz.sizeOf3
  v3:=Tryz.zeroValue3
  t4:=Tryz.underlying4
  a4:=Tryz.isAgg4
  z4:=Tryz.sizeOf4
  v4:=Tryz.zeroValue4
  t5:=Tryz.underlying5
  a5:=Tryz.isAgg5
  z5:=Tryz.sizeOf5
  v5:=Tryz.zeroValue5
  t9:=Tryz.underlying9
  a9:=Tryz.isAgg9
  z9:=Tryz.sizeOf9
  v9:=Tryz.zeroValue9
  t46:=Tryz.underlying223
  a46:=Tryz.isAgg223
  z46:=Tryz.sizeOf223
  v46:=Tryz.zeroValue223
  t51:=Tryz.underlying263
  a51:=Tryz.isAgg263
  z51:=Tryz.sizeOf263
  v51:=Tryz.zeroValue263
  t146:=Tryz.underlying288
  a146:=Tryz.isAgg288
  z146:=Tryz.sizeOf288
  v146:=Tryz.zeroValue288
  g1:=by kernel_rfl }
open Go.RowKit Go.Lib in
theorem Tryz.strings_Count_one (s:ByteArray) (c:UInt8) (w:World) :
    Calls Tryz.prog 155 #[.string s,.string ⟨#[c]⟩] w fun e w'=>e=.returned (.int .i64 (Lib.countByte s.data.toList c))∧w'=w:=Any.strings_Count_one Tryz.lays138 s c w
def Tryz.lays189_ren:Go.Shelf.Ren:=⟨fun | 189=>226 | 125=>210 | 257=>281 | 128=>268 | 129=>269 | 294=>305 | 295=>306 | 296=>307 | 297=>308 | 298=>309 | 299=>310 | 216=>311 | 300=>312 | 301=>313 | 328=>321 | 329=>295 | 330=>296 | 331=>322 | 332=>323 | 215=>299 | 343=>326 | n=>n,fun | 28=>73 | 3=>3 | 46=>223 | 0=>0 | 51=>263 | 53=>90 | 4=>4 | 183=>257 | 182=>256 | 131=>67 | 5=>5 | 9=>9 | 218=>278 | 222=>282 | 228=>303 | 229=>144 | n=>n,fun | n=>n⟩
theorem Tryz.lays189:Go.Proofs.Lays.n189 Tryz.prog Tryz.lays189_ren:={
  mixed:=by kernel_rfl
  f125:=Tryz.func210.trans (congrArg some (by kernel_rfl))
  f128:=Tryz.func268.trans (congrArg some (by kernel_rfl))
  f129:=Tryz.func269.trans (congrArg some (by kernel_rfl))
  f189:=Tryz.func226.trans (congrArg some (by kernel_rfl))
  f215:=Tryz.func299.trans (congrArg some (by kernel_rfl))
  f216:=Tryz.func311.trans (congrArg some (by kernel_rfl))
  f257:=Tryz.func281.trans (congrArg some (by kernel_rfl))
  f294:=Tryz.func305.trans (congrArg some (by kernel_rfl))
  f295:=Tryz.func306.trans (congrArg some (by kernel_rfl))
  f296:=Tryz.func307.trans (congrArg some (by kernel_rfl))
  f297:=Tryz.func308.trans (congrArg some (by kernel_rfl))
  f298:=Tryz.func309.trans (congrArg some (by kernel_rfl))
  f299:=Tryz.func310.trans (congrArg some (by kernel_rfl))
  f300:=Tryz.func312.trans (congrArg some (by kernel_rfl))
  f301:=Tryz.func313.trans (congrArg some (by kernel_rfl))
  f328:=Tryz.func321.trans (congrArg some (by kernel_rfl))
  f329:=Tryz.func295.trans (congrArg some (by kernel_rfl))
  f330:=Tryz.func296.trans (congrArg some (by kernel_rfl))
  f331:=Tryz.func322.trans (congrArg some (by kernel_rfl))
  f332:=Tryz.func323.trans (congrArg some (by kernel_rfl))
  f343:=Tryz.func326.trans (congrArg some (by kernel_rfl))
  t0:=Tryz.underlying0
  a0:=Tryz.isAgg0
  z0:=Tryz.sizeOf0
  v0:=Tryz.zeroValue0
  t3:=Tryz.underlying3
  a3:=Tryz.isAgg3
  z3:=Tryz.sizeOf3
  v3:=Tryz.zeroValue3
  t4:=Tryz.underlying4
  a4:=Tryz.isAgg4
  z4:=Tryz.sizeOf4
  v4:=Tryz.zeroValue4
  t5:=Tryz.underlying5
  a5:=Tryz.isAgg5
  z5:=Tryz.sizeOf5
  v5:=Tryz.zeroValue5
  t9:=Tryz.underlying9
  a9:=Tryz.isAgg9
  z9:=Tryz.sizeOf9
  v9:=Tryz.zeroValue9
  t28:=Tryz.underlying73
  a28:=Tryz.isAgg73
  z28:=Tryz.sizeOf73
  v28:=Tryz.zeroValue73
  t46:=Tryz.underlying223
  a46:=Tryz.isAgg223
  z46:=Tryz.sizeOf223
  v46:=Tryz.zeroValue223
  t51:=Tryz.underlying263
  a51:=Tryz.isAgg263
  z51:=Tryz.sizeOf263
  v51:=Tryz.zeroValue263
  t53:=Tryz.underlying90
  a53:=Tryz.isAgg90
  z53:=Tryz.sizeOf90
  v53:=Tryz.zeroValue90
  t131:=Tryz.underlying67
  a131:=Tryz.isAgg67
  z131:=Tryz.sizeOf67
  v131:=Tryz.zeroValue67
  t182:=Tryz.underlying256
  a182:=Tryz.isAgg256
  z182:=Tryz.sizeOf256
  v182:=Tryz.zeroValue256
  t183:=Tryz.underlying257
  a183:=Tryz.isAgg257
  z183:=Tryz.sizeOf257
  v183:=Tryz.zeroValue257
  t218:=Tryz.underlying278
  a218:=Tryz.isAgg278
  z218:=Tryz.sizeOf278
  v218:=Tryz.zeroValue278
  t222:=Tryz.underlying282
  a222:=Tryz.isAgg282
  z222:=Tryz.sizeOf282
  v222:=Tryz.zeroValue282
  t228:=Tryz.underlying303
  a228:=Tryz.isAgg303
  z228:=Tryz.sizeOf303
  v228:=Tryz.zeroValue303
  t229:=Tryz.underlying144
  a229:=Tryz.isAgg144
  z229:=Tryz.sizeOf144
  v229:=Tryz.zeroValue144 }
open Go.Sort Go.RowKit in
theorem Tryz.slices_Sort_int (blk off cap:Nat) (zs:List Int) (w:World) (hH:Holds (Value.int .i64) w blk off zs.toArray) (hblk:blk<w.heap.size) (hsz:zs.length<4611686018427387904) :
    Calls Tryz.prog 226 #[.slice (some ⟨blk,off,none⟩) zs.length cap] w fun e w'=>
      e=.returned (.tuple #[])∧∃ n os,w'=grow (putRow (Value.int .i64) (Sort.ahead w n) blk off (zs.mergeSort fun x y=>decide (x≤y)).toArray) os:=Any.slices_Sort_int Tryz.lays189 blk off cap zs w hH hblk hsz
def Tryz.lays146_ren:Go.Shelf.Ren:=⟨fun | 146=>53 | 221=>97 | 268=>154 | 138=>155 | 143=>156 | 195=>212 | 197=>213 | 218=>214 | 219=>215 | 260=>271 | 217=>272 | 225=>273 | 224=>274 | 267=>275 | 266=>300 | 314=>301 | n=>n,fun | 9=>9 | 31=>31 | 3=>3 | 4=>4 | 0=>0 | 105=>235 | 21=>21 | 5=>5 | 46=>223 | 119=>284 | 139=>287 | 138=>286 | 146=>288 | 51=>263 | n=>n,fun | 1=>0 | 3=>1 | 4=>2 | n=>n⟩
theorem Tryz.lays146:Go.Proofs.Lays.n146 Tryz.prog Tryz.lays146_ren:={
  mixed:=by kernel_rfl
  f138:=Tryz.func155.trans (congrArg some (by kernel_rfl))
  f143:=Tryz.func156.trans (congrArg some (by kernel_rfl))
  f146:=Tryz.func53.trans (congrArg some (by kernel_rfl))
  f195:=Tryz.func212.trans (congrArg some (by kernel_rfl))
  f197:=Tryz.func213.trans (congrArg some (by kernel_rfl))
  f217:=Tryz.func272.trans (congrArg some (by kernel_rfl))
  f218:=Tryz.func214.trans (congrArg some (by kernel_rfl))
  f219:=Tryz.func215.trans (congrArg some (by kernel_rfl))
  f221:=Tryz.func97.trans (congrArg some (by kernel_rfl))
  f224:=Tryz.func274.trans (congrArg some (by kernel_rfl))
  f225:=Tryz.func273.trans (congrArg some (by kernel_rfl))
  f260:=Tryz.func271.trans (congrArg some (by kernel_rfl))
  f266:=Tryz.func300.trans (congrArg some (by kernel_rfl))
  f267:=Tryz.func275.trans (congrArg some (by kernel_rfl))
  f268:=Tryz.func154.trans (congrArg some (by kernel_rfl))
  f314:=Tryz.func301.trans (congrArg some (by kernel_rfl))
  t0:=Tryz.underlying0
  a0:=Tryz.isAgg0
  z0:=Tryz.sizeOf0
  v0:=Tryz.zeroValue0
  t3:=Tryz.underlying3
  a3:=Tryz.isAgg3
  z3:=Tryz.sizeOf3
  v3:=Tryz.zeroValue3
  t4:=Tryz.underlying4
  a4:=Tryz.isAgg4
  z4:=Tryz.sizeOf4
  v4:=Tryz.zeroValue4
  t5:=Tryz.underlying5
  a5:=Tryz.isAgg5
  z5:=Tryz.sizeOf5
  v5:=Tryz.zeroValue5
  t9:=Tryz.underlying9
  a9:=Tryz.isAgg9
  z9:=Tryz.sizeOf9
  v9:=Tryz.zeroValue9
  t21:=Tryz.underlying21
  a21:=Tryz.isAgg21
  z21:=Tryz.sizeOf21
  v21:=Tryz.zeroValue21
  t31:=Tryz.underlying31
  a31:=Tryz.isAgg31
  z31:=Tryz.sizeOf31
  v31:=Tryz.zeroValue31
  t46:=Tryz.underlying223
  a46:=Tryz.isAgg223
  z46:=Tryz.sizeOf223
  v46:=Tryz.zeroValue223
  t51:=Tryz.underlying263
  a51:=Tryz.isAgg263
  z51:=Tryz.sizeOf263
  v51:=Tryz.zeroValue263
  t105:=Tryz.underlying235
  a105:=Tryz.isAgg235
  z105:=Tryz.sizeOf235
  v105:=Tryz.zeroValue235
  t119:=Tryz.underlying284
  a119:=Tryz.isAgg284
  z119:=Tryz.sizeOf284
  t138:=Tryz.underlying286
  a138:=Tryz.isAgg286
  z138:=Tryz.sizeOf286
  v138:=Tryz.zeroValue286
  t139:=Tryz.underlying287
  a139:=Tryz.isAgg287
  z139:=Tryz.sizeOf287
  v139:=Tryz.zeroValue287
  t146:=Tryz.underlying288
  a146:=Tryz.isAgg288
  z146:=Tryz.sizeOf288
  v146:=Tryz.zeroValue288
  g1:=by kernel_rfl
  g3:=by kernel_rfl
  g4:=by kernel_rfl }
def Tryz.laysNm220_ren:Go.Shelf.Ren:=⟨fun | 20=>227 | n=>n,fun | 22=>73 | 3=>3 | 4=>4 | 0=>0 | n=>n,fun | n=>n⟩
theorem Tryz.laysNm220:Go.Proofs.Lays2.n20 Tryz.prog Tryz.laysNm220_ren:={
  mixed:=by kernel_rfl
  f20:=Tryz.func227.trans (congrArg some (by kernel_rfl))
  t0:=Tryz.underlying0
  a0:=Tryz.isAgg0
  z0:=Tryz.sizeOf0
  v0:=Tryz.zeroValue0
  t3:=Tryz.underlying3
  a3:=Tryz.isAgg3
  z3:=Tryz.sizeOf3
  v3:=Tryz.zeroValue3
  t4:=Tryz.underlying4
  a4:=Tryz.isAgg4
  z4:=Tryz.sizeOf4
  v4:=Tryz.zeroValue4
  t22:=Tryz.underlying73
  a22:=Tryz.isAgg73
  z22:=Tryz.sizeOf73
  v22:=Tryz.zeroValue73
  i3:=by kernel_rfl }
open Go.RowKit Go.Lib Go.Sort in
theorem Tryz.slices_Compact_int (blk off cap:Nat) (zs:List Int) (w:World) (hH:Holds (Value.int .i64) w blk off zs.toArray) (hsz:zs.length≤9223372036854775807) (hcap:zs.length≤cap) :
    Calls Tryz.prog 227 #[.slice (some ⟨blk,off,none⟩) zs.length cap] w fun e w'=>e=.returned (.slice (some ⟨blk,off,none⟩) (Lib.compact zs).length cap)∧∃ q,w'=putRow (Value.int .i64) (Sort.ahead w q) blk off (Lib.compact zs++List.replicate (zs.length - (Lib.compact zs).length) 0).toArray:=Any.slices_Compact_int Tryz.laysNm220 blk off cap zs w hH hsz hcap
def Tryz.laysNm237_ren:Go.Shelf.Ren:=⟨fun | 37=>299 | n=>n,fun | 3=>3 | 4=>4 | n=>n,fun | n=>n⟩
theorem Tryz.laysNm237:Go.Proofs.Lays2.n37 Tryz.prog Tryz.laysNm237_ren:={
  mixed:=by kernel_rfl
  f37:=Tryz.func299.trans (congrArg some (by kernel_rfl))
  t3:=Tryz.underlying3
  a3:=Tryz.isAgg3
  z3:=Tryz.sizeOf3
  v3:=Tryz.zeroValue3
  t4:=Tryz.underlying4
  a4:=Tryz.isAgg4
  z4:=Tryz.sizeOf4
  v4:=Tryz.zeroValue4 }
open Go.RowKit Go.Lib in
theorem Tryz.cmp_isNaN_int2 (x:Int) (w:World) :
    Calls Tryz.prog 299 #[.int .i64 x] w fun e w'=>e=.returned (.bool false)∧w'=w:=Any.cmp_isNaN_int2 Tryz.laysNm237 x w
def Tryz.laysSlF6_f146_ren:Go.Shelf.Ren:=⟨fun | 6=>146 | 15=>210 | 14=>209 | 28=>268 | 29=>269 | 20=>260 | 21=>261 | 22=>262 | 23=>263 | 24=>264 | 25=>265 | 26=>266 | 27=>267 | 46=>294 | 47=>295 | 48=>296 | 49=>297 | 50=>298 | 57=>318 | n=>n,fun | 22=>118 | 24=>73 | 25=>184 | 3=>3 | 39=>223 | 0=>0 | 53=>263 | 55=>90 | 4=>4 | 46=>257 | 45=>256 | 50=>67 | 5=>5 | 9=>9 | 66=>278 | 70=>282 | 76=>303 | 77=>144 | n=>n,fun | n=>n⟩
theorem Tryz.laysSlF6_f146:Go.Proofs.SlLaysF.n6 Tryz.prog Tryz.laysSlF6_f146_ren:={
  mixed:=by kernel_rfl
  f6:=⟨Tryz.f146.name,by decide,Tryz.func146.trans (congrArg some (by kernel_rfl))⟩
  f14:=⟨Tryz.f209.name,by decide,Tryz.func209.trans (congrArg some (by kernel_rfl))⟩
  f15:=Tryz.func210.trans (congrArg some (by kernel_rfl))
  f20:=⟨Tryz.f260.name,by decide,Tryz.func260.trans (congrArg some (by kernel_rfl))⟩
  f21:=⟨Tryz.f261.name,by decide,Tryz.func261.trans (congrArg some (by kernel_rfl))⟩
  f22:=⟨Tryz.f262.name,by decide,Tryz.func262.trans (congrArg some (by kernel_rfl))⟩
  f23:=⟨Tryz.f263.name,by decide,Tryz.func263.trans (congrArg some (by kernel_rfl))⟩
  f24:=⟨Tryz.f264.name,by decide,Tryz.func264.trans (congrArg some (by kernel_rfl))⟩
  f25:=⟨Tryz.f265.name,by decide,Tryz.func265.trans (congrArg some (by kernel_rfl))⟩
  f26:=⟨Tryz.f266.name,by decide,Tryz.func266.trans (congrArg some (by kernel_rfl))⟩
  f27:=⟨Tryz.f267.name,by decide,Tryz.func267.trans (congrArg some (by kernel_rfl))⟩
  f28:=Tryz.func268.trans (congrArg some (by kernel_rfl))
  f29:=Tryz.func269.trans (congrArg some (by kernel_rfl))
  f46:=⟨Tryz.f294.name,by decide,Tryz.func294.trans (congrArg some (by kernel_rfl))⟩
  f47:=Tryz.func295.trans (congrArg some (by kernel_rfl))
  f48:=Tryz.func296.trans (congrArg some (by kernel_rfl))
  f49:=⟨Tryz.f297.name,by decide,Tryz.func297.trans (congrArg some (by kernel_rfl))⟩
  f50:=⟨Tryz.f298.name,by decide,Tryz.func298.trans (congrArg some (by kernel_rfl))⟩
  f57:=⟨Tryz.f318.name,by decide,Tryz.func318.trans (congrArg some (by kernel_rfl))⟩
  t0:=Tryz.underlying0
  a0:=Tryz.isAgg0
  z0:=Tryz.sizeOf0
  v0:=Tryz.zeroValue0
  t3:=Tryz.underlying3
  a3:=Tryz.isAgg3
  z3:=Tryz.sizeOf3
  v3:=Tryz.zeroValue3
  t4:=Tryz.underlying4
  a4:=Tryz.isAgg4
  z4:=Tryz.sizeOf4
  v4:=Tryz.zeroValue4
  t5:=Tryz.underlying5
  a5:=Tryz.isAgg5
  z5:=Tryz.sizeOf5
  v5:=Tryz.zeroValue5
  t9:=Tryz.underlying9
  a9:=Tryz.isAgg9
  z9:=Tryz.sizeOf9
  v9:=Tryz.zeroValue9
  t22:=Tryz.underlying118
  a22:=Tryz.isAgg118
  z22:=Tryz.sizeOf118
  v22:=Tryz.zeroValue118
  a24:=Tryz.isAgg73
  z24:=Tryz.sizeOf73
  t25:=Tryz.underlying184
  a25:=Tryz.isAgg184
  z25:=Tryz.sizeOf184
  v25:=Tryz.zeroValue184
  t39:=Tryz.underlying223
  a39:=Tryz.isAgg223
  z39:=Tryz.sizeOf223
  v39:=Tryz.zeroValue223
  t45:=Tryz.underlying256
  a45:=Tryz.isAgg256
  z45:=Tryz.sizeOf256
  v45:=Tryz.zeroValue256
  t46:=Tryz.underlying257
  a46:=Tryz.isAgg257
  z46:=Tryz.sizeOf257
  v46:=Tryz.zeroValue257
  t50:=Tryz.underlying67
  a50:=Tryz.isAgg67
  z50:=Tryz.sizeOf67
  v50:=Tryz.zeroValue67
  t53:=Tryz.underlying263
  a53:=Tryz.isAgg263
  z53:=Tryz.sizeOf263
  v53:=Tryz.zeroValue263
  t55:=Tryz.underlying90
  a55:=Tryz.isAgg90
  z55:=Tryz.sizeOf90
  v55:=Tryz.zeroValue90
  t66:=Tryz.underlying278
  a66:=Tryz.isAgg278
  z66:=Tryz.sizeOf278
  v66:=Tryz.zeroValue278
  t70:=Tryz.underlying282
  a70:=Tryz.isAgg282
  z70:=Tryz.sizeOf282
  v70:=Tryz.zeroValue282
  t76:=Tryz.underlying303
  a76:=Tryz.isAgg303
  z76:=Tryz.sizeOf303
  v76:=Tryz.zeroValue303
  t77:=Tryz.underlying144
  a77:=Tryz.isAgg144
  z77:=Tryz.sizeOf144
  v77:=Tryz.zeroValue144 }
open Go.RowKit Go.Lib Go.Sort in
theorem Tryz.slices_SortFunc_eq {α:Type} [Inhabited α] (enc:α→Value) (h1:OneCell enc) (cf:α→α→Int) (hO:SWO (ltOf cf)) (g:Nat) (cb:Array Value) (blk off cap:Nat) (d:Array α) (w:World) (eg:∀ args w,(callFunc g args).run Tryz.prog w=.ok (.enter g args) w) (hcmp:CmpLays1 Tryz.prog g cb enc cf blk off d.size w) (hH:Holds enc w blk off d) (hblk:blk<w.heap.size) (hsz:d.size<4611686018427387904) :
    Calls Tryz.prog 146 #[.slice (some ⟨blk,off,none⟩) d.size cap,.func (.func g) #[] cb] w fun e w'=>
      e=.returned (.tuple #[])∧∃ n os,w'=sortWorld enc w blk off n (pdq (ltOf cf) d 0 d.size (Lib.bitLen d.size) true true) os:=Any.slices_SortFunc_eq Tryz.laysSlF6_f146 enc h1 cf hO g cb blk off cap d w eg hcmp hH hblk hsz
end Go.Proofs.YtemcdiajejekoaaGreatDoor
namespace Go.Proofs.YtemcdiajejekoaaGreatDoor.Slim
open Go
set_option maxRecDepth 20000
abbrev Jd:FuncId:=8
abbrev KK:FuncId:=9
abbrev JP:FuncId:=11
abbrev XR:FuncId:=14
abbrev Xw:FuncId:=15
abbrev Y3:FuncId:=25
abbrev XS:FuncId:=26
abbrev Kj:FuncId:=28
abbrev Kk:FuncId:=29
abbrev ZfE:FuncId:=40
abbrev Jp:FuncId:=41
abbrev Zcq:FuncId:=42
abbrev ZbC:FuncId:=43
abbrev ZfF:FuncId:=46
abbrev ZkD:FuncId:=47
abbrev ZfG:FuncId:=48
abbrev ZkE:FuncId:=49
abbrev ZfH:FuncId:=50
abbrev Jq:FuncId:=51
abbrev Xx:FuncId:=52
abbrev Zap:FuncId:=53
abbrev Zhn:FuncId:=54
abbrev Zaq:FuncId:=55
abbrev Je:FuncId:=57
abbrev Zar:FuncId:=58
abbrev JQ:FuncId:=59
abbrev ZcZ:FuncId:=60
abbrev Xq:FuncId:=63
abbrev KL:FuncId:=64
abbrev QM:FuncId:=65
abbrev KM:FuncId:=66
abbrev ZfI:FuncId:=67
abbrev QN:FuncId:=68
abbrev Qw:FuncId:=69
abbrev Zad:FuncId:=70
abbrev ZbD:FuncId:=71
abbrev Zc8:FuncId:=80
abbrev Jr:FuncId:=81
abbrev Ym:FuncId:=82
abbrev Qx:FuncId:=83
abbrev Jf:FuncId:=84
abbrev YY:FuncId:=85
abbrev Qy:FuncId:=86
abbrev Kt:FuncId:=87
abbrev ZfJ:FuncId:=90
abbrev ZdR:FuncId:=91
abbrev ZfK:FuncId:=92
abbrev ZdS:FuncId:=93
abbrev Zbe:FuncId:=94
abbrev Zae:FuncId:=95
abbrev Zcr:FuncId:=96
abbrev Zas:FuncId:=98
abbrev Qz:FuncId:=99
abbrev ZeX:FuncId:=100
abbrev YN:FuncId:=101
abbrev YH:FuncId:=102
abbrev Yo:FuncId:=103
abbrev Yb:FuncId:=104
abbrev Zoc:FuncId:=105
abbrev JI:FuncId:=106
abbrev YT:FuncId:=107
abbrev Yn:FuncId:=108
abbrev ZeY:FuncId:=111
abbrev Yy:FuncId:=112
abbrev ZdT:FuncId:=113
abbrev Zip:FuncId:=114
abbrev KN:FuncId:=115
abbrev ZW:FuncId:=116
abbrev ZdU:FuncId:=117
abbrev XT:FuncId:=118
abbrev QA:FuncId:=119
abbrev Zcs:FuncId:=120
abbrev QO:FuncId:=121
abbrev J1:FuncId:=122
abbrev ZbV:FuncId:=123
abbrev ZdV:FuncId:=124
abbrev ZfL:FuncId:=125
abbrev ZfM:FuncId:=126
abbrev ZfN:FuncId:=127
abbrev ZfO:FuncId:=128
abbrev ZeZ:FuncId:=129
abbrev Zc9:FuncId:=130
abbrev Kl:FuncId:=131
abbrev YK:FuncId:=132
abbrev Zho:FuncId:=135
abbrev Zct:FuncId:=138
abbrev ZS:FuncId:=139
abbrev Zda:FuncId:=140
abbrev Ku:FuncId:=141
abbrev Xj:FuncId:=142
abbrev Yt:FuncId:=146
abbrev ZI:FuncId:=147
abbrev Ziq:FuncId:=148
abbrev ZfP:FuncId:=149
abbrev Zir:FuncId:=150
abbrev ZfQ:FuncId:=151
abbrev Zcu:FuncId:=152
abbrev ZbE:FuncId:=153
abbrev ZfR:FuncId:=157
abbrev Js:FuncId:=158
abbrev Zis:FuncId:=159
abbrev ZfS:FuncId:=160
abbrev ZbF:FuncId:=161
abbrev Xr:FuncId:=162
abbrev XI:FuncId:=163
abbrev Zcv:FuncId:=164
abbrev Zdb:FuncId:=165
abbrev Zat:FuncId:=166
abbrev ZfT:FuncId:=167
abbrev KO:FuncId:=168
abbrev XJ:FuncId:=169
abbrev Zbf:FuncId:=170
abbrev Yz:FuncId:=171
abbrev ZdW:FuncId:=172
abbrev ZdX:FuncId:=173
abbrev ZfU:FuncId:=174
abbrev ZdY:FuncId:=175
abbrev Zau:FuncId:=176
abbrev ZfV:FuncId:=177
abbrev JR:FuncId:=178
abbrev XU:FuncId:=179
abbrev ZfW:FuncId:=180
abbrev JJ:FuncId:=181
abbrev Zbg:FuncId:=182
abbrev ZdZ:FuncId:=183
abbrev Zbh:FuncId:=184
abbrev KP:FuncId:=185
abbrev ZfX:FuncId:=186
abbrev Xy:FuncId:=187
abbrev ZbG:FuncId:=188
abbrev Zit:FuncId:=189
abbrev Zav:FuncId:=190
abbrev Jg:FuncId:=191
abbrev Zd0:FuncId:=192
abbrev QB:FuncId:=193
abbrev Ziu:FuncId:=194
abbrev Ziv:FuncId:=195
abbrev JS:FuncId:=196
abbrev Ziw:FuncId:=197
abbrev Xg:FuncId:=198
abbrev Zix:FuncId:=199
abbrev ZfY:FuncId:=200
abbrev Zc0:FuncId:=201
abbrev Zdc:FuncId:=202
abbrev Z0:FuncId:=205
abbrev ZeK:FuncId:=211
abbrev Yu:FuncId:=215
abbrev Jh:FuncId:=216
abbrev Zaw:FuncId:=217
abbrev Ze0:FuncId:=218
abbrev ZO:FuncId:=221
abbrev ZK:FuncId:=222
abbrev Zbi:FuncId:=223
abbrev XV:FuncId:=224
abbrev Zax:FuncId:=225
abbrev XC:FuncId:=226
abbrev YU:FuncId:=227
abbrev YA:FuncId:=228
abbrev Xk:FuncId:=229
abbrev Zcw:FuncId:=230
abbrev Zdd:FuncId:=231
abbrev Zaf:FuncId:=232
abbrev Zay:FuncId:=233
abbrev Zaz:FuncId:=234
abbrev Zd1:FuncId:=235
abbrev Zd2:FuncId:=236
abbrev Ziy:FuncId:=237
abbrev ZbW:FuncId:=238
abbrev YI:FuncId:=239
abbrev Zcx:FuncId:=240
abbrev ZbX:FuncId:=241
abbrev Zhp:FuncId:=242
abbrev Ziz:FuncId:=243
abbrev ZaA:FuncId:=244
abbrev Ze1:FuncId:=245
abbrev ZkF:FuncId:=246
abbrev Zbj:FuncId:=247
abbrev ZaB:FuncId:=248
abbrev Zd3:FuncId:=249
abbrev ZaC:FuncId:=250
abbrev Zcy:FuncId:=251
abbrev ZfZ:FuncId:=252
abbrev JT:FuncId:=253
abbrev ZkG:FuncId:=254
abbrev YL:FuncId:=255
abbrev Km:FuncId:=256
abbrev Zf0:FuncId:=282
abbrev Zf1:FuncId:=283
abbrev ZkH:FuncId:=284
abbrev QC:FuncId:=285
abbrev ZiA:FuncId:=286
abbrev Ze2:FuncId:=287
abbrev Zf2:FuncId:=288
abbrev Zd4:FuncId:=289
@[go_sem] def Qa (n:Nat):Y0:=⟨.mv (.t n),none⟩
@[go_sem] def Qb (n:Nat):Y0:=⟨.mv (.l n),none⟩
@[go_sem] def Qc:Y0:=⟨.mv (.c (.bool false)),none⟩
@[go_sem] def Qd:Y0:=⟨.mv (.c (.bool true)),none⟩
@[go_sem] def Qe (n:Int):Y0:=⟨.mv (.c (.int .i64 n)),none⟩
@[go_sem] def Qf (o:AO):Y0:=⟨o,none⟩
@[go_sem] def Qg (o:AO):DE:=⟨o,none,[]⟩
@[go_sem] def Qh (n:Int):X:=.c (.int .i64 n)
@[go_sem] def Qi:X:=.c (.bool false)
@[go_sem] def Qj:X:=.c (.bool true)
@[go_sem] def Ql (a:List Y0) (b:List (Nat×Nat)) (k:Zf):Zf:=.seq (.region a b) k
@[go_sem] def Qm (a:List DE) (b:List (Nat×Nat)) (k:Zf):Zf:=.seq (.draw a b) k
@[go_sem] def Qn (a n:Nat):Y0:=⟨.load false a (.l n),none⟩
@[go_sem] def Qo (a n:Nat):Y0:=⟨.fieldAddr a (.t n),none⟩
@[go_sem] def Qp (a n:Nat):Y0:=⟨.extract a (.l n),none⟩
@[go_sem] def Qq (a n m:Nat):Y0:=⟨.store a (.l n) (.l m),none⟩
@[go_sem] def Qr (a n:Nat):Y0:=⟨.load true a (.t n),none⟩
@[go_sem] def Qs (f:FuncId) (a:List X):Y0:=⟨.call (.c (.fn f [] [])) a,none⟩
@[go_sem] def Qt (f:FuncId) (a:List X):DE:=⟨.call (.c (.fn f [] [])) a,none,[]⟩
def YV:Zf :=
 (Ql [Qf (.box (.t 0)),Qc] [(2,0),(3,1)]
 (.seq (Ql [Qa 1,Qf (.lenStr (.l 0)),Qf (.bin 0 .gtr (.l 1) (Qh 1048576))] [(15,2)]
 (.cond (.t 15) (Ql [Qd] [(3,0)]
 .ret) .skip))
 (Ql [Qe 1048576] [(4,0)]
 (Ql [Qr 9 2,Qa 4,Qs KK [.l 0,.l 1],Qb 2] [(4,3)]
 (.seq (Ql [Qa 4,Qf (.bin 0 .lss (.l 0) (Qh 0))] [(16,1)]
 (.cond (.t 16) (Ql [Qd] [(3,0)]
 .ret) .skip))
 (Ql [Qr 9 2,Qs JP [.l 0],Qa 1,Qs XS [.l 1,.l 2],Qb 3,Qp 0 4,Qp 1 4,⟨.alloc [.slice none 0 0 none,.int .i64 (0),.int .i64 (0),.slice none 0 0 none,.int .i64 (0),.int .i64 (0),.str ⟨#[]⟩,.str ⟨#[]⟩,.int .i64 (0)],none⟩,Qq 9 7 5,Qb 6] [(5,7),(6,9)]
 (Ql [Qr 9 2,Qs JP [.l 0],⟨.alloc [.slice none 0 0 none,.int .i64 (0),.int .i64 (0),.slice none 0 0 none,.int .i64 (0),.int .i64 (0),.str ⟨#[]⟩,.str ⟨#[]⟩,.int .i64 (0)],none⟩,Qq 9 2 1] [(7,2)]
 (Ql [Qr 9 7,Qa 1,Qs Y3 [.l 0,.l 1],Qb 2,Qp 0 3,Qp 1 3,⟨.alloc [.slice none 0 0 none,.int .i64 (0),.int .i64 (0),.slice none 0 0 none,.int .i64 (0),.int .i64 (0),.str ⟨#[]⟩,.str ⟨#[]⟩,.int .i64 (0)],none⟩,Qq 9 6 4,Qb 5] [(8,6),(9,8)]
 (.seq (Ql [Qr 9 8,Qr 9 5,Qs XR [.l 0,.l 1],Qf (.un .not (.l 2)),Qb 3,⟨.mv (.t 9),some ((.l 4),false)⟩,⟨.mv (.t 6),some ((.l 4),false)⟩,⟨.bin 1 .neq (.l 5) (.l 6),some ((.l 4),false)⟩,Qf (.pick (.l 4) Qj (.l 7))] [(17,8)]
 (.cond (.t 17) (Ql [Qc] [(3,0)]
 .ret) .skip))
 (.seq (Qm [Qg (.load true 9 (.t 7)),Qg (.load true 9 (.t 2)),⟨.call (.c (.fn JP [] [])) [(.l 1)],none,[(0,Qr 9 7)]⟩,Qt XR [.l 0,.l 2],Qg (.un .not (.l 3))] [(18,4)]
 (.cond (.t 18) (Ql [Qc] [(3,0)]
 .ret) .skip))
 (Ql [Qe 1] [(10,0)]
 (Ql [Qr 9 7,Qa 10,Qs Xw [.l 0,.l 1],Qb 2] [(10,3)]
 (.seq (Ql [Qa 10,Qf (.bin 0 .lss (.l 0) (Qh 0)),Qb 1,⟨.load true 9 (.t 8),some ((.l 2),false)⟩,⟨.load true 9 (.t 5),some ((.l 2),false)⟩,⟨.call (.c (.fn XR [] [])) [(.l 3),(.l 4)],some ((.l 2),false)⟩,⟨.un .not (.l 5),some ((.l 2),false)⟩,Qf (.pick (.l 2) Qj (.l 6)),Qb 7,⟨.mv (.t 9),some ((.l 8),false)⟩,⟨.mv (.t 6),some ((.l 8),false)⟩,⟨.bin 1 .neq (.l 9) (.l 10),some ((.l 8),false)⟩,Qf (.pick (.l 8) Qj (.l 11))] [(19,12)]
 (.cond (.t 19) (Ql [Qc] [(3,0)]
 .ret) .skip))
 (Ql [Qe 1] [(11,0)]
 (Ql [Qr 9 8,Qa 11,Qs Xw [.l 0,.l 1],Qb 2] [(11,3)]
 (Ql [Qe 1] [(12,0)]
 (Ql [Qr 9 8,Qa 12,Qs Jq [.l 0,.l 1],Qb 2] [(12,3)]
 (.seq (Ql [Qa 12,Qf (.bin 0 .lss (.l 0) (Qh 0))] [(20,1)]
 (.cond (.t 20) (Ql [Qc] [(3,0)]
 .ret) .skip))
 (.seq (Ql [Qa 12,Qa 11,Qf (.bin 0 .neq (.l 0) (.l 1))] [(21,2)]
 (.cond (.t 21) (Ql [Qc] [(3,0)]
 .ret) .skip))
 (Ql [Qr 9 2,Qs JP [.l 0],Qa 1,Qs Y3 [.l 1,.l 2],Qb 3,Qp 0 4,Qp 1 4,⟨.alloc [.slice none 0 0 none,.int .i64 (0),.int .i64 (0),.slice none 0 0 none,.int .i64 (0),.int .i64 (0),.str ⟨#[]⟩,.str ⟨#[]⟩,.int .i64 (0)],none⟩,Qq 9 7 5,Qb 6] [(13,7),(14,9)]
 (.seq (Ql [Qr 9 13,Qr 9 5,Qs XR [.l 0,.l 1],Qf (.un .not (.l 2)),Qb 3,⟨.mv (.t 14),some ((.l 4),false)⟩,⟨.mv (.t 6),some ((.l 4),false)⟩,⟨.bin 1 .neq (.l 5) (.l 6),some ((.l 4),false)⟩,Qf (.pick (.l 4) Qj (.l 7))] [(22,8)]
 (.cond (.t 22) (Ql [Qc] [(3,0)]
 .ret) .skip))
 (Ql [Qe 1] [(12,0)]
 (Ql [Qr 9 8,Qa 12,Qs Jq [.l 0,.l 1],Qb 2] [(12,3)]
 (.seq (Ql [Qa 12,Qf (.bin 0 .lss (.l 0) (Qh 0))] [(23,1)]
 (.cond (.t 23) (Ql [Qc] [(3,0)]
 .ret) .skip))
 (.seq (Ql [Qa 12,Qa 11,Qf (.bin 0 .neq (.l 0) (.l 1))] [(24,2)]
 (.cond (.t 24) (Ql [Qc] [(3,0)]
 .ret) .skip))
 (Ql [Qd] [(3,0)]
 .ret))))))))))))))))))))))))))
def ZX:ZH:=⟨[0,1,2,4,5,6,7,8,9,10,11,12,13,14,15,18,23,47,52,68,76,79,95,100,103],104,YV,[.tmp 3],1⟩
def Zcz:Zf :=
 (Ql [Qf (.box (.t 0)),Qe 0] [(2,0),(3,1)]
 (Ql [Qo 0 2,Qf (.load true 6 (.l 0)),Qa 1,Qs ZfF [.l 1,.l 2],Qb 3] [(1,4)]
 (.seq (Ql [Qa 1,Qf (.bin 0 .lss (.l 0) (Qh 0))] [(4,1)]
 (.cond (.t 4) (Ql [Qe (-1)] [(3,0)]
 .ret) .skip))
 (Ql [Qo 6 2,Qf (.load true 3 (.l 0)),Qa 1,Qs ZkD [.l 1,.l 2],Qb 3] [(1,4)]
 (.seq (Ql [Qa 1,Qf (.bin 0 .lss (.l 0) (Qh 0))] [(5,1)]
 (.cond (.t 5) (Ql [Qe (-1)] [(3,0)]
 .ret) .skip))
 (Ql [Qa 1,Qb 0] [(3,1)]
 .ret))))))
def KQ:ZH:=⟨[0,1,2,4,10,16],18,Zcz,[.tmp 3],1⟩
def ZkI:Zf :=
 (Ql [Qf (.box (.t 0)),⟨.alloc [.slice none 0 0 none,.int .i64 (0),.int .i64 (0),.slice none 0 0 none,.int .i64 (0),.int .i64 (0),.str ⟨#[]⟩,.str ⟨#[]⟩,.int .i64 (0)],none⟩] [(1,0),(2,1)]
 (Ql [⟨.alloc [.slice none 0 0 none,.int .i64 (0),.int .i64 (0),.slice none 0 0 none,.int .i64 (0),.int .i64 (0),.str ⟨#[]⟩,.str ⟨#[]⟩,.int .i64 (0)],none⟩] [(3,0)]
 (Ql [Qo 0 1,Qf (.load true 6 (.l 0)),Qs ZfG [.l 1],Qo 0 3,Qq 6 3 2] []
 (Ql [Qo 6 1,Qf (.load true 3 (.l 0)),Qs ZkE [.l 1],Qo 6 3,Qq 3 3 2] []
 (Ql [Qr 9 3,Qf (.store 9 (.t 2) (.l 0))] []
 .ret)))))
def ZcA:ZH:=⟨[0,1,2,3],13,ZkI,[.cell 2 true 9],2⟩
def ZkJ:Zf :=
 (Ql [Qf (.box (.t 0)),Qf (.box (.t 1)),Qc] [(2,0),(3,1),(4,2)]
 (.seq (Ql [Qo 0 2,Qf (.load true 6 (.l 0)),Qo 0 3,Qf (.load true 6 (.l 2)),Qs ZfH [.l 1,.l 3],Qf (.un .not (.l 4))] [(5,5)]
 (.cond (.t 5) (Ql [Qc] [(4,0)]
 .ret) .skip))
 (.seq (Ql [Qo 6 2,Qf (.load true 3 (.l 0)),Qo 6 3,Qf (.load true 3 (.l 2)),Qs Zhn [.l 1,.l 3],Qf (.un .not (.l 4))] [(6,5)]
 (.cond (.t 6) (Ql [Qc] [(4,0)]
 .ret) .skip))
 (Ql [Qd] [(4,0)]
 .ret))))
def ZcB:ZH:=⟨[0,1,2,3,4,10,16],17,ZkJ,[.tmp 4],1⟩
def Zhq:Zf :=
 (Ql [Qf (.box (.t 0)),Qe 0] [(2,0),(3,1)]
 (Ql [Qo 0 2,Qf (.load true 6 (.l 0)),Qa 1,Qs Zaq [.l 1,.l 2],Qb 3] [(1,4)]
 (Ql [Qa 1,Qb 0] [(3,1)]
 .ret)))
def ZaD:ZH:=⟨[0,1,2,4],10,Zhq,[.tmp 3],1⟩
def XW:Zf :=
 (Ql [Qf (.box (.t 0)),⟨.alloc [.slice none 0 0 none,.int .i64 (0),.int .i64 (0),.slice none 0 0 none,.int .i64 (0),.int .i64 (0),.str ⟨#[]⟩,.str ⟨#[]⟩,.int .i64 (0)],none⟩,⟨.mv (.c (.str ⟨#[]⟩)),none⟩] [(2,0),(3,1),(4,2)]
 (Qm [Qg (.fieldAddr 0 (.t 2)),Qg (.load true 6 (.l 0)),Qg (.fieldAddr 6 (.t 2)),Qg (.load true 3 (.l 2)),⟨.call (.c (.fn Zar [] [])) [(.l 1)],none,[(3,Qf (.load true 3 (.l 2)))]⟩,⟨.build [.slice none 0 0 none,.int .i64 (0),.int .i64 (0),.slice none 0 0 none,.int .i64 (0),.int .i64 (0),.str ⟨#[]⟩,.str ⟨#[]⟩,.int .i64 (0)] [(0,6,(.l 4)),(6,3,(.l 3))],none,[]⟩,⟨.alloc [.slice none 0 0 none,.int .i64 (0),.int .i64 (0),.slice none 0 0 none,.int .i64 (0),.int .i64 (0),.str ⟨#[]⟩,.str ⟨#[]⟩,.int .i64 (0)],none,[(1,Qf (.load true 6 (.l 0))),(3,Qf (.load true 3 (.l 2)))]⟩,Qg (.store 9 (.l 6) (.l 5))] [(5,6)]
 (.seq (.block 0 (Ql [Qr 9 2,Qs Kj [.l 0],Qf (.un .not (.l 1)),Qb 2] [(8,3)]
 (.cond (.t 8) (Ql [Qr 9 5,Qf (.store 9 (.t 3) (.l 0)),⟨.mv (.c (.str ⟨#[110,111]⟩)),none⟩] [(4,2)]
 .ret) (Ql [Qa 1,⟨.build [.str ⟨#[]⟩,.str ⟨#[]⟩] [(0,1,(.l 0))],none⟩,Qs Xq [.l 1],Qf (.un .not (.l 2)),Qb 3] [(9,4)]
 (.cond (.t 9) (Ql [Qr 9 5,Qf (.store 9 (.t 3) (.l 0)),⟨.mv (.c (.str ⟨#[98,97,100]⟩)),none⟩] [(4,2)]
 .ret) (Ql [Qo 6 2,Qf (.fieldAddr 2 (.l 0)),Qn 1 1,Qf (.bin 0 .eql (.l 2) (Qh 60)),Qb 3] [(10,4)]
 (.cond (.t 10) (Ql [Qr 9 5,Qf (.store 9 (.t 3) (.l 0)),⟨.mv (.c (.str ⟨#[102,117,108,108]⟩)),none⟩] [(4,2)]
 .ret) .skip)))))))
 (Ql [Qo 0 5,Qa 1,Qs KL [.l 0,.l 1],Qb 2,Qp 0 3,Qp 1 3,Qb 4,Qb 5] [(6,6),(7,7)]
 (.seq (Ql [Qa 7,Qf (.un .not (.l 0))] [(11,1)]
 (.cond (.t 11) (.region [⟨.mv (.c (.str ⟨#[63]⟩)),none⟩] [(6,0)]) .skip))
 (Ql [Qo 6 5,Qf (.load true 3 (.l 0)),Qa 1,Qa 6,⟨.build [.str ⟨#[]⟩,.str ⟨#[]⟩] [(0,1,(.l 2)),(1,1,(.l 3))],none⟩,Qs QM [.l 1,.l 4],Qb 5,Qp 0 6,Qp 1 6,Qo 6 5,Qq 3 9 7] []
 (Ql [Qr 9 5,Qa 6,Qf (.store 9 (.t 3) (.l 0)),Qb 1] [(4,3)]
 .ret)))))))
def YB:ZH:=⟨[0,1,2,4,5,6,7,8,15,20,26,39],52,XW,[.cell 3 true 9,.tmp 4],2⟩
def XX:Zf :=
 (Ql [Qf (.box (.t 0)),⟨.alloc [.slice none 0 0 none,.int .i64 (0),.int .i64 (0),.slice none 0 0 none,.int .i64 (0),.int .i64 (0),.str ⟨#[]⟩,.str ⟨#[]⟩,.int .i64 (0)],none⟩,⟨.mv (.c (.str ⟨#[]⟩)),none⟩] [(2,0),(3,1),(4,2)]
 (Qm [Qg (.fieldAddr 0 (.t 2)),Qg (.load true 6 (.l 0)),Qg (.fieldAddr 6 (.t 2)),Qg (.load true 3 (.l 2)),⟨.call (.c (.fn ZcZ [] [])) [(.l 1)],none,[(3,Qf (.load true 3 (.l 2)))]⟩,⟨.build [.slice none 0 0 none,.int .i64 (0),.int .i64 (0),.slice none 0 0 none,.int .i64 (0),.int .i64 (0),.str ⟨#[]⟩,.str ⟨#[]⟩,.int .i64 (0)] [(0,6,(.l 4)),(6,3,(.l 3))],none,[]⟩,⟨.alloc [.slice none 0 0 none,.int .i64 (0),.int .i64 (0),.slice none 0 0 none,.int .i64 (0),.int .i64 (0),.str ⟨#[]⟩,.str ⟨#[]⟩,.int .i64 (0)],none,[(1,Qf (.load true 6 (.l 0))),(3,Qf (.load true 3 (.l 2)))]⟩,Qg (.store 9 (.l 6) (.l 5))] [(5,6)]
 (.seq (Ql [Qr 9 2,Qs Kk [.l 0],Qf (.un .not (.l 1))] [(9,2)]
 (.cond (.t 9) (Ql [Qr 9 5,Qf (.store 9 (.t 3) (.l 0)),⟨.mv (.c (.str ⟨#[110,111]⟩)),none⟩] [(4,2)]
 .ret) .skip))
 (.seq (Ql [Qa 1,⟨.build [.str ⟨#[]⟩,.str ⟨#[]⟩] [(0,1,(.l 0))],none⟩,Qs KM [.l 1],Qf (.un .not (.l 2))] [(10,3)]
 (.cond (.t 10) (Ql [Qr 9 5,Qf (.store 9 (.t 3) (.l 0)),⟨.mv (.c (.str ⟨#[98,97,100]⟩)),none⟩] [(4,2)]
 .ret) .skip))
 (.seq (Ql [Qo 6 2,Qf (.fieldAddr 2 (.l 0)),Qn 1 1,Qf (.bin 0 .eql (.l 2) (Qh 60))] [(11,3)]
 (.cond (.t 11) (Ql [Qr 9 5,Qf (.store 9 (.t 3) (.l 0)),⟨.mv (.c (.str ⟨#[102,117,108,108]⟩)),none⟩] [(4,2)]
 .ret) .skip))
 (Ql [Qo 0 2,Qf (.load true 6 (.l 0)),Qa 1,Qs ZfI [.l 1,.l 2],Qb 3,Qp 0 4,Qp 1 4,Qf (.alloc [.slice none 0 0 none,.int .i64 (0),.int .i64 (0),.slice none 0 0 none,.int .i64 (0),.int .i64 (0)]),Qq 6 7 5,Qb 6] [(6,7),(7,9)]
 (Ql [Qo 6 2,Qf (.load true 3 (.l 0)),Qa 1,Qa 7,⟨.build [.str ⟨#[]⟩,.str ⟨#[]⟩] [(0,1,(.l 2)),(1,1,(.l 3))],none⟩,Qs QN [.l 1,.l 4],Qb 5,Qp 0 6,Qp 1 6,⟨.alloc [.str ⟨#[]⟩,.str ⟨#[]⟩,.int .i64 (0)],none⟩,Qq 3 9 7,Qb 8] [(8,9)]
 (Qm [Qg (.load true 6 (.t 6)),Qg (.load true 3 (.t 8)),Qg (.mv (.t 7)),⟨.call (.c (.fn ZcZ [] [])) [(.l 0)],none,[(1,Qr 3 8)]⟩,⟨.build [.slice none 0 0 none,.int .i64 (0),.int .i64 (0),.slice none 0 0 none,.int .i64 (0),.int .i64 (0),.str ⟨#[]⟩,.str ⟨#[]⟩,.int .i64 (0)] [(0,6,(.l 3)),(6,3,(.l 1))],none,[]⟩,Qg (.store 9 (.t 3) (.l 4)),Qg (.mv (.l 2))] [(4,6)]
 .ret))))))))
def YC:ZH:=⟨[0,1,2,4,5,6,7,8,9,19,24,29],52,XX,[.cell 3 true 9,.tmp 4],2⟩
def Zd5:Zf :=
 (Ql [Qf (.box (.t 0)),Qc] [(1,0),(2,1)]
 (Ql [Qo 0 1,Qf (.load true 6 (.l 0)),Qs Je [.l 1],Qb 2,⟨.fieldAddr 6 (.t 1),some ((.l 3),true)⟩,⟨.load true 3 (.l 4),some ((.l 3),true)⟩,⟨.call (.c (.fn Qw [] [])) [(.l 5)],some ((.l 3),true)⟩,Qf (.pick (.l 3) (.l 6) Qi),Qb 7] [(2,8)]
 .ret))
def Kn:ZH:=⟨[0,1,2],11,Zd5,[.tmp 2],1⟩
def Zd6:Zf :=
 (Ql [Qf (.box (.t 0)),Qc] [(1,0),(2,1)]
 (Ql [Qo 0 1,Qf (.load true 6 (.l 0)),Qs JQ [.l 1],Qb 2,⟨.fieldAddr 6 (.t 1),some ((.l 3),true)⟩,⟨.load true 3 (.l 4),some ((.l 3),true)⟩,⟨.call (.c (.fn Zad [] [])) [(.l 5)],some ((.l 3),true)⟩,Qf (.pick (.l 3) (.l 6) Qi),Qb 7] [(2,8)]
 .ret))
def Ko:ZH:=⟨[0,1,2],11,Zd6,[.tmp 2],1⟩
def Zf3:Zf :=
 (Ql [Qf (.bin 0 .lss (.t 9) (.t 8))] [(10,0)]
 (.seq (.cond (.t 10) .skip (.exit 0))
 (.seq (.block 1 (Ql [Qf (.indexAddrS 2 (.t 7) (.t 9)),Qf (.load true 2 (.l 0)),Qf (.alloc [.int .i64 (0),.int .i64 (0)]),Qq 2 2 1] [(4,2)]
 (.region [Qa 3,Qo 0 4,Qn 1 1,Qo 1 4,Qn 1 3,Qf (.buildSlice 1 2 [.int .i64 (0),.int .i64 (0)] [(0,1,(.l 2)),(1,1,(.l 4))]),⟨.call (.c (.fn Ym [] [])) [(.l 5),(.c (.str ⟨#[58]⟩))],none⟩,⟨.buildSlice 1 1 [.str ⟨#[]⟩] [(0,1,(.l 6))],none⟩,Qf (.append false 1 16 (.l 0) (.l 7)),Qb 8] [(3,9)])))
 (.region [Qf (.bin 0 .add (.t 9) (Qh 1)),Qb 0] [(9,1)]))))
def ZjO:Zf :=
 (Ql [⟨.mv (.c (.str ⟨#[]⟩)),none⟩,Qc] [(1,0),(2,1)]
 (.seq (Ql [Qa 0,Qs Jr [.l 0],Qf (.un .not (.l 1))] [(5,2)]
 (.cond (.t 5) (Ql [⟨.mv (.c (.str ⟨#[]⟩)),none⟩,Qc] [(1,0),(2,1)]
 .ret) .skip))
 (.seq (Ql [Qa 0,Qf (.len (.l 0)),Qf (.bin 0 .eql (.l 1) (Qh 0))] [(6,2)]
 (.cond (.t 6) (Ql [⟨.mv (.c (.str ⟨#[110,111,110,101]⟩)),none⟩,Qd] [(1,0),(2,1)]
 .ret) .skip))
 (Ql [Qf (.buildSlice 1 0 [] []),Qb 0] [(3,1)]
 (.seq (Ql [Qa 0,Qf (.len (.l 0)),Qe 0] [(7,0),(8,1),(9,2)]
 (.block 0 (.loop Zf3)))
 (Ql [Qa 3,⟨.call (.c (.fn Qx [] [])) [(.l 0),(.c (.str ⟨#[32]⟩))],none⟩,Qb 1,Qd] [(1,2),(2,3)]
 .ret))))))
def Zbk:ZH:=⟨[0,2,3,4,6,9,12,14,15,16,17],32,ZjO,[.tmp 1,.tmp 2],1⟩
def Zhr:Zf :=
 (Ql [Qe 0,Qc] [(2,0),(3,1)]
 (.seq (Ql [Qa 0,Qs Jr [.l 0],Qf (.un .not (.l 1)),Qb 2,⟨.mv (.t 1),some ((.l 3),false)⟩,⟨.call (.c (.fn Jf [] [])) [(.l 4)],some ((.l 3),false)⟩,⟨.un .not (.l 5),some ((.l 3),false)⟩,Qf (.pick (.l 3) Qj (.l 6))] [(4,7)]
 (.cond (.t 4) (Ql [Qe 0,Qc] [(2,0),(3,1)]
 .ret) .skip))
 (Ql [Qa 0,Qa 1,Qs YY [.l 0,.l 1],Qb 2,Qd] [(2,3),(3,4)]
 .ret)))
def ZaE:ZH:=⟨[0,1,4,5,13],17,Zhr,[.tmp 2,.tmp 3],1⟩
def Zf4:Zf :=
 (Ql [Qe 0,Qc] [(2,0),(3,1)]
 (.seq (Ql [Qa 0,Qs Jr [.l 0],Qf (.un .not (.l 1)),Qb 2,⟨.mv (.t 1),some ((.l 3),false)⟩,⟨.call (.c (.fn Jf [] [])) [(.l 4)],some ((.l 3),false)⟩,⟨.un .not (.l 5),some ((.l 3),false)⟩,Qf (.pick (.l 3) Qj (.l 6))] [(4,7)]
 (.cond (.t 4) (Ql [Qe 0,Qc] [(2,0),(3,1)]
 .ret) .skip))
 (Ql [Qa 0,Qa 1,Qs Qy [.l 0,.l 1],Qf (.len (.l 2)),Qb 3,Qd] [(2,4),(3,5)]
 .ret)))
def KR:ZH:=⟨[0,1,4,5,13],18,Zf4,[.tmp 2,.tmp 3],1⟩
def XK:Zf :=
 (Ql [Qf (.bin 0 .lss (.t 10) (.t 9))] [(11,0)]
 (.seq (.cond (.t 11) .skip (.exit 0))
 (.seq (.block 1 (Ql [Qf (.indexAddrS 1 (.t 8) (.t 10)),Qn 1 0,Qb 1] [(5,2)]
 (Ql [Qa 5,Qf (.len (.l 0)),Qf (.bin 0 .gtr (.l 1) (Qh 0)),Qb 2,⟨.mv (.t 5),some ((.l 3),true)⟩,⟨.len (.l 4),some ((.l 3),true)⟩,⟨.mv (.t 0),some ((.l 3),true)⟩,⟨.len (.l 6),some ((.l 3),true)⟩,⟨.bin 0 .lss (.l 5) (.l 7),some ((.l 3),true)⟩,Qf (.pick (.l 3) (.l 8) Qi),Qb 9,⟨.mv (.t 5),some ((.l 10),true)⟩,⟨.indexAddrS 1 (.l 11) (Qh 0),some ((.l 10),true)⟩,⟨.load false 1 (.l 12),some ((.l 10),true)⟩,⟨.bin 0 .eql (.l 13) (Qh 0),some ((.l 10),true)⟩,Qf (.pick (.l 10) (.l 14) Qi)] [(12,15)]
 (.cond (.t 12) (Ql [Qa 5,Qb 0,Qd] [(1,1),(2,2)]
 .ret) .skip))))
 (.region [Qf (.bin 0 .add (.t 10) (Qh 1)),Qb 0] [(10,1)]))))
def ZbH:Zf :=
 (Ql [Qf (.mv (.c (.slice none 0 0 none))),Qc] [(1,0),(2,1)]
 (.seq (Ql [Qa 0,Qs Jr [.l 0],Qf (.un .not (.l 1)),Qb 2,⟨.mv (.t 0),some ((.l 3),false)⟩,⟨.len (.l 4),some ((.l 3),false)⟩,⟨.bin 0 .lss (.l 5) (Qh 2),some ((.l 3),false)⟩,Qf (.pick (.l 3) Qj (.l 6))] [(6,7)]
 (.cond (.t 6) (Ql [Qf (.mv (.c (.slice none 0 0 none))),Qc] [(1,0),(2,1)]
 .ret) .skip))
 (Ql [Qa 0,Qs YY [.l 0,Qh 0],Qa 0,Qs Kt [.l 2],Qb 1,Qb 3] [(3,4),(4,5)]
 (.seq (Ql [Qa 3,Qa 4,Qf (.bin 0 .rem (.l 0) (.l 1)),Qf (.bin 0 .neq (.l 2) (Qh 0))] [(7,3)]
 (.cond (.t 7) (Ql [Qf (.mv (.c (.slice none 0 0 none))),Qc] [(1,0),(2,1)]
 .ret) .skip))
 (.seq (Ql [Qa 0,Qa 3,Qa 4,Qf (.bin 0 .quo (.l 1) (.l 2)),Qs Qy [.l 0,.l 3],Qf (.len (.l 4)),Qe 0] [(8,4),(9,5),(10,6)]
 (.block 0 (.loop XK)))
 (Ql [Qf (.mv (.c (.slice none 0 0 none))),Qc] [(1,0),(2,1)]
 .ret))))))
def Xl:ZH:=⟨[0,2,3,4,5,7,15,23,28,29,30,31,49],52,ZbH,[.tmp 1,.tmp 2],2⟩
def Zf5:Zf :=
 (Ql [Qf (.box (.t 0)),Qe 0] [(2,0),(3,1)]
 (Ql [Qo 0 2,Qn 1 0,Qa 1,Qs ZfJ [.l 1,.l 2],Qb 3] [(1,4)]
 (.seq (Ql [Qa 1,Qf (.bin 0 .lss (.l 0) (Qh 0))] [(4,1)]
 (.cond (.t 4) (Ql [Qe (-1)] [(3,0)]
 .ret) .skip))
 (Ql [Qo 3 2,Qn 1 0,Qa 1,Qs ZdR [.l 1,.l 2],Qb 3] [(1,4)]
 (.seq (Ql [Qa 1,Qf (.bin 0 .lss (.l 0) (Qh 0))] [(5,1)]
 (.cond (.t 5) (Ql [Qe (-1)] [(3,0)]
 .ret) .skip))
 (Ql [Qa 1,Qb 0] [(3,1)]
 .ret))))))
def Zbl:ZH:=⟨[0,1,2,4,10,16],18,Zf5,[.tmp 3],1⟩
def ZkK:Zf :=
 (Ql [Qf (.box (.t 0)),Qe 0] [(2,0),(3,1)]
 (Ql [Qa 1,Qo 0 2,Qn 1 1,Qf (.lenStr (.l 2)),Qf (.bin 0 .sub (.l 0) (.l 3)),Qb 4] [(1,5)]
 (.seq (Ql [Qa 1,Qf (.bin 0 .lss (.l 0) (Qh 0))] [(4,1)]
 (.cond (.t 4) (Ql [Qe (-1)] [(3,0)]
 .ret) .skip))
 (Ql [Qa 1,Qo 1 2,Qn 1 1,Qf (.lenStr (.l 2)),Qf (.bin 0 .sub (.l 0) (.l 3)),Qb 4] [(1,5)]
 (.seq (Ql [Qa 1,Qf (.bin 0 .lss (.l 0) (Qh 0))] [(5,1)]
 (.cond (.t 5) (Ql [Qe (-1)] [(3,0)]
 .ret) .skip))
 (Ql [Qa 1,Qb 0] [(3,1)]
 .ret))))))
def Ze3:ZH:=⟨[0,1,2,4,11,18],20,ZkK,[.tmp 3],1⟩
def ZoT:Zf :=
 (Ql [Qf (.box (.t 0)),Qf (.alloc [.slice none 0 0 none,.int .i64 (0),.int .i64 (0),.slice none 0 0 none,.int .i64 (0),.int .i64 (0)])] [(1,0),(2,1)]
 (Ql [Qf (.alloc [.slice none 0 0 none,.int .i64 (0),.int .i64 (0),.slice none 0 0 none,.int .i64 (0),.int .i64 (0)])] [(3,0)]
 (Ql [Qo 0 1,Qn 1 0,Qs ZfK [.l 1],Qo 0 3,Qq 1 3 2] []
 (Ql [Qo 1 1,Qn 1 0,Qo 1 3,Qq 1 2 1] []
 (Ql [Qo 2 1,Qn 1 0,Qo 2 3,Qq 1 2 1] []
 (Ql [Qo 3 1,Qn 1 0,Qs ZdS [.l 1],Qo 3 3,Qq 1 3 2] []
 (Ql [Qo 4 1,Qn 1 0,Qo 4 3,Qq 1 2 1] []
 (Ql [Qo 5 1,Qn 1 0,Qo 5 3,Qq 1 2 1] []
 (Ql [Qr 6 3,Qf (.store 6 (.t 2) (.l 0))] []
 .ret)))))))))
def Zf6:ZH:=⟨[0,1,2,3],25,ZoT,[.cell 2 true 6],2⟩
def Zu5:Zf :=
 (Ql [Qf (.box (.t 0)),⟨.alloc [.str ⟨#[]⟩,.str ⟨#[]⟩,.int .i64 (0)],none⟩] [(1,0),(2,1)]
 (Ql [⟨.alloc [.str ⟨#[]⟩,.str ⟨#[]⟩,.int .i64 (0)],none⟩] [(3,0)]
 (Ql [Qo 0 1,Qn 1 0,Qo 0 3,Qq 1 2 1] []
 (Ql [Qo 1 1,Qn 1 0,Qo 1 3,Qq 1 2 1] []
 (Ql [Qo 2 1,Qn 1 0,Qo 2 3,Qq 1 2 1] []
 (Ql [Qr 3 3,Qf (.store 3 (.t 2) (.l 0))] []
 .ret))))))
def ZkL:ZH:=⟨[0,1,2,3],14,Zu5,[.cell 2 true 3],1⟩
def ZoU:Zf :=
 (Ql [Qf (.box (.t 0)),Qf (.box (.t 1)),Qc] [(2,0),(3,1),(4,2)]
 (.seq (Ql [Qo 0 2,Qn 1 0,Qo 0 3,Qn 1 2,Qs Zbe [.l 1,.l 3],Qf (.un .not (.l 4))] [(5,5)]
 (.cond (.t 5) (Ql [Qc] [(4,0)]
 .ret) .skip))
 (.seq (Ql [Qo 1 2,Qn 1 0,Qo 1 3,Qn 1 2,Qf (.bin 0 .neq (.l 1) (.l 3))] [(6,4)]
 (.cond (.t 6) (Ql [Qc] [(4,0)]
 .ret) .skip))
 (.seq (Ql [Qo 2 2,Qn 1 0,Qo 2 3,Qn 1 2,Qf (.bin 0 .neq (.l 1) (.l 3))] [(7,4)]
 (.cond (.t 7) (Ql [Qc] [(4,0)]
 .ret) .skip))
 (.seq (Ql [Qo 3 2,Qn 1 0,Qo 3 3,Qn 1 2,Qs Zae [.l 1,.l 3],Qf (.un .not (.l 4))] [(8,5)]
 (.cond (.t 8) (Ql [Qc] [(4,0)]
 .ret) .skip))
 (.seq (Ql [Qo 4 2,Qn 1 0,Qo 4 3,Qn 1 2,Qf (.bin 0 .neq (.l 1) (.l 3))] [(9,4)]
 (.cond (.t 9) (Ql [Qc] [(4,0)]
 .ret) .skip))
 (.seq (Ql [Qo 5 2,Qn 1 0,Qo 5 3,Qn 1 2,Qf (.bin 0 .neq (.l 1) (.l 3))] [(10,4)]
 (.cond (.t 10) (Ql [Qc] [(4,0)]
 .ret) .skip))
 (Ql [Qd] [(4,0)]
 .ret))))))))
def Zf7:ZH:=⟨[0,1,2,3,4,10,15,20,26,31,36],37,ZoU,[.tmp 4],1⟩
def Zhs:Zf :=
 (Ql [Qf (.box (.t 0)),Qe 0] [(2,0),(3,1)]
 (Ql [Qo 0 2,Qf (.load true 6 (.l 0)),Qa 1,Qs Zcr [.l 1,.l 2],Qb 3] [(1,4)]
 (.seq (Ql [Qa 1,Qf (.bin 0 .lss (.l 0) (Qh 0))] [(4,1)]
 (.cond (.t 4) (Ql [Qe (-1)] [(3,0)]
 .ret) .skip))
 (Ql [Qa 1,Qb 0] [(3,1)]
 .ret))))
def ZaF:ZH:=⟨[0,1,2,4,10],12,Zhs,[.tmp 3],1⟩
def ZcC:Zf :=
 (.seq (Ql [Qa 5,Qa 0,Qf (.lenStr (.l 1)),Qf (.bin 0 .lss (.l 0) (.l 2))] [(6,3)]
 (.cond (.t 6) .skip (.exit 0)))
 (.seq (.block 1 (Ql [Qa 0,Qa 5,Qf (.indexS (.l 0) (.l 1)),Qa 1,Qf (.bin 0 .eql (.l 2) (.l 3))] [(7,4)]
 (.cond (.t 7) (Ql [Qa 3,Qa 0,Qa 4,Qa 5,Qf (.sliceStr (.l 1) (some (.l 2)) (some (.l 3))),⟨.buildSlice 1 1 [.str ⟨#[]⟩] [(0,1,(.l 4))],none⟩,Qf (.append false 1 16 (.l 0) (.l 5)),Qb 6] [(3,7)]
 (.region [Qa 5,Qf (.bin 0 .add (.l 0) (Qh 1)),Qb 1] [(4,2)])) .skip)))
 (.region [Qa 5,Qf (.bin 0 .add (.l 0) (Qh 1)),Qb 1] [(5,2)])))
def ZoV:Zf :=
 (Ql [Qf (.mv (.c (.slice none 0 0 none)))] [(2,0)]
 (Ql [Qf (.buildSlice 1 0 [] []),Qb 0] [(3,1)]
 (Ql [Qe 0] [(4,0)]
 (.seq (Ql [Qe 0] [(5,0)]
 (.block 0 (.loop ZcC)))
 (Ql [Qa 3,Qa 0,Qa 4,Qf (.sliceStr (.l 1) (some (.l 2)) none),⟨.buildSlice 1 1 [.str ⟨#[]⟩] [(0,1,(.l 3))],none⟩,Qf (.append false 1 16 (.l 0) (.l 4)),Qb 5] [(2,6)]
 .ret)))))
def Zf8:ZH:=⟨[0,1,4,5,6,7,12,19],35,ZoV,[.tmp 2],2⟩
def Zht:Zf :=
 (Ql [Qf (.box (.t 0)),Qf (.box (.t 1)),Qc] [(2,0),(3,1),(4,2)]
 (.seq (Ql [Qo 0 2,Qn 1 0,Qo 0 3,Qn 1 2,Qf (.bin 1 .neq (.l 1) (.l 3))] [(5,4)]
 (.cond (.t 5) (Ql [Qc] [(4,0)]
 .ret) .skip))
 (.seq (Ql [Qo 1 2,Qn 1 0,Qo 1 3,Qn 1 2,Qf (.bin 1 .neq (.l 1) (.l 3))] [(6,4)]
 (.cond (.t 6) (Ql [Qc] [(4,0)]
 .ret) .skip))
 (.seq (Ql [Qo 2 2,Qn 1 0,Qo 2 3,Qn 1 2,Qf (.bin 0 .neq (.l 1) (.l 3))] [(7,4)]
 (.cond (.t 7) (Ql [Qc] [(4,0)]
 .ret) .skip))
 (Ql [Qd] [(4,0)]
 .ret)))))
def Zde:ZH:=⟨[0,1,2,3,4,9,14,19],20,Zht,[.tmp 4],1⟩
def ZkM:Zf :=
 (Ql [Qf (.box (.t 0)),Qe 0] [(2,0),(3,1)]
 (Ql [Qo 0 2,Qn 1 0,Qa 1,Qs Zas [.l 1,.l 2],Qb 3] [(1,4)]
 (Ql [Qo 3 2,Qn 1 0,Qa 1,Qs Qz [.l 1,.l 2],Qb 3] [(1,4)]
 (Ql [Qa 1,Qb 0] [(3,1)]
 .ret))))
def ZcD:ZH:=⟨[0,1,2,4],14,ZkM,[.tmp 3],1⟩
def Zbm:Zf :=
 (Ql [Qf (.box (.t 0)),Qc] [(1,0),(2,1)]
 (Ql [Qo 0 1,Qn 1 0,Qs Jr [.l 1],Qb 2,⟨.fieldAddr 1 (.t 1),some ((.l 3),true)⟩,⟨.load false 1 (.l 4),some ((.l 3),true)⟩,⟨.fieldAddr 2 (.t 1),some ((.l 3),true)⟩,⟨.load false 1 (.l 6),some ((.l 3),true)⟩,⟨.call (.c (.fn ZeX [] [])) [(.l 5),(.l 7)],some ((.l 3),true)⟩,Qf (.pick (.l 3) (.l 8) Qi),Qb 9,⟨.fieldAddr 3 (.t 1),some ((.l 10),true)⟩,⟨.load false 1 (.l 11),some ((.l 10),true)⟩,⟨.call (.c (.fn YN [] [])) [(.l 12)],some ((.l 10),true)⟩,Qf (.pick (.l 10) (.l 13) Qi),Qb 14,⟨.fieldAddr 5 (.t 1),some ((.l 15),true)⟩,⟨.load false 1 (.l 16),some ((.l 15),true)⟩,⟨.call (.c (.fn YH [] [])) [(.l 17),(Qh 0),(Qh 1000)],some ((.l 15),true)⟩,Qf (.pick (.l 15) (.l 18) Qi),Qb 19,⟨.fieldAddr 4 (.t 1),some ((.l 20),true)⟩,⟨.load false 1 (.l 21),some ((.l 20),true)⟩,⟨.fieldAddr 5 (.t 1),some ((.l 20),true)⟩,⟨.load false 1 (.l 23),some ((.l 20),true)⟩,⟨.call (.c (.fn YH [] [])) [(.l 22),(Qh 0),(.l 24)],some ((.l 20),true)⟩,Qf (.pick (.l 20) (.l 25) Qi),Qb 26] [(2,27)]
 .ret))
def Kv:ZH:=⟨[0,1,2],30,Zbm,[.tmp 2],1⟩
def ZkN:Zf :=
 (Ql [Qf (.box (.t 0)),Qf (.alloc [.slice none 0 0 none,.int .i64 (0),.int .i64 (0),.slice none 0 0 none,.int .i64 (0),.int .i64 (0)])] [(1,0),(2,1)]
 (Qm [Qg (.fieldAddr 0 (.t 1)),Qg (.load false 1 (.l 0)),Qg (.fieldAddr 3 (.t 1)),Qg (.load false 1 (.l 2)),⟨.call (.c (.fn Yo [] [])) [(.l 1)],none,[(3,Qn 1 2)]⟩,Qg (.fieldAddr 0 (.t 1)),Qt Yb [.l 3],Qg (.store 1 (.l 5) (.l 4)),Qg (.fieldAddr 3 (.t 1)),Qg (.store 1 (.l 8) (.l 6))] []
 (Ql [Qr 6 1,Qf (.store 6 (.t 2) (.l 0))] []
 .ret)))
def ZcE:ZH:=⟨[0,1,2],12,ZkN,[.cell 2 true 6],2⟩
def Zdf:Zf :=
 (Ql [Qf (.box (.t 0)),Qc] [(1,0),(2,1)]
 (.seq (Ql [Qo 0 1,Qn 1 0,Qo 1 1,Qn 1 2,Qo 2 1,Qn 1 4,Qs Zoc [.l 1,.l 3,.l 5],Qf (.un .not (.l 6)),Qb 7,⟨.fieldAddr 3 (.t 1),some ((.l 8),false)⟩,⟨.load false 1 (.l 9),some ((.l 8),false)⟩,⟨.call (.c (.fn JI [] [])) [(.l 10),(Qh 5)],some ((.l 8),false)⟩,⟨.un .not (.l 11),some ((.l 8),false)⟩,Qf (.pick (.l 8) Qj (.l 12))] [(3,13)]
 (.cond (.t 3) (Ql [Qc] [(2,0)]
 .ret) .skip))
 (Ql [Qo 5 1,Qn 1 0,Qs YT [.l 1,Qh 0,Qh 1000],Qb 2,⟨.fieldAddr 4 (.t 1),some ((.l 3),true)⟩,⟨.load false 1 (.l 4),some ((.l 3),true)⟩,⟨.fieldAddr 5 (.t 1),some ((.l 3),true)⟩,⟨.load false 1 (.l 6),some ((.l 3),true)⟩,⟨.call (.c (.fn YT [] [])) [(.l 5),(Qh 0),(.l 7)],some ((.l 3),true)⟩,Qf (.pick (.l 3) (.l 8) Qi),Qb 9] [(2,10)]
 .ret)))
def QV:ZH:=⟨[0,1,2,16],27,Zdf,[.tmp 2],1⟩
def ZrU:Zf :=
 (Ql [Qf (.box (.t 0)),Qf (.alloc [.slice none 0 0 none,.int .i64 (0),.int .i64 (0),.slice none 0 0 none,.int .i64 (0),.int .i64 (0)])] [(1,0),(2,1)]
 (Ql [Qr 6 1,Qf (.alloc [.slice none 0 0 none,.int .i64 (0),.int .i64 (0),.slice none 0 0 none,.int .i64 (0),.int .i64 (0)]),Qq 6 1 0] [(3,1)]
 (Ql [Qf (.buildSlice 2 0 [] []),Qo 0 1,Qn 1 1,Qf (.append false 2 16 (.l 0) (.l 2)),Qo 0 3,Qq 1 4 3] []
 (Ql [Qf (.buildSlice 3 0 [] []),Qo 3 1,Qn 1 1,Qf (.append false 3 24 (.l 0) (.l 2)),Qo 3 3,Qq 1 4 3] []
 (Ql [Qr 6 3,Qf (.store 6 (.t 2) (.l 0))] []
 .ret)))))
def ZiB:ZH:=⟨[0,1,2,3],16,ZrU,[.cell 2 true 6],2⟩
def Xs:Zf :=
 (Ql [Qf (.box (.t 0)),Qc] [(1,0),(2,1)]
 (Ql [Qo 0 1,Qn 1 0,Qf (.lenStr (.l 1)),Qs YH [.l 2,Qh 1,Qh 160],Qb 3,⟨.fieldAddr 1 (.t 1),some ((.l 4),true)⟩,⟨.load false 1 (.l 5),some ((.l 4),true)⟩,⟨.lenStr (.l 6),some ((.l 4),true)⟩,⟨.bin 0 .leq (.l 7) (Qh 250),some ((.l 4),true)⟩,Qf (.pick (.l 4) (.l 8) Qi),Qb 9,⟨.fieldAddr 0 (.t 1),some ((.l 10),true)⟩,⟨.load false 1 (.l 11),some ((.l 10),true)⟩,⟨.call (.c (.fn ZeY [] [])) [(.l 12)],some ((.l 10),true)⟩,Qf (.pick (.l 10) (.l 13) Qi),Qb 14,⟨.fieldAddr 1 (.t 1),some ((.l 15),true)⟩,⟨.load false 1 (.l 16),some ((.l 15),true)⟩,⟨.call (.c (.fn ZeY [] [])) [(.l 17)],some ((.l 15),true)⟩,Qf (.pick (.l 15) (.l 18) Qi),Qb 19,⟨.fieldAddr 0 (.t 1),some ((.l 20),true)⟩,⟨.load false 1 (.l 21),some ((.l 20),true)⟩,⟨.call (.c (.fn Yy [] [])) [(.l 22),(.c (.str ⟨#[64]⟩))],some ((.l 20),true)⟩,⟨.un .not (.l 23),some ((.l 20),true)⟩,Qf (.pick (.l 20) (.l 24) Qi),Qb 25] [(2,26)]
 .ret))
def Yq:ZH:=⟨[0,1,2],29,Xs,[.tmp 2],1⟩
def ZE:Zf :=
 (Ql [Qf (.bin 0 .lss (.t 14) (.t 13))] [(15,0)]
 (.seq (.cond (.t 15) .skip (.exit 0))
 (.seq (.block 1 (Ql [Qf (.indexAddrS 1 (.t 12) (.t 14)),Qn 1 0,Qb 1] [(7,2)]
 (Ql [Qa 7,Qs ZdT [.l 0],Qb 1,Qp 0 2,Qp 1 2,Qb 3,Qb 4] [(8,5),(9,6)]
 (.seq (Ql [Qa 9,Qf (.un .not (.l 0))] [(16,1)]
 (.cond (.t 16) (Ql [⟨.mv (.c (.str ⟨#[]⟩)),none⟩,Qc] [(2,0),(3,1)]
 .ret) .skip))
 (.region [Qa 6,Qa 8,Qf (.buildSlice 1 1 [.int .i64 (0)] [(0,1,(.l 1))]),Qf (.append false 1 8 (.l 0) (.l 2)),Qb 3] [(6,4)])))))
 (.region [Qf (.bin 0 .add (.t 14) (Qh 1)),Qb 0] [(14,1)]))))
def Ze4:Zf :=
 (Ql [⟨.mv (.c (.str ⟨#[]⟩)),none⟩,Qc] [(2,0),(3,1)]
 (Ql [Qa 1,⟨.call (.c (.fn Zap [] [])) [(.l 0),(.c (.str ⟨#[32]⟩))],none⟩,Qb 1] [(4,2)]
 (Ql [Qa 4,Qf (.indexAddrS 1 (.l 0) (Qh 0)),Qn 1 1,Qf (.buildSlice 1 0 [] []),Qb 2,Qb 3] [(5,4),(6,5)]
 (.seq (Ql [Qa 4,Qf (.sliceSl 1 (.l 0) (some (Qh 1)) none none),Qf (.len (.l 1)),Qe 0] [(12,1),(13,2),(14,3)]
 (.block 0 (.loop ZE)))
 (Ql [Qa 5,Qs Zip [.l 0],Qb 1,Qp 0 2,Qp 1 2,Qb 3,Qb 4] [(10,5),(11,6)]
 (.seq (.block 2 (Ql [Qa 10,Qf (.bin 0 .gtr (.l 0) (Qh 0)),Qb 1] [(17,2)]
 (.cond (.t 17) (.seq (Ql [Qa 6,Qf (.len (.l 0)),Qa 11,Qf (.bin 0 .neq (.l 1) (.l 2))] [(18,3)]
 (.cond (.t 18) (Ql [⟨.mv (.c (.str ⟨#[]⟩)),none⟩,Qc] [(2,0),(3,1)]
 .ret) .skip))
 (Ql [Qa 0,Qa 10,Qa 6,Qs KN [.l 0,.l 1,.l 2],Qp 0 3,Qp 1 3,Qb 4,Qb 5] [(2,6),(3,7)]
 .ret)) (Ql [Qa 5,⟨.bin 1 .eql (.l 0) (.c (.str ⟨#[119,101,105,103,104]⟩)),none⟩,Qb 1] [(19,2)]
 (.cond (.t 19) (Ql [Qa 6,Qs ZdU [.l 0,Qj],Qp 0 1,Qp 1 1,Qs ZW [.l 2,.l 3],Qp 0 4,Qp 1 4,Qb 5,Qb 6] [(2,7),(3,8)]
 .ret) (Ql [Qa 5,⟨.bin 1 .eql (.l 0) (.c (.str ⟨#[104,111,119]⟩)),none⟩,Qb 1,⟨.mv (.t 6),some ((.l 2),true)⟩,⟨.len (.l 3),some ((.l 2),true)⟩,⟨.bin 0 .geq (.l 4) (Qh 2),some ((.l 2),true)⟩,Qf (.pick (.l 2) (.l 5) Qi),Qb 6] [(20,7)]
 (.cond (.t 20) (Qm [Qg (.mv (.t 6)),Qg (.sliceSl 1 (.l 0) (some (Qh 1)) none none),Qg (.mv (.t 6)),Qg (.indexAddrS 1 (.l 2) (Qh 0)),Qg (.load false 1 (.l 3)),Qt QA [.l 1,.l 4],Qg (.extract 0 (.l 5)),Qg (.extract 1 (.l 5)),Qt XT [.l 6,.l 7],Qg (.extract 0 (.l 8)),Qg (.extract 1 (.l 8)),Qg (.mv (.l 9)),Qg (.mv (.l 10))] [(2,11),(3,12)]
 .ret) (Ql [Qa 6,Qf (.len (.l 0)),Qf (.bin 0 .eql (.l 1) (Qh 0)),Qb 2] [(21,3)]
 (.cond (.t 21) (Ql [Qa 0,Qa 5,Qs Zcs [.l 0,.l 1],Qp 0 2,Qp 1 2,Qb 3,Qb 4] [(2,5),(3,6)]
 .ret) (Ql [Qa 6,Qf (.len (.l 0)),Qf (.bin 0 .eql (.l 1) (Qh 1)),Qb 2] [(22,3)]
 (.cond (.t 22) (Ql [Qa 0,Qa 5,Qa 6,Qf (.indexAddrS 1 (.l 2) (Qh 0)),Qn 1 3,Qs QO [.l 0,.l 1,.l 4],Qp 0 5,Qp 1 5,Qb 6,Qb 7] [(2,8),(3,9)]
 .ret) .skip)))))))))))
 (Ql [⟨.mv (.c (.str ⟨#[]⟩)),none⟩,Qc] [(2,0),(3,1)]
 .ret)))))))
def Zn:ZH:=⟨[0,1,4,5,6,7,8,10,11,12,13,14,22,23,24,25,34,45,51,58,68,87,96],108,Ze4,[.tmp 2,.tmp 3],0⟩
def J2:Zf :=
 (Ql [Qf (.box (.t 0)),Qf (.box (.t 1)),⟨.alloc [.str ⟨#[]⟩,.str ⟨#[]⟩,.int .i64 (0)],none⟩,Qe 0] [(2,0),(3,1),(4,2),(5,3)]
 (.seq (.block 0 (Ql [Qr 3 2,Qs Qw [.l 0],Qf (.un .not (.l 1)),Qb 2,⟨.load true 2 (.t 3),some ((.l 3),false)⟩,⟨.call (.c (.fn Xq [] [])) [(.l 4)],some ((.l 3),false)⟩,⟨.un .not (.l 5),some ((.l 3),false)⟩,Qf (.pick (.l 3) Qj (.l 6)),Qb 7] [(7,8)]
 (.cond (.t 7) (Ql [Qr 3 2,Qf (.store 3 (.t 4) (.l 0)),Qe 1] [(5,2)]
 .ret) (Ql [Qo 2 2,Qn 1 0,Qf (.bin 0 .eql (.l 1) (Qh 60)),Qb 2] [(8,3)]
 (.cond (.t 8) (Ql [Qr 3 2,Qf (.store 3 (.t 4) (.l 0)),Qe 2] [(5,2)]
 .ret) .skip)))))
 (Ql [Qo 2 2,Qn 1 0,Qr 2 3,Qs J1 [.l 1,.l 2],Qb 3,Qp 0 4,Qp 1 4,Qb 5,Qb 6] [(6,7)]
 (Ql [Qo 0 2,Qn 1 0,Qo 1 2,Qn 1 2,Qa 6,Qf (.bin 1 .add (.l 3) (.l 4)),Qo 2 2,Qn 1 6,Qf (.bin 0 .add (.l 7) (Qh 1)),⟨.build [.str ⟨#[]⟩,.str ⟨#[]⟩,.int .i64 (0)] [(0,1,(.l 1)),(1,1,(.l 5)),(2,1,(.l 8))],none⟩,Qf (.store 3 (.t 4) (.l 9)),Qe 0] [(5,11)]
 .ret))))
def Y6:ZH:=⟨[0,1,2,3,4,5,6,8,18],40,J2,[.cell 4 true 3,.tmp 5],1⟩
def KS:Zf :=
 (Ql [Qf (.box (.t 0)),Qc] [(1,0),(2,1)]
 (Ql [Qo 0 1,Qn 1 0,⟨.bin 1 .neq (.l 1) (.c (.str ⟨#[]⟩)),none⟩,Qb 2,⟨.fieldAddr 0 (.t 1),some ((.l 3),true)⟩,⟨.load false 1 (.l 4),some ((.l 3),true)⟩,⟨.call (.c (.fn ZbV [] [])) [(.l 5),(Qh 160)],some ((.l 3),true)⟩,Qf (.pick (.l 3) (.l 6) Qi),Qb 7,⟨.fieldAddr 0 (.t 1),some ((.l 8),true)⟩,⟨.load false 1 (.l 9),some ((.l 8),true)⟩,⟨.call (.c (.fn ZdV [] [])) [(.l 10),(.c (.int .u8 (64)))],some ((.l 8),true)⟩,⟨.un .not (.l 11),some ((.l 8),true)⟩,Qf (.pick (.l 8) (.l 12) Qi),Qb 13,⟨.fieldAddr 1 (.t 1),some ((.l 14),true)⟩,⟨.load false 1 (.l 15),some ((.l 14),true)⟩,⟨.call (.c (.fn ZbV [] [])) [(.l 16),(Qh 250)],some ((.l 14),true)⟩,Qf (.pick (.l 14) (.l 17) Qi),Qb 18] [(2,19)]
 .ret))
def XY:ZH:=⟨[0,1,2],22,KS,[.tmp 2],1⟩
def ZjP:Zf :=
 (Ql [Qf (.box (.t 0)),Qf (.alloc [.slice none 0 0 none,.int .i64 (0),.int .i64 (0),.slice none 0 0 none,.int .i64 (0),.int .i64 (0)]),⟨.mv (.c (.str ⟨#[]⟩)),none⟩] [(2,0),(3,1),(4,2)]
 (Ql [Qa 1,Qs Xx [.l 0,(.c (.int .u8 (32)))],Qb 1] [(5,2)]
 (.seq (Ql [Qa 5,Qf (.len (.l 0)),Qf (.bin 0 .eql (.l 1) (Qh 1))] [(9,2)]
 (.cond (.t 9) (Qm [Qg (.load true 6 (.t 2)),Qg (.load true 6 (.t 2)),Qg (.mv (.t 1)),⟨.call (.c (.fn ZfL [] [])) [(.l 1),(.l 2)],none,[(0,Qr 6 2)]⟩,Qg (.store 6 (.t 3) (.l 0)),Qg (.mv (.l 3))] [(4,5)]
 .ret) .skip))
 (Ql [Qa 5,Qs ZfM [.l 0],Qb 1,Qp 0 2,Qp 1 2,Qb 3,Qb 4] [(6,5),(7,6)]
 (.seq (Ql [Qa 7,Qf (.un .not (.l 0))] [(10,1)]
 (.cond (.t 10) (Ql [Qr 6 2,Qf (.store 6 (.t 3) (.l 0)),⟨.mv (.c (.str ⟨#[63]⟩)),none⟩] [(4,2)]
 .ret) .skip))
 (.seq (Ql [Qa 5,Qf (.indexAddrS 1 (.l 0) (Qh 0)),Qn 1 1,Qa 6,Qs ZfN [.l 2,.l 3],Qf (.alloc [.int .i64 (0),.int .i64 (0),.int .i64 (0),.int .i64 (0)]),Qq 4 5 4] [(8,5)]
 (Ql [Qo 0 8,Qn 1 0,Qf (.bin 0 .gtr (.l 1) (Qh 0))] [(11,2)]
 (.cond (.t 11) (Ql [Qr 6 2,Qr 4 8,Qs ZfO [.l 0,.l 1],Qp 0 2,Qp 1 2,Qf (.store 6 (.t 3) (.l 3)),Qb 4] [(4,6)]
 .ret) .skip)))
 (Qm [Qg (.load true 6 (.t 2)),Qg (.load true 6 (.t 2)),Qg (.mv (.t 5)),Qg (.indexAddrS 1 (.l 2) (Qh 0)),Qg (.load false 1 (.l 3)),Qg (.mv (.t 6)),⟨.call (.c (.fn ZeZ [] [])) [(.l 1),(.l 4),(.l 5)],none,[(0,Qr 6 2)]⟩,Qg (.store 6 (.t 3) (.l 0)),Qg (.mv (.l 6))] [(4,8)]
 .ret)))))))
def Zdg:ZH:=⟨[0,1,2,4,5,6,7,8,9,14,25,34],47,ZjP,[.cell 3 true 6,.tmp 4],2⟩
def J3:Zf :=
 (Ql [Qf (.box (.t 0)),Qf (.box (.t 1)),⟨.alloc [.str ⟨#[]⟩,.str ⟨#[]⟩,.int .i64 (0)],none⟩,Qe 0] [(2,0),(3,1),(4,2),(5,3)]
 (.seq (Ql [Qr 3 2,Qs Zad [.l 0],Qf (.un .not (.l 1)),Qb 2,⟨.load true 2 (.t 3),some ((.l 3),false)⟩,⟨.call (.c (.fn KM [] [])) [(.l 4)],some ((.l 3),false)⟩,⟨.un .not (.l 5),some ((.l 3),false)⟩,Qf (.pick (.l 3) Qj (.l 6))] [(6,7)]
 (.cond (.t 6) (Ql [Qr 3 2,Qf (.store 3 (.t 4) (.l 0)),Qe 1] [(5,2)]
 .ret) .skip))
 (.seq (Ql [Qo 2 2,Qn 1 0,Qf (.bin 0 .eql (.l 1) (Qh 60))] [(7,2)]
 (.cond (.t 7) (Ql [Qr 3 2,Qf (.store 3 (.t 4) (.l 0)),Qe 2] [(5,2)]
 .ret) .skip))
 (Qm [Qg (.fieldAddr 1 (.t 2)),Qg (.load false 1 (.l 0)),Qg (.fieldAddr 2 (.t 2)),Qg (.load false 1 (.l 2)),Qg (.load true 2 (.t 3)),⟨.call (.c (.fn Zc9 [] [])) [(.l 3),(.l 4)],none,[(1,Qn 1 0)]⟩,Qg (.bin 1 .add (.l 1) (.l 5)),Qg (.fieldAddr 1 (.t 2)),Qg (.store 1 (.l 7) (.l 6))] []
 (Ql [Qo 2 2,Qn 1 0,Qf (.bin 0 .add (.l 1) (Qh 1)),Qo 2 2,Qq 1 3 2] []
 (Ql [Qr 3 2,Qf (.store 3 (.t 4) (.l 0)),Qe 0] [(5,2)]
 .ret))))))
def Y7:ZH:=⟨[0,1,2,3,4,5,13,17],32,J3,[.cell 4 true 3,.tmp 5],1⟩
def ZeL:Zf :=
 (Ql [Qf (.box (.t 0)),Qc] [(1,0),(2,1)]
 (Ql [Qr 3 1,Qs ZbD [.l 0],Qb 1,Qp 0 2,Qp 1 2,Qb 3,Qb 4] [(3,6)]
 (Ql [Qa 3,Qb 0] [(2,1)]
 .ret)))
def QD:ZH:=⟨[0,1,2,4],11,ZeL,[.tmp 2],1⟩
def ZbY:Zf :=
 (Ql [Qf (.box (.t 0)),Qc] [(1,0),(2,1)]
 (.seq (Ql [Qo 0 1,Qn 1 0,Qf (.lenStr (.l 1)),Qo 1 1,Qn 1 3,Qf (.lenStr (.l 4)),Qf (.bin 0 .add (.l 2) (.l 5)),Qf (.bin 0 .gtr (.l 6) (Qh 30000))] [(6,7)]
 (.cond (.t 6) (Ql [Qc] [(2,0)]
 .ret) .skip))
 (Ql [Qo 0 1,Qn 1 0,Qo 1 1,Qn 1 2,Qf (.bin 1 .add (.l 1) (.l 3)),Qs Zc8 [.l 4],Qb 5,Qp 0 6,Qp 1 6,Qb 7,Qb 8] [(3,9),(4,10)]
 (Ql [Qo 0 1,Qn 1 0,Qs Zc8 [.l 1],Qb 2,Qp 0 3,Qp 1 3,Qb 4,Qb 5] [(5,7)]
 (Ql [Qa 4,Qo 0 1,Qn 1 1,Qf (.lenStr (.l 2)),Qo 1 1,Qn 1 4,Qf (.lenStr (.l 5)),Qf (.bin 0 .add (.l 3) (.l 6)),Qf (.bin 0 .eql (.l 0) (.l 7)),Qb 8,⟨.mv (.t 5),some ((.l 9),true)⟩,⟨.fieldAddr 0 (.t 1),some ((.l 9),true)⟩,⟨.load false 1 (.l 11),some ((.l 9),true)⟩,⟨.lenStr (.l 12),some ((.l 9),true)⟩,⟨.bin 0 .eql (.l 10) (.l 13),some ((.l 9),true)⟩,Qf (.pick (.l 9) (.l 14) Qi),Qb 15,⟨.mv (.t 3),some ((.l 16),true)⟩,⟨.len (.l 17),some ((.l 16),true)⟩,⟨.fieldAddr 2 (.t 1),some ((.l 16),true)⟩,⟨.load false 1 (.l 19),some ((.l 16),true)⟩,⟨.bin 0 .eql (.l 18) (.l 20),some ((.l 16),true)⟩,Qf (.pick (.l 16) (.l 21) Qi),Qb 22] [(2,23)]
 .ret)))))
def Kw:ZH:=⟨[0,1,2,3,4,6,14],53,ZbY,[.tmp 2],1⟩
def QE:Zf :=
 (Ql [Qf (.box (.t 0)),Qf (.mv (.c (.slice none 0 0 none))),Qc] [(1,0),(2,1),(3,2)]
 (Ql [Qo 0 1,Qn 1 0,Qo 1 1,Qn 1 2,Qf (.bin 1 .add (.l 1) (.l 3)),Qb 4] [(4,5)]
 (.seq (Ql [Qa 4,Qf (.lenStr (.l 0)),Qf (.bin 0 .gtr (.l 1) (Qh 30000))] [(7,2)]
 (.cond (.t 7) (Ql [Qf (.mv (.c (.slice none 0 0 none))),Qc] [(2,0),(3,1)]
 .ret) .skip))
 (Ql [Qa 4,Qs Kl [.l 0],Qb 1,Qp 0 2,Qp 1 2,Qb 3,Qb 4] [(5,5),(6,6)]
 (Ql [Qf (.buildSlice 1 1 [.int .i64 (0)] [(0,1,(Qh 0))]),Qa 6,Qf (.append false 1 8 (.l 0) (.l 1)),Qb 2] [(6,3)]
 (Qm [Qg (.mv (.t 5)),Qg (.mv (.t 6)),Qg (.mv (.t 6)),Qg (.len (.l 2)),Qg (.bin 0 .sub (.l 3) (Qh 1)),Qg (.indexAddrS 1 (.l 1) (.l 4)),Qg (.load false 1 (.l 5)),Qg (.mv (.t 4)),Qg (.lenStr (.l 7)),Qg (.bin 0 .eql (.l 6) (.l 8)),Qg (.mv (.l 9)),⟨.mv (.t 6),some ((.l 10),true),[]⟩,⟨.fieldAddr 0 (.t 1),some ((.l 10),true),[]⟩,⟨.load false 1 (.l 12),some ((.l 10),true),[]⟩,⟨.lenStr (.l 13),some ((.l 10),true),[]⟩,⟨.call (.c (.fn YK [] [])) [(.l 11),(.l 14)],some ((.l 10),true),[]⟩,Qg (.pick (.l 10) (.l 15) Qi),Qg (.mv (.l 16)),⟨.fieldAddr 2 (.t 1),some ((.l 17),true),[]⟩,⟨.load false 1 (.l 18),some ((.l 17),true),[]⟩,⟨.mv (.t 5),some ((.l 17),true),[]⟩,⟨.len (.l 20),some ((.l 17),true),[]⟩,⟨.bin 0 .eql (.l 19) (.l 21),some ((.l 17),true),[]⟩,Qg (.pick (.l 17) (.l 22) Qi),Qg (.mv (.l 0)),Qg (.mv (.l 23))] [(2,24),(3,25)]
 .ret))))))
def Ji:ZH:=⟨[0,1,2,3,4,5,6,14],47,QE,[.tmp 2,.tmp 3],2⟩
def KT:Zf :=
 (.seq (Ql [Qa 4,Qa 0,Qf (.lenStr (.l 1)),Qf (.bin 0 .lss (.l 0) (.l 2)),Qb 3,⟨.mv (.t 3),some ((.l 4),true)⟩,⟨.len (.l 5),some ((.l 4),true)⟩,⟨.bin 0 .lss (.l 6) (Qh 60),some ((.l 4),true)⟩,Qf (.pick (.l 4) (.l 7) Qi)] [(8,8)]
 (.cond (.t 8) .skip (.exit 0)))
 (.block 1 (Ql [Qa 0,Qa 4,Qf (.sliceStr (.l 0) (some (.l 1)) none),Qs Xx [.l 2,(.c (.int .u8 (10)))],Qb 3] [(5,4)]
 (Ql [Qa 5,Qf (.indexAddrS 1 (.l 0) (Qh 0)),Qn 1 1,Qa 3,Qf (.len (.l 3)),Qs Zct [.l 2,.l 4],Qb 5,Qp 0 6,Qp 1 6,⟨.alloc [.str ⟨#[]⟩,.str ⟨#[]⟩],none⟩,Qq 2 9 7,Qb 8] [(6,9),(7,11)]
 (.seq (Ql [Qa 5,Qf (.len (.l 0)),Qf (.bin 0 .lss (.l 1) (Qh 2)),Qb 2,⟨.mv (.t 7),some ((.l 3),false)⟩,⟨.un .not (.l 4),some ((.l 3),false)⟩,Qf (.pick (.l 3) Qj (.l 5))] [(9,6)]
 (.cond (.t 9) (.exit 0) .skip))
 (Ql [Qa 3,Qr 2 6,⟨.buildSlice 2 1 [.str ⟨#[]⟩,.str ⟨#[]⟩] [(0,2,(.l 1))],none⟩,Qf (.append false 2 32 (.l 0) (.l 2)),Qb 3] [(3,4)]
 (.region [Qa 4,Qa 5,Qf (.indexAddrS 1 (.l 1) (Qh 0)),Qn 1 2,Qf (.lenStr (.l 3)),Qf (.bin 0 .add (.l 0) (.l 4)),Qf (.bin 0 .add (.l 5) (Qh 1)),Qb 6] [(4,7)])))))))
def ZoW:Zf :=
 (Ql [Qf (.mv (.c (.slice none 0 0 none))),Qe 0] [(1,0),(2,1)]
 (Ql [Qf (.buildSlice 2 0 [] []),Qb 0] [(3,1)]
 (Ql [Qe 0] [(4,0)]
 (.seq (.block 0 (.loop KT))
 (Ql [Qa 3,Qa 4,Qb 0,Qb 1] [(1,2),(2,3)]
 .ret)))))
def Kx:ZH:=⟨[0,2,3,4,5,6,7,8,18,38],52,ZoW,[.tmp 1,.tmp 2],2⟩
def ZoX:Zf :=
 (Ql [Qc] [(1,0)]
 (.seq (Ql [Qa 0,Qf (.len (.l 0)),Qf (.bin 0 .gtr (.l 1) (Qh 12))] [(2,2)]
 (.cond (.t 2) (Ql [Qc] [(1,0)]
 .ret) .skip))
 (Ql [Qa 0,Qf (.call (.c (.fn ZS [] [])) [(.l 0),(.c (.fn Zda [] []))]),Qf (.un .not (.l 1)),Qb 2] [(1,3)]
 .ret)))
def Zhu:ZH:=⟨[0,2,5],9,ZoX,[.tmp 1],1⟩
def Zbn:Zf :=
 (Ql [Qf (.bin 0 .lss (.t 7) (.t 6))] [(8,0)]
 (.seq (.cond (.t 8) .skip (.exit 0))
 (.seq (.block 1 (Ql [Qf (.indexAddrS 1 (.t 5) (.t 7)),Qn 1 0,Qb 1] [(4,2)]
 (.region [Qa 3,Qa 4,Qs Xj [.l 1],⟨.buildSlice 1 1 [.str ⟨#[]⟩] [(0,1,(.l 2))],none⟩,Qf (.append false 1 16 (.l 0) (.l 3)),Qb 4] [(3,5)])))
 (.region [Qf (.bin 0 .add (.t 7) (Qh 1)),Qb 0] [(7,1)]))))
def Zhv:Zf :=
 (Ql [⟨.mv (.c (.str ⟨#[]⟩)),none⟩] [(2,0)]
 (Ql [Qf (.buildSlice 1 0 [] []),Qb 0] [(3,1)]
 (.seq (Ql [Qa 0,Qf (.len (.l 0)),Qe 0] [(5,0),(6,1),(7,2)]
 (.block 0 (.loop Zbn)))
 (Ql [Qa 3,Qa 1,Qs Qx [.l 0,.l 1],Qb 2] [(2,3)]
 .ret))))
def Ky:ZH:=⟨[0,1,4,5,7,9,10,11,12],24,Zhv,[.tmp 2],1⟩
def ZoY:Zf :=
 (Ql [Qc] [(1,0)]
 (Ql [Qa 0,Qs YH [.l 0,Qh 0,Qh 60],Qb 1] [(1,2)]
 .ret))
def Zf9:ZH:=⟨[0,2],5,ZoY,[.tmp 1],1⟩
def Xt:Zf :=
 (Ql [Qf (.bin 0 .lss (.t 7) (.t 6))] [(8,0)]
 (.seq (.cond (.t 8) .skip (.exit 0))
 (.seq (.block 1 (Ql [Qf (.indexAddrS 2 (.t 5) (.t 7)),Qf (.load true 2 (.l 0)),Qf (.alloc [.int .i64 (0),.int .i64 (0)]),Qq 2 2 1] [(4,2)]
 (.region [Qa 3,Qo 1 4,Qn 1 1,Qo 0 4,Qn 1 3,Qa 1,Qf (.bin 0 .sub (.l 4) (.l 5)),Qf (.bin 0 .mul (.l 2) (.l 6)),Qf (.bin 0 .add (.l 0) (.l 7)),Qb 8] [(3,9)])))
 (.region [Qf (.bin 0 .add (.t 7) (Qh 1)),Qb 0] [(7,1)]))))
def Zhw:Zf :=
 (Ql [Qe 0] [(2,0)]
 (Ql [Qe 0] [(3,0)]
 (.seq (Ql [Qa 0,Qf (.len (.l 0)),Qe 0] [(5,0),(6,1),(7,2)]
 (.block 0 (.loop Xt)))
 (Ql [Qa 3,Qb 0] [(2,1)]
 .ret))))
def ZaG:ZH:=⟨[0,1,4,5,7,8,9,10,11],25,Zhw,[.tmp 2],1⟩
def J4:Zf :=
 (Ql [Qf (.bin 0 .lss (.t 14) (.t 13))] [(15,0)]
 (.seq (.cond (.t 15) .skip (.exit 2))
 (.seq (.block 3 (Ql [Qa 14,Qf (.indexAddrS 2 (.t 12) (.t 14)),Qf (.load true 2 (.l 1)),Qf (.alloc [.int .i64 (0),.int .i64 (0)]),Qb 0,Qq 2 3 2] [(7,4),(8,3)]
 (Ql [Qa 4,Qa 7,Qf (.bin 0 .shr (.l 0) (.l 1)),Qf (.bin 0 .and (.l 2) (Qh 1)),Qf (.bin 0 .eql (.l 3) (Qh 1))] [(16,4)]
 (.cond (.t 16) (Ql [Qa 5,Qa 7,Qf (.buildSlice 1 1 [.int .i64 (0)] [(0,1,(.l 1))]),Qf (.append false 1 8 (.l 0) (.l 2)),Qb 3] [(5,4)]
 (.region [Qa 6,Qo 1 8,Qn 1 1,Qo 0 8,Qn 1 3,Qa 1,Qf (.bin 0 .sub (.l 4) (.l 5)),Qf (.bin 0 .mul (.l 2) (.l 6)),Qf (.bin 0 .add (.l 0) (.l 7)),Qb 8] [(6,9)])) .skip))))
 (.region [Qf (.bin 0 .add (.t 14) (Qh 1)),Qb 0] [(14,1)]))))
def Zch:Zf :=
 (Ql [Qf (.bin 0 .lss (.t 10) (.t 9))] [(11,0)]
 (.seq (.cond (.t 11) .skip (.exit 0))
 (.seq (.block 1 (Ql [Qa 10,Qb 0] [(4,1)]
 (Ql [Qf (.buildSlice 1 0 [] []),Qb 0,Qe 0] [(5,1),(6,2)]
 (.seq (Ql [Qa 0,Qf (.len (.l 0)),Qe 0] [(12,0),(13,1),(14,2)]
 (.block 2 (.loop J4)))
 (Ql [Qa 6,Qf (.bin 0 .eql (.l 0) (Qh 0))] [(17,1)]
 (.cond (.t 17) (.region [Qa 3,Qa 5,Qf (.buildSlice 1 1 [.slice none 0 0 none] [(0,1,(.l 1))]),Qf (.append false 1 24 (.l 0) (.l 2)),Qb 3] [(3,4)]) .skip))))))
 (.region [Qf (.bin 0 .add (.t 10) (Qh 1)),Qb 0] [(10,1)]))))
def Zjj:Zf :=
 (Ql [Qf (.mv (.c (.slice none 0 0 none)))] [(2,0)]
 (Ql [Qf (.buildSlice 1 0 [] []),Qb 0] [(3,1)]
 (.seq (Ql [Qa 0,Qf (.len (.l 0)),Qf (.bin 0 .shl (Qh 1) (.l 1)),Qe 0] [(9,2),(10,3)]
 (.block 0 (.loop Zch)))
 (Ql [Qa 3,Qf (.call (.c (.fn Yt [] [])) [(.l 0),(.c (.fn ZI [] []))])] []
 (Ql [Qa 3,Qb 0] [(2,1)]
 .ret)))))
def Ka:ZH:=⟨[0,1,4,5,6,7,8,9,10,14,15,16,19,20,21,22,30,46],55,Zjj,[.tmp 2],0⟩
def Kb:Zf :=
 (Ql [Qf (.bin 0 .lss (.t 6) (.t 5))] [(7,0)]
 (.seq (.cond (.t 7) .skip (.exit 0))
 (.seq (.block 1 (Ql [Qf (.indexAddrS 2 (.t 4) (.t 6)),Qf (.load true 2 (.l 0)),Qf (.alloc [.int .i64 (0),.int .i64 (0)]),Qq 2 2 1] [(3,2)]
 (.region [Qa 2,Qo 1 3,Qn 1 1,Qf (.bin 0 .add (.l 0) (.l 2)),Qb 3] [(2,4)])))
 (.region [Qf (.bin 0 .add (.t 6) (Qh 1)),Qb 0] [(6,1)]))))
def Zm3:Zf :=
 (Ql [Qe 0] [(1,0)]
 (Ql [Qe 0] [(2,0)]
 (.seq (Ql [Qa 0,Qf (.len (.l 0)),Qe 0] [(4,0),(5,1),(6,2)]
 (.block 0 (.loop Kb)))
 (Ql [Qa 2,Qb 0] [(1,1)]
 .ret))))
def Zd7:ZH:=⟨[0,2,3,5,6,7,8,9],18,Zm3,[.tmp 1],1⟩
def ZoZ:Zf :=
 (Ql [Qe 0] [(2,0)]
 (Ql [Qa 1,Qa 0,Qf (.len (.l 1)),Qf (.bin 0 .sub (.l 0) (.l 2)),Qb 3] [(1,4)]
 (.seq (Ql [Qa 1,Qf (.bin 0 .lss (.l 0) (Qh 0))] [(3,1)]
 (.cond (.t 3) (Ql [Qe (-1)] [(2,0)]
 .ret) .skip))
 (Ql [Qa 1,Qb 0] [(2,1)]
 .ret))))
def Zga:ZH:=⟨[0,1,4,10],12,ZoZ,[.tmp 2],1⟩
def Zhx:Zf :=
 (Ql [Qe 0] [(2,0)]
 (Ql [Qa 1,Qa 0,Qf (.len (.l 1)),Qf (.bin 0 .sub (.l 0) (.l 2)),Qb 3] [(1,4)]
 (.seq (Ql [Qa 1,Qf (.bin 0 .lss (.l 0) (Qh 0))] [(3,1)]
 (.cond (.t 3) (Ql [Qe (-1)] [(2,0)]
 .ret) .skip))
 (Ql [Qa 1,Qb 0] [(2,1)]
 .ret))))
def ZbZ:ZH:=⟨[0,1,4,10],12,Zhx,[.tmp 2],1⟩
def KU:Zf :=
 (.seq (Ql [Qa 3,Qa 0,Qf (.len (.l 1)),Qf (.bin 0 .lss (.l 0) (.l 2))] [(4,3)]
 (.cond (.t 4) .skip (.exit 0)))
 (.seq (.block 1 (.region [Qa 2,Qa 3,Qa 0,Qa 3,Qf (.indexAddrS 2 (.l 2) (.l 3)),Qf (.load true 2 (.l 4)),Qs Ziq [.l 5],Qf (.indexAddrS 2 (.l 0) (.l 1)),Qq 2 7 6] []))
 (.region [Qa 3,Qf (.bin 0 .add (.l 0) (Qh 1)),Qb 1] [(3,2)])))
def Zo0:Zf :=
 (Ql [Qf (.mv (.c (.slice none 0 0 none)))] [(1,0)]
 (Ql [Qa 0,Qf (.len (.l 0)),Qf (.makeSlice 2 16 [.int .i64 (0),.int .i64 (0)] (.l 1) (.l 1)),Qb 2] [(2,3)]
 (.seq (Ql [Qe 0] [(3,0)]
 (.block 0 (.loop KU)))
 (Ql [Qa 2,Qb 0] [(1,1)]
 .ret))))
def Zgb:ZH:=⟨[0,2,3,4,11],23,Zo0,[.tmp 1],2⟩
def Kc:Zf :=
 (.seq (Ql [Qa 3,Qa 0,Qf (.len (.l 1)),Qf (.bin 0 .lss (.l 0) (.l 2))] [(4,3)]
 (.cond (.t 4) .skip (.exit 0)))
 (.seq (.block 1 (.region [Qa 2,Qa 3,Qa 0,Qa 3,Qf (.indexAddrS 3 (.l 2) (.l 3)),Qf (.load true 3 (.l 4)),Qs ZfP [.l 5],Qf (.indexAddrS 3 (.l 0) (.l 1)),Qq 3 7 6] []))
 (.region [Qa 3,Qf (.bin 0 .add (.l 0) (Qh 1)),Qb 1] [(3,2)])))
def Zm4:Zf :=
 (Ql [Qf (.mv (.c (.slice none 0 0 none)))] [(1,0)]
 (Ql [Qa 0,Qf (.len (.l 0)),Qf (.makeSlice 3 24 [.int .i64 (0),.int .i64 (0),.int .i64 (0)] (.l 1) (.l 1)),Qb 2] [(2,3)]
 (.seq (Ql [Qe 0] [(3,0)]
 (.block 0 (.loop Kc)))
 (Ql [Qa 2,Qb 0] [(1,1)]
 .ret))))
def Zd8:ZH:=⟨[0,2,3,4,11],23,Zm4,[.tmp 1],2⟩
def ZcF:Zf :=
 (.seq (Ql [Qa 3,Qa 0,Qf (.len (.l 1)),Qf (.bin 0 .lss (.l 0) (.l 2))] [(5,3)]
 (.cond (.t 5) .skip (.exit 0)))
 (.seq (.block 1 (Qm [Qg (.mv (.t 0)),Qg (.mv (.t 3)),Qg (.indexAddrS 2 (.l 0) (.l 1)),Qg (.load true 2 (.l 2)),Qg (.mv (.t 1)),Qg (.mv (.t 3)),Qg (.indexAddrS 2 (.l 4) (.l 5)),Qg (.load true 2 (.l 6)),Qt Zir [.l 3,.l 7],Qg (.un .not (.l 8))] [(6,9)]
 (.cond (.t 6) (Ql [Qc] [(2,0)]
 .ret) .skip)))
 (.region [Qa 3,Qf (.bin 0 .add (.l 0) (Qh 1)),Qb 1] [(3,2)])))
def Zo1:Zf :=
 (Ql [Qc] [(2,0)]
 (.seq (Ql [Qa 0,Qf (.len (.l 0)),Qa 1,Qf (.len (.l 2)),Qf (.bin 0 .neq (.l 1) (.l 3))] [(4,4)]
 (.cond (.t 4) (Ql [Qc] [(2,0)]
 .ret) .skip))
 (.seq (Ql [Qe 0] [(3,0)]
 (.block 0 (.loop ZcF)))
 (Ql [Qd] [(2,0)]
 .ret))))
def Zgc:ZH:=⟨[0,1,4,5,10,14,26],27,Zo1,[.tmp 2],1⟩
def Kd:Zf :=
 (.seq (Ql [Qa 3,Qa 0,Qf (.len (.l 1)),Qf (.bin 0 .lss (.l 0) (.l 2))] [(5,3)]
 (.cond (.t 5) .skip (.exit 0)))
 (.seq (.block 1 (Qm [Qg (.mv (.t 0)),Qg (.mv (.t 3)),Qg (.indexAddrS 3 (.l 0) (.l 1)),Qg (.load true 3 (.l 2)),Qg (.mv (.t 1)),Qg (.mv (.t 3)),Qg (.indexAddrS 3 (.l 4) (.l 5)),Qg (.load true 3 (.l 6)),Qt ZfQ [.l 3,.l 7],Qg (.un .not (.l 8))] [(6,9)]
 (.cond (.t 6) (Ql [Qc] [(2,0)]
 .ret) .skip)))
 (.region [Qa 3,Qf (.bin 0 .add (.l 0) (Qh 1)),Qb 1] [(3,2)])))
def Zm5:Zf :=
 (Ql [Qc] [(2,0)]
 (.seq (Ql [Qa 0,Qf (.len (.l 0)),Qa 1,Qf (.len (.l 2)),Qf (.bin 0 .neq (.l 1) (.l 3))] [(4,4)]
 (.cond (.t 4) (Ql [Qc] [(2,0)]
 .ret) .skip))
 (.seq (Ql [Qe 0] [(3,0)]
 (.block 0 (.loop Kd)))
 (Ql [Qd] [(2,0)]
 .ret))))
def Zd9:ZH:=⟨[0,1,4,5,10,14,26],27,Zm5,[.tmp 2],1⟩
def ZkO:Zf :=
 (Ql [Qf (.box (.t 0)),Qe 0] [(2,0),(3,1)]
 (Ql [Qo 0 2,Qn 1 0,Qa 1,Qs Zcu [.l 1,.l 2],Qb 3] [(1,4)]
 (.seq (Ql [Qa 1,Qf (.bin 0 .lss (.l 0) (Qh 0))] [(4,1)]
 (.cond (.t 4) (Ql [Qe (-1)] [(3,0)]
 .ret) .skip))
 (Ql [Qo 3 2,Qn 1 0,Qa 1,Qs ZbE [.l 1,.l 2],Qb 3] [(1,4)]
 (.seq (Ql [Qa 1,Qf (.bin 0 .lss (.l 0) (Qh 0))] [(5,1)]
 (.cond (.t 5) (Ql [Qe (-1)] [(3,0)]
 .ret) .skip))
 (Ql [Qa 1,Qb 0] [(3,1)]
 .ret))))))
def ZcG:ZH:=⟨[0,1,2,4,10,16],18,ZkO,[.tmp 3],1⟩
def Jt:Zf :=
 (.seq (Ql [Qa 3,Qa 0,Qf (.len (.l 1)),Qf (.bin 0 .lss (.l 0) (.l 2))] [(4,3)]
 (.cond (.t 4) .skip (.exit 0)))
 (.seq (.block 1 (Ql [Qa 0,Qa 3,Qa 1,Qf (.indexAddrS 2 (.l 0) (.l 1)),Qf (.fieldAddr 0 (.l 3)),Qq 1 4 2] []
 (Ql [Qa 1,Qf (.bin 0 .add (.l 0) (Qh 1)),Qb 1] [(1,2)]
 (Ql [Qa 0,Qa 3,Qa 1,Qf (.indexAddrS 2 (.l 0) (.l 1)),Qf (.fieldAddr 1 (.l 3)),Qq 1 4 2] []
 (.region [Qa 1,Qf (.bin 0 .add (.l 0) (Qh 1)),Qb 1] [(1,2)])))))
 (.region [Qa 3,Qf (.bin 0 .add (.l 0) (Qh 1)),Qb 1] [(3,2)])))
def ZkP:Zf :=
 (Ql [Qe 0] [(2,0)]
 (.seq (Ql [Qe 0] [(3,0)]
 (.block 0 (.loop Jt)))
 (Ql [Qa 1,Qb 0] [(2,1)]
 .ret)))
def ZcH:ZH:=⟨[0,1,4,5,9],27,ZkP,[.tmp 2],1⟩
def XL:Zf :=
 (.seq (Ql [Qa 3,Qa 0,Qf (.len (.l 1)),Qf (.bin 0 .lss (.l 0) (.l 2))] [(4,3)]
 (.cond (.t 4) .skip (.exit 0)))
 (.seq (.block 1 (Ql [Qa 0,Qa 3,Qa 1,Qf (.indexAddrS 3 (.l 0) (.l 1)),Qf (.fieldAddr 0 (.l 3)),Qq 1 4 2] []
 (Ql [Qa 1,Qf (.bin 0 .add (.l 0) (Qh 1)),Qb 1] [(1,2)]
 (Ql [Qa 0,Qa 3,Qa 1,Qf (.indexAddrS 3 (.l 0) (.l 1)),Qf (.fieldAddr 1 (.l 3)),Qq 1 4 2] []
 (Ql [Qa 1,Qf (.bin 0 .add (.l 0) (Qh 1)),Qb 1] [(1,2)]
 (Ql [Qa 0,Qa 3,Qa 1,Qf (.indexAddrS 3 (.l 0) (.l 1)),Qf (.fieldAddr 2 (.l 3)),Qq 1 4 2] []
 (.region [Qa 1,Qf (.bin 0 .add (.l 0) (Qh 1)),Qb 1] [(1,2)])))))))
 (.region [Qa 3,Qf (.bin 0 .add (.l 0) (Qh 1)),Qb 1] [(3,2)])))
def Zjk:Zf :=
 (Ql [Qe 0] [(2,0)]
 (.seq (Ql [Qe 0] [(3,0)]
 (.block 0 (.loop XL)))
 (Ql [Qa 1,Qb 0] [(2,1)]
 .ret)))
def ZbI:ZH:=⟨[0,1,4,5,9],34,Zjk,[.tmp 2],1⟩
def ZrV:Zf :=
 (Ql [Qc] [(2,0)]
 (Ql [Qa 0,Qs Jf [.l 0],Qb 1,⟨.mv (.t 1),some ((.l 2),true)⟩,⟨.call (.c (.fn Jf [] [])) [(.l 3)],some ((.l 2),true)⟩,Qf (.pick (.l 2) (.l 4) Qi),Qb 5,⟨.mv (.t 0),some ((.l 6),true)⟩,⟨.mv (.t 1),some ((.l 6),true)⟩,⟨.bin 0 .leq (.l 7) (.l 8),some ((.l 6),true)⟩,Qf (.pick (.l 6) (.l 9) Qi),Qb 10] [(2,11)]
 .ret))
def ZiC:ZH:=⟨[0,1,4],16,ZrV,[.tmp 2],1⟩
def XZ:Zf :=
 (Ql [Qf (.bin 0 .lss (.t 5) (.t 4))] [(6,0)]
 (.seq (.cond (.t 6) .skip (.exit 0))
 (.seq (.block 1 (Ql [Qf (.indexAddrS 3 (.t 3) (.t 5)),Qf (.load true 3 (.l 0)),Qf (.alloc [.int .i64 (0),.int .i64 (0),.int .i64 (0)]),Qq 3 2 1] [(2,2)]
 (Ql [Qr 3 2,Qs ZfR [.l 0],Qf (.un .not (.l 1))] [(7,2)]
 (.cond (.t 7) (Ql [Qc] [(1,0)]
 .ret) .skip))))
 (.region [Qf (.bin 0 .add (.t 5) (Qh 1)),Qb 0] [(5,1)]))))
def Zo2:Zf :=
 (Ql [Qc] [(1,0)]
 (.seq (Ql [Qa 0,Qf (.len (.l 0)),Qe 0] [(3,0),(4,1),(5,2)]
 (.block 0 (.loop XZ)))
 (Ql [Qa 0,Qf (.len (.l 0)),Qf (.bin 0 .leq (.l 1) (Qh 5)),Qb 2] [(1,3)]
 .ret)))
def Zgd:ZH:=⟨[0,2,4,5,6,7,8,13],18,Zo2,[.tmp 1],1⟩
def ZrW:Zf :=
 (Ql [Qc] [(3,0)]
 (Ql [Qa 0,Qa 1,Qf (.bin 0 .geq (.l 0) (.l 1)),Qb 2,⟨.mv (.t 0),some ((.l 3),true)⟩,⟨.mv (.t 2),some ((.l 3),true)⟩,⟨.bin 0 .leq (.l 4) (.l 5),some ((.l 3),true)⟩,Qf (.pick (.l 3) (.l 6) Qi),Qb 7] [(3,8)]
 .ret))
def ZiD:ZH:=⟨[0,1,2,6],15,ZrW,[.tmp 3],1⟩
def J5:Zf :=
 (Ql [Qf (.mv (.c (.slice none 0 0 none)))] [(1,0)]
 (.seq (Ql [Qa 0,Qf (.bin 3 .eql (.l 0) (.c (.slice none 0 0 none)))] [(2,1)]
 (.cond (.t 2) (Ql [Qf (.mv (.c (.slice none 0 0 none)))] [(1,0)]
 .ret) .skip))
 (Ql [Qf (.buildSlice 2 0 [] []),Qa 0,Qf (.append false 2 16 (.l 0) (.l 1)),Qb 2] [(1,3)]
 .ret)))
def Yp:ZH:=⟨[0,2,4],8,J5,[.tmp 1],2⟩
def Ju:Zf :=
 (Ql [Qf (.mv (.c (.slice none 0 0 none)))] [(1,0)]
 (.seq (Ql [Qa 0,Qf (.bin 3 .eql (.l 0) (.c (.slice none 0 0 none)))] [(2,1)]
 (.cond (.t 2) (Ql [Qf (.mv (.c (.slice none 0 0 none)))] [(1,0)]
 .ret) .skip))
 (Ql [Qf (.buildSlice 3 0 [] []),Qa 0,Qf (.append false 3 24 (.l 0) (.l 1)),Qb 2] [(1,3)]
 .ret)))
def Yc:ZH:=⟨[0,2,4],8,Ju,[.tmp 1],2⟩
def Zs5:Zf :=
 (Ql [Qc] [(3,0)]
 (Ql [Qa 0,Qs Js [.l 0],Qb 1,⟨.mv (.t 1),some ((.l 2),true)⟩,⟨.mv (.t 2),some ((.l 2),true)⟩,⟨.call (.c (.fn Zis [] [])) [(.l 3),(.l 4)],some ((.l 2),true)⟩,Qf (.pick (.l 2) (.l 5) Qi),Qb 6] [(3,7)]
 .ret))
def ZkQ:ZH:=⟨[0,1,2,6],14,Zs5,[.tmp 3],1⟩
def Xm:Zf :=
 (.seq (Ql [Qa 3,Qa 0,Qf (.len (.l 1)),Qf (.bin 0 .lss (.l 0) (.l 2))] [(4,3)]
 (.cond (.t 4) .skip (.exit 0)))
 (.seq (.block 1 (Ql [Qa 0,Qa 3,Qf (.indexAddrS 3 (.l 0) (.l 1)),Qf (.load true 3 (.l 2)),Qs ZfS [.l 3],Qf (.un .not (.l 4))] [(5,5)]
 (.cond (.t 5) (Ql [Qc] [(2,0)]
 .ret) .skip)))
 (.region [Qa 3,Qf (.bin 0 .add (.l 0) (Qh 1)),Qb 1] [(3,2)])))
def Zm6:Zf :=
 (Ql [Qc] [(2,0)]
 (.seq (Ql [Qe 0] [(3,0)]
 (.block 0 (.loop Xm)))
 (Ql [Qa 0,Qf (.len (.l 0)),Qa 1,Qf (.bin 0 .leq (.l 1) (.l 2)),Qb 3] [(2,4)]
 .ret)))
def Zea:ZH:=⟨[0,1,4,5,9,17],22,Zm6,[.tmp 2],1⟩
def ZAA:Zf :=
 (Ql [Qc] [(3,0)]
 (Ql [Qa 0,Qa 1,Qf (.bin 0 .geq (.l 0) (.l 1)),Qb 2,⟨.mv (.t 0),some ((.l 3),true)⟩,⟨.mv (.t 2),some ((.l 3),true)⟩,⟨.bin 0 .leq (.l 4) (.l 5),some ((.l 3),true)⟩,Qf (.pick (.l 3) (.l 6) Qi),Qb 7] [(3,8)]
 .ret))
def Zod:ZH:=⟨[0,1,2,6],15,ZAA,[.tmp 3],1⟩
def ZkR:Zf :=
 (Ql [⟨.mv (.c (.str ⟨#[]⟩)),none⟩] [(1,0)]
 (.seq (Ql [Qa 0,Qf (.bin 0 .lss (.l 0) (Qh 0))] [(2,1)]
 (.cond (.t 2) (Ql [Qa 0,Qf (.un .neg (.l 0)),Qs Yn [.l 1],⟨.bin 1 .add (.c (.str ⟨#[45]⟩)) (.l 2),none⟩,Qb 3] [(1,4)]
 .ret) .skip))
 (.seq (Ql [Qa 0,Qf (.bin 0 .lss (.l 0) (Qh 10))] [(3,1)]
 (.cond (.t 3) (Ql [Qa 0,Qa 0,Qf (.bin 0 .add (.l 1) (Qh 1)),⟨.sliceStr (.c (.str ⟨#[48,49,50,51,52,53,54,55,56,57]⟩)) (some (.l 0)) (some (.l 2)),none⟩,Qb 3] [(1,4)]
 .ret) .skip))
 (Qm [Qg (.mv (.t 0)),Qg (.bin 0 .quo (.l 0) (Qh 10)),Qg (.mv (.t 0)),Qg (.bin 0 .rem (.l 2) (Qh 10)),Qg (.mv (.t 0)),Qg (.bin 0 .rem (.l 4) (Qh 10)),Qg (.bin 0 .add (.l 5) (Qh 1)),⟨.sliceStr (.c (.str ⟨#[48,49,50,51,52,53,54,55,56,57]⟩)) (some (.l 3)) (some (.l 6)),none,[]⟩,Qt Yn [.l 1],Qg (.bin 1 .add (.l 8) (.l 7)),Qg (.mv (.l 9))] [(1,10)]
 .ret))))
def Ze5:ZH:=⟨[0,2,4,10],25,ZkR,[.tmp 1],1⟩
def X0:Zf :=
 (Ql [Qf (.bin 0 .lss (.t 4) (.t 3))] [(5,0)]
 (.seq (.cond (.t 5) .skip (.exit 0))
 (.seq (.block 1 (Ql [Qa 4,Qb 0] [(2,1)]
 (Ql [Qa 0,Qa 2,Qf (.indexS (.l 0) (.l 1)),Qf (.bin 0 .lss (.l 2) (.c (.int .u8 (32)))),Qb 3,⟨.mv (.t 0),some ((.l 4),false)⟩,⟨.mv (.t 2),some ((.l 4),false)⟩,⟨.indexS (.l 5) (.l 6),some ((.l 4),false)⟩,⟨.bin 0 .gtr (.l 7) (.c (.int .u8 (126))),some ((.l 4),false)⟩,Qf (.pick (.l 4) Qj (.l 8)),Qb 9,⟨.mv (.t 0),some ((.l 10),false)⟩,⟨.mv (.t 2),some ((.l 10),false)⟩,⟨.indexS (.l 11) (.l 12),some ((.l 10),false)⟩,⟨.bin 0 .eql (.l 13) (.c (.int .u8 (35))),some ((.l 10),false)⟩,Qf (.pick (.l 10) Qj (.l 14))] [(6,15)]
 (.cond (.t 6) (Ql [Qc] [(1,0)]
 .ret) .skip))))
 (.region [Qf (.bin 0 .add (.t 4) (Qh 1)),Qb 0] [(4,1)]))))
def ZrX:Zf :=
 (Ql [Qc] [(1,0)]
 (.seq (Ql [Qa 0,Qf (.lenStr (.l 0)),Qe 0] [(3,1),(4,2)]
 (.block 0 (.loop X0)))
 (Ql [Qd] [(1,0)]
 .ret)))
def ZiE:ZH:=⟨[0,2,3,5,6,7,24],26,ZrX,[.tmp 1],1⟩
def Zag:Zf :=
 (Ql [Qe 0,Qc] [(1,0),(2,1)]
 (Ql [Qa 0,Qs ZbF [.l 0],Qb 1,Qp 0 2,Qp 1 2,Qb 3,Qb 4] [(3,5),(4,6)]
 (.seq (Ql [Qa 4,Qf (.bin 4 .neq (.l 0) (.c (.nilif))),Qb 1,⟨.mv (.t 3),some ((.l 2),false)⟩,⟨.call (.c (.fn Xj [] [])) [(.l 3)],some ((.l 2),false)⟩,⟨.mv (.t 0),some ((.l 2),false)⟩,⟨.bin 1 .neq (.l 4) (.l 5),some ((.l 2),false)⟩,Qf (.pick (.l 2) Qj (.l 6)),Qb 7,⟨.mv (.t 3),some ((.l 8),false)⟩,⟨.call (.c (.fn YH [] [])) [(.l 9),(Qh (-999999)),(Qh 999999)],some ((.l 8),false)⟩,⟨.un .not (.l 10),some ((.l 8),false)⟩,Qf (.pick (.l 8) Qj (.l 11))] [(5,12)]
 (.cond (.t 5) (Ql [Qe 0,Qc] [(1,0),(2,1)]
 .ret) .skip))
 (Ql [Qa 3,Qb 0,Qd] [(1,1),(2,2)]
 .ret))))
def JK:ZH:=⟨[0,2,3,4,5,23],25,Zag,[.tmp 1,.tmp 2],1⟩
def ZrY:Zf :=
 (Ql [Qe 0,Qe 0] [(1,0),(2,1)]
 (.seq (Ql [Qa 0] [(3,0)]
 (.block 0 (Ql [⟨.bin 1 .eql (.t 3) (.c (.str ⟨#[108,111,97,100]⟩)),none⟩,Qb 0] [(4,1)]
 (.cond (.t 4) (Ql [Qe 1,Qe 2] [(1,0),(2,1)]
 .ret) (Ql [⟨.bin 1 .eql (.t 3) (.c (.str ⟨#[116,97,107,101]⟩)),none⟩,Qb 0] [(5,1)]
 (.cond (.t 5) (Ql [Qe 2,Qe 1] [(1,0),(2,1)]
 .ret) (Ql [⟨.bin 1 .eql (.t 3) (.c (.str ⟨#[109,111,118,101]⟩)),none⟩,Qb 0] [(6,1)]
 (.cond (.t 6) (Ql [Qe 3,Qe 2] [(1,0),(2,1)]
 .ret) (Ql [⟨.bin 1 .eql (.t 3) (.c (.str ⟨#[98,97,115,101]⟩)),none⟩,Qb 0] [(7,1)]
 (.cond (.t 7) (Ql [Qe 4,Qe 2] [(1,0),(2,1)]
 .ret) (Ql [⟨.bin 1 .eql (.t 3) (.c (.str ⟨#[115,116,97,103,101]⟩)),none⟩,Qb 0] [(8,1)]
 (.cond (.t 8) (Ql [Qe 5,Qe 3] [(1,0),(2,1)]
 .ret) (Ql [⟨.bin 1 .eql (.t 3) (.c (.str ⟨#[100,114,111,112]⟩)),none⟩,Qb 0] [(9,1)]
 (.cond (.t 9) (Ql [Qe 6,Qe 1] [(1,0),(2,1)]
 .ret) .skip))))))))))))))
 (Ql [Qe 0,Qe 0] [(1,0),(2,1)]
 .ret)))
def ZiF:ZH:=⟨[0,2,3,4,5,7,9,11,13,15],17,ZrY,[.tmp 1,.tmp 2],1⟩
def Ze6:Zf :=
 (Ql [⟨.mv (.c (.str ⟨#[]⟩)),none⟩,Qc] [(3,0),(4,1)]
 (Ql [Qa 2,Qf (.buildSlice 1 3 [.int .i64 (0),.int .i64 (0),.int .i64 (0)] [(0,1,(Qh 0)),(1,1,(Qh 0)),(2,1,(Qh 0))]),Qf (.append false 1 8 (.l 0) (.l 1)),Qb 2] [(2,3)]
 (Qm [Qg (.mv (.t 0)),Qg (.nilCheck (.l 0)),Qg (.load true 6 (.l 1)),Qg (.mv (.t 1)),Qg (.mv (.t 2)),Qg (.indexAddrS 1 (.l 4) (Qh 0)),Qg (.load false 1 (.l 5)),Qg (.mv (.t 2)),Qg (.indexAddrS 1 (.l 7) (Qh 1)),Qg (.load false 1 (.l 8)),Qg (.mv (.t 2)),Qg (.indexAddrS 1 (.l 10) (Qh 2)),Qg (.load false 1 (.l 11)),Qg (.build [.int .i64 (0),.int .i64 (0),.int .i64 (0),.int .i64 (0)] [(0,1,(.l 3)),(1,1,(.l 6)),(2,1,(.l 9)),(3,1,(.l 12))]),Qt Xr [.l 2,.l 13],Qg (.mv (.l 14)),Qg (.extract 0 (.l 15)),Qg (.extract 1 (.l 15)),⟨.alloc [.slice none 0 0 none,.int .i64 (0),.int .i64 (0),.slice none 0 0 none,.int .i64 (0),.int .i64 (0)],none,[(2,Qf (.load true 6 (.l 1))),(6,Qn 1 5),(9,Qn 1 8),(12,Qn 1 11)]⟩,Qg (.store 6 (.l 18) (.l 16)),Qg (.mv (.l 17))] [(5,18),(6,20)]
 (.seq (Ql [Qa 6,Qf (.un .not (.l 0))] [(7,1)]
 (.cond (.t 7) (Ql [⟨.mv (.c (.str ⟨#[]⟩)),none⟩,Qc] [(3,0),(4,1)]
 .ret) .skip))
 (Ql [Qa 0,Qr 6 5,Qf (.nilCheck (.l 0)),Qq 6 2 1] []
 (.seq (Ql [Qa 1,Qf (.bin 0 .eql (.l 0) (Qh 5)),Qb 1,⟨.mv (.t 1),some ((.l 2),false)⟩,⟨.bin 0 .eql (.l 3) (Qh 6),some ((.l 2),false)⟩,Qf (.pick (.l 2) Qj (.l 4))] [(8,5)]
 (.cond (.t 8) (Ql [Qa 0,Qf (.nilCheck (.l 0)),Qf (.fieldAddr 3 (.l 1)),Qn 1 2,Qs Zcv [.l 3],Qp 0 4,Qp 1 4,Qs XI [.l 5,.l 6],Qp 0 7,Qp 1 7,Qb 8,Qb 9] [(3,10),(4,11)]
 .ret) .skip))
 (Qm [Qg (.mv (.t 0)),Qg (.nilCheck (.l 0)),Qg (.fieldAddr 0 (.l 1)),Qg (.load false 1 (.l 2)),Qg (.mv (.t 0)),Qg (.nilCheck (.l 4)),Qg (.fieldAddr 1 (.l 5)),Qg (.load false 1 (.l 6)),Qg (.mv (.t 0)),Qg (.nilCheck (.l 8)),Qg (.fieldAddr 2 (.l 9)),Qg (.load false 1 (.l 10)),Qt Zdb [.l 3,.l 7,.l 11],Qg (.extract 0 (.l 12)),Qg (.extract 1 (.l 12)),Qt ZW [.l 13,.l 14],Qg (.extract 0 (.l 15)),Qg (.extract 1 (.l 15)),Qg (.mv (.l 16)),Qg (.mv (.l 17))] [(3,18),(4,19)]
 .ret)))))))
def Yr:ZH:=⟨[0,1,2,6,7,8,9,32,41],70,Ze6,[.tmp 3,.tmp 4],0⟩
def Zjl:Zf :=
 (Ql [⟨.mv (.c (.str ⟨#[]⟩)),none⟩,Qc] [(2,0),(3,1)]
 (Ql [Qa 0,Qs Xj [.l 0],Qa 1,Qb 1,Qb 2] [(2,3),(3,4)]
 .ret))
def ZbJ:ZH:=⟨[0,1,4,5],9,Zjl,[.tmp 2,.tmp 3],1⟩
def ZbK:Zf :=
 (Ql [Qf (.bin 0 .lss (.t 11) (.t 10))] [(12,0)]
 (.seq (.cond (.t 12) .skip (.exit 0))
 (.seq (.block 1 (Ql [Qf (.indexAddrS 1 (.t 9) (.t 11)),Qn 1 0,Qb 1] [(6,2)]
 (.seq (Ql [Qa 6,Qa 5,Qf (.bin 0 .add (.l 1) (Qh 1)),Qf (.bin 0 .neq (.l 0) (.l 2))] [(13,3)]
 (.cond (.t 13) (.exit 0) .skip))
 (.region [Qa 6,Qb 0] [(5,1)]))))
 (.region [Qf (.bin 0 .add (.t 11) (Qh 1)),Qb 0] [(11,1)]))))
def Zhy:Zf :=
 (Ql [Qe 0,Qc] [(2,0),(3,1)]
 (.seq (Ql [Qa 0,Qs Zat [.l 0],Qf (.un .not (.l 1))] [(7,2)]
 (.cond (.t 7) (Ql [Qe 0,Qc] [(2,0),(3,1)]
 .ret) .skip))
 (Ql [Qe 0] [(4,0)]
 (.seq (Ql [Qa 1] [(8,0)]
 (.cond (.t 8) (.region [Qe (-1)] [(4,0)]) .skip))
 (Ql [Qe 0] [(5,0)]
 (.seq (Ql [Qa 0,Qa 4,Qs ZfT [.l 0,.l 1],Qf (.len (.l 2)),Qe 0] [(9,2),(10,3),(11,4)]
 (.block 0 (.loop ZbK)))
 (Ql [Qa 5,Qb 0,Qd] [(2,1),(3,2)]
 .ret)))))))
def Kz:ZH:=⟨[0,1,4,5,6,7,9,12,13,16,17,18,19,25],29,Zhy,[.tmp 2,.tmp 3],1⟩
def Zeb:Zf :=
 (Ql [⟨.mv (.c (.str ⟨#[]⟩)),none⟩,Qc] [(2,0),(3,1)]
 (.seq (Ql [Qa 0,Qf (.len (.l 0)),Qf (.bin 0 .eql (.l 1) (Qh 0))] [(4,2)]
 (.cond (.t 4) (Ql [Qa 1,⟨.mv (.c (.str ⟨#[110,111,110,101]⟩)),none⟩,Qb 0] [(2,1),(3,2)]
 .ret) .skip))
 (Ql [Qa 0,⟨.call (.c (.fn Ym [] [])) [(.l 0),(.c (.str ⟨#[32]⟩))],none⟩,Qa 1,Qb 1,Qb 2] [(2,3),(3,4)]
 .ret)))
def Zah:ZH:=⟨[0,1,4,5,8],13,Zeb,[.tmp 2,.tmp 3],1⟩
def ZbL:Zf :=
 (Ql [Qf (.box (.t 1)),Qf (.mv (.c (.slice none 0 0 none))),Qc] [(2,0),(3,1),(4,2)]
 (.seq (Ql [Qa 0,Qs Zat [.l 0],Qf (.un .not (.l 1)),Qb 2,⟨.load false 1 (.t 2),some ((.l 3),false)⟩,⟨.bin 0 .lss (.l 4) (Qh 1),some ((.l 3),false)⟩,Qf (.pick (.l 3) Qj (.l 5))] [(6,6)]
 (.cond (.t 6) (Ql [Qf (.mv (.c (.slice none 0 0 none))),Qc] [(3,0),(4,1)]
 .ret) .skip))
 (Ql [Qf (.buildSlice 1 0 [] []),Qf (.alloc [.slice none 0 0 none]),Qq 1 1 0] [(5,1)]
 (Ql [Qa 0,Qf (.makeFunc XJ [] [(.t 2),(.t 5)]),Qs KO [.l 0,Qh (-1),.l 1]] []
 (Qm [Qg (.load false 1 (.t 5)),Qg (.load false 1 (.t 5)),Qg (.len (.l 1)),Qg (.bin 0 .gtr (.l 2) (Qh 0)),Qg (.mv (.l 0)),Qg (.mv (.l 3))] [(3,4),(4,5)]
 .ret)))))
def Jj:ZH:=⟨[0,1,3,4,5,6,13],22,ZbL,[.tmp 3,.tmp 4],2⟩
def ZkS:Zf :=
 (Ql [⟨.mv (.c (.str ⟨#[]⟩)),none⟩,Qc] [(2,0),(3,1)]
 (.seq (Ql [Qa 1] [(4,0)]
 (.block 0 (Ql [⟨.bin 1 .eql (.t 4) (.c (.str ⟨#[114,111,119]⟩)),none⟩,Qb 0] [(5,1)]
 (.cond (.t 5) (Ql [Qa 0,Qf (.nilCheck (.l 0)),Qf (.fieldAddr 0 (.l 1)),Qn 1 2,Qs ZfE [.l 3],Qp 0 4,Qp 1 4,Qb 5,Qb 6] [(2,7),(3,8)]
 .ret) (Ql [⟨.bin 1 .eql (.t 4) (.c (.str ⟨#[119,101,105,103,104,116]⟩)),none⟩,Qb 0] [(6,1)]
 (.cond (.t 6) (Ql [Qa 0,Qf (.nilCheck (.l 0)),Qf (.fieldAddr 0 (.l 1)),Qn 1 2,Qs ZdW [.l 3],Qp 0 4,Qp 1 4,Qs ZW [.l 5,.l 6],Qp 0 7,Qp 1 7,Qb 8,Qb 9] [(2,10),(3,11)]
 .ret) (Ql [⟨.bin 1 .eql (.t 4) (.c (.str ⟨#[99,101,110,116,114,101]⟩)),none⟩,Qb 0] [(7,1)]
 (.cond (.t 7) (Ql [Qa 0,Qf (.nilCheck (.l 0)),Qf (.fieldAddr 0 (.l 1)),Qn 1 2,Qs ZdX [.l 3],Qp 0 4,Qp 1 4,Qs XI [.l 5,.l 6],Qp 0 7,Qp 1 7,Qb 8,Qb 9] [(2,10),(3,11)]
 .ret) (Ql [⟨.bin 1 .eql (.t 4) (.c (.str ⟨#[115,105,100,101]⟩)),none⟩,Qb 0] [(8,1)]
 (.cond (.t 8) (Qm [Qg (.mv (.t 0)),Qg (.nilCheck (.l 0)),Qg (.fieldAddr 0 (.l 1)),Qg (.load false 1 (.l 2)),Qg (.mv (.t 0)),Qg (.nilCheck (.l 4)),Qg (.fieldAddr 1 (.l 5)),Qg (.load false 1 (.l 6)),Qg (.mv (.t 0)),Qg (.nilCheck (.l 8)),Qg (.fieldAddr 2 (.l 9)),Qg (.load false 1 (.l 10)),Qt Zdb [.l 3,.l 7,.l 11],Qg (.extract 0 (.l 12)),Qg (.extract 1 (.l 12)),Qt ZW [.l 13,.l 14],Qg (.extract 0 (.l 15)),Qg (.extract 1 (.l 15)),Qg (.mv (.l 16)),Qg (.mv (.l 17))] [(2,18),(3,19)]
 .ret) (Ql [⟨.bin 1 .eql (.t 4) (.c (.str ⟨#[116,105,112,115]⟩)),none⟩,Qb 0] [(9,1)]
 (.cond (.t 9) (Ql [Qa 0,Qf (.nilCheck (.l 0)),Qf (.fieldAddr 4 (.l 1)),Qn 1 2,Qs ZW [.l 3,Qj],Qp 0 4,Qp 1 4,Qb 5,Qb 6] [(2,7),(3,8)]
 .ret) (Ql [⟨.bin 1 .eql (.t 4) (.c (.str ⟨#[112,117,108,108]⟩)),none⟩,Qb 0] [(10,1)]
 (.cond (.t 10) (Ql [Qa 0,Qf (.nilCheck (.l 0)),Qf (.load true 6 (.l 1)),Qs ZfU [.l 2],Qp 0 3,Qp 1 3,Qs ZW [.l 4,.l 5],Qp 0 6,Qp 1 6,Qb 7,Qb 8] [(2,9),(3,10)]
 .ret) (Ql [⟨.bin 1 .eql (.t 4) (.c (.str ⟨#[115,112,108,105,116]⟩)),none⟩,Qb 0] [(11,1)]
 (.cond (.t 11) (Ql [Qa 0,Qf (.nilCheck (.l 0)),Qf (.fieldAddr 0 (.l 1)),Qn 1 2,Qs ZbC [.l 3],Qp 0 4,Qp 1 4,Qs XT [.l 5,.l 6],Qp 0 7,Qp 1 7,Qb 8,Qb 9] [(2,10),(3,11)]
 .ret) .skip))))))))))))))))
 (Ql [⟨.mv (.c (.str ⟨#[]⟩)),none⟩,Qc] [(2,0),(3,1)]
 .ret)))
def ZcI:ZH:=⟨[0,1,4,5,6,7,16,28,40,60,69,80],92,ZkS,[.tmp 2,.tmp 3],1⟩
def ZgY:Zf :=
 (Ql [⟨.mv (.c (.str ⟨#[]⟩)),none⟩,Qc] [(3,0),(4,1)]
 (.seq (Ql [Qa 1] [(10,0)]
 (.block 0 (Ql [⟨.bin 1 .eql (.t 10) (.c (.str ⟨#[109,111,109,101,110,116]⟩)),none⟩,Qb 0] [(11,1)]
 (.cond (.t 11) (Ql [Qa 0,Qf (.nilCheck (.l 0)),Qf (.fieldAddr 0 (.l 1)),Qn 1 2,Qa 2,Qs Jp [.l 3,.l 4],Qp 0 5,Qp 1 5,Qs ZW [.l 6,.l 7],Qp 0 8,Qp 1 8,Qb 9,Qb 10] [(3,11),(4,12)]
 .ret) (Ql [⟨.bin 1 .eql (.t 10) (.c (.str ⟨#[109,111,115,116]⟩)),none⟩,Qb 0] [(12,1)]
 (.cond (.t 12) (Ql [Qa 0,Qf (.nilCheck (.l 0)),Qf (.fieldAddr 3 (.l 1)),Qn 1 2,Qa 2,Qs ZdY [.l 3,.l 4],Qp 0 5,Qp 1 5,Qs ZW [.l 6,.l 7],Qp 0 8,Qp 1 8,Qb 9,Qb 10] [(3,11),(4,12)]
 .ret) (Ql [⟨.bin 1 .eql (.t 10) (.c (.str ⟨#[115,116,101,112,115]⟩)),none⟩,Qb 0] [(13,1)]
 (.cond (.t 13) (Ql [Qa 0,Qf (.nilCheck (.l 0)),Qf (.fieldAddr 3 (.l 1)),Qn 1 2,Qa 2,Qs Zau [.l 3,.l 4],Qb 5,Qp 0 6,Qp 1 6,Qb 7,Qb 8] [(5,9),(6,10)]
 (.seq (Ql [Qa 6,Qf (.un .not (.l 0))] [(14,1)]
 (.cond (.t 14) (Ql [⟨.mv (.c (.str ⟨#[]⟩)),none⟩,Qc] [(3,0),(4,1)]
 .ret) .skip))
 (Ql [Qa 5,Qa 5,Qf (.len (.l 1)),Qf (.bin 0 .sub (.l 2) (Qh 1)),Qf (.indexAddrS 2 (.l 0) (.l 3)),Qf (.load true 2 (.l 4)),Qs XI [.l 5,Qj],Qp 0 6,Qp 1 6,Qb 7,Qb 8] [(3,9),(4,10)]
 .ret))) (Ql [⟨.bin 1 .eql (.t 10) (.c (.str ⟨#[122,101,114,111]⟩)),none⟩,Qb 0] [(15,1)]
 (.cond (.t 15) (Ql [Qa 0,Qf (.nilCheck (.l 0)),Qf (.fieldAddr 0 (.l 1)),Qn 1 2,Qa 2,Qs Zcq [.l 3,.l 4],Qp 0 5,Qp 1 5,Qs ZW [.l 6,.l 7],Qp 0 8,Qp 1 8,Qb 9,Qb 10] [(3,11),(4,12)]
 .ret) (Ql [⟨.bin 1 .eql (.t 10) (.c (.str ⟨#[109,101,110,100]⟩)),none⟩,Qb 0] [(16,1)]
 (.cond (.t 16) (Ql [Qa 0,Qf (.nilCheck (.l 0)),Qf (.fieldAddr 0 (.l 1)),Qn 1 2,Qa 2,Qs ZfV [.l 3,.l 4],Qb 5,Qp 0 6,Qp 1 6,Qp 2 6,Qb 7,Qb 8,Qb 9] [(7,10),(8,11),(9,12)]
 (Ql [Qa 7,Qa 8,Qf (.buildSlice 1 2 [.int .i64 (0),.int .i64 (0)] [(0,1,(.l 0)),(1,1,(.l 1))]),Qa 9,Qs XT [.l 2,.l 3],Qp 0 4,Qp 1 4,Qb 5,Qb 6] [(3,7),(4,8)]
 .ret)) (Ql [⟨.bin 1 .eql (.t 10) (.c (.str ⟨#[99,111,105,110,115]⟩)),none⟩,Qb 0] [(17,1)]
 (.cond (.t 17) (Ql [Qa 2,Qs JR [.l 0],Qp 0 1,Qp 1 1,Qs ZW [.l 2,.l 3],Qp 0 4,Qp 1 4,Qb 5,Qb 6] [(3,7),(4,8)]
 .ret) .skip))))))))))))))
 (Ql [⟨.mv (.c (.str ⟨#[]⟩)),none⟩,Qc] [(3,0),(4,1)]
 .ret)))
def QP:ZH:=⟨[0,1,2,6,7,8,9,10,11,12,13,14,27,40,52,62,75,94],103,ZgY,[.tmp 3,.tmp 4],1⟩
def QQ:Zf :=
 (Ql [Qf (.box (.t 1)),⟨.mv (.c (.str ⟨#[]⟩)),none⟩,Qc] [(2,0),(3,1),(4,2)]
 (.seq (Ql [Qa 0,Qs YH [.l 0,Qh 0,Qh 59],Qf (.un .not (.l 1)),Qb 2,⟨.load true 2 (.t 2),some ((.l 3),false)⟩,⟨.call (.c (.fn Xq [] [])) [(.l 4)],some ((.l 3),false)⟩,⟨.un .not (.l 5),some ((.l 3),false)⟩,Qf (.pick (.l 3) Qj (.l 6))] [(7,7)]
 (.cond (.t 7) (Ql [⟨.mv (.c (.str ⟨#[]⟩)),none⟩,Qc] [(3,0),(4,1)]
 .ret) .skip))
 (Qm [Qg (.mv (.t 0)),Qg (.fieldAddr 0 (.t 2)),Qg (.load false 1 (.l 1)),Qg (.fieldAddr 1 (.t 2)),Qg (.load false 1 (.l 3)),⟨.call (.c (.fn Xj [] [])) [(.l 0)],none,[(2,Qn 1 1),(4,Qn 1 3)]⟩,⟨.bin 1 .add (.l 5) (.c (.str ⟨#[32]⟩)),none,[]⟩,Qg (.bin 1 .add (.l 6) (.l 2)),⟨.bin 1 .add (.l 7) (.c (.str ⟨#[64]⟩)),none,[]⟩,Qg (.bin 1 .add (.l 8) (.l 4)),Qt XU [.l 9],Qg (.mv (.l 10)),Qg (.extract 0 (.l 11)),Qg (.extract 1 (.l 11)),Qg (.mv (.l 12)),Qg (.mv (.l 13))] [(5,14),(6,15)]
 (Ql [Qa 5,⟨.bin 1 .add (.l 0) (.c (.str ⟨#[10]⟩)),none⟩,Qa 6,Qb 1,Qb 2] [(3,3),(4,4)]
 .ret))))
def XM:ZH:=⟨[0,1,3,4,5,6,7,15],33,QQ,[.tmp 3,.tmp 4],1⟩
def Xn:Zf :=
 (.seq (Ql [Qa 3,Qa 0,Qf (.lenStr (.l 1)),Qf (.bin 0 .lss (.l 0) (.l 2))] [(4,3)]
 (.cond (.t 4) .skip (.exit 0)))
 (.seq (.block 1 (Ql [Qa 0,Qa 3,Qf (.indexS (.l 0) (.l 1)),Qf (.conv .i64 (.l 2)),Qs YT [.l 3,Qh 32,Qh 126],Qf (.un .not (.l 4)),Qb 5,⟨.mv (.t 0),some ((.l 6),false)⟩,⟨.mv (.t 3),some ((.l 6),false)⟩,⟨.indexS (.l 7) (.l 8),some ((.l 6),false)⟩,⟨.bin 0 .eql (.l 9) (.c (.int .u8 (35))),some ((.l 6),false)⟩,Qf (.pick (.l 6) Qj (.l 10))] [(5,11)]
 (.cond (.t 5) (Ql [Qc] [(2,0)]
 .ret) .skip)))
 (.region [Qa 3,Qf (.bin 0 .add (.l 0) (Qh 1)),Qb 1] [(3,2)])))
def Zm7:Zf :=
 (Ql [Qc] [(2,0)]
 (.seq (Ql [Qe 0] [(3,0)]
 (.block 0 (.loop Xn)))
 (Ql [Qa 0,Qf (.lenStr (.l 0)),Qa 1,Qf (.bin 0 .leq (.l 1) (.l 2)),Qb 3] [(2,4)]
 .ret)))
def Zec:ZH:=⟨[0,1,4,5,9,23],28,Zm7,[.tmp 2],1⟩
def Jk:Zf :=
 (.seq (Ql [Qa 3,Qa 0,Qf (.lenStr (.l 1)),Qf (.bin 0 .lss (.l 0) (.l 2))] [(4,3)]
 (.cond (.t 4) .skip (.exit 0)))
 (.seq (.block 1 (Ql [Qa 0,Qa 3,Qf (.indexS (.l 0) (.l 1)),Qa 1,Qf (.bin 0 .eql (.l 2) (.l 3))] [(5,4)]
 (.cond (.t 5) (Ql [Qd] [(2,0)]
 .ret) .skip)))
 (.region [Qa 3,Qf (.bin 0 .add (.l 0) (Qh 1)),Qb 1] [(3,2)])))
def Zm8:Zf :=
 (Ql [Qc] [(2,0)]
 (.seq (Ql [Qe 0] [(3,0)]
 (.block 0 (.loop Jk)))
 (Ql [Qc] [(2,0)]
 .ret)))
def Zed:ZH:=⟨[0,1,4,5,9,16],17,Zm8,[.tmp 2],1⟩
def Zo3:Zf :=
 (Ql [Qf (.box (.t 0)),⟨.mv (.c (.str ⟨#[]⟩)),none⟩] [(2,0),(3,1)]
 (.seq (Ql [Qa 1] [(6,0)]
 (.block 0 (Ql [⟨.bin 1 .eql (.t 6) (.c (.str ⟨#[114,111,119]⟩)),none⟩,Qb 0] [(7,1)]
 (.cond (.t 7) (Ql [Qo 0 2,Qn 1 0,Qs ZfW [.l 1],Qb 2,Qp 0 3,Qp 1 3,Qb 4,Qb 5] [(4,6),(5,7)]
 (Ql [Qa 5] [(8,0)]
 (.cond (.t 8) (Ql [Qa 4,Qb 0] [(3,1)]
 .ret) .skip))) (Ql [⟨.bin 1 .eql (.t 6) (.c (.str ⟨#[119,101,105,103,104,116]⟩)),none⟩,Qb 0] [(9,1)]
 (.cond (.t 9) (Ql [Qo 0 2,Qn 1 0,Qs JJ [.l 1],Qs Yn [.l 2],Qb 3] [(3,4)]
 .ret) (Ql [⟨.bin 1 .eql (.t 6) (.c (.str ⟨#[99,101,110,116,114,101]⟩)),none⟩,Qb 0] [(10,1)]
 (.cond (.t 10) (Ql [Qo 0 2,Qn 1 0,Qs ZdZ [.l 1],Qp 0 2,Qp 1 2,Qs Zbg [.l 3,.l 4],Qb 5] [(3,6)]
 .ret) (Ql [⟨.bin 1 .eql (.t 6) (.c (.str ⟨#[115,105,100,101]⟩)),none⟩,Qb 0] [(11,1)]
 (.cond (.t 11) (Ql [Qo 0 2,Qn 1 0,Qo 1 2,Qn 1 2,Qo 2 2,Qn 1 4,Qs Zbh [.l 1,.l 3,.l 5],Qs Yn [.l 6],Qb 7] [(3,8)]
 .ret) (Ql [⟨.bin 1 .eql (.t 6) (.c (.str ⟨#[116,105,112,115]⟩)),none⟩,Qb 0] [(12,1)]
 (.cond (.t 12) (Ql [Qo 4 2,Qn 1 0,Qs Yn [.l 1],Qb 2] [(3,3)]
 .ret) (Ql [⟨.bin 1 .eql (.t 6) (.c (.str ⟨#[112,117,108,108]⟩)),none⟩,Qb 0] [(13,1)]
 (.cond (.t 13) (Ql [Qr 6 2,Qs ZfX [.l 0],Qp 0 1,Qp 1 1,Qs KP [.l 2,.l 3],Qb 4] [(3,5)]
 .ret) (Ql [⟨.bin 1 .eql (.t 6) (.c (.str ⟨#[115,112,108,105,116]⟩)),none⟩,Qb 0] [(14,1)]
 (.cond (.t 14) (Ql [Qo 0 2,Qn 1 0,Qs ZbG [.l 1],Qp 0 2,Qp 1 2,Qs Xy [.l 3,.l 4],Qb 5] [(3,6)]
 .ret) .skip))))))))))))))))
 (Ql [⟨.mv (.c (.str ⟨#[63]⟩)),none⟩] [(3,0)]
 .ret)))
def Zge:ZH:=⟨[0,1,2,4,5,6,7,8,16,18,24,32,42,47,54],62,Zo3,[.tmp 3],1⟩
def ZcJ:Zf :=
 (.seq (Ql [Qa 4,Qa 0,Qf (.len (.l 1)),Qf (.bin 0 .lss (.l 0) (.l 2))] [(7,3)]
 (.cond (.t 7) .skip (.exit 0)))
 (.seq (.block 1 (Ql [Qa 0,Qa 4,Qf (.indexAddrS 1 (.l 0) (.l 1)),Qn 1 2,Qs Zit [.l 3],Qb 4,Qp 0 5,Qp 1 5,Qb 6,Qb 7] [(5,8),(6,9)]
 (.seq (Ql [Qa 6,Qf (.un .not (.l 0))] [(8,1)]
 (.cond (.t 8) (Ql [Qf (.buildSlice 1 0 [] []),Qb 0,Qc] [(1,1),(2,2)]
 .ret) .skip))
 (.region [Qa 3,Qa 5,Qf (.buildSlice 1 1 [.int .i64 (0)] [(0,1,(.l 1))]),Qf (.append false 1 8 (.l 0) (.l 2)),Qb 3] [(3,4)]))))
 (.region [Qa 4,Qf (.bin 0 .add (.l 0) (Qh 1)),Qb 1] [(4,2)])))
def Zo4:Zf :=
 (Ql [Qf (.mv (.c (.slice none 0 0 none))),Qc] [(1,0),(2,1)]
 (Ql [Qf (.buildSlice 1 0 [] []),Qb 0] [(3,1)]
 (.seq (Ql [Qe 1] [(4,0)]
 (.block 0 (.loop ZcJ)))
 (Ql [Qa 3,Qb 0,Qd] [(1,1),(2,2)]
 .ret))))
def QW:ZH:=⟨[0,2,3,4,5,6,7,12,24],31,Zo4,[.tmp 1,.tmp 2],2⟩
def ZaH:Zf :=
 (.seq (Ql [Qa 6,Qa 3,Qf (.len (.l 1)),Qf (.bin 0 .lss (.l 0) (.l 2))] [(8,3)]
 (.cond (.t 8) .skip (.exit 0)))
 (.seq (.block 1 (Ql [Qa 0,Qa 3,Qa 6,Qf (.indexAddrS 1 (.l 1) (.l 2)),Qn 1 3,Qf (.bin 1 .eql (.l 0) (.l 4)),Qb 5,⟨.mv (.t 1),some ((.l 6),true)⟩,⟨.len (.l 7),some ((.l 6),true)⟩,⟨.mv (.t 5),some ((.l 6),true)⟩,⟨.mv (.t 6),some ((.l 6),true)⟩,⟨.indexAddrS 1 (.l 9) (.l 10),some ((.l 6),true)⟩,⟨.load false 1 (.l 11),some ((.l 6),true)⟩,⟨.bin 0 .eql (.l 8) (.l 12),some ((.l 6),true)⟩,Qf (.pick (.l 6) (.l 13) Qi)] [(9,14)]
 (.cond (.t 9) (Ql [Qa 1,Qs Zav [.l 0],Qf (.buildSlice 1 2 [.int .i64 (0),.int .i64 (0)] [(0,1,(Qh 0)),(1,1,(Qh 0))]),Qf (.append false 1 8 (.l 1) (.l 2)),Qb 3] [(7,4)]
 (Qm [Qg (.mv (.t 4)),Qg (.mv (.t 6)),Qg (.indexAddrS 1 (.l 0) (.l 1)),Qg (.load false 1 (.l 2)),Qg (.mv (.t 7)),Qg (.indexAddrS 1 (.l 4) (Qh 0)),Qg (.load false 1 (.l 5)),Qg (.mv (.t 7)),Qg (.indexAddrS 1 (.l 7) (Qh 1)),Qg (.load false 1 (.l 8)),Qg (.mv (.t 7)),Qg (.indexAddrS 1 (.l 10) (Qh 2)),Qg (.load false 1 (.l 11)),Qg (.build [.int .i64 (0),.int .i64 (0),.int .i64 (0),.int .i64 (0)] [(0,1,(.l 3)),(1,1,(.l 6)),(2,1,(.l 9)),(3,1,(.l 12))]),Qg (.store 4 (.t 2) (.l 13))] []
 .ret)) .skip)))
 (.region [Qa 6,Qf (.bin 0 .add (.l 0) (Qh 1)),Qb 1] [(6,2)])))
def Zo5:Zf :=
 (Ql [Qf (.alloc [.int .i64 (0),.int .i64 (0),.int .i64 (0),.int .i64 (0)])] [(2,0)]
 (Ql [⟨.buildSlice 1 6 [.str ⟨#[]⟩,.str ⟨#[]⟩,.str ⟨#[]⟩,.str ⟨#[]⟩,.str ⟨#[]⟩,.str ⟨#[]⟩] [(0,1,(.c (.str ⟨#[116,97,107,101]⟩))),(1,1,(.c (.str ⟨#[100,114,111,112]⟩))),(2,1,(.c (.str ⟨#[108,111,97,100]⟩))),(3,1,(.c (.str ⟨#[109,111,118,101]⟩))),(4,1,(.c (.str ⟨#[98,97,115,101]⟩))),(5,1,(.c (.str ⟨#[115,116,97,103,101]⟩)))],none⟩,Qb 0] [(3,1)]
 (Ql [Qf (.buildSlice 1 6 [.int .i64 (0),.int .i64 (0),.int .i64 (0),.int .i64 (0),.int .i64 (0),.int .i64 (0)] [(0,1,(Qh 2)),(1,1,(Qh 6)),(2,1,(Qh 1)),(3,1,(Qh 3)),(4,1,(Qh 4)),(5,1,(Qh 5))]),Qb 0] [(4,1)]
 (Ql [Qf (.buildSlice 1 6 [.int .i64 (0),.int .i64 (0),.int .i64 (0),.int .i64 (0),.int .i64 (0),.int .i64 (0)] [(0,1,(Qh 1)),(1,1,(Qh 1)),(2,1,(Qh 2)),(3,1,(Qh 2)),(4,1,(Qh 2)),(5,1,(Qh 3))]),Qb 0] [(5,1)]
 (.seq (Ql [Qe 0] [(6,0)]
 (.block 0 (.loop ZaH)))
 (Ql [Qf (.build [.int .i64 (0),.int .i64 (0),.int .i64 (0),.int .i64 (0)] []),Qf (.store 4 (.t 2) (.l 0))] []
 .ret))))))
def KA:ZH:=⟨[0,1,4,5,6,7,8,9,16,33],53,Zo5,[.cell 2 true 4],1⟩
def Zdh:Zf :=
 (Ql [Qf (.box (.t 0)),Qf (.box (.t 1)),Qf (.alloc [.slice none 0 0 none,.int .i64 (0),.int .i64 (0),.slice none 0 0 none,.int .i64 (0),.int .i64 (0)]),⟨.mv (.c (.str ⟨#[]⟩)),none⟩] [(2,0),(3,1),(4,2),(5,3)]
 (Ql [Qr 6 2,Qr 4 3,Qs Zho [.l 0,.l 1],Qb 2,Qp 0 3,Qp 1 3,Qf (.alloc [.slice none 0 0 none,.int .i64 (0),.int .i64 (0),.slice none 0 0 none,.int .i64 (0),.int .i64 (0)]),Qq 6 6 4,Qb 5] [(6,6),(7,8)]
 (.seq (Ql [Qa 7,Qf (.un .not (.l 0))] [(8,1)]
 (.cond (.t 8) (Ql [Qr 6 2,Qf (.store 6 (.t 4) (.l 0)),⟨.mv (.c (.str ⟨#[63]⟩)),none⟩] [(5,2)]
 .ret) .skip))
 (.seq (Ql [Qo 0 3,Qn 1 0] [(9,1)]
 (.block 0 (.seq (Ql [Qf (.bin 0 .eql (.t 9) (Qh 5)),Qb 0] [(10,1)]
 (.cond (.t 10) .skip (.region [Qf (.bin 0 .eql (.t 9) (Qh 6)),Qb 0] [(10,1)])))
 (.cond (.t 10) (Qm [Qg (.load true 6 (.t 6)),Qg (.fieldAddr 3 (.t 6)),Qg (.load false 1 (.l 1)),⟨.call (.c (.fn Jg [] [])) [(.l 2)],none,[(0,Qr 6 6)]⟩,⟨.call (.c (.fn Zbg [] [])) [(.l 3),Qj],none,[(0,Qr 6 6)]⟩,Qg (.store 6 (.t 4) (.l 0)),Qg (.mv (.l 4))] [(5,6)]
 .ret) .skip))))
 (Qm [Qg (.load true 6 (.t 6)),Qg (.fieldAddr 0 (.t 6)),Qg (.load false 1 (.l 1)),Qg (.fieldAddr 1 (.t 6)),Qg (.load false 1 (.l 3)),Qg (.fieldAddr 2 (.t 6)),Qg (.load false 1 (.l 5)),⟨.call (.c (.fn Zbh [] [])) [(.l 2),(.l 4),(.l 6)],none,[(0,Qr 6 6)]⟩,⟨.call (.c (.fn Yn [] [])) [(.l 7)],none,[(0,Qr 6 6)]⟩,Qg (.store 6 (.t 4) (.l 0)),Qg (.mv (.l 8))] [(5,10)]
 .ret)))))
def QX:ZH:=⟨[0,1,2,3,4,5,6,7,15,18,19],36,Zdh,[.cell 4 true 6,.tmp 5],2⟩
def ZrZ:Zf :=
 (Ql [Qf (.box (.t 0)),⟨.mv (.c (.str ⟨#[]⟩)),none⟩] [(3,0),(4,1)]
 (.seq (Ql [Qa 1] [(5,0)]
 (.block 0 (Ql [⟨.bin 1 .eql (.t 5) (.c (.str ⟨#[119,101,105,103,104]⟩)),none⟩,Qb 0] [(6,1)]
 (.cond (.t 6) (Ql [Qa 2,Qs Zd0 [.l 0,Qj],Qp 0 1,Qp 1 1,Qs KP [.l 2,.l 3],Qb 4] [(4,5)]
 .ret) (Ql [⟨.bin 1 .eql (.t 5) (.c (.str ⟨#[104,111,119]⟩)),none⟩,Qb 0] [(7,1)]
 (.cond (.t 7) (Qm [Qg (.mv (.t 2)),Qg (.sliceSl 1 (.l 0) (some (Qh 1)) none none),Qg (.mv (.t 2)),Qg (.indexAddrS 1 (.l 2) (Qh 0)),Qg (.load false 1 (.l 3)),Qt QB [.l 1,.l 4],Qg (.extract 0 (.l 5)),Qg (.extract 1 (.l 5)),Qt Xy [.l 6,.l 7],Qg (.mv (.l 8))] [(4,9)]
 .ret) .skip))))))
 (.seq (Ql [Qa 2,Qf (.len (.l 0)),Qf (.bin 0 .eql (.l 1) (Qh 1))] [(8,2)]
 (.cond (.t 8) (Qm [Qg (.load true 6 (.t 3)),Qg (.mv (.t 1)),Qg (.mv (.t 2)),Qg (.indexAddrS 1 (.l 2) (Qh 0)),Qg (.load false 1 (.l 3)),Qt Ziu [.l 0,.l 1,.l 4],Qg (.mv (.l 5))] [(4,6)]
 .ret) .skip))
 (Ql [⟨.mv (.c (.str ⟨#[63]⟩)),none⟩] [(4,0)]
 .ret))))
def ZiG:ZH:=⟨[0,1,2,3,6,7,8,15,28],35,ZrZ,[.tmp 4],1⟩
def Zo6:Zf :=
 (Ql [Qf (.box (.t 1)),⟨.mv (.c (.str ⟨#[]⟩)),none⟩] [(2,0),(3,1)]
 (Qm [Qg (.mv (.t 0)),Qg (.fieldAddr 0 (.t 2)),Qg (.load false 1 (.l 1)),Qg (.fieldAddr 1 (.t 2)),Qg (.load false 1 (.l 3)),⟨.call (.c (.fn Yn [] [])) [(.l 0)],none,[(2,Qn 1 1),(4,Qn 1 3)]⟩,⟨.bin 1 .add (.l 5) (.c (.str ⟨#[32]⟩)),none,[]⟩,Qg (.bin 1 .add (.l 6) (.l 2)),⟨.bin 1 .add (.l 7) (.c (.str ⟨#[64]⟩)),none,[]⟩,Qg (.bin 1 .add (.l 8) (.l 4)),Qt Ziv [.l 9],⟨.bin 1 .add (.l 10) (.c (.str ⟨#[10]⟩)),none,[]⟩,Qg (.mv (.l 11))] [(3,12)]
 .ret))
def Zgf:ZH:=⟨[0,1,3,4],17,Zo6,[.tmp 3],1⟩
def Xc:Zf :=
 (.seq (Ql [Qa 3,Qf (.len (.l 0)),Qf (.bin 0 .lss (.l 1) (Qh 60))] [(10,2)]
 (.cond (.t 10) .skip (.exit 0)))
 (.block 1 (Ql [Qa 0,Qa 5,Qf (.sliceStr (.l 0) (some (.l 1)) none),⟨.call (.c (.fn JS [] [])) [(.l 2),(.c (.str ⟨#[10]⟩))],none⟩,Qb 3,Qp 0 4,Qp 1 4,Qp 2 4,Qb 5,Qb 6,Qb 7] [(6,8),(7,10)]
 (Ql [Qa 3,Qf (.len (.l 0)),Qa 6,Qs Ziw [.l 1,.l 2],Qb 3,Qp 0 4,Qp 1 4,⟨.alloc [.str ⟨#[]⟩,.str ⟨#[]⟩],none⟩,Qq 2 7 5,Qb 6] [(8,7),(9,9)]
 (.seq (Ql [Qa 7,Qf (.un .not (.l 0)),Qb 1,⟨.mv (.t 9),some ((.l 2),false)⟩,⟨.un .not (.l 3),some ((.l 2),false)⟩,Qf (.pick (.l 2) Qj (.l 4))] [(11,5)]
 (.cond (.t 11) (.exit 0) .skip))
 (Ql [Qa 5,Qa 6,Qf (.lenStr (.l 1)),Qf (.bin 0 .add (.l 2) (Qh 1)),Qf (.bin 0 .add (.l 0) (.l 3)),Qb 4] [(5,5)]
 (.region [Qa 3,Qr 2 8,⟨.buildSlice 2 1 [.str ⟨#[]⟩,.str ⟨#[]⟩] [(0,2,(.l 1))],none⟩,Qf (.append false 2 32 (.l 0) (.l 2)),Qa 4,Qa 5,Qf (.buildSlice 1 1 [.int .i64 (0)] [(0,1,(.l 5))]),Qf (.append false 1 8 (.l 4) (.l 6)),Qb 3,Qb 7] [(3,8),(4,9)])))))))
def Zee:Zf :=
 (Ql [Qf (.mv (.c (.slice none 0 0 none))),Qf (.mv (.c (.slice none 0 0 none)))] [(1,0),(2,1)]
 (Ql [Qf (.buildSlice 2 0 [] []),Qf (.buildSlice 1 0 [] []),Qb 0,Qb 1,Qe 0] [(3,2),(4,3),(5,4)]
 (.seq (.block 0 (.loop Xc))
 (Ql [Qa 3,Qa 4,Qb 0,Qb 1] [(1,2),(2,3)]
 .ret))))
def YD:ZH:=⟨[0,2,3,4,5,6,7,9,10,11,16,37],53,Zee,[.tmp 1,.tmp 2],2⟩
def K4:Zf :=
 (Ql [Qc] [(2,0)]
 (Ql [Qa 0,Qa 1,Qs Xg [.l 0,.l 1],Qf (.bin 0 .geq (.l 2) (Qh 0)),Qb 3] [(2,4)]
 .ret))
def Yg:ZH:=⟨[0,1,4],9,K4,[.tmp 2],1⟩
def Zhz:Zf :=
 (Ql [Qf (.box (.t 0)),Qf (.box (.t 1)),Qf (.alloc [.slice none 0 0 none,.int .i64 (0),.int .i64 (0),.slice none 0 0 none,.int .i64 (0),.int .i64 (0)]),Qc] [(2,0),(3,1),(4,2),(5,3)]
 (.seq (Ql [Qr 6 2,Qr 4 3,Qs Zix [.l 0,.l 1],Qf (.un .not (.l 2))] [(7,3)]
 (.cond (.t 7) (Ql [Qf (.build [.slice none 0 0 none,.int .i64 (0),.int .i64 (0),.slice none 0 0 none,.int .i64 (0),.int .i64 (0)] []),Qf (.store 6 (.t 4) (.l 0)),Qc] [(5,2)]
 .ret) .skip))
 (Ql [Qr 6 2,Qr 4 3,Qs ZfY [.l 0,.l 1],Qf (.alloc [.slice none 0 0 none,.int .i64 (0),.int .i64 (0),.slice none 0 0 none,.int .i64 (0),.int .i64 (0)]),Qq 6 3 2] [(6,3)]
 (Ql [Qo 5 2,Qn 1 0,Qf (.bin 0 .add (.l 1) (Qh 1)),Qo 5 6,Qq 1 3 2] []
 (.seq (Ql [Qr 6 6,Qs JQ [.l 0],Qf (.un .not (.l 1))] [(8,2)]
 (.cond (.t 8) (Ql [Qf (.build [.slice none 0 0 none,.int .i64 (0),.int .i64 (0),.slice none 0 0 none,.int .i64 (0),.int .i64 (0)] []),Qf (.store 6 (.t 4) (.l 0)),Qc] [(5,2)]
 .ret) .skip))
 (.seq (Ql [Qo 0 6,Qn 1 0,Qo 1 6,Qn 1 2,Qo 2 6,Qn 1 4,Qs Zbh [.l 1,.l 3,.l 5],Qf (.bin 0 .neq (.l 6) (Qh 0))] [(9,7)]
 (.cond (.t 9) (.region [Qo 4 2,Qn 1 0,Qf (.bin 0 .add (.l 1) (Qh 1)),Qo 4 6,Qq 1 3 2] []) .skip))
 (Ql [Qr 6 6,Qf (.store 6 (.t 4) (.l 0)),Qd] [(5,2)]
 .ret)))))))
def Zdi:ZH:=⟨[0,1,2,3,4,5,6,10,21,30],36,Zhz,[.cell 4 true 6,.tmp 5],2⟩
def ZaI:Zf :=
 (Ql [⟨.alloc [.str ⟨#[]⟩,.str ⟨#[]⟩],none⟩,Qc] [(2,0),(3,1)]
 (Ql [Qa 1,Qs Yn [.l 0],⟨.bin 1 .add (.l 1) (.c (.str ⟨#[32]⟩)),none⟩,Qb 2] [(4,3)]
 (Ql [Qa 0,Qs Xx [.l 0,(.c (.int .u8 (35)))],Qf (.indexAddrS 1 (.l 1) (Qh 0)),Qn 1 2,Qb 3] [(5,4)]
 (.seq (Ql [Qa 5,Qf (.lenStr (.l 0)),Qa 4,Qf (.lenStr (.l 2)),Qf (.bin 0 .lss (.l 1) (.l 3)),Qb 4,⟨.mv (.t 5),some ((.l 5),false)⟩,⟨.mv (.t 4),some ((.l 5),false)⟩,⟨.lenStr (.l 7),some ((.l 5),false)⟩,⟨.sliceStr (.l 6) none (some (.l 8)),some ((.l 5),false)⟩,⟨.mv (.t 4),some ((.l 5),false)⟩,⟨.bin 1 .neq (.l 9) (.l 10),some ((.l 5),false)⟩,Qf (.pick (.l 5) Qj (.l 11))] [(9,12)]
 (.cond (.t 9) (Ql [⟨.build [.str ⟨#[]⟩,.str ⟨#[]⟩] [],none⟩,Qf (.store 2 (.t 2) (.l 0)),Qc] [(3,2)]
 .ret) .skip))
 (Ql [Qa 5,Qa 4,Qf (.lenStr (.l 1)),Qf (.sliceStr (.l 0) (some (.l 2)) none),Qb 3] [(6,4)]
 (Ql [Qa 6,Qs Xx [.l 0,(.c (.int .u8 (64)))],Qf (.indexAddrS 1 (.l 1) (Qh 0)),Qn 1 2,Qb 3] [(7,4)]
 (.seq (Ql [Qa 7,Qf (.lenStr (.l 0)),Qa 6,Qf (.lenStr (.l 2)),Qf (.bin 0 .eql (.l 1) (.l 3))] [(10,4)]
 (.cond (.t 10) (Ql [⟨.build [.str ⟨#[]⟩,.str ⟨#[]⟩] [],none⟩,Qf (.store 2 (.t 2) (.l 0)),Qc] [(3,2)]
 .ret) .skip))
 (Ql [Qa 7,Qa 6,Qa 7,Qf (.lenStr (.l 2)),Qf (.bin 0 .add (.l 3) (Qh 1)),Qf (.sliceStr (.l 1) (some (.l 4)) none),⟨.build [.str ⟨#[]⟩,.str ⟨#[]⟩] [(0,1,(.l 0)),(1,1,(.l 5))],none⟩,⟨.alloc [.str ⟨#[]⟩,.str ⟨#[]⟩],none⟩,Qq 2 7 6] [(8,7)]
 (Qm [Qg (.load true 2 (.t 8)),Qg (.load true 2 (.t 8)),⟨.call (.c (.fn KM [] [])) [(.l 1)],none,[(0,Qr 2 8)]⟩,Qg (.mv (.l 2)),⟨.mv (.t 1),some ((.l 3),true),[]⟩,⟨.load true 2 (.t 8),some ((.l 3),true),[]⟩,⟨.mv (.t 0),some ((.l 3),true),[]⟩,⟨.bin 1 .add (.l 6) (.c (.str ⟨#[10]⟩)),some ((.l 3),true),[]⟩,⟨.call (.c (.fn Zc9 [] [])) [(.l 4),(.l 5)],some ((.l 3),true),[(0,Qr 2 8)]⟩,⟨.bin 1 .eql (.l 8) (.l 7),some ((.l 3),true),[]⟩,Qg (.pick (.l 3) (.l 9) Qi),Qg (.store 2 (.t 2) (.l 0)),Qg (.mv (.l 10))] [(3,12)]
 .ret)))))))))
def JU:ZH:=⟨[0,1,4,5,6,7,8,9,10,30,44],64,ZaI,[.cell 2 true 2,.tmp 3],1⟩
def Xo:Zf :=
 (Ql [Qc] [(2,0)]
 (Ql [Qa 0,Qa 1,Qs Z0 [.l 0,.l 1],Qf (.bin 0 .geq (.l 2) (Qh 0)),Qb 3] [(2,4)]
 .ret))
def ZT:ZH:=⟨[0,1,4],9,Xo,[.tmp 2],1⟩
def Zo7:Zf :=
 (Ql [Qf (.box (.t 0)),Qc] [(1,0),(2,1)]
 (Ql [Qo 0 1,Qn 1 0,Qs Jf [.l 1],Qf (.un .not (.l 2)),Qb 3,⟨.fieldAddr 1 (.t 1),some ((.l 4),false)⟩,⟨.load false 1 (.l 5),some ((.l 4),false)⟩,⟨.call (.c (.fn Ku [] [])) [(.l 6)],some ((.l 4),false)⟩,⟨.un .not (.l 7),some ((.l 4),false)⟩,Qf (.pick (.l 4) Qj (.l 8)),Qb 9] [(2,10)]
 .ret))
def Zgg:ZH:=⟨[0,1,2],13,Zo7,[.tmp 2],1⟩
def Zm9:Zf :=
 (Ql [Qc] [(1,0)]
 (Ql [Qa 0,Qs YH [.l 0,Qh 1,Qh 99],Qb 1] [(1,2)]
 .ret))
def Zef:ZH:=⟨[0,2],5,Zm9,[.tmp 1],1⟩
def Zmh:Zf :=
 (Ql [Qe 0] [(2,0)]
 (.seq (Ql [Qa 0,Qf (.len (.l 0)),Qa 1,Qf (.len (.l 2)),Qf (.bin 0 .neq (.l 1) (.l 3))] [(3,4)]
 (.cond (.t 3) (Ql [Qa 0,Qf (.len (.l 0)),Qa 1,Qf (.len (.l 2)),Qf (.bin 0 .sub (.l 1) (.l 3)),Qb 4] [(2,5)]
 .ret) .skip))
 (Ql [Qa 0,Qa 1,Qs ZeK [.l 0,.l 1],Qb 2] [(2,3)]
 .ret)))
def Zbo:ZH:=⟨[0,1,4,9],18,Zmh,[.tmp 2],1⟩
def Zr0:Zf :=
 (Ql [Qf (.box (.t 0)),Qf (.alloc [.int .i64 (0),.int .i64 (0)])] [(1,0),(2,1)]
 (Ql [Qf (.alloc [.int .i64 (0),.int .i64 (0)])] [(3,0)]
 (Ql [Qo 0 1,Qn 1 0,Qo 0 3,Qq 1 2 1] []
 (Ql [Qo 1 1,Qn 1 0,Qo 1 3,Qq 1 2 1] []
 (Ql [Qr 2 3,Qf (.store 2 (.t 2) (.l 0))] []
 .ret)))))
def ZiH:ZH:=⟨[0,1,2,3],11,Zr0,[.cell 2 true 2],1⟩
def Zo8:Zf :=
 (Ql [Qf (.box (.t 0)),Qf (.alloc [.int .i64 (0),.int .i64 (0),.int .i64 (0)])] [(1,0),(2,1)]
 (Ql [Qf (.alloc [.int .i64 (0),.int .i64 (0),.int .i64 (0)])] [(3,0)]
 (Ql [Qo 0 1,Qn 1 0,Qo 0 3,Qq 1 2 1] []
 (Ql [Qo 1 1,Qn 1 0,Qo 1 3,Qq 1 2 1] []
 (Ql [Qo 2 1,Qn 1 0,Qo 2 3,Qq 1 2 1] []
 (Ql [Qr 3 3,Qf (.store 3 (.t 2) (.l 0))] []
 .ret))))))
def Zgh:ZH:=⟨[0,1,2,3],14,Zo8,[.cell 2 true 3],1⟩
def Zr1:Zf :=
 (Ql [Qf (.box (.t 0)),Qf (.box (.t 1)),Qc] [(2,0),(3,1),(4,2)]
 (.seq (Ql [Qo 0 2,Qn 1 0,Qo 0 3,Qn 1 2,Qf (.bin 0 .neq (.l 1) (.l 3))] [(5,4)]
 (.cond (.t 5) (Ql [Qc] [(4,0)]
 .ret) .skip))
 (.seq (Ql [Qo 1 2,Qn 1 0,Qo 1 3,Qn 1 2,Qf (.bin 0 .neq (.l 1) (.l 3))] [(6,4)]
 (.cond (.t 6) (Ql [Qc] [(4,0)]
 .ret) .skip))
 (Ql [Qd] [(4,0)]
 .ret))))
def ZiI:ZH:=⟨[0,1,2,3,4,9,14],15,Zr1,[.tmp 4],1⟩
def Zo9:Zf :=
 (Ql [Qf (.box (.t 0)),Qf (.box (.t 1)),Qc] [(2,0),(3,1),(4,2)]
 (.seq (Ql [Qo 0 2,Qn 1 0,Qo 0 3,Qn 1 2,Qf (.bin 0 .neq (.l 1) (.l 3))] [(5,4)]
 (.cond (.t 5) (Ql [Qc] [(4,0)]
 .ret) .skip))
 (.seq (Ql [Qo 1 2,Qn 1 0,Qo 1 3,Qn 1 2,Qf (.bin 0 .neq (.l 1) (.l 3))] [(6,4)]
 (.cond (.t 6) (Ql [Qc] [(4,0)]
 .ret) .skip))
 (.seq (Ql [Qo 2 2,Qn 1 0,Qo 2 3,Qn 1 2,Qf (.bin 0 .neq (.l 1) (.l 3))] [(7,4)]
 (.cond (.t 7) (Ql [Qc] [(4,0)]
 .ret) .skip))
 (Ql [Qd] [(4,0)]
 .ret)))))
def Zgi:ZH:=⟨[0,1,2,3,4,9,14,19],20,Zo9,[.tmp 4],1⟩
def Jv:Zf :=
 (.seq (Ql [Qa 3,Qa 0,Qf (.len (.l 1)),Qf (.bin 0 .lss (.l 0) (.l 2))] [(4,3)]
 (.cond (.t 4) .skip (.exit 0)))
 (.seq (.block 1 (.seq (Ql [Qa 0,Qa 3,Qf (.indexAddrS 2 (.l 0) (.l 1)),Qf (.fieldAddr 0 (.l 2)),Qn 1 3,Qa 1,Qf (.bin 0 .neq (.l 4) (.l 5))] [(5,6)]
 (.cond (.t 5) (Ql [Qe (-1)] [(2,0)]
 .ret) .skip))
 (Ql [Qa 1,Qf (.bin 0 .add (.l 0) (Qh 1)),Qb 1] [(1,2)]
 (.seq (Ql [Qa 0,Qa 3,Qf (.indexAddrS 2 (.l 0) (.l 1)),Qf (.fieldAddr 1 (.l 2)),Qn 1 3,Qa 1,Qf (.bin 0 .neq (.l 4) (.l 5))] [(6,6)]
 (.cond (.t 6) (Ql [Qe (-1)] [(2,0)]
 .ret) .skip))
 (.region [Qa 1,Qf (.bin 0 .add (.l 0) (Qh 1)),Qb 1] [(1,2)])))))
 (.region [Qa 3,Qf (.bin 0 .add (.l 0) (Qh 1)),Qb 1] [(3,2)])))
def ZkT:Zf :=
 (Ql [Qe 0] [(2,0)]
 (.seq (Ql [Qe 0] [(3,0)]
 (.block 0 (.loop Jv)))
 (Ql [Qa 1,Qb 0] [(2,1)]
 .ret)))
def ZcK:ZH:=⟨[0,1,4,5,9,18,27],31,ZkT,[.tmp 2],1⟩
def XN:Zf :=
 (.seq (Ql [Qa 3,Qa 0,Qf (.len (.l 1)),Qf (.bin 0 .lss (.l 0) (.l 2))] [(4,3)]
 (.cond (.t 4) .skip (.exit 0)))
 (.seq (.block 1 (.seq (Ql [Qa 0,Qa 3,Qf (.indexAddrS 3 (.l 0) (.l 1)),Qf (.fieldAddr 0 (.l 2)),Qn 1 3,Qa 1,Qf (.bin 0 .neq (.l 4) (.l 5))] [(5,6)]
 (.cond (.t 5) (Ql [Qe (-1)] [(2,0)]
 .ret) .skip))
 (Ql [Qa 1,Qf (.bin 0 .add (.l 0) (Qh 1)),Qb 1] [(1,2)]
 (.seq (Ql [Qa 0,Qa 3,Qf (.indexAddrS 3 (.l 0) (.l 1)),Qf (.fieldAddr 1 (.l 2)),Qn 1 3,Qa 1,Qf (.bin 0 .neq (.l 4) (.l 5))] [(6,6)]
 (.cond (.t 6) (Ql [Qe (-1)] [(2,0)]
 .ret) .skip))
 (Ql [Qa 1,Qf (.bin 0 .add (.l 0) (Qh 1)),Qb 1] [(1,2)]
 (.seq (Ql [Qa 0,Qa 3,Qf (.indexAddrS 3 (.l 0) (.l 1)),Qf (.fieldAddr 2 (.l 2)),Qn 1 3,Qa 1,Qf (.bin 0 .neq (.l 4) (.l 5))] [(7,6)]
 (.cond (.t 7) (Ql [Qe (-1)] [(2,0)]
 .ret) .skip))
 (.region [Qa 1,Qf (.bin 0 .add (.l 0) (Qh 1)),Qb 1] [(1,2)])))))))
 (.region [Qa 3,Qf (.bin 0 .add (.l 0) (Qh 1)),Qb 1] [(3,2)])))
def Zjm:Zf :=
 (Ql [Qe 0] [(2,0)]
 (.seq (Ql [Qe 0] [(3,0)]
 (.block 0 (.loop XN)))
 (Ql [Qa 1,Qb 0] [(2,1)]
 .ret)))
def ZbM:ZH:=⟨[0,1,4,5,9,18,27,36],40,Zjm,[.tmp 2],1⟩
def QY:Zf :=
 (Ql [Qf (.box (.t 0)),Qc] [(1,0),(2,1)]
 (.seq (Ql [Qo 0 1,Qn 1 0] [(3,1)]
 (.block 0 (.seq (Ql [Qf (.bin 0 .eql (.t 3) (Qh 1)),Qb 0] [(4,1)]
 (.cond (.t 4) .skip (.region [Qf (.bin 0 .eql (.t 3) (Qh 3)),Qb 0] [(4,1)])))
 (.cond (.t 4) (Ql [Qo 1 1,Qn 1 0,Qs Jh [.l 1],Qb 2,⟨.fieldAddr 2 (.t 1),some ((.l 3),true)⟩,⟨.load false 1 (.l 4),some ((.l 3),true)⟩,⟨.call (.c (.fn Jh [] [])) [(.l 5)],some ((.l 3),true)⟩,Qf (.pick (.l 3) (.l 6) Qi),Qb 7] [(2,8)]
 .ret) (Ql [Qf (.bin 0 .eql (.t 3) (Qh 2)),Qb 0] [(5,1)]
 (.cond (.t 5) (Ql [Qo 1 1,Qn 1 0,Qs Jh [.l 1],Qb 2,⟨.fieldAddr 2 (.t 1),some ((.l 3),true)⟩,⟨.load false 1 (.l 4),some ((.l 3),true)⟩,⟨.bin 0 .eql (.l 5) (Qh 0),some ((.l 3),true)⟩,Qf (.pick (.l 3) (.l 6) Qi),Qb 7] [(2,8)]
 .ret) (Ql [Qf (.bin 0 .eql (.t 3) (Qh 4)),Qb 0] [(6,1)]
 (.cond (.t 6) (Ql [Qo 1 1,Qn 1 0,Qs Jh [.l 1],Qb 2,⟨.fieldAddr 2 (.t 1),some ((.l 3),true)⟩,⟨.load false 1 (.l 4),some ((.l 3),true)⟩,⟨.call (.c (.fn Jh [] [])) [(.l 5)],some ((.l 3),true)⟩,Qf (.pick (.l 3) (.l 6) Qi),Qb 7,⟨.fieldAddr 1 (.t 1),some ((.l 8),true)⟩,⟨.load false 1 (.l 9),some ((.l 8),true)⟩,⟨.fieldAddr 2 (.t 1),some ((.l 8),true)⟩,⟨.load false 1 (.l 11),some ((.l 8),true)⟩,⟨.bin 0 .geq (.l 10) (.l 12),some ((.l 8),true)⟩,Qf (.pick (.l 8) (.l 13) Qi),Qb 14] [(2,15)]
 .ret) (Ql [Qf (.bin 0 .eql (.t 3) (Qh 5)),Qb 0] [(7,1)]
 (.cond (.t 7) (Ql [Qo 1 1,Qn 1 0,Qs Jh [.l 1],Qb 2,⟨.fieldAddr 2 (.t 1),some ((.l 3),true)⟩,⟨.load false 1 (.l 4),some ((.l 3),true)⟩,⟨.call (.c (.fn Jh [] [])) [(.l 5)],some ((.l 3),true)⟩,Qf (.pick (.l 3) (.l 6) Qi),Qb 7,⟨.fieldAddr 1 (.t 1),some ((.l 8),true)⟩,⟨.load false 1 (.l 9),some ((.l 8),true)⟩,⟨.fieldAddr 2 (.t 1),some ((.l 8),true)⟩,⟨.load false 1 (.l 11),some ((.l 8),true)⟩,⟨.bin 0 .gtr (.l 10) (.l 12),some ((.l 8),true)⟩,Qf (.pick (.l 8) (.l 13) Qi),Qb 14] [(2,15)]
 .ret) .skip))))))))))
 (Ql [Qc] [(2,0)]
 .ret)))
def JV:ZH:=⟨[0,1,2,4,5,16,26,43],60,QY,[.tmp 2],1⟩
def Jl:Zf :=
 (.seq (Ql [Qa 2,Qa 0,Qf (.len (.l 1)),Qf (.bin 0 .lss (.l 0) (.l 2)),Qb 3,⟨.mv (.t 2),some ((.l 4),true)⟩,⟨.bin 0 .leq (.l 5) (Qh 12),some ((.l 4),true)⟩,Qf (.pick (.l 4) (.l 6) Qi)] [(3,7)]
 (.cond (.t 3) .skip (.exit 0)))
 (.seq (.block 1 (Ql [Qa 0,Qa 2,Qf (.indexAddrS 2 (.l 0) (.l 1)),Qf (.fieldAddr 0 (.l 2)),Qn 1 3,Qs Zaw [.l 4],Qf (.un .not (.l 5)),Qb 6,⟨.mv (.t 0),some ((.l 7),false)⟩,⟨.mv (.t 2),some ((.l 7),false)⟩,⟨.indexAddrS 2 (.l 8) (.l 9),some ((.l 7),false)⟩,⟨.fieldAddr 1 (.l 10),some ((.l 7),false)⟩,⟨.load false 1 (.l 11),some ((.l 7),false)⟩,⟨.call (.c (.fn YT [] [])) [(.l 12),(Qh 1),(Qh 99)],some ((.l 7),false)⟩,⟨.un .not (.l 13),some ((.l 7),false)⟩,Qf (.pick (.l 7) Qj (.l 14))] [(4,15)]
 (.cond (.t 4) (Ql [Qc] [(1,0)]
 .ret) .skip)))
 (.region [Qa 2,Qf (.bin 0 .add (.l 0) (Qh 1)),Qb 1] [(2,2)])))
def Zu6:Zf :=
 (Ql [Qc] [(1,0)]
 (.seq (Ql [Qe 0] [(2,0)]
 (.block 0 (.loop Jl)))
 (Ql [Qa 0,Qf (.len (.l 0)),Qf (.bin 0 .leq (.l 1) (Qh 12)),Qb 2] [(1,3)]
 .ret)))
def ZkU:ZH:=⟨[0,2,3,11,29],33,Zu6,[.tmp 1],1⟩
def Zr2:Zf :=
 (Ql [Qc] [(2,0)]
 (Ql [Qa 0,Qs Zaw [.l 0],Qb 1,⟨.mv (.t 1),some ((.l 2),true)⟩,⟨.call (.c (.fn Zaw [] [])) [(.l 3)],some ((.l 2),true)⟩,Qf (.pick (.l 2) (.l 4) Qi),Qb 5,⟨.mv (.t 0),some ((.l 6),true)⟩,⟨.mv (.t 1),some ((.l 6),true)⟩,⟨.bin 0 .leq (.l 7) (.l 8),some ((.l 6),true)⟩,Qf (.pick (.l 6) (.l 9) Qi),Qb 10] [(2,11)]
 .ret))
def ZiJ:ZH:=⟨[0,1,4],16,Zr2,[.tmp 2],1⟩
def QZ:Zf :=
 (Ql [Qf (.box (.t 0)),Qc] [(1,0),(2,1)]
 (.seq (Ql [Qo 0 1,Qn 1 0] [(3,1)]
 (.block 0 (.seq (Ql [Qf (.bin 0 .eql (.t 3) (Qh 1)),Qb 0] [(4,1)]
 (.cond (.t 4) .skip (.region [Qf (.bin 0 .eql (.t 3) (Qh 3)),Qb 0] [(4,1)])))
 (.cond (.t 4) (Ql [Qo 1 1,Qn 1 0,Qo 2 1,Qn 1 2,Qs Ze0 [.l 1,.l 3],Qb 4] [(2,5)]
 .ret) (Ql [Qf (.bin 0 .eql (.t 3) (Qh 2)),Qb 0] [(5,1)]
 (.cond (.t 5) (Ql [Qo 1 1,Qn 1 0,Qs YT [.l 1,Qh 1,Qh 24],Qb 2,⟨.fieldAddr 2 (.t 1),some ((.l 3),true)⟩,⟨.load false 1 (.l 4),some ((.l 3),true)⟩,⟨.bin 0 .eql (.l 5) (Qh 0),some ((.l 3),true)⟩,Qf (.pick (.l 3) (.l 6) Qi),Qb 7] [(2,8)]
 .ret) (Ql [Qf (.bin 0 .eql (.t 3) (Qh 4)),Qb 0] [(6,1)]
 (.cond (.t 6) (Ql [Qo 1 1,Qn 1 0,Qo 2 1,Qn 1 2,Qs Ze0 [.l 1,.l 3],Qb 4,⟨.fieldAddr 1 (.t 1),some ((.l 5),true)⟩,⟨.load false 1 (.l 6),some ((.l 5),true)⟩,⟨.fieldAddr 2 (.t 1),some ((.l 5),true)⟩,⟨.load false 1 (.l 8),some ((.l 5),true)⟩,⟨.bin 0 .geq (.l 7) (.l 9),some ((.l 5),true)⟩,Qf (.pick (.l 5) (.l 10) Qi),Qb 11] [(2,12)]
 .ret) (Ql [Qf (.bin 0 .eql (.t 3) (Qh 5)),Qb 0] [(7,1)]
 (.cond (.t 7) (Ql [Qo 1 1,Qn 1 0,Qo 2 1,Qn 1 2,Qs Ze0 [.l 1,.l 3],Qb 4,⟨.fieldAddr 1 (.t 1),some ((.l 5),true)⟩,⟨.load false 1 (.l 6),some ((.l 5),true)⟩,⟨.fieldAddr 2 (.t 1),some ((.l 5),true)⟩,⟨.load false 1 (.l 8),some ((.l 5),true)⟩,⟨.bin 0 .gtr (.l 7) (.l 9),some ((.l 5),true)⟩,Qf (.pick (.l 5) (.l 10) Qi),Qb 11] [(2,12)]
 .ret) .skip))))))))))
 (Ql [Qc] [(2,0)]
 .ret)))
def JW:ZH:=⟨[0,1,2,4,5,13,23,37],51,QZ,[.tmp 2],1⟩
def ZF:Zf :=
 (.seq (.region [⟨.box (.t 0),none⟩,⟨.box (.t 1),none⟩,⟨.alloc [.slice none 0 0 none,.int .i64 (0),.int .i64 (0),.slice none 0 0 none,.int .i64 (0),.int .i64 (0)],none⟩,⟨.mv (.c (.bool false)),none⟩] [(2,0),(3,1),(4,2),(5,3)])
 (.seq (.seq (.region [⟨.load true 6 (.t 2),none⟩,⟨.call (.c (.fn Je [] [])) [(.l 0)],none⟩,⟨.un .not (.l 1),none⟩] [(10,2)])
 (.cond (.t 10) (.seq (.region [⟨.build [.slice none 0 0 none,.int .i64 (0),.int .i64 (0),.slice none 0 0 none,.int .i64 (0),.int .i64 (0)] [],none⟩,⟨.store 6 (.t 4) (.l 0),none⟩,⟨.mv (.c (.bool false)),none⟩] [(5,2)])
 .ret) .skip))
 (.seq (.region [⟨.load true 6 (.t 2),none⟩,⟨.call (.c (.fn Zar [] [])) [(.l 0)],none⟩,⟨.alloc [.slice none 0 0 none,.int .i64 (0),.int .i64 (0),.slice none 0 0 none,.int .i64 (0),.int .i64 (0)],none⟩,⟨.store 6 (.l 2) (.l 1),none⟩,⟨.mv (.c (.bool false)),none⟩] [(6,2),(7,4)])
 (.seq (.draw [⟨.fieldAddr 1 (.t 3),none,[]⟩,⟨.load false 1 (.l 0),none,[]⟩,⟨.fieldAddr 0 (.t 2),none,[]⟩,⟨.load false 1 (.l 2),none,[]⟩,⟨.len (.l 3),none,[]⟩,⟨.bin 0 .sub (.l 4) (.c (.int .i64 (1))),none,[]⟩,⟨.fieldAddr 1 (.t 3),none,[]⟩,⟨.load false 1 (.l 6),none,[]⟩,⟨.fieldAddr 3 (.t 2),none,[]⟩,⟨.load false 1 (.l 8),none,[]⟩,⟨.len (.l 9),none,[]⟩,⟨.bin 0 .sub (.l 10) (.c (.int .i64 (1))),none,[]⟩,⟨.call (.c (.fn YH [] [])) [(.l 1),(.c (.int .i64 (0))),(.l 5)],none,[(7,⟨.load false 1 (.l 6),none⟩),(9,⟨.load false 1 (.l 8),none⟩)]⟩,⟨.call (.c (.fn YH [] [])) [(.l 7),(.c (.int .i64 (0))),(.l 11)],none,[]⟩,⟨.mv (.l 12),none,[]⟩,⟨.mv (.l 13),none,[]⟩] [(8,14),(9,15)])
 (.seq (.seq (.region [⟨.fieldAddr 0 (.t 3),none⟩,⟨.load false 1 (.l 0),none⟩] [(11,1)])
 (.block 0 (.seq (.region [⟨.bin 0 .eql (.t 11) (.c (.int .i64 (1))),none⟩,⟨.mv (.l 0),none⟩] [(12,1)])
 (.cond (.t 12) (.draw [⟨.fieldAddr 0 (.t 6),none,[]⟩,⟨.load false 1 (.l 0),none,[]⟩,⟨.fieldAddr 1 (.t 3),none,[]⟩,⟨.load false 1 (.l 2),none,[]⟩,⟨.fieldAddr 2 (.t 3),none,[]⟩,⟨.load false 1 (.l 4),none,[]⟩,⟨.build [.int .i64 (0),.int .i64 (0)] [(0,1,(.l 3)),(1,1,(.l 5))],none,[]⟩,⟨.fieldAddr 3 (.t 3),none,[]⟩,⟨.load false 1 (.l 7),none,[]⟩,⟨.bin 0 .eql (.l 8) (.c (.int .i64 (0))),none,[]⟩,⟨.buildSlice 2 1 [.int .i64 (0),.int .i64 (0)] [(0,2,(.l 6))],none,[(1,⟨.load false 1 (.l 0),none⟩),(8,⟨.load false 1 (.l 7),none⟩)]⟩,⟨.append false 2 16 (.l 1) (.l 10),none,[(8,⟨.load false 1 (.l 7),none⟩)]⟩,⟨.fieldAddr 0 (.t 6),none,[]⟩,⟨.store 1 (.l 12) (.l 11),none,[(8,⟨.load false 1 (.l 7),none⟩)]⟩,⟨.mv (.l 9),none,[]⟩] [(7,14)]) (.seq (.region [⟨.bin 0 .eql (.t 11) (.c (.int .i64 (2))),none⟩,⟨.mv (.l 0),none⟩] [(13,1)])
 (.cond (.t 13) (.seq (.region [⟨.mv (.t 8),none⟩] [(14,0)])
 (.cond (.t 14) (.draw [⟨.fieldAddr 0 (.t 6),none,[]⟩,⟨.load false 1 (.l 0),none,[]⟩,⟨.fieldAddr 1 (.t 3),none,[]⟩,⟨.load false 1 (.l 2),none,[]⟩,⟨.fieldAddr 1 (.t 3),none,[]⟩,⟨.load false 1 (.l 4),none,[]⟩,⟨.bin 0 .add (.l 5) (.c (.int .i64 (1))),none,[]⟩,⟨.fieldAddr 2 (.t 3),none,[]⟩,⟨.load false 1 (.l 7),none,[]⟩,⟨.bin 0 .eql (.l 8) (.c (.int .i64 (0))),none,[]⟩,⟨.call (.c (.fn ZO [] [])) [(.l 1),(.l 3),(.l 6)],none,[(8,⟨.load false 1 (.l 7),none⟩)]⟩,⟨.mv (.l 9),none,[]⟩,⟨.fieldAddr 3 (.t 3),some ((.l 11),true),[]⟩,⟨.load false 1 (.l 12),some ((.l 11),true),[]⟩,⟨.bin 0 .eql (.l 13) (.c (.int .i64 (0))),some ((.l 11),true),[]⟩,⟨.pick (.l 11) (.l 14) (.c (.bool false)),none,[]⟩,⟨.fieldAddr 0 (.t 6),none,[]⟩,⟨.store 1 (.l 16) (.l 10),none,[(13,⟨.load false 1 (.l 12),some ((.l 11),true)⟩)]⟩,⟨.mv (.l 15),none,[]⟩] [(7,18)]) .skip)) (.seq (.region [⟨.bin 0 .eql (.t 11) (.c (.int .i64 (3))),none⟩,⟨.mv (.l 0),none⟩] [(15,1)])
 (.cond (.t 15) (.seq (.region [⟨.mv (.t 8),none⟩] [(16,0)])
 (.cond (.t 16) (.draw [⟨.fieldAddr 0 (.t 6),none,[]⟩,⟨.load false 1 (.l 0),none,[]⟩,⟨.fieldAddr 1 (.t 3),none,[]⟩,⟨.load false 1 (.l 2),none,[]⟩,⟨.fieldAddr 2 (.t 3),none,[]⟩,⟨.load false 1 (.l 4),none,[]⟩,⟨.fieldAddr 3 (.t 3),none,[]⟩,⟨.load false 1 (.l 6),none,[]⟩,⟨.bin 0 .eql (.l 7) (.c (.int .i64 (0))),none,[]⟩,⟨.indexAddrS 2 (.l 1) (.l 3),none,[]⟩,⟨.fieldAddr 0 (.l 9),none,[]⟩,⟨.store 1 (.l 10) (.l 5),none,[(7,⟨.load false 1 (.l 6),none⟩)]⟩,⟨.mv (.l 8),none,[]⟩] [(7,12)]) .skip)) (.seq (.region [⟨.bin 0 .eql (.t 11) (.c (.int .i64 (4))),none⟩,⟨.mv (.l 0),none⟩] [(17,1)])
 (.cond (.t 17) (.draw [⟨.fieldAddr 1 (.t 3),none,[]⟩,⟨.load false 1 (.l 0),none,[]⟩,⟨.fieldAddr 2 (.t 3),none,[]⟩,⟨.load false 1 (.l 2),none,[]⟩,⟨.fieldAddr 3 (.t 3),none,[]⟩,⟨.load false 1 (.l 4),none,[]⟩,⟨.bin 0 .eql (.l 5) (.c (.int .i64 (0))),none,[]⟩,⟨.fieldAddr 1 (.t 6),none,[]⟩,⟨.store 1 (.l 7) (.l 1),none,[(3,⟨.load false 1 (.l 2),none⟩),(5,⟨.load false 1 (.l 4),none⟩)]⟩,⟨.fieldAddr 2 (.t 6),none,[]⟩,⟨.store 1 (.l 9) (.l 3),none,[(5,⟨.load false 1 (.l 4),none⟩)]⟩,⟨.mv (.l 6),none,[]⟩] [(7,11)]) (.seq (.region [⟨.bin 0 .eql (.t 11) (.c (.int .i64 (5))),none⟩,⟨.mv (.l 0),none⟩] [(18,1)])
 (.cond (.t 18) (.region [⟨.fieldAddr 3 (.t 6),none⟩,⟨.load false 1 (.l 0),none⟩,⟨.fieldAddr 1 (.t 3),none⟩,⟨.load false 1 (.l 2),none⟩,⟨.fieldAddr 2 (.t 3),none⟩,⟨.load false 1 (.l 4),none⟩,⟨.fieldAddr 3 (.t 3),none⟩,⟨.load false 1 (.l 6),none⟩,⟨.build [.int .i64 (0),.int .i64 (0),.int .i64 (0)] [(0,1,(.l 3)),(1,1,(.l 5)),(2,1,(.l 7))],none⟩,⟨.buildSlice 3 1 [.int .i64 (0),.int .i64 (0),.int .i64 (0)] [(0,3,(.l 8))],none⟩,⟨.append false 3 24 (.l 1) (.l 9),none⟩,⟨.fieldAddr 3 (.t 6),none⟩,⟨.store 1 (.l 11) (.l 10),none⟩,⟨.mv (.c (.bool true)),none⟩] [(7,13)]) (.seq (.region [⟨.bin 0 .eql (.t 11) (.c (.int .i64 (6))),none⟩,⟨.mv (.l 0),none⟩] [(19,1)])
 (.cond (.t 19) (.seq (.region [⟨.mv (.t 9),none⟩] [(20,0)])
 (.cond (.t 20) (.draw [⟨.fieldAddr 3 (.t 6),none,[]⟩,⟨.load false 1 (.l 0),none,[]⟩,⟨.fieldAddr 1 (.t 3),none,[]⟩,⟨.load false 1 (.l 2),none,[]⟩,⟨.fieldAddr 1 (.t 3),none,[]⟩,⟨.load false 1 (.l 4),none,[]⟩,⟨.bin 0 .add (.l 5) (.c (.int .i64 (1))),none,[]⟩,⟨.fieldAddr 2 (.t 3),none,[]⟩,⟨.load false 1 (.l 7),none,[]⟩,⟨.bin 0 .eql (.l 8) (.c (.int .i64 (0))),none,[]⟩,⟨.call (.c (.fn ZK [] [])) [(.l 1),(.l 3),(.l 6)],none,[(8,⟨.load false 1 (.l 7),none⟩)]⟩,⟨.mv (.l 9),none,[]⟩,⟨.fieldAddr 3 (.t 3),some ((.l 11),true),[]⟩,⟨.load false 1 (.l 12),some ((.l 11),true),[]⟩,⟨.bin 0 .eql (.l 13) (.c (.int .i64 (0))),some ((.l 11),true),[]⟩,⟨.pick (.l 11) (.l 14) (.c (.bool false)),none,[]⟩,⟨.fieldAddr 3 (.t 6),none,[]⟩,⟨.store 1 (.l 16) (.l 10),none,[(13,⟨.load false 1 (.l 12),some ((.l 11),true)⟩)]⟩,⟨.mv (.l 15),none,[]⟩] [(7,18)]) .skip)) .skip))))))))))))))
 (.seq (.region [⟨.fieldAddr 5 (.t 6),none⟩,⟨.load false 1 (.l 0),none⟩,⟨.bin 0 .add (.l 1) (.c (.int .i64 (1))),none⟩,⟨.fieldAddr 5 (.t 6),none⟩,⟨.store 1 (.l 3) (.l 2),none⟩] [])
 (.seq (.seq (.region [⟨.mv (.t 7),none⟩,⟨.un .not (.l 0),none⟩,⟨.mv (.l 1),none⟩,⟨.load true 6 (.t 6),some ((.l 2),false)⟩,⟨.call (.c (.fn Je [] [])) [(.l 3)],some ((.l 2),false)⟩,⟨.un .not (.l 4),some ((.l 2),false)⟩,⟨.pick (.l 2) (.c (.bool true)) (.l 5),none⟩] [(21,6)])
 (.cond (.t 21) (.seq (.region [⟨.build [.slice none 0 0 none,.int .i64 (0),.int .i64 (0),.slice none 0 0 none,.int .i64 (0),.int .i64 (0)] [],none⟩,⟨.store 6 (.t 4) (.l 0),none⟩,⟨.mv (.c (.bool false)),none⟩] [(5,2)])
 .ret) .skip))
 (.seq (.seq (.region [⟨.fieldAddr 0 (.t 6),none⟩,⟨.load false 1 (.l 0),none⟩,⟨.fieldAddr 1 (.t 6),none⟩,⟨.load false 1 (.l 2),none⟩,⟨.fieldAddr 2 (.t 6),none⟩,⟨.load false 1 (.l 4),none⟩,⟨.call (.c (.fn Zbi [] [])) [(.l 1),(.l 3),(.l 5)],none⟩,⟨.bin 0 .neq (.l 6) (.c (.int .i64 (0))),none⟩] [(22,7)])
 (.cond (.t 22) (.region [⟨.fieldAddr 4 (.t 6),none⟩,⟨.load false 1 (.l 0),none⟩,⟨.bin 0 .add (.l 1) (.c (.int .i64 (1))),none⟩,⟨.fieldAddr 4 (.t 6),none⟩,⟨.store 1 (.l 3) (.l 2),none⟩] []) .skip))
 (.seq (.region [⟨.load true 6 (.t 6),none⟩,⟨.store 6 (.t 4) (.l 0),none⟩,⟨.mv (.c (.bool true)),none⟩] [(5,2)])
 .ret)))))))))
def Jw:ZH:=⟨[0,1,2,3,4,5,6,7,8,9,12,31,32,47,49,67,69,81,92,106,108,136,145],151,ZF,[.cell 4 true 6,.tmp 5],2⟩
def ZgZ:Zf :=
 (Ql [Qf (.box (.t 0)),⟨.mv (.c (.str ⟨#[]⟩)),none⟩,Qc] [(2,0),(3,1),(4,2)]
 (Ql [Qf (.sliceArr 2 1 (.t 2) none none none),⟨.call (.c (.fn Ym [] [])) [(.l 0),(.c (.str ⟨#[47]⟩))],none⟩,Qa 1,Qb 1,Qb 2] [(3,3),(4,4)]
 .ret))
def QR:ZH:=⟨[0,1,2,4,5],9,ZgZ,[.tmp 3,.tmp 4],1⟩
def ZkV:Zf :=
 (Ql [Qf (.alloc [.int .i64 (0),.int .i64 (0)]),Qc] [(1,0),(2,1)]
 (.seq (Ql [Qa 0,Qs YN [.l 0],Qf (.un .not (.l 1))] [(3,2)]
 (.cond (.t 3) (Ql [Qf (.build [.int .i64 (0),.int .i64 (0)] []),Qf (.store 2 (.t 1) (.l 0)),Qc] [(2,2)]
 .ret) .skip))
 (Ql [Qa 0,Qs XV [.l 0],Qf (.store 2 (.t 1) (.l 1)),Qd] [(2,3)]
 .ret)))
def ZcL:ZH:=⟨[0,2,3,6],10,ZkV,[.cell 1 true 2,.tmp 2],1⟩
def Zpa:Zf :=
 (Ql [Qe 0,Qc] [(3,0),(4,1)]
 (.seq (Ql [Qa 0,Qs Jr [.l 0],Qf (.un .not (.l 1)),Qb 2,⟨.mv (.t 1),some ((.l 3),false)⟩,⟨.mv (.t 2),some ((.l 3),false)⟩,⟨.call (.c (.fn ZeX [] [])) [(.l 4),(.l 5)],some ((.l 3),false)⟩,⟨.un .not (.l 6),some ((.l 3),false)⟩,Qf (.pick (.l 3) Qj (.l 7))] [(5,8)]
 (.cond (.t 5) (Ql [Qe 0,Qc] [(3,0),(4,1)]
 .ret) .skip))
 (Ql [Qa 0,Qa 1,Qa 2,Qs Zbi [.l 0,.l 1,.l 2],Qb 3,Qd] [(3,4),(4,5)]
 .ret)))
def Zgj:ZH:=⟨[0,1,2,6,7,16],21,Zpa,[.tmp 3,.tmp 4],1⟩
def YO:Zf :=
 (Ql [Qf (.bin 0 .lss (.t 6) (.t 5))] [(7,0)]
 (.seq (.cond (.t 7) .skip (.exit 0))
 (.seq (.block 1 (Ql [Qa 6,Qf (.indexAddrS 1 (.t 4) (.t 6)),Qn 1 1,Qb 0,Qb 2] [(2,3),(3,4)]
 (Ql [Qa 3,Qs Ku [.l 0],Qf (.un .not (.l 1)),Qb 2,⟨.mv (.t 2),some ((.l 3),false)⟩,⟨.bin 0 .gtr (.l 4) (Qh 0),some ((.l 3),false)⟩,⟨.mv (.l 5),some ((.l 3),false)⟩,⟨.mv (.t 3),some ((.l 6),true)⟩,⟨.mv (.t 0),some ((.l 6),true)⟩,⟨.mv (.t 2),some ((.l 6),true)⟩,⟨.bin 0 .sub (.l 9) (Qh 1),some ((.l 6),true)⟩,⟨.indexAddrS 1 (.l 8) (.l 10),some ((.l 6),true)⟩,⟨.load false 1 (.l 11),some ((.l 6),true)⟩,⟨.bin 0 .lss (.l 7) (.l 12),some ((.l 6),true)⟩,⟨.pick (.l 6) (.l 13) Qi,some ((.l 3),false)⟩,Qf (.pick (.l 3) Qj (.l 14))] [(8,15)]
 (.cond (.t 8) (Ql [Qc] [(1,0)]
 .ret) .skip))))
 (.region [Qf (.bin 0 .add (.t 6) (Qh 1)),Qb 0] [(6,1)]))))
def Zpb:Zf :=
 (Ql [Qc] [(1,0)]
 (.seq (Ql [Qa 0,Qf (.len (.l 0)),Qe 0] [(4,0),(5,1),(6,2)]
 (.block 0 (.loop YO)))
 (Ql [Qa 0,Qf (.len (.l 0)),Qs YH [.l 1,Qh 1,Qh 6],Qb 2] [(1,3)]
 .ret)))
def Jx:ZH:=⟨[0,2,3,4,5,6,7,8,27],32,Zpb,[.tmp 1],1⟩
def Zpc:Zf :=
 (Ql [Qf (.mv (.c (.slice none 0 0 none)))] [(2,0)]
 (Ql [Qf (.buildSlice 1 0 [] []),Qf (.alloc [.slice none 0 0 none]),Qq 1 1 0] [(3,1)]
 (Ql [Qa 0,Qa 1,Qf (.makeFunc Zax [] [(.t 3)]),Qs KO [.l 0,.l 1,.l 2]] []
 (Ql [Qf (.load false 1 (.t 3)),Qs XC [.l 0]] []
 (Ql [Qf (.load false 1 (.t 3)),Qs YU [.l 0],Qb 1] [(2,2)]
 .ret)))))
def Zdj:ZH:=⟨[0,1,4,5],15,Zpc,[.tmp 2],2⟩
def Zgk:Zf :=
 (Ql [Qf (.box (.t 0)),Qf (.box (.t 1)),Qf (.box (.t 2))] [(3,0),(4,1),(5,2)]
 (Ql [Qf (.load false 1 (.t 3)),Qf (.len (.l 0)),Qf (.makeSlice 1 8 [.int .i64 (0)] (.l 1) (.l 1)),Qf (.alloc [.slice none 0 0 none]),Qq 1 3 2] [(6,3)]
 (Ql [Qf (.alloc [.nilfn])] [(7,0)]
 (Ql [Qf (.makeFunc YA [] [(.t 3),(.t 5),(.t 6),(.t 4),(.t 7)]),Qf (.store 1 (.t 7) (.l 0))] []
 (.region [Qf (.load false 1 (.t 7)),Qf (.call (.l 0) [(Qh 0),(Qh 0)])] [])))))
def JX:ZH:=⟨[0,1,2,3,4,5,6,7],14,Zgk,[],0⟩
def J6:Zf :=
 (Qm [Qg (.mv (.t 1)),Qg (.load false 1 (.t 2)),Qg (.bin 0 .eql (.l 0) (.l 1)),Qg (.mv (.l 2)),⟨.load false 1 (.t 3),some ((.l 3),true),[]⟩,⟨.len (.l 4),some ((.l 3),true),[]⟩,⟨.bin 0 .eql (.l 5) (Qh 0),some ((.l 3),true),[]⟩,⟨.mv (.l 6),some ((.l 3),true),[]⟩,⟨.mv (.t 0),some ((.l 7),false),[]⟩,⟨.load false 1 (.t 3),some ((.l 7),false),[]⟩,⟨.call (.c (.fn Zbf [] [])) [(.l 8)],some ((.l 7),false),[(9,⟨.load false 1 (.t 3),some ((.l 7),false)⟩)]⟩,⟨.call (.c (.fn Zbf [] [])) [(.l 9)],some ((.l 7),false),[]⟩,⟨.bin 0 .lss (.l 10) (.l 11),some ((.l 7),false),[]⟩,⟨.pick (.l 7) Qj (.l 12),some ((.l 3),true),[]⟩,Qg (.pick (.l 3) (.l 13) Qi)] [(4,14)]
 (.cond (.t 4) (.region [Qa 0,Qs Yz [.l 0],Qf (.store 1 (.t 3) (.l 1))] []) .skip))
def Y8:ZH:=⟨[0,1,2,3,20],23,J6,[],0⟩
def Zeg:Zf :=
 (Ql [Qf (.bin 0 .lss (.t 6) (.t 5))] [(7,0)]
 (.seq (.cond (.t 7) .skip (.exit 0))
 (.seq (.block 1 (Ql [Qf (.indexAddrS 1 (.t 4) (.t 6)),Qn 1 0,Qb 1] [(3,2)]
 (Ql [Qa 3,Qf (.bin 0 .neq (.l 0) (Qh 0))] [(8,1)]
 (.cond (.t 8) (.region [Qa 2,Qf (.bin 0 .add (.l 0) (Qh 1)),Qb 1] [(2,2)]) .skip))))
 (.region [Qf (.bin 0 .add (.t 6) (Qh 1)),Qb 0] [(6,1)]))))
def Zr3:Zf :=
 (Ql [Qe 0] [(1,0)]
 (Ql [Qe 0] [(2,0)]
 (.seq (Ql [Qa 0,Qf (.len (.l 0)),Qe 0] [(4,0),(5,1),(6,2)]
 (.block 0 (.loop Zeg)))
 (Ql [Qa 2,Qb 0] [(1,1)]
 .ret))))
def Ze7:ZH:=⟨[0,2,3,5,6,7,8,9,13],18,Zr3,[.tmp 1],1⟩
def ZaJ:Zf :=
 (Ql [Qf (.mv (.c (.slice none 0 0 none)))] [(1,0)]
 (.seq (Ql [Qa 0,Qf (.bin 3 .eql (.l 0) (.c (.slice none 0 0 none)))] [(2,1)]
 (.cond (.t 2) (Ql [Qf (.mv (.c (.slice none 0 0 none)))] [(1,0)]
 .ret) .skip))
 (Ql [Qf (.buildSlice 1 0 [] []),Qa 0,Qf (.append false 1 8 (.l 0) (.l 1)),Qb 2] [(1,3)]
 .ret)))
def Xh:ZH:=⟨[0,2,4],8,ZaJ,[.tmp 1],2⟩
def Zna:Zf :=
 (Ql [Qe 0,Qc] [(1,0),(2,1)]
 (.seq (Ql [Qa 0,Qs Jr [.l 0],Qf (.un .not (.l 1))] [(3,2)]
 (.cond (.t 3) (Ql [Qe 0,Qc] [(1,0),(2,1)]
 .ret) .skip))
 (Ql [Qa 0,Qs Kt [.l 0],Qb 1,Qd] [(1,2),(2,3)]
 .ret)))
def Zeh:ZH:=⟨[0,2,3,6],9,Zna,[.tmp 1,.tmp 2],1⟩
def ZhA:Zf :=
 (Ql [Qf (.alloc [.int .i64 (0),.int .i64 (0)]),Qc] [(1,0),(2,1)]
 (.seq (Ql [Qa 0,Qs Jr [.l 0],Qf (.un .not (.l 1)),Qb 2,⟨.mv (.t 0),some ((.l 3),false)⟩,⟨.len (.l 4),some ((.l 3),false)⟩,⟨.bin 0 .eql (.l 5) (Qh 0),some ((.l 3),false)⟩,Qf (.pick (.l 3) Qj (.l 6))] [(3,7)]
 (.cond (.t 3) (Ql [Qf (.build [.int .i64 (0),.int .i64 (0)] []),Qf (.store 2 (.t 1) (.l 0)),Qc] [(2,2)]
 .ret) .skip))
 (Ql [Qa 0,Qs YY [.l 0,Qh 0],Qa 0,Qs Kt [.l 2],Qs Xk [.l 1,.l 3],Qf (.store 2 (.t 1) (.l 4)),Qd] [(2,6)]
 .ret)))
def Zb0:ZH:=⟨[0,2,3,11],18,ZhA,[.cell 1 true 2,.tmp 2],1⟩
def ZjQ:Zf :=
 (Ql [Qf (.box (.t 0)),Qe 0,Qc] [(1,0),(2,1),(3,2)]
 (.seq (Ql [Qr 6 1,Qs Je [.l 0],Qf (.un .not (.l 1))] [(4,2)]
 (.cond (.t 4) (Ql [Qe 0,Qc] [(2,0),(3,1)]
 .ret) .skip))
 (Qm [Qg (.fieldAddr 3 (.t 1)),Qg (.load false 1 (.l 0)),Qg (.fieldAddr 0 (.t 1)),Qg (.load false 1 (.l 2)),⟨.call (.c (.fn Kt [] [])) [(.l 3)],none,[(1,Qn 1 0)]⟩,Qt Zcw [.l 1,.l 4],Qg (.extract 0 (.l 5)),Qg (.extract 1 (.l 5)),Qg (.mv (.l 6)),Qg (.mv (.l 7))] [(2,8),(3,9)]
 .ret)))
def Zdk:ZH:=⟨[0,1,2,3,6],15,ZjQ,[.tmp 2,.tmp 3],1⟩
def ZhB:Zf :=
 (Ql [Qe 0,Qc] [(2,0),(3,1)]
 (Ql [Qa 0,Qa 1,Qs Zdd [.l 0,.l 1],Qb 2,Qp 0 3,Qp 1 3,Qf (.alloc [.int .i64 (0),.int .i64 (0)]),Qq 2 6 4,Qb 5] [(4,6),(5,8)]
 (.seq (Ql [Qa 5,Qf (.un .not (.l 0))] [(6,1)]
 (.cond (.t 6) (Ql [Qe 0,Qc] [(2,0),(3,1)]
 .ret) .skip))
 (Ql [Qf (.indexAddrA 2 1 (.t 4) (Qh 0)),Qn 1 0,Qf (.indexAddrA 2 1 (.t 4) (Qh 1)),Qn 1 2,Qf (.bin 0 .quo (.l 1) (.l 3)),Qb 4,Qd] [(2,5),(3,6)]
 .ret))))
def Zb1:ZH:=⟨[0,1,4,5,6,7,15],21,ZhB,[.tmp 2,.tmp 3],1⟩
def Zdl:Zf :=
 (Ql [Qf (.bin 0 .lss (.t 11) (.t 10))] [(12,0)]
 (.seq (.cond (.t 12) .skip (.exit 0))
 (.seq (.block 1 (Ql [Qf (.indexAddrS 3 (.t 9) (.t 11)),Qf (.load true 3 (.l 0)),Qf (.alloc [.int .i64 (0),.int .i64 (0),.int .i64 (0)]),Qq 3 2 1] [(6,2)]
 (Ql [Qr 3 6,Qs Zay [.l 0],Qf (.alloc [.int .i64 (0),.int .i64 (0)]),Qq 2 2 1] [(7,2)]
 (Ql [Qf (.indexAddrA 2 1 (.t 4) (Qh 0)),Qn 1 0,Qf (.indexAddrA 2 1 (.t 7) (Qh 1)),Qn 1 2,Qf (.bin 0 .mul (.l 1) (.l 3)),Qf (.indexAddrA 2 1 (.t 4) (Qh 1)),Qn 1 5,Qf (.indexAddrA 2 1 (.t 7) (Qh 0)),Qn 1 7,Qf (.bin 0 .mul (.l 6) (.l 8)),Qs Xk [.l 4,.l 9],Qf (.store 2 (.t 4) (.l 10))] []
 (.region [Qa 5,Qr 2 4,Qf (.buildSlice 2 1 [.int .i64 (0),.int .i64 (0)] [(0,2,(.l 1))]),Qf (.append false 2 16 (.l 0) (.l 2)),Qb 3] [(5,4)])))))
 (.region [Qf (.bin 0 .add (.t 11) (Qh 1)),Qb 0] [(11,1)]))))
def Zgl:Zf :=
 (Ql [Qf (.mv (.c (.slice none 0 0 none))),Qc] [(2,0),(3,1)]
 (.seq (Ql [Qa 0,Qs YN [.l 0],Qf (.un .not (.l 1)),Qb 2,⟨.mv (.t 1),some ((.l 3),false)⟩,⟨.call (.c (.fn Zaf [] [])) [(.l 4)],some ((.l 3),false)⟩,⟨.un .not (.l 5),some ((.l 3),false)⟩,Qf (.pick (.l 3) Qj (.l 6))] [(8,7)]
 (.cond (.t 8) (Ql [Qf (.mv (.c (.slice none 0 0 none))),Qc] [(2,0),(3,1)]
 .ret) .skip))
 (Ql [Qa 1,Qf (.build [.int .i64 (0),.int .i64 (0)] [(0,1,(.l 0)),(1,1,(Qh 1))]),Qf (.alloc [.int .i64 (0),.int .i64 (0)]),Qq 2 2 1] [(4,2)]
 (Ql [Qr 2 4,Qf (.buildSlice 2 1 [.int .i64 (0),.int .i64 (0)] [(0,2,(.l 0))]),Qb 1] [(5,2)]
 (.seq (Ql [Qa 0,Qf (.len (.l 0)),Qe 0] [(9,0),(10,1),(11,2)]
 (.block 0 (.loop Zdl)))
 (Ql [Qa 5,Qb 0,Qd] [(2,1),(3,2)]
 .ret))))))
def KV:ZH:=⟨[0,1,4,5,6,7,9,10,18,23,24,25,26],48,Zgl,[.tmp 2,.tmp 3],2⟩
def ZaK:Zf :=
 (Ql [Qf (.bin 0 .lss (.t 13) (.t 12))] [(14,0)]
 (.seq (.cond (.t 14) .skip (.exit 0))
 (.seq (.block 1 (Ql [Qa 13,Qf (.indexAddrS 2 (.t 11) (.t 13)),Qf (.load true 2 (.l 1)),Qf (.alloc [.int .i64 (0),.int .i64 (0)]),Qb 0,Qq 2 3 2] [(7,4),(8,3)]
 (Qm [Qg (.fieldAddr 0 (.t 8)),Qg (.load false 1 (.l 0)),Qg (.mv (.t 5)),Qg (.fieldAddr 1 (.t 8)),Qg (.load false 1 (.l 3)),Qg (.bin 0 .quo (.l 2) (.l 4)),Qg (.bin 0 .sub (.l 1) (.l 5)),Qg (.mv (.l 6))] [(9,7)]
 (Ql [Qa 5,Qo 1 8,Qn 1 1,Qf (.bin 0 .rem (.l 0) (.l 2)),Qf (.bin 0 .eql (.l 3) (Qh 0)),Qb 4,⟨.mv (.t 9),some ((.l 5),true)⟩,⟨.call (.c (.fn Jf [] [])) [(.l 6)],some ((.l 5),true)⟩,Qf (.pick (.l 5) (.l 7) Qi)] [(15,8)]
 (.cond (.t 15) (Ql [Qa 7,Qa 9,Qb 0,Qb 1,Qd] [(2,2),(3,3),(4,4)]
 .ret) .skip)))))
 (.region [Qf (.bin 0 .add (.t 13) (Qh 1)),Qb 0] [(13,1)]))))
def ZjR:Zf :=
 (Ql [Qe 0,Qe 0,Qc] [(2,0),(3,1),(4,2)]
 (Ql [Qa 0,Qa 1,Qs Zaz [.l 0,.l 1],Qb 2,Qp 0 3,Qp 1 3,Qb 4,Qb 5] [(5,6),(6,7)]
 (.seq (Ql [Qa 6,Qf (.un .not (.l 0))] [(10,1)]
 (.cond (.t 10) (Ql [Qe 0,Qe 0,Qc] [(2,0),(3,1),(4,2)]
 .ret) .skip))
 (.seq (Ql [Qa 0,Qf (.len (.l 0)),Qe 0] [(11,0),(12,1),(13,2)]
 (.block 0 (.loop ZaK)))
 (Ql [Qe 0,Qe 0,Qc] [(2,0),(3,1),(4,2)]
 .ret)))))
def Q0:ZH:=⟨[0,1,4,5,6,7,8,9,10,11,19,20,21,22,23,42],46,ZjR,[.tmp 2,.tmp 3,.tmp 4],1⟩
def KB:Zf :=
 (.seq (Ql [Qa 4,Qa 0,Qf (.bin 0 .lss (.l 0) (.l 1))] [(6,2)]
 (.cond (.t 6) .skip (.exit 0)))
 (.seq (.block 1 (.region [Qa 3,Qf (.bin 0 .add (.l 0) (Qh 1)),Qb 1] [(3,2)]))
 (.region [Qa 4,Qf (.bin 0 .mul (.l 0) (Qh 3)),Qb 1] [(4,2)])))
def Q1:Zf :=
 (Ql [Qe 0,Qc] [(1,0),(2,1)]
 (.seq (Ql [Qa 0,Qs Zd1 [.l 0],Qf (.un .not (.l 1))] [(5,2)]
 (.cond (.t 5) (Ql [Qe 0,Qc] [(1,0),(2,1)]
 .ret) .skip))
 (Ql [Qe 0] [(3,0)]
 (.seq (Ql [Qe 1] [(4,0)]
 (.block 0 (.loop KB)))
 (Ql [Qa 3,Qb 0,Qd] [(1,1),(2,2)]
 .ret)))))
def YP:ZH:=⟨[0,2,3,4,5,8,11],17,Q1,[.tmp 1,.tmp 2],1⟩
def X1:Zf :=
 (Ql [⟨.mv (.c (.str ⟨#[]⟩)),none⟩,Qc] [(1,0),(2,1)]
 (Ql [Qa 0,Qs Zd2 [.l 0],Qb 1,Qp 0 2,Qp 1 2,Qb 3,Qb 4] [(3,5),(4,6)]
 (Ql [Qa 0,⟨.bin 1 .add (.l 0) (.c (.str ⟨#[35]⟩)),none⟩,Qa 3,Qs Xj [.l 2],Qf (.bin 1 .add (.l 1) (.l 3)),Qb 4] [(5,5)]
 (.seq (Ql [Qa 4,Qf (.un .not (.l 0)),Qb 1,⟨.mv (.t 0),some ((.l 2),false)⟩,⟨.call (.c (.fn Yy [] [])) [(.l 3),(.c (.str ⟨#[35]⟩))],some ((.l 2),false)⟩,Qf (.pick (.l 2) Qj (.l 4)),Qb 5,⟨.mv (.t 5),some ((.l 6),false)⟩,⟨.lenStr (.l 7),some ((.l 6),false)⟩,⟨.bin 0 .gtr (.l 8) (Qh 4000),some ((.l 6),false)⟩,Qf (.pick (.l 6) Qj (.l 9))] [(6,10)]
 (.cond (.t 6) (Ql [⟨.mv (.c (.str ⟨#[]⟩)),none⟩,Qc] [(1,0),(2,1)]
 .ret) .skip))
 (Ql [Qa 5,Qb 0,Qd] [(1,1),(2,2)]
 .ret)))))
def YE:ZH:=⟨[0,2,3,4,5,6,27],29,X1,[.tmp 1,.tmp 2],1⟩
def Zpd:Zf :=
 (Ql [⟨.mv (.c (.str ⟨#[]⟩)),none⟩,Qc] [(1,0),(2,1)]
 (.seq (Ql [Qa 0,Qs Js [.l 0],Qf (.un .not (.l 1))] [(3,2)]
 (.cond (.t 3) (Ql [⟨.mv (.c (.str ⟨#[]⟩)),none⟩,Qc] [(1,0),(2,1)]
 .ret) .skip))
 (Ql [Qa 0,Qs Ziy [.l 0],Qb 1,Qd] [(1,2),(2,3)]
 .ret)))
def Zgm:ZH:=⟨[0,2,3,6],9,Zpd,[.tmp 1,.tmp 2],1⟩
def Ke:Zf :=
 (.seq (Ql [Qa 3,Qa 0,Qf (.len (.l 1)),Qf (.bin 0 .lss (.l 0) (.l 2))] [(4,3)]
 (.cond (.t 4) .skip (.exit 0)))
 (.seq (.block 1 (.region [Qa 2,Qa 0,Qa 3,Qf (.indexAddrS 2 (.l 1) (.l 2)),Qf (.fieldAddr 1 (.l 3)),Qn 1 4,Qf (.bin 0 .add (.l 0) (.l 5)),Qb 6] [(2,7)]))
 (.region [Qa 3,Qf (.bin 0 .add (.l 0) (Qh 1)),Qb 1] [(3,2)])))
def Znb:Zf :=
 (Ql [Qe 0] [(1,0)]
 (Ql [Qe 0] [(2,0)]
 (.seq (Ql [Qe 0] [(3,0)]
 (.block 0 (.loop Ke)))
 (Ql [Qa 2,Qb 0] [(1,1)]
 .ret))))
def Zei:ZH:=⟨[0,2,3,4,8],19,Znb,[.tmp 1],1⟩
def ZjS:Zf :=
 (Ql [Qf (.box (.t 0)),⟨.mv (.c (.str ⟨#[]⟩)),none⟩] [(2,0),(3,1)]
 (.seq (Ql [Qa 1,Qf (.un .not (.l 0))] [(4,1)]
 (.cond (.t 4) (Ql [⟨.mv (.c (.str ⟨#[63]⟩)),none⟩] [(3,0)]
 .ret) .skip))
 (Qm [Qg (.indexAddrA 2 1 (.t 2) (Qh 0)),Qg (.load false 1 (.l 0)),Qg (.indexAddrA 2 1 (.t 2) (Qh 1)),Qg (.load false 1 (.l 2)),⟨.call (.c (.fn Yn [] [])) [(.l 1)],none,[(3,Qn 1 2)]⟩,⟨.bin 1 .add (.l 4) (.c (.str ⟨#[47]⟩)),none,[]⟩,Qt Yn [.l 3],Qg (.bin 1 .add (.l 5) (.l 6)),Qg (.mv (.l 7))] [(3,8)]
 .ret)))
def Zdm:ZH:=⟨[0,1,2,4,6],15,ZjS,[.tmp 3],1⟩
def ZhC:Zf :=
 (Ql [Qf (.alloc [.int .i64 (0),.int .i64 (0)]),Qc] [(1,0),(2,1)]
 (.seq (Ql [Qa 0,Qs Js [.l 0],Qf (.un .not (.l 1)),Qb 2,⟨.mv (.t 0),some ((.l 3),false)⟩,⟨.len (.l 4),some ((.l 3),false)⟩,⟨.bin 0 .eql (.l 5) (Qh 0),some ((.l 3),false)⟩,Qf (.pick (.l 3) Qj (.l 6))] [(3,7)]
 (.cond (.t 3) (Ql [Qf (.build [.int .i64 (0),.int .i64 (0)] []),Qf (.store 2 (.t 1) (.l 0)),Qc] [(2,2)]
 .ret) .skip))
 (Ql [Qa 0,Qs YI [.l 0,Qh 0],Qa 0,Qs JJ [.l 2],Qs ZbW [.l 1,.l 3],Qf (.store 2 (.t 1) (.l 4)),Qd] [(2,6)]
 .ret)))
def Zb2:ZH:=⟨[0,2,3,11],18,ZhC,[.cell 1 true 2,.tmp 2],1⟩
def Zr4:Zf :=
 (Ql [Qe 0] [(3,0)]
 (.seq (Ql [Qa 0,Qa 1,Qs YI [.l 0,.l 1],Qf (.bin 0 .lss (.l 2) (Qh 0))] [(4,3)]
 (.cond (.t 4) (Ql [Qe (-1)] [(3,0)]
 .ret) .skip))
 (.seq (Ql [Qa 0,Qa 2,Qs YI [.l 0,.l 1],Qf (.bin 0 .gtr (.l 2) (Qh 0))] [(5,3)]
 (.cond (.t 5) (Ql [Qe 1] [(3,0)]
 .ret) .skip))
 (Ql [Qe 0] [(3,0)]
 .ret))))
def ZiK:ZH:=⟨[0,1,2,6,10,14],15,Zr4,[.tmp 3],1⟩
def Zr5:Zf :=
 (Ql [⟨.mv (.c (.str ⟨#[]⟩)),none⟩] [(2,0)]
 (.seq (Ql [Qa 1,Qf (.un .not (.l 0))] [(3,1)]
 (.cond (.t 3) (Ql [⟨.mv (.c (.str ⟨#[63]⟩)),none⟩] [(2,0)]
 .ret) .skip))
 (Ql [Qa 0,Qs Yn [.l 0],Qb 1] [(2,2)]
 .ret)))
def ZiL:ZH:=⟨[0,1,4,6],9,Zr5,[.tmp 2],1⟩
def ZjT:Zf :=
 (Ql [Qf (.box (.t 0)),Qe 0,Qc] [(1,0),(2,1),(3,2)]
 (.seq (Ql [Qr 6 1,Qs JQ [.l 0],Qf (.un .not (.l 1))] [(4,2)]
 (.cond (.t 4) (Ql [Qe 0,Qc] [(2,0),(3,1)]
 .ret) .skip))
 (Qm [Qg (.fieldAddr 3 (.t 1)),Qg (.load false 1 (.l 0)),Qg (.fieldAddr 0 (.t 1)),Qg (.load false 1 (.l 2)),⟨.call (.c (.fn JJ [] [])) [(.l 3)],none,[(1,Qn 1 0)]⟩,Qt Zcx [.l 1,.l 4],Qg (.extract 0 (.l 5)),Qg (.extract 1 (.l 5)),Qg (.mv (.l 6)),Qg (.mv (.l 7))] [(2,8),(3,9)]
 .ret)))
def Zdn:ZH:=⟨[0,1,2,3,6],15,ZjT,[.tmp 2,.tmp 3],1⟩
def JY:Zf :=
 (.seq (Ql [Qa 4,Qa 0,Qf (.len (.l 1)),Qf (.bin 0 .lss (.l 0) (.l 2))] [(5,3)]
 (.cond (.t 5) .skip (.exit 0)))
 (.seq (.block 1 (.seq (Ql [Qa 4,Qf (.bin 0 .gtr (.l 0) (Qh 0))] [(6,1)]
 (.cond (.t 6) (.region [Qa 3,⟨.bin 1 .add (.l 0) (.c (.str ⟨#[32]⟩)),none⟩,Qb 1] [(3,2)]) .skip))
 (.region [Qa 3,Qa 0,Qa 4,Qf (.indexAddrS 1 (.l 1) (.l 2)),Qn 1 3,Qs Yn [.l 4],Qf (.bin 1 .add (.l 0) (.l 5)),Qb 6] [(3,7)])))
 (.region [Qa 4,Qf (.bin 0 .add (.l 0) (Qh 1)),Qb 1] [(4,2)])))
def ZjU:Zf :=
 (Ql [⟨.mv (.c (.str ⟨#[]⟩)),none⟩] [(2,0)]
 (Ql [⟨.mv (.c (.str ⟨#[]⟩)),none⟩] [(3,0)]
 (.seq (Ql [Qe 0] [(4,0)]
 (.block 0 (.loop JY)))
 (.seq (Ql [Qa 1,Qf (.un .not (.l 0))] [(7,1)]
 (.cond (.t 7) (Ql [⟨.mv (.c (.str ⟨#[63]⟩)),none⟩] [(2,0)]
 .ret) .skip))
 (.seq (Ql [Qa 3,⟨.bin 1 .eql (.l 0) (.c (.str ⟨#[]⟩)),none⟩] [(8,1)]
 (.cond (.t 8) (Ql [⟨.mv (.c (.str ⟨#[110,111,110,101]⟩)),none⟩] [(2,0)]
 .ret) .skip))
 (Ql [Qa 3,Qb 0] [(2,1)]
 .ret))))))
def KC:ZH:=⟨[0,1,4,5,6,10,14,25,27],29,ZjU,[.tmp 2],1⟩
def J7:Zf :=
 (.seq (Ql [Qa 4,Qa 3,Qf (.len (.l 1)),Qf (.bin 0 .lss (.l 0) (.l 2))] [(6,3)]
 (.cond (.t 6) .skip (.exit 0)))
 (.seq (.block 1 (Ql [Qa 3,Qa 4,Qf (.indexAddrS 1 (.l 0) (.l 1)),Qn 1 2,Qs Zhp [.l 3,Qh 0],Qb 4,⟨.mv (.t 3),some ((.l 5),true)⟩,⟨.mv (.t 4),some ((.l 5),true)⟩,⟨.indexAddrS 1 (.l 6) (.l 7),some ((.l 5),true)⟩,⟨.load false 1 (.l 8),some ((.l 5),true)⟩,⟨.len (.l 9),some ((.l 5),true)⟩,⟨.mv (.t 0),some ((.l 5),true)⟩,⟨.len (.l 11),some ((.l 5),true)⟩,⟨.bin 0 .lss (.l 10) (.l 12),some ((.l 5),true)⟩,Qf (.pick (.l 5) (.l 13) Qi)] [(7,14)]
 (.cond (.t 7) (Ql [Qa 3,Qa 4,Qf (.indexAddrS 1 (.l 0) (.l 1)),Qn 1 2,Qb 3,Qd] [(1,4),(2,5)]
 .ret) .skip)))
 (.region [Qa 4,Qf (.bin 0 .add (.l 0) (Qh 1)),Qb 1] [(4,2)])))
def ZbN:Zf :=
 (Ql [Qf (.mv (.c (.slice none 0 0 none))),Qc] [(1,0),(2,1)]
 (.seq (Ql [Qa 0,Qs Js [.l 0],Qf (.un .not (.l 1)),Qb 2,⟨.mv (.t 0),some ((.l 3),false)⟩,⟨.len (.l 4),some ((.l 3),false)⟩,⟨.bin 0 .lss (.l 5) (Qh 2),some ((.l 3),false)⟩,Qf (.pick (.l 3) Qj (.l 6)),Qb 7,⟨.mv (.t 0),some ((.l 8),false)⟩,⟨.call (.c (.fn YI [] [])) [(.l 9),(Qh 0)],some ((.l 8),false)⟩,⟨.mv (.t 0),some ((.l 8),false)⟩,⟨.call (.c (.fn JJ [] [])) [(.l 11)],some ((.l 8),false)⟩,⟨.bin 0 .rem (.l 10) (.l 12),some ((.l 8),false)⟩,⟨.bin 0 .neq (.l 13) (Qh 0),some ((.l 8),false)⟩,Qf (.pick (.l 8) Qj (.l 14))] [(5,15)]
 (.cond (.t 5) (Ql [Qf (.buildSlice 1 0 [] []),Qb 0,Qc] [(1,1),(2,2)]
 .ret) .skip))
 (Ql [Qa 0,Qa 0,Qs YI [.l 1,Qh 0],Qa 0,Qs JJ [.l 3],Qf (.bin 0 .quo (.l 2) (.l 4)),Qs ZbX [.l 0,.l 5],Qb 6] [(3,7)]
 (.seq (Ql [Qe 0] [(4,0)]
 (.block 0 (.loop J7)))
 (Ql [Qf (.buildSlice 1 0 [] []),Qb 0,Qc] [(1,1),(2,2)]
 .ret)))))
def Xp:ZH:=⟨[0,2,3,4,5,21,33,50],56,ZbN,[.tmp 1,.tmp 2],2⟩
def JL:Zf :=
 (.seq (Ql [Qa 5,Qa 3,Qf (.lenStr (.l 1)),Qf (.bin 0 .lss (.l 0) (.l 2))] [(8,3)]
 (.cond (.t 8) .skip (.exit 0)))
 (.seq (.block 1 (.seq (Ql [Qa 3,Qa 5,Qf (.indexS (.l 0) (.l 1)),Qf (.bin 0 .lss (.l 2) (.c (.int .u8 (48)))),Qb 3,⟨.mv (.t 3),some ((.l 4),false)⟩,⟨.mv (.t 5),some ((.l 4),false)⟩,⟨.indexS (.l 5) (.l 6),some ((.l 4),false)⟩,⟨.bin 0 .gtr (.l 7) (.c (.int .u8 (57))),some ((.l 4),false)⟩,Qf (.pick (.l 4) Qj (.l 8))] [(9,9)]
 (.cond (.t 9) (Ql [Qe 0,Qc] [(1,0),(2,1)]
 .ret) .skip))
 (.region [Qa 4,Qf (.bin 0 .mul (Qh 10) (.l 0)),Qa 3,Qa 5,Qf (.indexS (.l 2) (.l 3)),Qf (.bin 0 .sub (.l 4) (.c (.int .u8 (48)))),Qf (.conv .i64 (.l 5)),Qf (.bin 0 .add (.l 1) (.l 6)),Qb 7] [(4,8)])))
 (.region [Qa 5,Qf (.bin 0 .add (.l 0) (Qh 1)),Qb 1] [(5,2)])))
def Xu:Zf :=
 (Ql [Qe 0,Qc] [(1,0),(2,1)]
 (Ql [Qa 0,Qb 0] [(3,1)]
 (.seq (Ql [Qa 3,Qf (.lenStr (.l 0)),Qf (.bin 0 .gtr (.l 1) (Qh 1)),Qb 2,⟨.mv (.t 3),some ((.l 3),true)⟩,⟨.indexS (.l 4) (Qh 0),some ((.l 3),true)⟩,⟨.bin 0 .eql (.l 5) (.c (.int .u8 (45))),some ((.l 3),true)⟩,Qf (.pick (.l 3) (.l 6) Qi)] [(6,7)]
 (.cond (.t 6) (.region [Qa 3,Qf (.sliceStr (.l 0) (some (Qh 1)) none),Qb 1] [(3,2)]) .skip))
 (.seq (Ql [Qa 3,Qf (.lenStr (.l 0)),Qs YT [.l 1,Qh 1,Qh 6],Qf (.un .not (.l 2))] [(7,3)]
 (.cond (.t 7) (Ql [Qe 0,Qc] [(1,0),(2,1)]
 .ret) .skip))
 (Ql [Qe 0] [(4,0)]
 (.seq (Ql [Qe 0] [(5,0)]
 (.block 0 (.loop JL)))
 (.seq (Ql [Qa 3,Qf (.lenStr (.l 0)),Qa 0,Qf (.lenStr (.l 2)),Qf (.bin 0 .lss (.l 1) (.l 3))] [(10,4)]
 (.cond (.t 10) (.region [Qa 4,Qf (.un .neg (.l 0)),Qb 1] [(4,2)]) .skip))
 (.seq (Ql [Qa 4,Qs Yn [.l 0],Qa 0,Qf (.bin 1 .neq (.l 1) (.l 2))] [(11,3)]
 (.cond (.t 11) (Ql [Qe 0,Qc] [(1,0),(2,1)]
 .ret) .skip))
 (Ql [Qa 4,Qb 0,Qd] [(1,1),(2,2)]
 .ret)))))))))
def YQ:ZH:=⟨[0,2,3,4,5,6,15,21,25,37,50,56],58,Xu,[.tmp 1,.tmp 2],1⟩
def Zu7:Zf :=
 (Ql [Qf (.mv (.c (.slice none 0 0 none)))] [(1,0)]
 (Ql [Qf (.buildSlice 1 0 [] []),Qa 0,Qf (.append false 1 8 (.l 0) (.l 1)),Qb 2] [(1,3)]
 .ret))
def ZkW:ZH:=⟨[0,2],6,Zu7,[.tmp 1],2⟩
def X2:Zf :=
 (.seq (Ql [Qa 3,Qa 0,Qf (.len (.l 1)),Qf (.bin 0 .lss (.l 0) (.l 2))] [(5,3)]
 (.cond (.t 5) .skip (.exit 0)))
 (.seq (.block 1 (Ql [Qa 0,Qa 3,Qf (.indexAddrS 3 (.l 0) (.l 1)),Qf (.load true 3 (.l 2)),Qs Ziz [.l 3],Qf (.alloc [.int .i64 (0),.int .i64 (0)]),Qq 2 5 4] [(4,5)]
 (.region [Qf (.indexAddrA 2 1 (.t 2) (Qh 0)),Qn 1 0,Qf (.indexAddrA 2 1 (.t 4) (Qh 0)),Qn 1 2,Qf (.bin 0 .mul (.l 1) (.l 3)),Qf (.indexAddrA 2 1 (.t 2) (Qh 1)),Qn 1 5,Qf (.indexAddrA 2 1 (.t 4) (Qh 1)),Qn 1 7,Qf (.bin 0 .mul (.l 6) (.l 8)),Qs ZbW [.l 4,.l 9],Qf (.store 2 (.t 2) (.l 10))] [])))
 (.region [Qa 3,Qf (.bin 0 .add (.l 0) (Qh 1)),Qb 1] [(3,2)])))
def ZjV:Zf :=
 (Ql [Qf (.alloc [.int .i64 (0),.int .i64 (0)])] [(1,0)]
 (Ql [Qf (.build [.int .i64 (0),.int .i64 (0)] [(0,1,(Qh 1)),(1,1,(Qh 1))]),Qf (.alloc [.int .i64 (0),.int .i64 (0)]),Qq 2 1 0] [(2,1)]
 (.seq (Ql [Qe 0] [(3,0)]
 (.block 0 (.loop X2)))
 (Ql [Qr 2 2,Qf (.store 2 (.t 1) (.l 0))] []
 .ret))))
def Zbp:ZH:=⟨[0,2,3,4,5,10],30,ZjV,[.cell 1 true 2],1⟩
def ZbO:Zf :=
 (.seq (Ql [Qa 5,Qf (.bin 0 .add (.l 0) (Qh 1)),Qa 4,Qf (.len (.l 2)),Qf (.bin 0 .lss (.l 1) (.l 3)),Qb 4,⟨.mv (.t 4),some ((.l 5),true)⟩,⟨.mv (.t 5),some ((.l 5),true)⟩,⟨.bin 0 .add (.l 7) (Qh 1),some ((.l 5),true)⟩,⟨.indexAddrS 1 (.l 6) (.l 8),some ((.l 5),true)⟩,⟨.load false 1 (.l 9),some ((.l 5),true)⟩,Qf (.pick (.l 5) (.l 10) Qi)] [(7,11)]
 (.cond (.t 7) .skip (.exit 0)))
 (.block 1 (.region [Qa 5,Qf (.bin 0 .add (.l 0) (Qh 1)),Qb 1] [(5,2)])))
def ZhD:Zf :=
 (Ql [Qe 0,Qc] [(2,0),(3,1)]
 (.seq (Ql [Qa 0,Qs ZaA [.l 0],Qf (.un .not (.l 1))] [(6,2)]
 (.cond (.t 6) (Ql [Qe 0,Qc] [(2,0),(3,1)]
 .ret) .skip))
 (Ql [Qa 0,Qa 1,Qs Ze1 [.l 0,.l 1],Qb 2] [(4,3)]
 (Ql [Qe 0] [(5,0)]
 (.seq (.block 0 (.loop ZbO))
 (Ql [Qa 5,Qb 0,Qd] [(2,1),(3,2)]
 .ret))))))
def KD:ZH:=⟨[0,1,4,5,6,7,10,25],29,ZhD,[.tmp 2,.tmp 3],1⟩
def J8:Zf :=
 (.seq (Ql [Qa 7,Qa 4,Qf (.len (.l 1)),Qf (.bin 0 .lss (.l 0) (.l 2))] [(11,3)]
 (.cond (.t 11) .skip (.exit 0)))
 (.seq (.block 1 (Ql [Qa 0,Qa 4,Qa 7,Qf (.indexAddrS 1 (.l 1) (.l 2)),Qn 1 3,Qs Zbj [.l 0,.l 4],Qb 5,Qp 0 6,Qp 1 6,Qb 7,Qb 8] [(8,9),(9,10)]
 (Ql [Qa 8,Qa 1,Qf (.bin 0 .eql (.l 0) (.l 1)),Qb 2,⟨.mv (.t 9),some ((.l 3),true)⟩,⟨.mv (.t 6),some ((.l 3),true)⟩,⟨.bin 0 .lss (.l 4) (.l 5),some ((.l 3),true)⟩,Qf (.pick (.l 3) (.l 6) Qi)] [(12,7)]
 (.cond (.t 12) (Ql [Qa 4,Qa 7,Qf (.indexAddrS 1 (.l 0) (.l 1)),Qn 1 2,Qb 3] [(5,4)]
 (.region [Qa 9,Qb 0] [(6,1)])) .skip))))
 (.region [Qa 7,Qf (.bin 0 .add (.l 0) (Qh 1)),Qb 1] [(7,2)])))
def ZbP:Zf :=
 (Ql [Qf (.mv (.c (.slice none 0 0 none))),Qc] [(2,0),(3,1)]
 (.seq (Ql [Qa 0,Qs ZaA [.l 0],Qf (.un .not (.l 1)),Qb 2,⟨.mv (.t 1),some ((.l 3),false)⟩,⟨.bin 0 .lss (.l 4) (Qh 1),some ((.l 3),false)⟩,Qf (.pick (.l 3) Qj (.l 5))] [(10,6)]
 (.cond (.t 10) (Ql [Qf (.buildSlice 1 0 [] []),Qb 0,Qc] [(2,1),(3,2)]
 .ret) .skip))
 (Ql [Qa 0,Qf (.len (.l 0)),Qs ZkF [.l 1],Qb 2] [(4,3)]
 (Ql [Qf (.buildSlice 1 0 [] []),Qa 0,Qf (.len (.l 1)),Qf (.bin 0 .add (.l 2) (Qh 1)),Qb 0,Qb 3] [(5,4),(6,5)]
 (.seq (Ql [Qe 0] [(7,0)]
 (.block 0 (.loop J8)))
 (Ql [Qa 5,Qa 5,Qf (.len (.l 1)),Qf (.bin 0 .gtr (.l 2) (Qh 0)),Qb 0,Qb 3] [(2,4),(3,5)]
 .ret))))))
def Jm:ZH:=⟨[0,1,4,5,6,7,8,9,10,11,18,30,49],59,ZbP,[.tmp 2,.tmp 3],2⟩
def Zr6:Zf :=
 (Ql [Qf (.box (.t 0)),⟨.mv (.c (.str ⟨#[]⟩)),none⟩] [(3,0),(4,1)]
 (.seq (Ql [Qa 1] [(10,0)]
 (.block 0 (Ql [⟨.bin 1 .eql (.t 10) (.c (.str ⟨#[109,111,109,101,110,116]⟩)),none⟩,Qb 0] [(11,1)]
 (.cond (.t 11) (Ql [Qo 0 3,Qn 1 0,Qa 2,Qs ZaB [.l 1,.l 2],Qp 0 3,Qp 1 3,Qs KP [.l 4,.l 5],Qb 6] [(4,7)]
 .ret) (Ql [⟨.bin 1 .eql (.t 10) (.c (.str ⟨#[109,111,115,116]⟩)),none⟩,Qb 0] [(12,1)]
 (.cond (.t 12) (Ql [Qo 3 3,Qn 1 0,Qa 2,Qs Zd3 [.l 1,.l 2],Qp 0 3,Qp 1 3,Qs KP [.l 4,.l 5],Qb 6] [(4,7)]
 .ret) (Ql [⟨.bin 1 .eql (.t 10) (.c (.str ⟨#[115,116,101,112,115]⟩)),none⟩,Qb 0] [(13,1)]
 (.cond (.t 13) (Ql [Qo 3 3,Qn 1 0,Qa 2,Qs ZaC [.l 1,.l 2],Qb 3,Qp 0 4,Qp 1 4,Qb 5,Qb 6] [(5,7),(6,8)]
 (Ql [Qa 6] [(14,0)]
 (.cond (.t 14) (Ql [Qa 5,Qa 5,Qf (.len (.l 1)),Qf (.bin 0 .sub (.l 2) (Qh 1)),Qf (.indexAddrS 2 (.l 0) (.l 3)),Qf (.load true 2 (.l 4)),Qs Zbg [.l 5,Qj],Qb 6] [(4,7)]
 .ret) .skip))) (Ql [⟨.bin 1 .eql (.t 10) (.c (.str ⟨#[122,101,114,111]⟩)),none⟩,Qb 0] [(15,1)]
 (.cond (.t 15) (Ql [Qo 0 3,Qn 1 0,Qa 2,Qs Zcy [.l 1,.l 2],Qp 0 3,Qp 1 3,Qs KP [.l 4,.l 5],Qb 6] [(4,7)]
 .ret) (Ql [⟨.bin 1 .eql (.t 10) (.c (.str ⟨#[109,101,110,100]⟩)),none⟩,Qb 0] [(16,1)]
 (.cond (.t 16) (Ql [Qo 0 3,Qn 1 0,Qa 2,Qs ZfZ [.l 1,.l 2],Qb 3,Qp 0 4,Qp 1 4,Qp 2 4,Qb 5,Qb 6,Qb 7] [(7,8),(8,9),(9,10)]
 (Ql [Qa 7,Qa 8,Qf (.buildSlice 1 2 [.int .i64 (0),.int .i64 (0)] [(0,1,(.l 0)),(1,1,(.l 1))]),Qa 9,Qs Xy [.l 2,.l 3],Qb 4] [(4,5)]
 .ret)) (Ql [⟨.bin 1 .eql (.t 10) (.c (.str ⟨#[99,111,105,110,115]⟩)),none⟩,Qb 0] [(17,1)]
 (.cond (.t 17) (Ql [Qa 2,Qs JT [.l 0],Qp 0 1,Qp 1 1,Qs KP [.l 2,.l 3],Qb 4] [(4,5)]
 .ret) .skip))))))))))))))
 (Ql [⟨.mv (.c (.str ⟨#[63]⟩)),none⟩] [(4,0)]
 .ret)))
def ZiM:ZH:=⟨[0,1,2,3,6,7,8,9,10,11,12,13,22,31,40,48,57,72],79,Zr6,[.tmp 4],1⟩
def Zr7:Zf :=
 (Ql [⟨.mv (.c (.str ⟨#[]⟩)),none⟩] [(1,0)]
 (Ql [Qa 0,⟨.bin 1 .add (.l 0) (.c (.str ⟨#[35]⟩)),none⟩,Qa 0,Qs ZkG [.l 2],Qs Yn [.l 3],Qf (.bin 1 .add (.l 1) (.l 4)),Qb 5] [(1,6)]
 .ret))
def ZiN:ZH:=⟨[0,2],9,Zr7,[.tmp 1],1⟩
def ZkX:Zf :=
 (Ql [⟨.mv (.c (.str ⟨#[]⟩)),none⟩,⟨.mv (.c (.str ⟨#[]⟩)),none⟩,Qc] [(2,0),(3,1),(4,2)]
 (Ql [Qa 0,Qa 1,Qs YL [.l 0,.l 1],Qp 0 2,Qp 1 2,Qp 2 2,Qb 3,Qb 4,Qb 5] [(2,6),(3,7),(4,8)]
 .ret))
def ZcM:ZH:=⟨[0,1,4,5,6],13,ZkX,[.tmp 2,.tmp 3,.tmp 4],1⟩
def Ze8:Zf :=
 (Ql [⟨.alloc [.str ⟨#[]⟩,.str ⟨#[]⟩],none⟩,Qc] [(2,0),(3,1)]
 (Ql [Qa 1,Qs Km [.l 0],Qb 1,Qp 0 2,Qp 1 2,Qb 3,Qb 4] [(4,5),(5,6)]
 (Ql [Qa 4,⟨.call (.c (.fn JS [] [])) [(.l 0),(.c (.str ⟨#[32]⟩))],none⟩,Qb 1,Qp 0 2,Qp 1 2,Qp 2 2,Qb 3,Qb 4,Qb 5] [(6,7)]
 (Ql [Qa 6,⟨.call (.c (.fn JS [] [])) [(.l 0),(.c (.str ⟨#[64]⟩))],none⟩,Qb 1,Qp 0 2,Qp 1 2,Qp 2 2,Qb 3,Qb 4,Qb 5] [(7,6),(8,7)]
 (Ql [Qa 7,Qa 8,⟨.build [.str ⟨#[]⟩,.str ⟨#[]⟩] [(0,1,(.l 0)),(1,1,(.l 1))],none⟩,⟨.alloc [.str ⟨#[]⟩,.str ⟨#[]⟩],none⟩,Qq 2 3 2] [(9,3)]
 (Ql [Qa 0,Qr 2 9,Qs J1 [.l 0,.l 1],Qb 2,Qp 0 3,Qp 1 3,Qb 4,Qb 5] [(10,6),(11,7)]
 (Ql [Qr 2 9,Qa 5,Qb 1,⟨.mv (.t 11),some ((.l 2),true)⟩,Qf (.pick (.l 2) (.l 3) Qi),Qb 4,⟨.mv (.t 10),some ((.l 5),true)⟩,⟨.mv (.t 1),some ((.l 5),true)⟩,⟨.bin 1 .add (.l 7) (.c (.str ⟨#[10]⟩)),some ((.l 5),true)⟩,⟨.bin 1 .eql (.l 6) (.l 8),some ((.l 5),true)⟩,Qf (.pick (.l 5) (.l 9) Qi),Qf (.store 2 (.t 2) (.l 0)),Qb 10] [(3,12)]
 .ret)))))))
def Zbq:ZH:=⟨[0,1,4,5,6,7,9,11,12,14,15,16],54,Ze8,[.cell 2 true 2,.tmp 3],1⟩
def YW:Zf :=
 (Ql [Qf (.bin 0 .lss (.t 5) (.t 4))] [(6,0)]
 (.seq (.cond (.t 6) .skip (.exit 0))
 (.seq (.block 1 (Ql [Qa 5,Qb 0] [(3,1)]
 (Ql [Qa 1,Qa 0,Qa 3,Qf (.indexAddrS 1 (.l 1) (.l 2)),Qn 1 3,Qf (.bin 0 .eql (.l 0) (.l 4))] [(7,5)]
 (.cond (.t 7) (Ql [Qa 3,Qb 0] [(2,1)]
 .ret) .skip))))
 (.region [Qf (.bin 0 .add (.t 5) (Qh 1)),Qb 0] [(5,1)]))))
def ZaL:Zf :=
 (Ql [Qe 0] [(2,0)]
 (.seq (Ql [Qa 0,Qf (.len (.l 0)),Qe 0] [(4,1),(5,2)]
 (.block 0 (.loop YW)))
 (Ql [Qe (-1)] [(2,0)]
 .ret)))
def Xi:ZH:=⟨[0,1,4,5,7,8,9,16],19,ZaL,[.tmp 2],1⟩
def Zbr:Zf :=
 (Ql [Qf (.box (.t 0)),Qf (.box (.t 1)),Qc] [(2,0),(3,1),(4,2)]
 (.seq (Ql [Qo 0 3,Qn 1 0] [(5,1)]
 (.block 0 (.seq (Ql [Qf (.bin 0 .eql (.t 5) (Qh 1)),Qb 0] [(6,1)]
 (.cond (.t 6) .skip (.region [Qf (.bin 0 .eql (.t 5) (Qh 4)),Qb 0] [(6,1)])))
 (.cond (.t 6) (Ql [Qo 3 3,Qn 1 0,Qf (.bin 0 .eql (.l 1) (Qh 0)),Qb 2] [(4,3)]
 .ret) (Ql [Qf (.bin 0 .eql (.t 5) (Qh 2)),Qb 0] [(7,1)]
 (.cond (.t 7) (Ql [Qo 1 3,Qn 1 0,Qo 0 2,Qn 1 2,Qf (.len (.l 3)),Qf (.bin 0 .sub (.l 4) (Qh 1)),Qs YT [.l 1,Qh 0,.l 5],Qb 6,⟨.fieldAddr 2 (.t 3),some ((.l 7),true)⟩,⟨.load false 1 (.l 8),some ((.l 7),true)⟩,⟨.bin 0 .eql (.l 9) (Qh 0),some ((.l 7),true)⟩,Qf (.pick (.l 7) (.l 10) Qi),Qb 11,⟨.fieldAddr 3 (.t 3),some ((.l 12),true)⟩,⟨.load false 1 (.l 13),some ((.l 12),true)⟩,⟨.bin 0 .eql (.l 14) (Qh 0),some ((.l 12),true)⟩,Qf (.pick (.l 12) (.l 15) Qi),Qb 16] [(4,17)]
 .ret) (Ql [Qf (.bin 0 .eql (.t 5) (Qh 3)),Qb 0] [(8,1)]
 (.cond (.t 8) (Ql [Qo 1 3,Qn 1 0,Qo 0 2,Qn 1 2,Qf (.len (.l 3)),Qf (.bin 0 .sub (.l 4) (Qh 1)),Qs YT [.l 1,Qh 0,.l 5],Qb 6,⟨.fieldAddr 3 (.t 3),some ((.l 7),true)⟩,⟨.load false 1 (.l 8),some ((.l 7),true)⟩,⟨.bin 0 .eql (.l 9) (Qh 0),some ((.l 7),true)⟩,Qf (.pick (.l 7) (.l 10) Qi),Qb 11] [(4,12)]
 .ret) (Ql [Qf (.bin 0 .eql (.t 5) (Qh 6)),Qb 0] [(9,1)]
 (.cond (.t 9) (Ql [Qo 1 3,Qn 1 0,Qo 3 2,Qn 1 2,Qf (.len (.l 3)),Qf (.bin 0 .sub (.l 4) (Qh 1)),Qs YT [.l 1,Qh 0,.l 5],Qb 6,⟨.fieldAddr 2 (.t 3),some ((.l 7),true)⟩,⟨.load false 1 (.l 8),some ((.l 7),true)⟩,⟨.bin 0 .eql (.l 9) (Qh 0),some ((.l 7),true)⟩,Qf (.pick (.l 7) (.l 10) Qi),Qb 11,⟨.fieldAddr 3 (.t 3),some ((.l 12),true)⟩,⟨.load false 1 (.l 13),some ((.l 12),true)⟩,⟨.bin 0 .eql (.l 14) (Qh 0),some ((.l 12),true)⟩,Qf (.pick (.l 12) (.l 15) Qi),Qb 16] [(4,17)]
 .ret) .skip))))))))))
 (Ql [Qo 0 3,Qn 1 0,Qf (.bin 0 .eql (.l 1) (Qh 5)),Qb 2] [(4,3)]
 .ret)))
def KW:ZH:=⟨[0,1,2,3,4,6,7,13,32,46],68,Zbr,[.tmp 4],1⟩
def Q2:Zf :=
 (Ql [Qf (.box (.t 0)),Qf (.box (.t 1)),Qf (.alloc [.slice none 0 0 none,.int .i64 (0),.int .i64 (0),.slice none 0 0 none,.int .i64 (0),.int .i64 (0)])] [(2,0),(3,1),(4,2)]
 (Ql [Qr 6 2,Qs ZcZ [.l 0],Qf (.alloc [.slice none 0 0 none,.int .i64 (0),.int .i64 (0),.slice none 0 0 none,.int .i64 (0),.int .i64 (0)]),Qq 6 2 1] [(5,2)]
 (.seq (Ql [Qo 0 3,Qn 1 0] [(6,1)]
 (.block 0 (Ql [Qf (.bin 0 .eql (.t 6) (Qh 1)),Qb 0] [(7,1)]
 (.cond (.t 7) (.region [Qo 0 5,Qn 1 0,Qo 1 3,Qn 1 2,Qo 2 3,Qn 1 4,Qf (.build [.int .i64 (0),.int .i64 (0)] [(0,1,(.l 3)),(1,1,(.l 5))]),Qf (.buildSlice 2 1 [.int .i64 (0),.int .i64 (0)] [(0,2,(.l 6))]),Qf (.append false 2 16 (.l 1) (.l 7)),Qo 0 5,Qq 1 9 8] []) (Ql [Qf (.bin 0 .eql (.t 6) (Qh 2)),Qb 0] [(8,1)]
 (.cond (.t 8) (.draw [Qg (.fieldAddr 0 (.t 5)),Qg (.load false 1 (.l 0)),Qg (.fieldAddr 1 (.t 3)),Qg (.load false 1 (.l 2)),Qg (.sliceSl 2 (.l 1) none (some (.l 3)) none),Qg (.fieldAddr 0 (.t 5)),Qg (.load false 1 (.l 5)),Qg (.fieldAddr 1 (.t 3)),Qg (.load false 1 (.l 7)),Qg (.bin 0 .add (.l 8) (Qh 1)),Qg (.sliceSl 2 (.l 6) (some (.l 9)) none none),Qg (.append false 2 16 (.l 4) (.l 10)),Qg (.fieldAddr 0 (.t 5)),Qg (.store 1 (.l 12) (.l 11))] []) (Ql [Qf (.bin 0 .eql (.t 6) (Qh 3)),Qb 0] [(9,1)]
 (.cond (.t 9) (.region [Qo 0 5,Qn 1 0,Qo 1 3,Qn 1 2,Qo 2 3,Qn 1 4,Qf (.indexAddrS 2 (.l 1) (.l 3)),Qf (.fieldAddr 0 (.l 6)),Qq 1 7 5] []) (Ql [Qf (.bin 0 .eql (.t 6) (Qh 4)),Qb 0] [(10,1)]
 (.cond (.t 10) (Ql [Qo 1 3,Qn 1 0,Qo 1 5,Qq 1 2 1] []
 (.region [Qo 2 3,Qn 1 0,Qo 2 5,Qq 1 2 1] [])) (Ql [Qf (.bin 0 .eql (.t 6) (Qh 5)),Qb 0] [(11,1)]
 (.cond (.t 11) (.region [Qo 3 5,Qn 1 0,Qo 1 3,Qn 1 2,Qo 2 3,Qn 1 4,Qo 3 3,Qn 1 6,Qf (.build [.int .i64 (0),.int .i64 (0),.int .i64 (0)] [(0,1,(.l 3)),(1,1,(.l 5)),(2,1,(.l 7))]),Qf (.buildSlice 3 1 [.int .i64 (0),.int .i64 (0),.int .i64 (0)] [(0,3,(.l 8))]),Qf (.append false 3 24 (.l 1) (.l 9)),Qo 3 5,Qq 1 11 10] []) (Ql [Qf (.bin 0 .eql (.t 6) (Qh 6)),Qb 0] [(12,1)]
 (.cond (.t 12) (.draw [Qg (.fieldAddr 3 (.t 5)),Qg (.load false 1 (.l 0)),Qg (.fieldAddr 1 (.t 3)),Qg (.load false 1 (.l 2)),Qg (.sliceSl 3 (.l 1) none (some (.l 3)) none),Qg (.fieldAddr 3 (.t 5)),Qg (.load false 1 (.l 5)),Qg (.fieldAddr 1 (.t 3)),Qg (.load false 1 (.l 7)),Qg (.bin 0 .add (.l 8) (Qh 1)),Qg (.sliceSl 3 (.l 6) (some (.l 9)) none none),Qg (.append false 3 24 (.l 4) (.l 10)),Qg (.fieldAddr 3 (.t 5)),Qg (.store 1 (.l 12) (.l 11))] []) .skip))))))))))))))
 (Ql [Qr 6 5,Qf (.store 6 (.t 4) (.l 0))] []
 .ret))))
def JZ:ZH:=⟨[0,1,2,3,4,5,9,10,22,37,47,55,69],85,Q2,[.cell 4 true 6],2⟩
def Zr8:Zf :=
 (Ql [Qe 0] [(2,0)]
 (.seq (Ql [Qa 0,Qa 1,Qf (.bin 0 .gtr (.l 0) (.l 1))] [(3,2)]
 (.cond (.t 3) (Ql [Qa 0,Qb 0] [(2,1)]
 .ret) .skip))
 (Ql [Qa 1,Qb 0] [(2,1)]
 .ret)))
def ZiO:ZH:=⟨[0,1,4,7],10,Zr8,[.tmp 2],1⟩
def ZjW:Zf :=
 (Ql [Qe 0] [(2,0)]
 (.seq (Ql [Qa 0,Qa 1,Qf (.bin 0 .lss (.l 0) (.l 1))] [(3,2)]
 (.cond (.t 3) (Ql [Qa 0,Qb 0] [(2,1)]
 .ret) .skip))
 (Ql [Qa 1,Qb 0] [(2,1)]
 .ret)))
def Zdo:ZH:=⟨[0,1,4,7],10,ZjW,[.tmp 2],1⟩
def Zx:Zf :=
 (Ql [Qf (.bin 0 .lss (.t 5) (.t 4))] [(6,0)]
 (.seq (.cond (.t 6) .skip (.exit 0))
 (.seq (.block 1 (Ql [Qa 5,Qb 0] [(3,1)]
 (Ql [Qa 1,Qa 0,Qa 3,Qf (.indexAddrS 2 (.l 1) (.l 2)),Qf (.load true 2 (.l 3)),Qf (.call (.l 0) [(.l 4)])] [(7,5)]
 (.cond (.t 7) (Ql [Qa 3,Qb 0] [(2,1)]
 .ret) .skip))))
 (.region [Qf (.bin 0 .add (.t 5) (Qh 1)),Qb 0] [(5,1)]))))
def X5:Zf :=
 (Ql [Qe 0] [(2,0)]
 (.seq (Ql [Qa 0,Qf (.len (.l 0)),Qe 0] [(4,1),(5,2)]
 (.block 0 (.loop Zx)))
 (Ql [Qe (-1)] [(2,0)]
 .ret)))
def Z1:ZH:=⟨[0,1,4,5,7,8,9,16],19,X5,[.tmp 2],1⟩
def Zpe:Zf :=
 (Ql [Qc] [(1,0)]
 (Ql [Qa 0,Qs YH [.l 0,Qh 1,Qh 24],Qb 1] [(1,2)]
 .ret))
def Zgn:ZH:=⟨[0,2],5,Zpe,[.tmp 1],1⟩
def ZAB:Zf :=
 (Ql [Qc] [(1,0)]
 (Ql [Qa 0,Qs YT [.l 0,Qh 0,Qh 60],Qb 1] [(1,2)]
 .ret))
def Zoe:ZH:=⟨[0,2],5,ZAB,[.tmp 1],1⟩
def Zu8:Zf :=
 (Ql [Qc] [(2,0)]
 (Ql [Qa 0,Qs YT [.l 0,Qh 1,Qh 24],Qb 1,⟨.mv (.t 1),some ((.l 2),true)⟩,⟨.call (.c (.fn YT [] [])) [(.l 3),(Qh 1),(Qh 24)],some ((.l 2),true)⟩,Qf (.pick (.l 2) (.l 4) Qi),Qb 5] [(2,6)]
 .ret))
def ZkY:ZH:=⟨[0,1,4],11,Zu8,[.tmp 2],1⟩
def Zpf:Zf :=
 (Ql [Qe 0] [(3,0)]
 (.seq (.block 0 (Ql [Qa 0,Qa 1,Qs YY [.l 0,.l 1],Qf (.bin 0 .lss (.l 2) (Qh 0)),Qb 3] [(4,4)]
 (.cond (.t 4) (Ql [Qe (-1)] [(3,0)]
 .ret) (Ql [Qa 0,Qa 2,Qs YY [.l 0,.l 1],Qf (.bin 0 .gtr (.l 2) (Qh 0)),Qb 3] [(5,4)]
 (.cond (.t 5) (Ql [Qe 1] [(3,0)]
 .ret) .skip)))))
 (Ql [Qe 0] [(3,0)]
 .ret)))
def Zgo:ZH:=⟨[0,1,2,6,7,12],17,Zpf,[.tmp 3],1⟩
def Jy:Zf :=
 (Ql [Qf (.bin 0 .lss (.t 7) (.t 6))] [(8,0)]
 (.seq (.cond (.t 8) .skip (.exit 0))
 (.seq (.block 1 (Ql [Qf (.indexAddrS 3 (.t 5) (.t 7)),Qf (.load true 3 (.l 0)),Qf (.alloc [.int .i64 (0),.int .i64 (0),.int .i64 (0)]),Qq 3 2 1] [(3,2)]
 (Ql [Qr 3 3,Qs Zay [.l 0],Qf (.alloc [.int .i64 (0),.int .i64 (0)]),Qq 2 2 1] [(4,2)]
 (.region [Qf (.indexAddrA 2 1 (.t 2) (Qh 0)),Qn 1 0,Qf (.indexAddrA 2 1 (.t 4) (Qh 0)),Qn 1 2,Qf (.bin 0 .mul (.l 1) (.l 3)),Qf (.indexAddrA 2 1 (.t 2) (Qh 1)),Qn 1 5,Qf (.indexAddrA 2 1 (.t 4) (Qh 1)),Qn 1 7,Qf (.bin 0 .mul (.l 6) (.l 8)),Qs Xk [.l 4,.l 9],Qf (.store 2 (.t 2) (.l 10))] []))))
 (.region [Qf (.bin 0 .add (.t 7) (Qh 1)),Qb 0] [(7,1)]))))
def ZkZ:Zf :=
 (Ql [Qf (.alloc [.int .i64 (0),.int .i64 (0)])] [(1,0)]
 (Ql [Qf (.build [.int .i64 (0),.int .i64 (0)] [(0,1,(Qh 1)),(1,1,(Qh 1))]),Qf (.alloc [.int .i64 (0),.int .i64 (0)]),Qq 2 1 0] [(2,1)]
 (.seq (Ql [Qa 0,Qf (.len (.l 0)),Qe 0] [(5,0),(6,1),(7,2)]
 (.block 0 (.loop Jy)))
 (Ql [Qr 2 2,Qf (.store 2 (.t 1) (.l 0))] []
 .ret))))
def ZcN:ZH:=⟨[0,2,3,5,6,8,9,10,11],29,ZkZ,[.cell 1 true 2],1⟩
def Zgp:Zf :=
 (Ql [Qa 0,Qf (.bin 0 .gtr (.l 0) (Qh 0))] [(2,1)]
 (.cond (.t 2) (.region [Qf (.load false 1 (.t 1)),Qa 0,Qf (.buildSlice 1 1 [.int .i64 (0)] [(0,1,(.l 1))]),Qf (.append false 1 8 (.l 0) (.l 2)),Qf (.store 1 (.t 1) (.l 3))] []) .skip))
def KX:ZH:=⟨[1,2,6],11,Zgp,[],0⟩
def Jz:Zf :=
 (.seq (Ql [Qa 7,Qf (.bin 0 .leq (.l 0) (Qh 1))] [(9,1)]
 (.cond (.t 9) .skip (.exit 0)))
 (.seq (.block 1 (Ql [Qf (.load false 1 (.t 4)),Qa 0,Qa 7,Qf (.indexAddrS 1 (.l 0) (.l 1)),Qq 1 3 2] []
 (.draw [Qg (.load false 1 (.t 6)),Qg (.mv (.t 0)),Qg (.bin 0 .add (.l 1) (Qh 1)),Qg (.mv (.t 1)),Qg (.mv (.t 7)),Qg (.load false 1 (.t 2)),Qg (.mv (.t 0)),Qg (.indexAddrS 1 (.l 5) (.l 6)),Qg (.load false 1 (.l 7)),Qg (.bin 0 .mul (.l 4) (.l 8)),Qg (.bin 0 .add (.l 3) (.l 9)),Qg (.call (.l 0) [(.l 2),(.l 10)])] [])))
 (.region [Qa 7,Qf (.bin 0 .add (.l 0) (Qh 1)),Qb 1] [(7,2)])))
def KE:Zf :=
 (.seq (Ql [Qa 0,Qf (.load false 1 (.t 2)),Qf (.len (.l 1)),Qf (.bin 0 .eql (.l 0) (.l 2))] [(8,3)]
 (.cond (.t 8) (Ql [Qf (.load false 1 (.t 3)),Qf (.load false 1 (.t 4)),Qa 1,Qf (.call (.l 0) [(.l 1),(.l 2)])] []
 .ret) .skip))
 (Ql [Qf (.load false 1 (.t 5)),Qb 0] [(7,1)]
 (.block 0 (.loop Jz))))
def Z8:ZH:=⟨[0,1,2,3,4,5,6,9,13,20],39,KE,[],0⟩
def Znc:Zf :=
 (Ql [Qf (.alloc [.int .i64 (0),.int .i64 (0)])] [(2,0)]
 (Ql [Qa 0,Qa 0,Qf (.un .neg (.l 1)),Qf (.max2 (.l 0) (.l 2)),Qa 1,Qs Zf0 [.l 3,.l 4],Qb 5] [(3,6)]
 (Qm [Qg (.mv (.t 0)),Qg (.mv (.t 3)),Qg (.bin 0 .quo (.l 0) (.l 1)),Qg (.mv (.t 1)),Qg (.mv (.t 3)),Qg (.bin 0 .quo (.l 3) (.l 4)),Qg (.build [.int .i64 (0),.int .i64 (0)] [(0,1,(.l 2)),(1,1,(.l 5))]),Qg (.store 2 (.t 2) (.l 6))] []
 .ret)))
def Zej:ZH:=⟨[0,1,4,5],19,Znc,[.cell 2 true 2],1⟩
def Zk0:Zf :=
 (Ql [Qe 0,Qc] [(2,0),(3,1)]
 (Ql [Qa 0,Qa 1,Qs Zf1 [.l 0,.l 1],Qb 2,Qp 0 3,Qp 1 3,Qf (.alloc [.int .i64 (0),.int .i64 (0)]),Qq 2 6 4,Qb 5] [(4,6),(5,8)]
 (.seq (Ql [Qa 5,Qf (.un .not (.l 0))] [(6,1)]
 (.cond (.t 6) (Ql [Qe 0,Qc] [(2,0),(3,1)]
 .ret) .skip))
 (Ql [Qf (.indexAddrA 2 1 (.t 4) (Qh 0)),Qn 1 0,Qf (.indexAddrA 2 1 (.t 4) (Qh 1)),Qn 1 2,Qf (.bin 0 .add (.l 1) (.l 3)),Qf (.bin 0 .sub (.l 4) (Qh 1)),Qf (.indexAddrA 2 1 (.t 4) (Qh 1)),Qn 1 6,Qf (.bin 0 .quo (.l 5) (.l 7)),Qb 8,Qd] [(2,9),(3,10)]
 .ret))))
def ZcO:ZH:=⟨[0,1,4,5,6,7,15],25,Zk0,[.tmp 2,.tmp 3],1⟩
def ZjX:Zf :=
 (Ql [Qf (.alloc [.int .i64 (0),.int .i64 (0)]),Qc] [(2,0),(3,1)]
 (.seq (Ql [Qa 0,Qs YN [.l 0],Qf (.un .not (.l 1)),Qb 2,⟨.mv (.t 1),some ((.l 3),false)⟩,⟨.call (.c (.fn Zaf [] [])) [(.l 4)],some ((.l 3),false)⟩,⟨.un .not (.l 5),some ((.l 3),false)⟩,Qf (.pick (.l 3) Qj (.l 6))] [(5,7)]
 (.cond (.t 5) (Ql [Qf (.build [.int .i64 (0),.int .i64 (0)] []),Qf (.store 2 (.t 2) (.l 0)),Qc] [(3,2)]
 .ret) .skip))
 (Ql [Qa 0,Qs XV [.l 0],Qf (.alloc [.int .i64 (0),.int .i64 (0)]),Qq 2 2 1] [(4,2)]
 (Ql [Qa 1,Qf (.indexAddrA 2 1 (.t 4) (Qh 0)),Qn 1 1,Qf (.bin 0 .mul (.l 0) (.l 2)),Qf (.indexAddrA 2 1 (.t 4) (Qh 1)),Qn 1 4,Qs Xk [.l 3,.l 5],Qf (.store 2 (.t 2) (.l 6)),Qd] [(3,8)]
 .ret))))
def Zdp:ZH:=⟨[0,1,4,5,6,14],25,ZjX,[.cell 2 true 2,.tmp 3],1⟩
def Zr9:Zf :=
 (Ql [Qc] [(1,0)]
 (Ql [Qa 0,Qs YH [.l 0,Qh 0,Qh 1000000],Qb 1] [(1,2)]
 .ret))
def ZiP:ZH:=⟨[0,2],5,Zr9,[.tmp 1],1⟩
def ZcP:Zf :=
 (Ql [Qf (.box (.t 0)),Qf (.alloc [.int .i64 (0),.int .i64 (0)])] [(1,0),(2,1)]
 (.seq (Ql [Qo 0 1,Qn 1 0] [(3,1)]
 (.block 0 (Ql [Qf (.bin 0 .eql (.t 3) (Qh 2)),Qb 0] [(4,1)]
 (.cond (.t 4) (Ql [Qo 1 1,Qn 1 0,Qf (.build [.int .i64 (0),.int .i64 (0)] [(0,1,(.l 1)),(1,1,(Qh 1))]),Qf (.store 2 (.t 2) (.l 2))] []
 .ret) (Ql [Qf (.bin 0 .eql (.t 3) (Qh 5)),Qb 0] [(5,1)]
 (.cond (.t 5) (Ql [Qo 1 1,Qn 1 0,Qf (.bin 0 .mul (Qh 2) (.l 1)),Qo 1 1,Qn 1 3,Qo 2 1,Qn 1 5,Qf (.bin 0 .sub (.l 4) (.l 6)),Qs Xk [.l 2,.l 7],Qf (.store 2 (.t 2) (.l 8))] []
 .ret) .skip))))))
 (Ql [Qo 1 1,Qn 1 0,Qo 2 1,Qn 1 2,Qs Xk [.l 1,.l 3],Qf (.store 2 (.t 2) (.l 4))] []
 .ret)))
def KY:ZH:=⟨[0,1,2,4,5,10],26,ZcP,[.cell 2 true 2],1⟩
def Zk1:Zf :=
 (Ql [Qe 0,Qc] [(2,0),(3,1)]
 (Ql [Qa 0,Qa 1,Qs Jp [.l 0,.l 1],Qb 2,Qp 0 3,Qp 1 3,Qb 4,Qb 5] [(4,6),(5,7)]
 (Ql [Qa 4,Qa 5,Qb 1,⟨.mv (.t 4),some ((.l 2),true)⟩,⟨.bin 0 .neq (.l 3) (Qh 0),some ((.l 2),true)⟩,Qf (.pick (.l 2) (.l 4) Qi),Qb 0,Qb 5] [(2,6),(3,7)]
 .ret)))
def ZcQ:ZH:=⟨[0,1,4,5,6,7],20,Zk1,[.tmp 2,.tmp 3],1⟩
def Znd:Zf :=
 (Ql [Qc] [(1,0)]
 (Ql [Qa 0,Qs YH [.l 0,Qh 2,Qh 40],Qb 1] [(1,2)]
 .ret))
def Zek:ZH:=⟨[0,2],5,Znd,[.tmp 1],1⟩
def ZeM:Zf :=
 (Ql [Qf (.bin 0 .lss (.t 7) (.t 6))] [(8,0)]
 (.seq (.cond (.t 8) .skip (.exit 0))
 (.seq (.block 1 (Ql [Qa 7,Qb 0] [(4,1)]
 (.region [Qa 3,Qf (.bin 0 .mul (Qh 41) (.l 0)),Qa 0,Qa 4,Qf (.indexS (.l 2) (.l 3)),Qf (.conv .i64 (.l 4)),Qf (.bin 0 .add (.l 1) (.l 5)),Qf (.bin 0 .add (.l 6) (Qh 1)),Qf (.bin 0 .rem (.l 7) (Qh 999979)),Qb 8] [(3,9)])))
 (.region [Qf (.bin 0 .add (.t 7) (Qh 1)),Qb 0] [(7,1)]))))
def ZhE:Zf :=
 (Ql [Qe 0,Qc] [(1,0),(2,1)]
 (.seq (Ql [Qa 0,Qf (.lenStr (.l 0)),Qf (.bin 0 .gtr (.l 1) (Qh 4000))] [(5,2)]
 (.cond (.t 5) (Ql [Qe 0,Qc] [(1,0),(2,1)]
 .ret) .skip))
 (Ql [Qe 7] [(3,0)]
 (.seq (Ql [Qa 0,Qf (.lenStr (.l 0)),Qe 0] [(6,1),(7,2)]
 (.block 0 (.loop ZeM)))
 (Ql [Qa 3,Qb 0,Qd] [(1,1),(2,2)]
 .ret)))))
def Zb3:ZH:=⟨[0,2,3,4,5,8,10,11,12],25,ZhE,[.tmp 1,.tmp 2],1⟩
def Zb4:Zf :=
 (.seq (Ql [Qa 3,Qa 0,Qf (.len (.l 1)),Qf (.bin 0 .lss (.l 0) (.l 2))] [(4,3)]
 (.cond (.t 4) .skip (.exit 0)))
 (.seq (.block 1 (.seq (Ql [Qa 3,Qf (.bin 0 .gtr (.l 0) (Qh 0))] [(5,1)]
 (.cond (.t 5) (.region [Qa 2,⟨.bin 1 .add (.l 0) (.c (.str ⟨#[32]⟩)),none⟩,Qb 1] [(2,2)]) .skip))
 (.draw [Qg (.mv (.t 2)),Qg (.mv (.t 0)),Qg (.mv (.t 3)),Qg (.indexAddrS 2 (.l 1) (.l 2)),Qg (.fieldAddr 0 (.l 3)),Qg (.load false 1 (.l 4)),Qg (.mv (.t 0)),Qg (.mv (.t 3)),Qg (.indexAddrS 2 (.l 6) (.l 7)),Qg (.fieldAddr 1 (.l 8)),Qg (.load false 1 (.l 9)),⟨.call (.c (.fn Yn [] [])) [(.l 5)],none,[(10,Qn 1 9)]⟩,Qg (.bin 1 .add (.l 0) (.l 11)),⟨.bin 1 .add (.l 12) (.c (.str ⟨#[58]⟩)),none,[]⟩,Qt Yn [.l 10],Qg (.bin 1 .add (.l 13) (.l 14)),Qg (.mv (.l 15))] [(2,16)])))
 (.region [Qa 3,Qf (.bin 0 .add (.l 0) (Qh 1)),Qb 1] [(3,2)])))
def Zsa:Zf :=
 (Ql [⟨.mv (.c (.str ⟨#[]⟩)),none⟩] [(1,0)]
 (Ql [⟨.mv (.c (.str ⟨#[]⟩)),none⟩] [(2,0)]
 (.seq (Ql [Qe 0] [(3,0)]
 (.block 0 (.loop Zb4)))
 (.seq (Ql [Qa 0,Qf (.len (.l 0)),Qf (.bin 0 .eql (.l 1) (Qh 0))] [(6,2)]
 (.cond (.t 6) (Ql [⟨.mv (.c (.str ⟨#[110,111,110,101]⟩)),none⟩] [(1,0)]
 .ret) .skip))
 (Ql [Qa 2,Qb 0] [(1,1)]
 .ret)))))
def Zc1:ZH:=⟨[0,2,3,4,8,12,33],35,Zsa,[.tmp 1],1⟩
def Zu9:Zf :=
 (Ql [Qf (.alloc [.int .i64 (0),.int .i64 (0)])] [(2,0)]
 (Ql [Qa 0,Qa 0,Qf (.un .neg (.l 1)),Qs Zc0 [.l 0,.l 2],Qa 1,Qs ZkH [.l 3,.l 4],Qb 5] [(3,6)]
 (Qm [Qg (.mv (.t 0)),Qg (.mv (.t 3)),Qg (.bin 0 .quo (.l 0) (.l 1)),Qg (.mv (.t 1)),Qg (.mv (.t 3)),Qg (.bin 0 .quo (.l 3) (.l 4)),Qg (.build [.int .i64 (0),.int .i64 (0)] [(0,1,(.l 2)),(1,1,(.l 5))]),Qg (.store 2 (.t 2) (.l 6))] []
 .ret)))
def Zk2:ZH:=⟨[0,1,4,5],19,Zu9,[.cell 2 true 2],1⟩
def Kf:Zf :=
 (.seq (Ql [Qa 4,Qa 0,Qf (.len (.l 1)),Qf (.bin 0 .lss (.l 0) (.l 2))] [(5,3)]
 (.cond (.t 5) .skip (.exit 0)))
 (.seq (.block 1 (.draw [Qg (.mv (.t 3)),Qg (.mv (.t 0)),Qg (.mv (.t 4)),Qg (.indexAddrS 2 (.l 1) (.l 2)),Qg (.fieldAddr 1 (.l 3)),Qg (.load false 1 (.l 4)),Qg (.mv (.t 0)),Qg (.mv (.t 4)),Qg (.indexAddrS 2 (.l 6) (.l 7)),Qg (.fieldAddr 0 (.l 8)),Qg (.load false 1 (.l 9)),Qg (.mv (.t 1)),Qg (.bin 0 .sub (.l 10) (.l 11)),Qg (.bin 0 .mul (.l 5) (.l 12)),Qg (.bin 0 .add (.l 0) (.l 13)),Qg (.mv (.l 14))] [(3,15)]))
 (.region [Qa 4,Qf (.bin 0 .add (.l 0) (Qh 1)),Qb 1] [(4,2)])))
def Zne:Zf :=
 (Ql [Qe 0] [(2,0)]
 (Ql [Qe 0] [(3,0)]
 (.seq (Ql [Qe 0] [(4,0)]
 (.block 0 (.loop Kf)))
 (Ql [Qa 3,Qb 0] [(2,1)]
 .ret))))
def Zel:ZH:=⟨[0,1,4,5,6,10],29,Zne,[.tmp 2],1⟩
def Zk3:Zf :=
 (Ql [Qe 0,Qc] [(2,0),(3,1)]
 (.seq (Ql [Qa 0,Qa 1,Qs QC [.l 0,.l 1],Qf (.un .not (.l 2))] [(5,3)]
 (.cond (.t 5) (Ql [Qe 0,Qc] [(2,0),(3,1)]
 .ret) .skip))
 (Ql [Qa 0,Qs Jg [.l 0],Qf (.alloc [.int .i64 (0),.int .i64 (0)]),Qq 2 2 1] [(4,2)]
 (Ql [Qa 1,Qf (.indexAddrA 2 1 (.t 4) (Qh 1)),Qn 1 1,Qf (.bin 0 .mul (.l 0) (.l 2)),Qf (.indexAddrA 2 1 (.t 4) (Qh 0)),Qn 1 4,Qf (.bin 0 .add (.l 3) (.l 5)),Qf (.bin 0 .sub (.l 6) (Qh 1)),Qf (.indexAddrA 2 1 (.t 4) (Qh 0)),Qn 1 8,Qf (.bin 0 .quo (.l 7) (.l 9)),Qb 10,Qd] [(2,11),(3,12)]
 .ret))))
def ZcR:ZH:=⟨[0,1,4,5,6,10],24,Zk3,[.tmp 2,.tmp 3],1⟩
def ZbQ:Zf :=
 (.seq (Ql [Qa 6,Qa 5,Qf (.len (.l 1)),Qf (.bin 0 .lss (.l 0) (.l 2))] [(8,3)]
 (.cond (.t 8) .skip (.exit 2)))
 (.seq (.block 3 (Ql [Qa 0,Qa 1,Qa 5,Qa 6,Qf (.indexAddrS 1 (.l 2) (.l 3)),Qn 1 4,Qs Ze2 [.l 0,.l 1,.l 5]] [(9,6)]
 (.cond (.t 9) (.region [Qa 3,Qa 5,Qa 6,Qf (.indexAddrS 1 (.l 1) (.l 2)),Qn 1 3,Qf (.buildSlice 1 1 [.slice none 0 0 none] [(0,1,(.l 4))]),Qf (.append false 1 24 (.l 0) (.l 5)),Qb 6] [(3,7)]) .skip)))
 (.region [Qa 6,Qf (.bin 0 .add (.l 0) (Qh 1)),Qb 1] [(6,2)])))
def ZeN:Zf :=
 (.seq (Ql [Qa 4,Qa 0,Qf (.len (.l 1)),Qf (.bin 0 .leq (.l 0) (.l 2))] [(7,3)]
 (.cond (.t 7) .skip (.exit 0)))
 (.seq (.block 1 (Ql [Qa 0,Qf (.len (.l 0)),Qa 4,Qs ZiA [.l 1,.l 2],Qb 3] [(5,4)]
 (Ql [Qe 0] [(6,0)]
 (.block 2 (.loop ZbQ)))))
 (.region [Qa 4,Qf (.bin 0 .add (.l 0) (Qh 1)),Qb 1] [(4,2)])))
def Znf:Zf :=
 (Ql [Qf (.mv (.c (.slice none 0 0 none)))] [(2,0)]
 (Ql [Qf (.buildSlice 1 0 [] []),Qb 0] [(3,1)]
 (.seq (Ql [Qe 0] [(4,0)]
 (.block 0 (.loop ZeN)))
 (Ql [Qa 3,Qb 0] [(2,1)]
 .ret))))
def Zb5:ZH:=⟨[0,1,4,5,6,7,8,13,23,32],41,Znf,[.tmp 2],0⟩
def Q3:Zf :=
 (.seq (Ql [Qa 3,Qa 0,Qf (.len (.l 1)),Qf (.bin 0 .lss (.l 0) (.l 2))] [(4,3)]
 (.cond (.t 4) .skip (.exit 0)))
 (.seq (.block 1 (Ql [Qa 0,Qa 3,Qf (.indexAddrS 1 (.l 0) (.l 1)),Qn 1 2,Qa 1,Qf (.bin 0 .eql (.l 3) (.l 4))] [(5,5)]
 (.cond (.t 5) (Ql [Qd] [(2,0)]
 .ret) .skip)))
 (.region [Qa 3,Qf (.bin 0 .add (.l 0) (Qh 1)),Qb 1] [(3,2)])))
def Zva:Zf :=
 (Ql [Qc] [(2,0)]
 (.seq (Ql [Qe 0] [(3,0)]
 (.block 0 (.loop Q3)))
 (Ql [Qc] [(2,0)]
 .ret)))
def Zk4:ZH:=⟨[0,1,4,5,9,17],18,Zva,[.tmp 2],1⟩
def ZiQ:Zf :=
 (Ql [Qf (.box (.t 0)),Qf (.alloc [.int .i64 (0),.int .i64 (0)])] [(1,0),(2,1)]
 (.seq (Ql [Qo 0 1,Qn 1 0] [(3,1)]
 (.block 0 (Ql [Qf (.bin 0 .eql (.t 3) (Qh 2)),Qb 0] [(4,1)]
 (.cond (.t 4) (Ql [Qo 1 1,Qn 1 0,Qf (.build [.int .i64 (0),.int .i64 (0)] [(0,1,(.l 1)),(1,1,(Qh 1))]),Qf (.store 2 (.t 2) (.l 2))] []
 .ret) (Ql [Qf (.bin 0 .eql (.t 3) (Qh 5)),Qb 0] [(5,1)]
 (.cond (.t 5) (Ql [Qo 1 1,Qn 1 0,Qf (.bin 0 .mul (Qh 2) (.l 1)),Qo 1 1,Qn 1 3,Qo 2 1,Qn 1 5,Qf (.bin 0 .sub (.l 4) (.l 6)),Qs ZbW [.l 2,.l 7],Qf (.store 2 (.t 2) (.l 8))] []
 .ret) .skip))))))
 (Ql [Qo 1 1,Qn 1 0,Qo 2 1,Qn 1 2,Qs ZbW [.l 1,.l 3],Qf (.store 2 (.t 2) (.l 4))] []
 .ret)))
def Zc2:ZH:=⟨[0,1,2,4,5,10],26,ZiQ,[.cell 2 true 2],1⟩
def YR:Zf :=
 (.seq (Ql [Qa 2,Qa 0,Qf (.len (.l 1)),Qf (.bin 0 .lss (.l 0) (.l 2))] [(3,3)]
 (.cond (.t 3) .skip (.exit 0)))
 (.seq (.block 1 (Qm [Qg (.mv (.t 0)),Qg (.mv (.t 2)),Qg (.indexAddrS 1 (.l 0) (.l 1)),Qg (.load false 1 (.l 2)),Qt YT [.l 3,Qh 1,Qh 99],Qg (.un .not (.l 4)),Qg (.mv (.l 5)),⟨.mv (.t 2),some ((.l 6),false),[]⟩,⟨.bin 0 .gtr (.l 7) (Qh 0),some ((.l 6),false),[]⟩,⟨.mv (.l 8),some ((.l 6),false),[]⟩,⟨.mv (.t 0),some ((.l 9),true),[]⟩,⟨.mv (.t 2),some ((.l 9),true),[]⟩,⟨.bin 0 .sub (.l 11) (Qh 1),some ((.l 9),true),[]⟩,⟨.indexAddrS 1 (.l 10) (.l 12),some ((.l 9),true),[]⟩,⟨.load false 1 (.l 13),some ((.l 9),true),[]⟩,⟨.mv (.t 0),some ((.l 9),true),[]⟩,⟨.mv (.t 2),some ((.l 9),true),[]⟩,⟨.indexAddrS 1 (.l 15) (.l 16),some ((.l 9),true),[]⟩,⟨.load false 1 (.l 17),some ((.l 9),true),[]⟩,⟨.bin 0 .gtr (.l 14) (.l 18),some ((.l 9),true),[]⟩,⟨.pick (.l 9) (.l 19) Qi,some ((.l 6),false),[]⟩,Qg (.pick (.l 6) Qj (.l 20))] [(4,21)]
 (.cond (.t 4) (Ql [Qc] [(1,0)]
 .ret) .skip)))
 (.region [Qa 2,Qf (.bin 0 .add (.l 0) (Qh 1)),Qb 1] [(2,2)])))
def Zpg:Zf :=
 (Ql [Qc] [(1,0)]
 (.seq (Ql [Qe 0] [(2,0)]
 (.block 0 (.loop YR)))
 (Ql [Qa 0,Qf (.len (.l 0)),Qs YT [.l 1,Qh 1,Qh 6],Qb 2] [(1,3)]
 .ret)))
def JA:ZH:=⟨[0,2,3,7,31],35,Zpg,[.tmp 1],1⟩
def ZhF:Zf :=
 (.seq (Ql [Qa 4,Qa 0,Qf (.len (.l 1)),Qf (.bin 0 .lss (.l 0) (.l 2))] [(9,3)]
 (.cond (.t 9) .skip (.exit 0)))
 (.seq (.block 1 (.region [Qa 3,Qa 0,Qa 4,Qf (.indexAddrS 1 (.l 1) (.l 2)),Qn 1 3,Qf (.bin 0 .add (.l 0) (.l 4)),Qb 5] [(3,6)]))
 (.region [Qa 4,Qf (.bin 0 .add (.l 0) (Qh 1)),Qb 1] [(4,2)])))
def Zem:Zf :=
 (.seq (Ql [Qa 8,Qa 5,Qf (.len (.l 1)),Qf (.bin 0 .lss (.l 0) (.l 2))] [(11,3)]
 (.cond (.t 11) .skip (.exit 4)))
 (.seq (.block 5 (Ql [Qa 5,Qa 8,Qf (.indexAddrS 1 (.l 0) (.l 1)),Qn 1 2] [(12,3)]
 (.cond (.t 12) (Ql [Qa 7,Qa 8,Qf (.indexAddrS 1 (.l 0) (.l 1)),Qf (.store 1 (.l 2) Qj)] []
 (Ql [Qa 7,Qa 8,Qa 0,Qa 6,Qf (.indexAddrS 1 (.l 2) (.l 3)),Qn 1 4,Qf (.bin 0 .add (.l 1) (.l 5)),Qa 3,Qf (.bin 0 .mul (Qh 2) (.l 7)),Qs Zdc [.l 6,.l 8],Qf (.indexAddrS 1 (.l 0) (.l 9)),Qf (.store 1 (.l 10) Qj)] []
 (Ql [Qa 1] [(13,0)]
 (.cond (.t 13) (.region [Qa 7,Qa 8,Qa 0,Qa 6,Qf (.indexAddrS 1 (.l 2) (.l 3)),Qn 1 4,Qf (.bin 0 .sub (.l 1) (.l 5)),Qs Zc0 [.l 6,Qh 0],Qf (.indexAddrS 1 (.l 0) (.l 7)),Qf (.store 1 (.l 8) Qj)] []) .skip)))) .skip)))
 (.region [Qa 8,Qf (.bin 0 .add (.l 0) (Qh 1)),Qb 1] [(8,2)])))
def ZhG:Zf :=
 (.seq (Ql [Qa 6,Qa 0,Qf (.len (.l 1)),Qf (.bin 0 .lss (.l 0) (.l 2))] [(10,3)]
 (.cond (.t 10) .skip (.exit 2)))
 (.seq (.block 3 (Ql [Qa 5,Qf (.len (.l 0)),Qf (.makeSlice 1 1 [.bool false] (.l 1) (.l 1)),Qb 2] [(7,3)]
 (.seq (Ql [Qe 0] [(8,0)]
 (.block 4 (.loop Zem)))
 (.region [Qa 7,Qb 0] [(5,1)]))))
 (.region [Qa 6,Qf (.bin 0 .add (.l 0) (Qh 1)),Qb 1] [(6,2)])))
def Zsb:Zf :=
 (Ql [Qf (.mv (.c (.slice none 0 0 none)))] [(2,0)]
 (Ql [Qe 0] [(3,0)]
 (.seq (Ql [Qe 0] [(4,0)]
 (.block 0 (.loop ZhF)))
 (Ql [Qa 3,Qf (.bin 0 .mul (Qh 2) (.l 0)),Qf (.bin 0 .add (.l 1) (Qh 1)),Qf (.makeSlice 1 1 [.bool false] (.l 2) (.l 2)),Qb 3] [(5,4)]
 (Ql [Qa 5,Qa 3,Qf (.indexAddrS 1 (.l 0) (.l 1)),Qf (.store 1 (.l 2) Qj)] []
 (.seq (Ql [Qe 0] [(6,0)]
 (.block 2 (.loop ZhG)))
 (Ql [Qa 5,Qa 3,Qf (.sliceSl 1 (.l 0) (some (.l 1)) none none),Qb 2] [(2,3)]
 .ret)))))))
def Zc3:ZH:=⟨[0,1,4,5,6,7,8,9,10,14,33,42,48,63],77,Zsb,[.tmp 2],2⟩
def ZjY:Zf :=
 (.seq (Ql [Qa 6,Qf (.bin 0 .leq (.l 0) (Qh 1))] [(9,1)]
 (.cond (.t 9) .skip (.exit 4)))
 (.seq (.block 5 (.region [Qa 4,Qa 2,Qa 5,Qf (.indexAddrS 1 (.l 1) (.l 2)),Qn 1 3,Qs Zav [.l 4],Qa 6,Qf (.buildSlice 1 1 [.int .i64 (0)] [(0,1,(.l 6))]),Qf (.append false 1 8 (.l 5) (.l 7)),Qf (.buildSlice 1 1 [.slice none 0 0 none] [(0,1,(.l 8))]),Qf (.append false 1 24 (.l 0) (.l 9)),Qb 10] [(4,11)]))
 (.region [Qa 6,Qf (.bin 0 .add (.l 0) (Qh 1)),Qb 1] [(6,2)])))
def ZjZ:Zf :=
 (.seq (Ql [Qa 5,Qa 2,Qf (.len (.l 1)),Qf (.bin 0 .lss (.l 0) (.l 2))] [(8,3)]
 (.cond (.t 8) .skip (.exit 2)))
 (.seq (.block 3 (Ql [Qe (-1)] [(6,0)]
 (.block 4 (.loop ZjY))))
 (.region [Qa 5,Qf (.bin 0 .add (.l 0) (Qh 1)),Qb 1] [(5,2)])))
def Zj0:Zf :=
 (.seq (Ql [Qa 3,Qa 0,Qf (.bin 0 .lss (.l 0) (.l 1))] [(7,2)]
 (.cond (.t 7) .skip (.exit 0)))
 (.seq (.block 1 (Ql [Qf (.buildSlice 1 0 [] []),Qb 0] [(4,1)]
 (.seq (Ql [Qe 0] [(5,0)]
 (.block 2 (.loop ZjZ)))
 (.region [Qa 4,Qb 0] [(2,1)]))))
 (.region [Qa 3,Qf (.bin 0 .add (.l 0) (Qh 1)),Qb 1] [(3,2)])))
def Zvb:Zf :=
 (Ql [Qf (.mv (.c (.slice none 0 0 none)))] [(1,0)]
 (Ql [Qf (.buildSlice 1 0 [] []),Qf (.buildSlice 1 1 [.slice none 0 0 none] [(0,1,(.l 0))]),Qb 1] [(2,2)]
 (.seq (Ql [Qe 0] [(3,0)]
 (.block 0 (.loop Zj0)))
 (Ql [Qa 2,Qb 0] [(1,1)]
 .ret))))
def ZhH:ZH:=⟨[0,2,3,4,5,6,7,12,19,23],39,Zvb,[.tmp 1],0⟩
def Zgq:Zf :=
 (.seq (Ql [Qa 6,Qa 0,Qf (.len (.l 1)),Qf (.bin 0 .lss (.l 0) (.l 2))] [(7,3)]
 (.cond (.t 7) .skip (.exit 0)))
 (.seq (.block 1 (Qm [Qg (.mv (.t 4)),Qg (.mv (.t 0)),Qg (.mv (.t 6)),Qg (.indexAddrS 1 (.l 1) (.l 2)),Qg (.load false 1 (.l 3)),Qg (.mv (.t 1)),Qg (.mv (.t 6)),Qg (.indexAddrS 1 (.l 5) (.l 6)),Qg (.load false 1 (.l 7)),Qg (.bin 0 .mul (.l 4) (.l 8)),Qg (.bin 0 .add (.l 0) (.l 9)),Qg (.mv (.l 10))] [(4,11)]
 (.draw [Qg (.mv (.t 5)),Qg (.mv (.t 1)),Qg (.mv (.t 6)),Qg (.indexAddrS 1 (.l 1) (.l 2)),Qg (.load false 1 (.l 3)),Qg (.mv (.t 1)),Qg (.mv (.t 6)),Qg (.indexAddrS 1 (.l 5) (.l 6)),Qg (.load false 1 (.l 7)),Qg (.bin 0 .mul (.l 4) (.l 8)),Qg (.bin 0 .add (.l 0) (.l 9)),Qg (.mv (.l 10))] [(5,11)])))
 (.region [Qa 6,Qf (.bin 0 .add (.l 0) (Qh 1)),Qb 1] [(6,2)])))
def Zph:Zf :=
 (Ql [Qe 0,Qe 0] [(2,0),(3,1)]
 (Ql [Qe 0,Qe 0] [(4,0),(5,1)]
 (.seq (Ql [Qe 0] [(6,0)]
 (.block 0 (.loop Zgq)))
 (Ql [Qa 4,Qa 5,Qb 0,Qb 1] [(2,2),(3,3)]
 .ret))))
def Zdq:ZH:=⟨[0,1,4,5,6,7,8,12],39,Zph,[.tmp 2,.tmp 3],1⟩
def ZhI:Zf :=
 (Ql [Qe 0,Qc] [(2,0),(3,1)]
 (.seq (Ql [Qa 0,Qs Js [.l 0],Qf (.un .not (.l 1)),Qb 2,⟨.mv (.t 1),some ((.l 3),false)⟩,⟨.call (.c (.fn Zaw [] [])) [(.l 4)],some ((.l 3),false)⟩,⟨.un .not (.l 5),some ((.l 3),false)⟩,Qf (.pick (.l 3) Qj (.l 6))] [(4,7)]
 (.cond (.t 4) (Ql [Qe 0,Qc] [(2,0),(3,1)]
 .ret) .skip))
 (Ql [Qa 0,Qa 1,Qs YI [.l 0,.l 1],Qb 2,Qd] [(2,3),(3,4)]
 .ret)))
def ZaM:ZH:=⟨[0,1,4,5,13],17,ZhI,[.tmp 2,.tmp 3],1⟩
def ZhJ:Zf :=
 (Ql [Qe 0,Qc] [(2,0),(3,1)]
 (.seq (Ql [Qa 0,Qa 1,Qs QC [.l 0,.l 1],Qf (.un .not (.l 2))] [(5,3)]
 (.cond (.t 5) (Ql [Qe 0,Qc] [(2,0),(3,1)]
 .ret) .skip))
 (Ql [Qa 0,Qs Jg [.l 0],Qf (.alloc [.int .i64 (0),.int .i64 (0)]),Qq 2 2 1] [(4,2)]
 (Ql [Qa 1,Qf (.indexAddrA 2 1 (.t 4) (Qh 0)),Qn 1 1,Qf (.bin 0 .mul (.l 0) (.l 2)),Qf (.indexAddrA 2 1 (.t 4) (Qh 1)),Qn 1 4,Qf (.bin 0 .quo (.l 3) (.l 5)),Qb 6,Qd] [(2,7),(3,8)]
 .ret))))
def Zb6:ZH:=⟨[0,1,4,5,6,10],20,ZhJ,[.tmp 2,.tmp 3],1⟩
def Zdr:Zf :=
 (.seq (Ql [Qa 5,Qa 0,Qf (.len (.l 1)),Qf (.bin 0 .lss (.l 0) (.l 2))] [(8,3)]
 (.cond (.t 8) .skip (.exit 0)))
 (.seq (.block 1 (Ql [Qa 0,Qa 5,Qf (.bin 0 .add (.l 1) (Qh 1)),Qf (.sliceSl 3 (.l 0) none (some (.l 2)) none),Qs Jg [.l 3],Qf (.alloc [.int .i64 (0),.int .i64 (0)]),Qq 2 5 4] [(6,5)]
 (.region [Qa 4,Qa 1,Qf (.indexAddrA 2 1 (.t 6) (Qh 1)),Qn 1 2,Qf (.bin 0 .mul (.l 1) (.l 3)),Qf (.indexAddrA 2 1 (.t 6) (Qh 0)),Qn 1 5,Qs ZbW [.l 4,.l 6],Qf (.buildSlice 2 1 [.int .i64 (0),.int .i64 (0)] [(0,2,(.l 7))]),Qf (.append false 2 16 (.l 0) (.l 8)),Qb 9] [(4,10)])))
 (.region [Qa 5,Qf (.bin 0 .add (.l 0) (Qh 1)),Qb 1] [(5,2)])))
def Zgr:Zf :=
 (Ql [Qf (.mv (.c (.slice none 0 0 none))),Qc] [(2,0),(3,1)]
 (.seq (Ql [Qa 0,Qa 1,Qs QC [.l 0,.l 1],Qf (.un .not (.l 2))] [(7,3)]
 (.cond (.t 7) (Ql [Qf (.buildSlice 2 0 [] []),Qb 0,Qc] [(2,1),(3,2)]
 .ret) .skip))
 (Ql [Qa 1,Qf (.build [.int .i64 (0),.int .i64 (0)] [(0,1,(.l 0)),(1,1,(Qh 1))]),Qf (.buildSlice 2 1 [.int .i64 (0),.int .i64 (0)] [(0,2,(.l 1))]),Qb 2] [(4,3)]
 (.seq (Ql [Qe 0] [(5,0)]
 (.block 0 (.loop Zdr)))
 (Ql [Qa 4,Qb 0,Qd] [(2,1),(3,2)]
 .ret)))))
def KZ:ZH:=⟨[0,1,4,5,6,7,8,12,20],39,Zgr,[.tmp 2,.tmp 3],2⟩
def Zgs:Zf :=
 (Ql [Qe 0,Qc] [(2,0),(3,1)]
 (.seq (Ql [Qa 0,Qs Js [.l 0],Qf (.un .not (.l 1)),Qb 2,⟨.mv (.t 1),some ((.l 3),false)⟩,⟨.call (.c (.fn Zaw [] [])) [(.l 4)],some ((.l 3),false)⟩,⟨.un .not (.l 5),some ((.l 3),false)⟩,Qf (.pick (.l 3) Qj (.l 6))] [(4,7)]
 (.cond (.t 4) (Ql [Qe 0,Qc] [(2,0),(3,1)]
 .ret) .skip))
 (Ql [Qa 0,Qa 1,Qs ZbX [.l 0,.l 1],Qf (.len (.l 2)),Qb 3,Qd] [(2,4),(3,5)]
 .ret)))
def K0:ZH:=⟨[0,1,4,5,13],18,Zgs,[.tmp 2,.tmp 3],1⟩
def ZaN:Zf :=
 (.seq (Ql [Qa 5,Qa 0,Qf (.len (.l 1)),Qf (.bin 0 .lss (.l 0) (.l 2))] [(9,3)]
 (.cond (.t 9) .skip (.exit 0)))
 (.seq (.block 1 (Ql [Qa 0,Qa 1,Qs YI [.l 0,.l 1],Qb 2] [(6,3)]
 (.seq (Ql [Qa 6,Qa 0,Qa 5,Qf (.indexAddrS 2 (.l 1) (.l 2)),Qf (.fieldAddr 1 (.l 3)),Qn 1 4,Qf (.bin 0 .rem (.l 0) (.l 5)),Qf (.bin 0 .neq (.l 6) (Qh 0))] [(10,7)]
 (.cond (.t 10) (.exit 1) .skip))
 (Qm [Qg (.mv (.t 0)),Qg (.mv (.t 5)),Qg (.indexAddrS 2 (.l 0) (.l 1)),Qg (.fieldAddr 0 (.l 2)),Qg (.load false 1 (.l 3)),Qg (.mv (.t 6)),Qg (.mv (.t 0)),Qg (.mv (.t 5)),Qg (.indexAddrS 2 (.l 6) (.l 7)),Qg (.fieldAddr 1 (.l 8)),Qg (.load false 1 (.l 9)),Qg (.bin 0 .quo (.l 5) (.l 10)),Qg (.bin 0 .sub (.l 4) (.l 11)),Qg (.mv (.l 12))] [(7,13)]
 (Ql [Qa 7,Qs Zaw [.l 0]] [(11,1)]
 (.cond (.t 11) (Ql [Qa 5,Qa 7,Qb 0,Qb 1,Qd] [(2,2),(3,3),(4,4)]
 .ret) .skip))))))
 (.region [Qa 5,Qf (.bin 0 .add (.l 0) (Qh 1)),Qb 1] [(5,2)])))
def Zgt:Zf :=
 (Ql [Qe 0,Qe 0,Qc] [(2,0),(3,1),(4,2)]
 (.seq (Ql [Qa 0,Qs Js [.l 0],Qf (.un .not (.l 1)),Qb 2,⟨.mv (.t 1),some ((.l 3),false)⟩,⟨.call (.c (.fn Zaw [] [])) [(.l 4)],some ((.l 3),false)⟩,⟨.un .not (.l 5),some ((.l 3),false)⟩,Qf (.pick (.l 3) Qj (.l 6)),Qb 7,⟨.mv (.t 0),some ((.l 8),false)⟩,⟨.mv (.t 1),some ((.l 8),false)⟩,⟨.call (.c (.fn YI [] [])) [(.l 9),(.l 10)],some ((.l 8),false)⟩,⟨.bin 0 .eql (.l 11) (Qh 0),some ((.l 8),false)⟩,Qf (.pick (.l 8) Qj (.l 12))] [(8,13)]
 (.cond (.t 8) (Ql [Qe 0,Qe 0,Qc] [(2,0),(3,1),(4,2)]
 .ret) .skip))
 (.seq (Ql [Qe 0] [(5,0)]
 (.block 0 (.loop ZaN)))
 (Ql [Qe 0,Qe 0,Qc] [(2,0),(3,1),(4,2)]
 .ret))))
def KF:ZH:=⟨[0,1,4,5,6,7,8,9,23,27,40,55],58,Zgt,[.tmp 2,.tmp 3,.tmp 4],1⟩
def Q4:Zf :=
 (Ql [Qe 0,Qc] [(1,0),(2,1)]
 (.seq (Ql [Qa 0,Qs Zf2 [.l 0],Qf (.un .not (.l 1))] [(3,2)]
 (.cond (.t 3) (Ql [Qe 0,Qc] [(1,0),(2,1)]
 .ret) .skip))
 (Ql [Qa 0,Qs Zd4 [.l 0],Qb 1,Qd] [(1,2),(2,3)]
 .ret)))
def Xz:ZH:=⟨[0,2,3,6],9,Q4,[.tmp 1,.tmp 2],1⟩
def Zj1:Zf :=
 (.seq (Ql [Qa 3,Qa 0,Qf (.lenStr (.l 1)),Qf (.bin 0 .lss (.l 0) (.l 2))] [(4,3)]
 (.cond (.t 4) .skip (.exit 0)))
 (.seq (.block 1 (.region [Qa 2,Qf (.bin 0 .mul (Qh 41) (.l 0)),Qa 0,Qa 3,Qf (.indexS (.l 2) (.l 3)),Qf (.conv .i64 (.l 4)),Qf (.bin 0 .add (.l 1) (.l 5)),Qf (.bin 0 .add (.l 6) (Qh 1)),Qf (.bin 0 .rem (.l 7) (Qh 999979)),Qb 8] [(2,9)]))
 (.region [Qa 3,Qf (.bin 0 .add (.l 0) (Qh 1)),Qb 1] [(3,2)])))
def Zvc:Zf :=
 (Ql [Qe 0] [(1,0)]
 (Ql [Qe 7] [(2,0)]
 (.seq (Ql [Qe 0] [(3,0)]
 (.block 0 (.loop Zj1)))
 (Ql [Qa 2,Qb 0] [(1,1)]
 .ret))))
def Zk5:ZH:=⟨[0,2,3,4,8],21,Zvc,[.tmp 1],1⟩
def XG:Zf :=
 (Ql [⟨.mv (.c (.str ⟨#[]⟩)),none⟩,⟨.mv (.c (.str ⟨#[]⟩)),none⟩,Qc] [(2,0),(3,1),(4,2)]
 (.seq (Ql [Qa 0,Qa 1,Qs Yu [.l 0,.l 1],Qb 2] [(5,3)]
 (Ql [Qa 5,Qf (.bin 0 .geq (.l 0) (Qh 0))] [(6,1)]
 (.cond (.t 6) (Qm [Qg (.mv (.t 0)),Qg (.mv (.t 5)),Qg (.sliceStr (.l 0) none (some (.l 1))),Qg (.mv (.t 0)),Qg (.mv (.t 5)),Qg (.mv (.t 1)),Qg (.lenStr (.l 5)),Qg (.bin 0 .add (.l 4) (.l 6)),Qg (.sliceStr (.l 3) (some (.l 7)) none),Qg (.mv (.l 2)),Qg (.mv (.l 8)),Qg (.mv Qj)] [(2,9),(3,10),(4,11)]
 .ret) .skip)))
 (Ql [Qa 0,Qb 0,⟨.mv (.c (.str ⟨#[]⟩)),none⟩,Qc] [(2,1),(3,2),(4,3)]
 .ret)))
def Yh:ZH:=⟨[0,1,4,5,6,7,12],23,XG,[.tmp 2,.tmp 3,.tmp 4],1⟩
def Kp:Zf :=
 (Ql [⟨.mv (.c (.str ⟨#[]⟩)),none⟩,Qc] [(1,0),(2,1)]
 (Ql [Qa 0,⟨.call (.c (.fn JS [] [])) [(.l 0),(.c (.str ⟨#[35]⟩))],none⟩,Qb 1,Qp 0 2,Qp 1 2,Qp 2 2,Qb 3,Qb 4,Qb 5] [(3,6)]
 (.seq (Ql [Qa 3,Qs XU [.l 0],Qb 1,Qp 0 2,Qp 1 2,Qb 3,Qb 4] [(4,5),(5,6)]
 (Ql [Qa 5,Qf (.un .not (.l 0)),Qb 1,⟨.mv (.t 4),some ((.l 2),false)⟩,⟨.mv (.t 0),some ((.l 2),false)⟩,⟨.bin 1 .neq (.l 3) (.l 4),some ((.l 2),false)⟩,Qf (.pick (.l 2) Qj (.l 5))] [(6,6)]
 (.cond (.t 6) (Ql [⟨.mv (.c (.str ⟨#[]⟩)),none⟩,Qc] [(1,0),(2,1)]
 .ret) .skip)))
 (Ql [Qa 3,Qb 0,Qd] [(1,1),(2,2)]
 .ret))))
def Y4:ZH:=⟨[0,2,3,4,7,8,26],28,Kp,[.tmp 1,.tmp 2],1⟩
def K1:Zf :=
 (.seq (Ql [Qa 1,Qf (.bin 0 .gtr (.l 0) (Qh 0))] [(3,1)]
 (.cond (.t 3) .skip (.exit 0)))
 (.block 1 (.draw [Qg (.mv (.t 1)),Qg (.mv (.t 0)),Qg (.mv (.t 1)),Qg (.bin 0 .rem (.l 1) (.l 2)),Qg (.mv (.l 0)),Qg (.mv (.l 3))] [(0,4),(1,5)])))
def Zpi:Zf :=
 (Ql [Qe 0] [(2,0)]
 (.seq (.block 0 (.loop K1))
 (Ql [Qa 0,Qb 0] [(2,1)]
 .ret)))
def Zgu:ZH:=⟨[0,1,4,6],12,Zpi,[.tmp 2],1⟩
def Zpj:Zf :=
 (Ql [Qf (.alloc [.int .i64 (0),.int .i64 (0)]),Qc] [(2,0),(3,1)]
 (.seq (Ql [Qa 0,Qs YN [.l 0],Qf (.un .not (.l 1)),Qb 2,⟨.mv (.t 1),some ((.l 3),false)⟩,⟨.call (.c (.fn Zaf [] [])) [(.l 4)],some ((.l 3),false)⟩,⟨.un .not (.l 5),some ((.l 3),false)⟩,Qf (.pick (.l 3) Qj (.l 6))] [(5,7)]
 (.cond (.t 5) (Ql [Qf (.build [.int .i64 (0),.int .i64 (0)] []),Qf (.store 2 (.t 2) (.l 0)),Qc] [(3,2)]
 .ret) .skip))
 (Ql [Qa 0,Qs XV [.l 0],Qf (.alloc [.int .i64 (0),.int .i64 (0)]),Qq 2 2 1] [(4,2)]
 (Ql [Qa 1,Qf (.indexAddrA 2 1 (.t 4) (Qh 1)),Qn 1 1,Qf (.bin 0 .mul (.l 0) (.l 2)),Qf (.indexAddrA 2 1 (.t 4) (Qh 0)),Qn 1 4,Qs Xk [.l 3,.l 5],Qf (.store 2 (.t 2) (.l 6)),Qd] [(3,8)]
 .ret))))
def Zgv:ZH:=⟨[0,1,4,5,6,14],25,Zpj,[.cell 2 true 2,.tmp 3],1⟩
def Zbs:Zf :=
 (.seq (Ql [Qa 1,Qf (.bin 0 .gtr (.l 0) (Qh 0))] [(3,1)]
 (.cond (.t 3) .skip (.exit 0)))
 (.block 1 (.draw [Qg (.mv (.t 1)),Qg (.mv (.t 0)),Qg (.mv (.t 1)),Qg (.bin 0 .rem (.l 1) (.l 2)),Qg (.mv (.l 0)),Qg (.mv (.l 3))] [(0,4),(1,5)])))
def Zvd:Zf :=
 (Ql [Qe 0] [(2,0)]
 (.seq (.block 0 (.loop Zbs))
 (Ql [Qa 0,Qb 0] [(2,1)]
 .ret)))
def Zk6:ZH:=⟨[0,1,4,6],12,Zvd,[.tmp 2],1⟩
def Zpk:Zf :=
 (Ql [Qc] [(2,0)]
 (Ql [Qa 0,Qs JI [.l 0,Qh 5],Qb 1,⟨.mv (.t 1),some ((.l 2),true)⟩,⟨.call (.c (.fn YT [] [])) [(.l 3),(Qh 0),(Qh 1000000)],some ((.l 2),true)⟩,Qf (.pick (.l 2) (.l 4) Qi),Qb 5] [(2,6)]
 .ret))
def ZhK:ZH:=⟨[0,1,4],11,Zpk,[.tmp 2],1⟩
def Zen:Zf :=
 (.seq (Ql [Qa 8,Qa 0,Qf (.bin 0 .lss (.l 0) (.l 1))] [(12,2)]
 (.cond (.t 12) .skip (.exit 4)))
 (.seq (.block 5 (.region [Qa 5,Qa 3,Qa 6,Qf (.indexAddrS 1 (.l 1) (.l 2)),Qn 1 3,Qs Zav [.l 4],Qa 8,Qf (.buildSlice 1 1 [.int .i64 (0)] [(0,1,(.l 6))]),Qf (.append false 1 8 (.l 5) (.l 7)),Qf (.buildSlice 1 1 [.slice none 0 0 none] [(0,1,(.l 8))]),Qf (.append false 1 24 (.l 0) (.l 9)),Qb 10] [(5,11)]))
 (.region [Qa 8,Qf (.bin 0 .add (.l 0) (Qh 1)),Qb 1] [(8,2)])))
def Zeo:Zf :=
 (.seq (Ql [Qa 6,Qa 3,Qf (.len (.l 1)),Qf (.bin 0 .lss (.l 0) (.l 2))] [(10,3)]
 (.cond (.t 10) .skip (.exit 2)))
 (.seq (.block 3 (Ql [Qe 0] [(7,0)]
 (.seq (Ql [Qa 4,Qf (.bin 0 .gtr (.l 0) (Qh 0))] [(11,1)]
 (.cond (.t 11) (.region [Qa 3,Qa 6,Qf (.indexAddrS 1 (.l 0) (.l 1)),Qn 1 2,Qa 4,Qf (.bin 0 .sub (.l 4) (Qh 1)),Qf (.indexAddrS 1 (.l 3) (.l 5)),Qn 1 6,Qf (.bin 0 .add (.l 7) (Qh 1)),Qb 8] [(7,9)]) .skip))
 (Ql [Qa 7,Qb 0] [(8,1)]
 (.block 4 (.loop Zen))))))
 (.region [Qa 6,Qf (.bin 0 .add (.l 0) (Qh 1)),Qb 1] [(6,2)])))
def ZhL:Zf :=
 (.seq (Ql [Qa 4,Qa 1,Qf (.bin 0 .lss (.l 0) (.l 1))] [(9,2)]
 (.cond (.t 9) .skip (.exit 0)))
 (.seq (.block 1 (Ql [Qf (.buildSlice 1 0 [] []),Qb 0] [(5,1)]
 (.seq (Ql [Qe 0] [(6,0)]
 (.block 2 (.loop Zeo)))
 (.region [Qa 5,Qb 0] [(3,1)]))))
 (.region [Qa 4,Qf (.bin 0 .add (.l 0) (Qh 1)),Qb 1] [(4,2)])))
def Zsc:Zf :=
 (Ql [Qf (.mv (.c (.slice none 0 0 none)))] [(2,0)]
 (Ql [Qf (.buildSlice 1 0 [] []),Qf (.buildSlice 1 1 [.slice none 0 0 none] [(0,1,(.l 0))]),Qb 1] [(3,2)]
 (.seq (Ql [Qe 0] [(4,0)]
 (.block 0 (.loop ZhL)))
 (Ql [Qa 3,Qb 0] [(2,1)]
 .ret))))
def Ze9:ZH:=⟨[0,1,4,5,6,7,8,9,10,15,22,26,39],55,Zsc,[.tmp 2],0⟩
def ZhM:Zf :=
 (.seq (Ql [Qa 5,Qa 2,Qf (.len (.l 1)),Qf (.bin 0 .lss (.l 0) (.l 2))] [(6,3)]
 (.cond (.t 6) .skip (.exit 0)))
 (.seq (.block 1 (.draw [Qg (.mv (.t 4)),Qg (.mv (.t 0)),Qg (.mv (.t 2)),Qg (.mv (.t 5)),Qg (.indexAddrS 1 (.l 2) (.l 3)),Qg (.load false 1 (.l 4)),Qg (.indexAddrS 2 (.l 1) (.l 5)),Qg (.fieldAddr 1 (.l 6)),Qg (.load false 1 (.l 7)),Qg (.mv (.t 0)),Qg (.mv (.t 2)),Qg (.mv (.t 5)),Qg (.indexAddrS 1 (.l 10) (.l 11)),Qg (.load false 1 (.l 12)),Qg (.indexAddrS 2 (.l 9) (.l 13)),Qg (.fieldAddr 0 (.l 14)),Qg (.load false 1 (.l 15)),Qg (.mv (.t 1)),Qg (.bin 0 .sub (.l 16) (.l 17)),Qg (.bin 0 .mul (.l 8) (.l 18)),Qg (.bin 0 .add (.l 0) (.l 19)),Qg (.mv (.l 20))] [(4,21)]))
 (.region [Qa 5,Qf (.bin 0 .add (.l 0) (Qh 1)),Qb 1] [(5,2)])))
def Zsd:Zf :=
 (Ql [Qc] [(3,0)]
 (Ql [Qe 0] [(4,0)]
 (.seq (Ql [Qe 0] [(5,0)]
 (.block 0 (.loop ZhM)))
 (Ql [Qa 4,Qf (.bin 0 .eql (.l 0) (Qh 0)),Qb 1] [(3,2)]
 .ret))))
def Zfa:ZH:=⟨[0,1,2,6,7,8,12],38,Zsd,[.tmp 3],1⟩
def Zpl:Zf :=
 (Ql [Qc] [(1,0)]
 (Ql [Qa 0,Qs YT [.l 0,Qh 2,Qh 40],Qb 1] [(1,2)]
 .ret))
def Zgw:ZH:=⟨[0,2],5,Zpl,[.tmp 1],1⟩
def ZeO:Zf :=
 (.seq (Ql [Qa 3,Qa 0,Qf (.bin 0 .lss (.l 0) (.l 1))] [(4,2)]
 (.cond (.t 4) .skip (.exit 0)))
 (.block 1 (Ql [Qa 3,Qf (.bin 0 .mul (Qh 3) (.l 0)),Qb 1] [(3,2)]
 (.region [Qa 2,Qf (.bin 0 .add (.l 0) (Qh 1)),Qb 1] [(2,2)]))))
def Zng:Zf :=
 (Ql [Qe 0] [(1,0)]
 (Ql [Qe 0,Qe 1] [(2,0),(3,1)]
 (.seq (.block 0 (.loop ZeO))
 (Ql [Qa 2,Qb 0] [(1,1)]
 .ret))))
def Zb7:ZH:=⟨[0,2,3,4,7],13,Zng,[.tmp 1],1⟩
def tab:List (FuncId×ZH) :=
 [(Jd,ZX),(KK,KQ),(JP,ZcA),(XR,ZcB),(Xw,ZaD),(Y3,YB),(XS,YC),(Kj,Kn),(Kk,Ko),(ZfE,Zbk),(Jp,ZaE),(Zcq,KR),(ZbC,Xl),(ZfF,Zbl),(ZkD,Ze3),(ZfG,Zf6),(ZkE,ZkL),(ZfH,Zf7),(Jq,ZaF),(Xx,Zf8),(Zhn,Zde),(Zaq,ZcD),(Je,Kv),(Zar,ZcE),(JQ,QV),(ZcZ,ZiB),(Xq,Yq),(KL,Zn),(QM,Y6),(KM,XY),(ZfI,Zdg),(QN,Y7),(Qw,QD),(Zad,Kw),(ZbD,Ji),(Zc8,Kx),(Jr,Zhu),(Ym,Ky),(Jf,Zf9),(YY,ZaG),(Qy,Ka),(Kt,Zd7),(ZfJ,Zga),(ZdR,ZbZ),(ZfK,Zgb),(ZdS,Zd8),(Zbe,Zgc),(Zae,Zd9),(Zcr,ZcG),(Zas,ZcH),(Qz,ZbI),(ZeX,ZiC),(YN,Zgd),(YH,ZiD),(Yo,Yp),(Yb,Yc),(Zoc,ZkQ),(JI,Zea),(YT,Zod),(Yn,Ze5),(ZeY,ZiE),(ZdT,JK),(Zip,ZiF),(KN,Yr),(ZW,ZbJ),(ZdU,Kz),(XT,Zah),(QA,Jj),(Zcs,ZcI),(QO,QP),(J1,XM),(ZbV,Zec),(ZdV,Zed),(ZfL,Zge),(ZfM,QW),(ZfN,KA),(ZfO,QX),(ZeZ,ZiG),(Zc9,Zgf),(Kl,YD),(YK,Yg),(Zho,Zdi),(Zct,JU),(ZS,ZT),(Zda,Zgg),(Ku,Zef),(ZI,Zbo),(Ziq,ZiH),(ZfP,Zgh),(Zir,ZiI),(ZfQ,Zgi),(Zcu,ZcK),(ZbE,ZbM),(ZfR,JV),(Js,ZkU),(Zis,ZiJ),(ZfS,JW),(Xr,Jw),(XI,QR),(Zcv,ZcL),(Zdb,Zgj),(Zat,Jx),(ZfT,Zdj),(KO,JX),(XJ,Y8),(Zbf,Ze7),(Yz,Xh),(ZdW,Zeh),(ZdX,Zb0),(ZfU,Zdk),(ZdY,Zb1),(Zau,KV),(ZfV,Q0),(JR,YP),(XU,YE),(ZfW,Zgm),(JJ,Zei),(Zbg,Zdm),(ZdZ,Zb2),(Zbh,ZiK),(KP,ZiL),(ZfX,Zdn),(Xy,KC),(ZbG,Xp),(Zit,YQ),(Zav,ZkW),(Jg,Zbp),(Zd0,KD),(QB,Jm),(Ziu,ZiM),(Ziv,ZiN),(JS,ZcM),(Ziw,Zbq),(Xg,Xi),(Zix,KW),(ZfY,JZ),(Zc0,ZiO),(Zdc,Zdo),(Z0,Z1),(Jh,Zgn),(Zaw,Zoe),(Ze0,ZkY),(Zbi,Zgo),(XV,ZcN),(Zax,KX),(YA,Z8),(Xk,Zej),(Zcw,ZcO),(Zdd,Zdp),(Zaf,ZiP),(Zay,KY),(Zaz,ZcQ),(Zd1,Zek),(Zd2,Zb3),(Ziy,Zc1),(ZbW,Zk2),(YI,Zel),(Zcx,ZcR),(ZbX,Zb5),(Zhp,Zk4),(Ziz,Zc2),(ZaA,JA),(Ze1,Zc3),(ZkF,ZhH),(Zbj,Zdq),(ZaB,ZaM),(Zd3,Zb6),(ZaC,KZ),(Zcy,K0),(ZfZ,KF),(JT,Xz),(ZkG,Zk5),(YL,Yh),(Km,Y4),(Zf0,Zgu),(Zf1,Zgv),(ZkH,Zk6),(QC,ZhK),(ZiA,Ze9),(Ze2,Zfa),(Zf2,Zgw),(Zd4,Zb7)]
def T:Zhm:=fun f=>tab.lookup f
theorem ZeP:T Jd=some ZX:=rfl
theorem Zs6:T KK=some KQ:=rfl
theorem Zs7:T JP=some ZcA:=rfl
theorem Zs8:T XR=some ZcB:=rfl
theorem Zpm:T Xw=some ZaD:=rfl
theorem Zk7:T Y3=some YB:=rfl
theorem Zk8:T XS=some YC:=rfl
theorem Zk9:T Kj=some Kn:=rfl
theorem Zla:T Kk=some Ko:=rfl
theorem Zyc:T ZfE=some Zbk:=rfl
theorem Zpn:T Jp=some ZaE:=rfl
theorem Zs9:T Zcq=some KR:=rfl
theorem ZqN:T ZbC=some Xl:=rfl
theorem Zyd:T ZfF=some Zbl:=rfl
theorem ZEh:T ZkD=some Ze3:=rfl
theorem Zye:T ZfG=some Zf6:=rfl
theorem ZEi:T ZkE=some ZkL:=rfl
theorem Zyf:T ZfH=some Zf7:=rfl
theorem Zpo:T Jq=some ZaF:=rfl
theorem Zyg:T Xx=some Zf8:=rfl
theorem ZEj:T Zhn=some Zde:=rfl
theorem Zta:T Zaq=some ZcD:=rfl
theorem Zyh:T Je=some Kv:=rfl
theorem Ztb:T Zar=some ZcE:=rfl
theorem Zyi:T JQ=some QV:=rfl
theorem ZBA:T ZcZ=some ZiB:=rfl
theorem Zmi:T Xq=some Yq:=rfl
theorem Zmj:T KL=some Zn:=rfl
theorem ZnD:T QM=some Y6:=rfl
theorem Ztc:T KM=some XY:=rfl
theorem Zyj:T ZfI=some Zdg:=rfl
theorem ZnE:T QN=some Y7:=rfl
theorem ZqO:T Qw=some QD:=rfl
theorem Zve:T Zad=some Kw:=rfl
theorem Zjn:T ZbD=some Ji:=rfl
theorem Zyk:T Zc8=some Kx:=rfl
theorem ZEk:T Jr=some Zhu:=rfl
theorem Zpp:T Ym=some Ky:=rfl
theorem Zyl:T Jf=some Zf9:=rfl
theorem Zpq:T YY=some ZaG:=rfl
theorem ZqP:T Qy=some Ka:=rfl
theorem Zvf:T Kt=some Zd7:=rfl
theorem Zym:T ZfJ=some Zga:=rfl
theorem Zvg:T ZdR=some ZbZ:=rfl
theorem Zyn:T ZfK=some Zgb:=rfl
theorem Zvh:T ZdS=some Zd8:=rfl
theorem Zyo:T Zbe=some Zgc:=rfl
theorem Zvi:T Zae=some Zd9:=rfl
theorem Ztd:T Zcr=some ZcG:=rfl
theorem Zte:T Zas=some ZcH:=rfl
theorem ZqQ:T Qz=some ZbI:=rfl
theorem ZBB:T ZeX=some ZiC:=rfl
theorem Zyp:T YN=some Zgd:=rfl
theorem ZBC:T YH=some ZiD:=rfl
theorem Zci:T Yo=some Yp:=rfl
theorem Zbt:T Yb=some Yc:=rfl
theorem ZG0:T Zoc=some ZkQ:=rfl
theorem Zvj:T JI=some Zea:=rfl
theorem ZG1:T YT=some Zod:=rfl
theorem Zpr:T Yn=some Ze5:=rfl
theorem ZBD:T ZeY=some ZiE:=rfl
theorem Zvk:T ZdT=some JK:=rfl
theorem ZBE:T Zip=some ZiF:=rfl
theorem Zmk:T KN=some Yr:=rfl
theorem ZqR:T ZW=some ZbJ:=rfl
theorem Zvl:T ZdU=some Kz:=rfl
theorem Znh:T XT=some Zah:=rfl
theorem Zjo:T QA=some Jj:=rfl
theorem Ztf:T Zcs=some ZcI:=rfl
theorem ZnF:T QO=some QP:=rfl
theorem ZnG:T J1=some XM:=rfl
theorem Zvm:T ZbV=some Zec:=rfl
theorem Zvn:T ZdV=some Zed:=rfl
theorem Zyq:T ZfL=some Zge:=rfl
theorem Zyr:T ZfM=some QW:=rfl
theorem Zys:T ZfN=some KA:=rfl
theorem Zyt:T ZfO=some QX:=rfl
theorem ZBF:T ZeZ=some ZiG:=rfl
theorem Zyu:T Zc9=some Zgf:=rfl
theorem Zlb:T Kl=some YD:=rfl
theorem ZdH:T YK=some Yg:=rfl
theorem ZEl:T Zho=some Zdi:=rfl
theorem Ztg:T Zct=some JU:=rfl
theorem QF:T ZS=some ZT:=rfl
theorem Zyv:T Zda=some Zgg:=rfl
theorem Zvo:T Ku=some Zef:=rfl
theorem ZBG:T ZI=some Zbo:=rfl
theorem ZBH:T Ziq=some ZiH:=rfl
theorem Zyw:T ZfP=some Zgh:=rfl
theorem ZBI:T Zir=some ZiI:=rfl
theorem Zyx:T ZfQ=some Zgi:=rfl
theorem Zth:T Zcu=some ZcK:=rfl
theorem ZqS:T ZbE=some ZbM:=rfl
theorem Zyy:T ZfR=some JV:=rfl
theorem ZEm:T Js=some ZkU:=rfl
theorem ZBJ:T Zis=some ZiJ:=rfl
theorem Zyz:T ZfS=some JW:=rfl
theorem ZBK:T Xr=some Jw:=rfl
theorem ZnH:T XI=some QR:=rfl
theorem Zti:T Zcv=some ZcL:=rfl
theorem ZyA:T Zdb=some Zgj:=rfl
theorem Zvp:T Zat=some Jx:=rfl
theorem ZyB:T ZfT=some Zdj:=rfl
theorem Zlc:T KO=some JX:=rfl
theorem ZnI:T XJ=some Y8:=rfl
theorem ZBL:T Zbf=some Ze7:=rfl
theorem Zgx:T Yz=some Xh:=rfl
theorem Zvq:T ZdW=some Zeh:=rfl
theorem Zvr:T ZdX=some Zb0:=rfl
theorem ZyC:T ZfU=some Zdk:=rfl
theorem Zni:T ZdY=some Zb1:=rfl
theorem Zld:T Zau=some KV:=rfl
theorem Zps:T ZfV=some Q0:=rfl
theorem Zj2:T JR=some YP:=rfl
theorem Zle:T XU=some YE:=rfl
theorem ZyD:T ZfW=some Zgm:=rfl
theorem Zvs:T JJ=some Zei:=rfl
theorem ZyE:T Zbg=some Zdm:=rfl
theorem Zvt:T ZdZ=some Zb2:=rfl
theorem ZBM:T Zbh=some ZiK:=rfl
theorem ZBN:T KP=some ZiL:=rfl
theorem ZyF:T ZfX=some Zdn:=rfl
theorem Zpt:T Xy=some KC:=rfl
theorem ZqT:T ZbG=some Xp:=rfl
theorem ZBO:T Zit=some YQ:=rfl
theorem ZEn:T Zav=some ZkW:=rfl
theorem Zpu:T Jg=some Zbp:=rfl
theorem Zvu:T Zd0=some KD:=rfl
theorem Zjp:T QB=some Jm:=rfl
theorem ZBP:T Ziu=some ZiM:=rfl
theorem ZBQ:T Ziv=some ZiN:=rfl
theorem Ztj:T JS=some ZcM:=rfl
theorem ZBR:T Ziw=some Zbq:=rfl
theorem Zgy:T Xg=some Xi:=rfl
theorem ZBS:T Zix=some KW:=rfl
theorem ZyG:T ZfY=some JZ:=rfl
theorem ZBT:T Zc0=some ZiO:=rfl
theorem ZyH:T Zdc=some Zdo:=rfl
theorem ZaO:T Z0=some Z1:=rfl
theorem ZyI:T Jh=some Zgn:=rfl
theorem ZG2:T Zaw=some Zoe:=rfl
theorem ZEo:T Ze0=some ZkY:=rfl
theorem ZyJ:T Zbi=some Zgo:=rfl
theorem Ztk:T XV=some ZcN:=rfl
theorem Ztl:T Zax=some KX:=rfl
theorem ZaP:T YA=some Z8:=rfl
theorem Zvv:T Xk=some Zej:=rfl
theorem Ztm:T Zcw=some ZcO:=rfl
theorem Zpv:T Zdd=some Zdp:=rfl
theorem ZBU:T Zaf=some ZiP:=rfl
theorem Ztn:T Zay=some KY:=rfl
theorem Zto:T Zaz=some ZcQ:=rfl
theorem Zvw:T Zd1=some Zek:=rfl
theorem Znj:T Zd2=some Zb3:=rfl
theorem ZBV:T Ziy=some Zc1:=rfl
theorem ZEp:T ZbW=some Zk2:=rfl
theorem Zvx:T YI=some Zel:=rfl
theorem Ztp:T Zcx=some ZcR:=rfl
theorem Zvy:T ZbX=some Zb5:=rfl
theorem ZEq:T Zhp=some Zk4:=rfl
theorem ZBW:T Ziz=some Zc2:=rfl
theorem Zvz:T ZaA=some JA:=rfl
theorem ZBX:T Ze1=some Zc3:=rfl
theorem ZEr:T ZkF=some ZhH:=rfl
theorem ZyK:T Zbj=some Zdq:=rfl
theorem Zpw:T ZaB=some ZaM:=rfl
theorem ZvA:T Zd3=some Zb6:=rfl
theorem Zlf:T ZaC=some KZ:=rfl
theorem Ztq:T Zcy=some K0:=rfl
theorem ZyL:T ZfZ=some KF:=rfl
theorem Zds:T JT=some Xz:=rfl
theorem ZEs:T ZkG=some Zk5:=rfl
theorem ZdI:T YL=some Yh:=rfl
theorem Zlg:T Km=some Y4:=rfl
theorem ZyM:T Zf0=some Zgu:=rfl
theorem ZyN:T Zf1=some Zgv:=rfl
theorem ZEt:T ZkH=some Zk6:=rfl
theorem ZvB:T QC=some ZhK:=rfl
theorem ZBY:T ZiA=some Ze9:=rfl
theorem ZBZ:T Ze2=some Zfa:=rfl
theorem ZyO:T Zf2=some Zgw:=rfl
theorem ZvC:T Zd4=some Zb7:=rfl
end Go.Proofs.YtemcdiajejekoaaGreatDoor.Slim
