/-
  DERIVED: THE SHELF's CONTRACTS AT THIS DUMP, IN PLAIN WORDS (tools/lay-plain.mjs out of 'TrydShelf.lean', which tools/lay-shelf.mjs wrote): THE SAME DECLARATIONS UNDER THE SAME NAMES: 'import', 'namespace', 'open', 'def', 'theorem' AND NOTHING ELSE: no command of the shelf's: FOR A HAND-IN. Each laying: the table of numbers ('.._ren') and one theorem, a field a fact of the dump's own or the kernel's comparison; each contract: ONE APPLICATION.
-/
import Derived.Test.YtdohjcodjjogbaaDoorSlimZ7
import Derived.Shelf.Strconv.Itoa0
import Derived.Shelf.Strconv.Itoa1
import Derived.Shelf.LaysM
import Derived.Shelf.Strconv.Itoa2
import Derived.Shelf.Strconv.Itoa3
import Derived.Shelf.Strings.Search1
import Derived.Shelf.Strings.Search2
import Derived.Shelf.Strings.Search3
import Derived.Shelf.Strings.Cut
import Derived.Shelf.Strings.Shaped
import Derived.Test.YtdohjcodjjogbaaDoorProg
/-
  DERIVED: THE SHELF's CONTRACTS AT THIS DUMP, IN PLAIN WORDS (tools/lay-plain.mjs out of 'TrydShelf.lean', which tools/lay-shelf.mjs wrote): THE SAME DECLARATIONS UNDER THE SAME NAMES: 'import', 'namespace', 'open', 'def', 'theorem' AND NOTHING ELSE: no command of the shelf's: FOR A HAND-IN. Each laying: the table of numbers ('.._ren') and one theorem, a field a fact of the dump's own or the kernel's comparison; each contract: ONE APPLICATION.
-/
namespace Go.Proofs.YtdohjcodjjogbaaDoor
open Go.Shelf
def Tryd.lays129_ren : Go.Shelf.Ren := ⟨fun | 129 => 95 | n => n, fun | 53 => 76 | 3 => 3 | 4 => 4 | 46 => 105 | 5 => 5 | 9 => 9 | n => n, fun | n => n⟩
theorem Tryd.lays129 : Go.Proofs.Lays.n129 Tryd.prog Tryd.lays129_ren := {
  mixed := by kernel_rfl
  f129 := Tryd.func95.trans (congrArg some (by kernel_rfl))
  t3 := Tryd.underlying3
  a3 := Tryd.isAgg3
  z3 := Tryd.sizeOf3
  v3 := Tryd.zeroValue3
  t4 := Tryd.underlying4
  a4 := Tryd.isAgg4
  z4 := Tryd.sizeOf4
  v4 := Tryd.zeroValue4
  t5 := Tryd.underlying5
  a5 := Tryd.isAgg5
  z5 := Tryd.sizeOf5
  v5 := Tryd.zeroValue5
  t9 := Tryd.underlying9
  a9 := Tryd.isAgg9
  z9 := Tryd.sizeOf9
  v9 := Tryd.zeroValue9
  t46 := Tryd.underlying105
  a46 := Tryd.isAgg105
  z46 := Tryd.sizeOf105
  v46 := Tryd.zeroValue105
  t53 := Tryd.underlying76
  a53 := Tryd.isAgg76
  z53 := Tryd.sizeOf76
  v53 := Tryd.zeroValue76 }
/-- bits.Len64: "Len64 returns the minimum number of bits required to represent x; the result is 0 for x == 0.": IT RETURNS 'Lib.bitLen x'; the world is as it was. ('h0', 'h1': x is a uint64.) (LAID: no walk: one application.) -/
theorem Tryd.bits_Len64 (x : Int) (w : World) (h0 : 0 ≤ x) (h1 : x ≤ 18446744073709551615) :
    Calls Tryd.prog 95 #[.int .u64 x] w fun e w' => e = .returned (.int .i64 (Lib.bitLen x.toNat)) ∧ w' = w := Any.bits_Len64 Tryd.lays129 x w h0 h1
def Tryd.lays317_ren : Go.Shelf.Ren := ⟨fun | 317 => 94 | n => n, fun | 3 => 3 | 46 => 105 | n => n, fun | n => n⟩
theorem Tryd.lays317 : Go.Proofs.Lays.n317 Tryd.prog Tryd.lays317_ren := {
  mixed := by kernel_rfl
  f317 := Tryd.func94.trans (congrArg some (by kernel_rfl))
  t3 := Tryd.underlying3
  a3 := Tryd.isAgg3
  z3 := Tryd.sizeOf3
  v3 := Tryd.zeroValue3
  t46 := Tryd.underlying105
  a46 := Tryd.isAgg105
  z46 := Tryd.sizeOf105
  v46 := Tryd.zeroValue105 }
open Go.Lib in
/-- internal/strconv.log10Pow2: "log10Pow2(x) returns ⌊log₁₀ 2**x⌋ = ⌊x * log₁₀ 2⌋.": '(x * 78913) >> 18', at an x up to 64 (a length in bits). The world is as it was. (LAID: no walk: one application.) -/
theorem Tryd.internal_strconv_log10Pow2 (x : Nat) (h : x ≤ 64) (w : World) :
    Calls Tryd.prog 94 #[.int .i64 x] w fun e w' => e = .returned (.int .i64 (Lib.l10 x)) ∧ w' = w := Any.internal_strconv_log10Pow2 Tryd.lays317 x h w
def Tryd.lays318_ren : Go.Shelf.Ren := ⟨fun | 318 => 96 | n => n, fun | 3 => 3 | 4 => 4 | n => n, fun | n => n⟩
theorem Tryd.lays318 : Go.Proofs.Lays.n318 Tryd.prog Tryd.lays318_ren := {
  mixed := by kernel_rfl
  f318 := Tryd.func96.trans (congrArg some (by kernel_rfl))
  t3 := Tryd.underlying3
  a3 := Tryd.isAgg3
  z3 := Tryd.sizeOf3
  v3 := Tryd.zeroValue3
  t4 := Tryd.underlying4
  a4 := Tryd.isAgg4
  z4 := Tryd.sizeOf4
  v4 := Tryd.zeroValue4 }
open Go.Lib in
/-- internal/strconv.bool2: "bool2 converts b to an integer: 1 for true, 0 for false." The world is as it was. (LAID: no walk: one application.) -/
theorem Tryd.internal_strconv_bool2_int (b : Bool) (w : World) :
    Calls Tryd.prog 96 #[.bool b] w fun e w' => e = .returned (.int .i64 (if b then 1 else 0)) ∧ w' = w := Any.internal_strconv_bool2_int Tryd.lays318 b w
def Tryd.lays283_ren : Go.Shelf.Ren := ⟨fun | 283 => 86 | n => n, fun | 3 => 3 | 9 => 9 | 4 => 4 | n => n, fun | n => n⟩
theorem Tryd.lays283 : Go.Proofs.Lays.n283 Tryd.prog Tryd.lays283_ren := {
  mixed := by kernel_rfl
  f283 := Tryd.func86.trans (congrArg some (by kernel_rfl))
  t3 := Tryd.underlying3
  a3 := Tryd.isAgg3
  z3 := Tryd.sizeOf3
  v3 := Tryd.zeroValue3
  t4 := Tryd.underlying4
  a4 := Tryd.isAgg4
  z4 := Tryd.sizeOf4
  v4 := Tryd.zeroValue4
  t9 := Tryd.underlying9
  a9 := Tryd.isAgg9
  z9 := Tryd.sizeOf9
  v9 := Tryd.zeroValue9 }
open Go.Lib in
/-- internal/strconv.small: "small returns the string for an i with 0 <= i < nSmalls.": i's decimal numeral. The world is as it was. (LAID: no walk: one application.) -/
theorem Tryd.internal_strconv_small (i : Nat) (h : i < 100) (w : World) :
    Calls Tryd.prog 86 #[.int .i64 i] w fun e w' => e = .returned (.string ⟨(Lib.decDigits i).toArray⟩) ∧ w' = w := Any.internal_strconv_small Tryd.lays283 i h w
def Tryd.laysM284_ren : Go.Shelf.Ren := ⟨fun | 284 => 87 | 129 => 95 | 317 => 94 | 318 => 96 | n => n, fun | 53 => 76 | 3 => 3 | 212 => 113 | 0 => 0 | 4 => 4 | 46 => 105 | 5 => 5 | 9 => 9 | n => n, fun | 17 => 1 | n => n⟩
theorem Tryd.laysM284 : Go.Proofs.LaysM.n284 Tryd.prog Tryd.laysM284_ren := {
  mixed := by kernel_rfl
  f129 := Tryd.func95.trans (congrArg some (by kernel_rfl))
  f284 := Tryd.func87.trans (congrArg some (by kernel_rfl))
  f317 := Tryd.func94.trans (congrArg some (by kernel_rfl))
  f318 := Tryd.func96.trans (congrArg some (by kernel_rfl))
  t0 := Tryd.underlying0
  a0 := Tryd.isAgg0
  z0 := Tryd.sizeOf0
  v0 := Tryd.zeroValue0
  t3 := Tryd.underlying3
  a3 := Tryd.isAgg3
  z3 := Tryd.sizeOf3
  v3 := Tryd.zeroValue3
  t4 := Tryd.underlying4
  a4 := Tryd.isAgg4
  z4 := Tryd.sizeOf4
  v4 := Tryd.zeroValue4
  t5 := Tryd.underlying5
  a5 := Tryd.isAgg5
  z5 := Tryd.sizeOf5
  v5 := Tryd.zeroValue5
  t9 := Tryd.underlying9
  a9 := Tryd.isAgg9
  z9 := Tryd.sizeOf9
  v9 := Tryd.zeroValue9
  t46 := Tryd.underlying105
  a46 := Tryd.isAgg105
  z46 := Tryd.sizeOf105
  v46 := Tryd.zeroValue105
  t53 := Tryd.underlying76
  a53 := Tryd.isAgg76
  z53 := Tryd.sizeOf76
  v53 := Tryd.zeroValue76
  t212 := Tryd.underlying113
  a212 := Tryd.isAgg113
  z212 := Tryd.sizeOf113
  v212 := Tryd.zeroValue113
  g17 := by kernel_rfl
  i0 := by kernel_rfl
  i3 := by kernel_rfl
  i4 := by kernel_rfl
  i5 := by kernel_rfl
  i9 := by kernel_rfl
  i46 := by kernel_rfl
  i53 := by kernel_rfl
  i212 := by kernel_rfl
  m17 := by kernel_rfl }
open Go.Lib in
/-- internal/strconv.numDigits, at a d that is not 0: THE NUMBER OF d's DECIMAL DIGITS. The world is as it was. (LAID: no walk: one application.) -/
theorem Tryd.internal_strconv_numDigits (u : Nat) (h1 : 1 ≤ u) (h2 : u < 18446744073709551616) (w : World) (htab : Lib.TabIs Tryd.prog w "internal/strconv.uint64pow10" .u64 Lib.pow10Tab) :
    Calls Tryd.prog 87 #[.int .u64 u] w fun e w' => e = .returned (.int .i64 (Lib.nDigits u)) ∧ w' = w := Any.internal_strconv_numDigits Tryd.laysM284 u h1 h2 w htab
def Tryd.lays285_ren : Go.Shelf.Ren := ⟨fun | 285 => 88 | n => n, fun | 37 => 53 | 53 => 76 | 3 => 3 | 4 => 4 | 51 => 114 | 9 => 9 | 5 => 5 | 0 => 0 | n => n, fun | n => n⟩
theorem Tryd.lays285 : Go.Proofs.Lays.n285 Tryd.prog Tryd.lays285_ren := {
  mixed := by kernel_rfl
  f285 := Tryd.func88.trans (congrArg some (by kernel_rfl))
  t0 := Tryd.underlying0
  a0 := Tryd.isAgg0
  z0 := Tryd.sizeOf0
  v0 := Tryd.zeroValue0
  t3 := Tryd.underlying3
  a3 := Tryd.isAgg3
  z3 := Tryd.sizeOf3
  v3 := Tryd.zeroValue3
  t4 := Tryd.underlying4
  a4 := Tryd.isAgg4
  z4 := Tryd.sizeOf4
  v4 := Tryd.zeroValue4
  t5 := Tryd.underlying5
  a5 := Tryd.isAgg5
  z5 := Tryd.sizeOf5
  v5 := Tryd.zeroValue5
  t9 := Tryd.underlying9
  a9 := Tryd.isAgg9
  z9 := Tryd.sizeOf9
  v9 := Tryd.zeroValue9
  t37 := Tryd.underlying53
  a37 := Tryd.isAgg53
  z37 := Tryd.sizeOf53
  v37 := Tryd.zeroValue53
  t51 := Tryd.underlying114
  a51 := Tryd.isAgg114
  z51 := Tryd.sizeOf114
  v51 := Tryd.zeroValue114
  t53 := Tryd.underlying76
  a53 := Tryd.isAgg76
  z53 := Tryd.sizeOf76
  v53 := Tryd.zeroValue76 }
open Go.RowKit Go.Sort Go.Lib in
/-- internal/strconv.formatBase10: "formatBase10 formats the decimal representation of u into a. The caller is responsible for ensuring that a is big enough to hold u. If a is too big, leading zeros will be filled in as needed.": THE ROW HOLDS u's DIGITS ('FmtInv .. 0 ..': every place t holds 'dg u (len - 1 - t)'); all else is as it was but for the count of draws. (LAID: no walk: one application.) -/
theorem Tryd.internal_strconv_formatBase10 (blk off cap : Nat) (u : Nat) (d : Array UInt8) (w : World) (hH : Holds (fun (b : UInt8) => Value.int .u8 (b.toNat : Int)) w blk off d) (hu : u < 10 ^ d.size) (hu64 : u < 18446744073709551616) (hsz : d.size < 4611686018427387904) :
    Calls Tryd.prog 88 #[.slice (some ⟨blk, off, none⟩) d.size cap, .int .u64 u] w fun e w' =>
      e = .returned (.tuple #[]) ∧ ∃ (n v' : Nat) (dk : Array UInt8), w' = (putRow (fun (b : UInt8) => Value.int .u8 (b.toNat : Int)) w blk off dk).drewN n ∧ FmtInv d.size u 0 v' dk := Any.internal_strconv_formatBase10 Tryd.lays285 blk off cap u d w hH hu hu64 hsz
def Tryd.laysM246_ren : Go.Shelf.Ren := ⟨fun | 246 => 81 | 283 => 86 | 284 => 87 | 285 => 88 | 286 => 89 | 129 => 95 | 317 => 94 | 318 => 96 | 319 => 97 | 320 => 98 | 337 => 101 | 338 => 102 | n => n, fun | 2 => 2 | 3 => 3 | 9 => 9 | 4 => 4 | 171 => 106 | 0 => 0 | 53 => 76 | 37 => 53 | 5 => 5 | 173 => 109 | 212 => 113 | 51 => 114 | 20 => 20 | 213 => 115 | 46 => 105 | 232 => 120 | 233 => 121 | n => n, fun | 17 => 1 | 18 => 2 | 19 => 3 | n => n⟩
theorem Tryd.laysM246 : Go.Proofs.LaysM.n246 Tryd.prog Tryd.laysM246_ren := {
  mixed := by kernel_rfl
  f129 := Tryd.func95.trans (congrArg some (by kernel_rfl))
  f246 := Tryd.func81.trans (congrArg some (by kernel_rfl))
  f283 := Tryd.func86.trans (congrArg some (by kernel_rfl))
  f284 := Tryd.func87.trans (congrArg some (by kernel_rfl))
  f285 := Tryd.func88.trans (congrArg some (by kernel_rfl))
  f286 := Tryd.func89.trans (congrArg some (by kernel_rfl))
  f317 := Tryd.func94.trans (congrArg some (by kernel_rfl))
  f318 := Tryd.func96.trans (congrArg some (by kernel_rfl))
  f319 := Tryd.func97.trans (congrArg some (by kernel_rfl))
  f320 := Tryd.func98.trans (congrArg some (by kernel_rfl))
  f337 := Tryd.func101.trans (congrArg some (by kernel_rfl))
  f338 := Tryd.func102.trans (congrArg some (by kernel_rfl))
  t0 := Tryd.underlying0
  a0 := Tryd.isAgg0
  z0 := Tryd.sizeOf0
  v0 := Tryd.zeroValue0
  t2 := Tryd.underlying2
  a2 := Tryd.isAgg2
  z2 := Tryd.sizeOf2
  v2 := Tryd.zeroValue2
  t3 := Tryd.underlying3
  a3 := Tryd.isAgg3
  z3 := Tryd.sizeOf3
  v3 := Tryd.zeroValue3
  t4 := Tryd.underlying4
  a4 := Tryd.isAgg4
  z4 := Tryd.sizeOf4
  v4 := Tryd.zeroValue4
  t5 := Tryd.underlying5
  a5 := Tryd.isAgg5
  z5 := Tryd.sizeOf5
  v5 := Tryd.zeroValue5
  t9 := Tryd.underlying9
  a9 := Tryd.isAgg9
  z9 := Tryd.sizeOf9
  v9 := Tryd.zeroValue9
  t20 := Tryd.underlying20
  a20 := Tryd.isAgg20
  z20 := Tryd.sizeOf20
  v20 := Tryd.zeroValue20
  t37 := Tryd.underlying53
  a37 := Tryd.isAgg53
  z37 := Tryd.sizeOf53
  v37 := Tryd.zeroValue53
  t46 := Tryd.underlying105
  a46 := Tryd.isAgg105
  z46 := Tryd.sizeOf105
  v46 := Tryd.zeroValue105
  t51 := Tryd.underlying114
  a51 := Tryd.isAgg114
  z51 := Tryd.sizeOf114
  v51 := Tryd.zeroValue114
  t53 := Tryd.underlying76
  a53 := Tryd.isAgg76
  z53 := Tryd.sizeOf76
  v53 := Tryd.zeroValue76
  t171 := Tryd.underlying106
  a171 := Tryd.isAgg106
  z171 := Tryd.sizeOf106
  v171 := Tryd.zeroValue106
  t173 := Tryd.underlying109
  a173 := Tryd.isAgg109
  z173 := Tryd.sizeOf109
  v173 := Tryd.zeroValue109
  t212 := Tryd.underlying113
  a212 := Tryd.isAgg113
  z212 := Tryd.sizeOf113
  v212 := Tryd.zeroValue113
  t213 := Tryd.underlying115
  a213 := Tryd.isAgg115
  z213 := Tryd.sizeOf115
  t232 := Tryd.underlying120
  a232 := Tryd.isAgg120
  z232 := Tryd.sizeOf120
  v232 := Tryd.zeroValue120
  t233 := Tryd.underlying121
  a233 := Tryd.isAgg121
  z233 := Tryd.sizeOf121
  v233 := Tryd.zeroValue121
  g17 := by kernel_rfl
  g18 := by kernel_rfl
  g19 := by kernel_rfl
  i0 := by kernel_rfl
  i2 := by kernel_rfl
  i3 := by kernel_rfl
  i4 := by kernel_rfl
  i5 := by kernel_rfl
  i9 := by kernel_rfl
  i20 := by kernel_rfl
  i37 := by kernel_rfl
  i46 := by kernel_rfl
  i51 := by kernel_rfl
  i53 := by kernel_rfl
  i171 := by kernel_rfl
  i173 := by kernel_rfl
  i212 := by kernel_rfl
  i232 := by kernel_rfl
  i233 := by kernel_rfl
  m17 := by kernel_rfl
  m18 := by kernel_rfl
  m19 := by kernel_rfl }
open Go.RowKit Go.Sort Go.Lib in
/-- internal/strconv.FormatInt: "FormatInt returns the string representation of i in the given base": AT BASE 10: i's decimal numeral, for every int64. The world behind the call: the world before it, new blocks behind the heap, draws. (LAID: no walk: one application.) -/
theorem Tryd.internal_strconv_FormatInt_10 (n : Int) (h0 : -9223372036854775808 ≤ n) (h1 : n ≤ 9223372036854775807) (w : World) (htab : Lib.TabIs Tryd.prog w "internal/strconv.uint64pow10" .u64 Lib.pow10Tab) :
    Calls Tryd.prog 81 #[.int .i64 n, .int .i64 10] w fun e w' => e = .returned (.string ⟨(Lib.itoa n).toArray⟩) ∧ ∃ k os, w' = grow (w.drewN k) os := Any.internal_strconv_FormatInt_10 Tryd.laysM246 n h0 h1 w htab
def Tryd.lays246_ren : Go.Shelf.Ren := ⟨fun | 246 => 81 | 283 => 86 | 284 => 87 | 285 => 88 | 286 => 89 | 129 => 95 | 317 => 94 | 318 => 96 | 319 => 97 | 320 => 98 | 337 => 101 | 338 => 102 | n => n, fun | 2 => 2 | 3 => 3 | 9 => 9 | 4 => 4 | 171 => 106 | 0 => 0 | 53 => 76 | 37 => 53 | 5 => 5 | 173 => 109 | 212 => 113 | 51 => 114 | 20 => 20 | 213 => 115 | 46 => 105 | 232 => 120 | 233 => 121 | n => n, fun | 17 => 1 | 18 => 2 | 19 => 3 | n => n⟩
theorem Tryd.lays246 : Go.Proofs.Lays.n246 Tryd.prog Tryd.lays246_ren := {
  mixed := by kernel_rfl
  f129 := Tryd.func95.trans (congrArg some (by kernel_rfl))
  f246 := Tryd.func81.trans (congrArg some (by kernel_rfl))
  f283 := Tryd.func86.trans (congrArg some (by kernel_rfl))
  f284 := Tryd.func87.trans (congrArg some (by kernel_rfl))
  f285 := Tryd.func88.trans (congrArg some (by kernel_rfl))
  f286 := Tryd.func89.trans (congrArg some (by kernel_rfl))
  f317 := Tryd.func94.trans (congrArg some (by kernel_rfl))
  f318 := Tryd.func96.trans (congrArg some (by kernel_rfl))
  f319 := Tryd.func97.trans (congrArg some (by kernel_rfl))
  f320 := Tryd.func98.trans (congrArg some (by kernel_rfl))
  f337 := Tryd.func101.trans (congrArg some (by kernel_rfl))
  f338 := Tryd.func102.trans (congrArg some (by kernel_rfl))
  t0 := Tryd.underlying0
  a0 := Tryd.isAgg0
  z0 := Tryd.sizeOf0
  v0 := Tryd.zeroValue0
  t2 := Tryd.underlying2
  a2 := Tryd.isAgg2
  z2 := Tryd.sizeOf2
  v2 := Tryd.zeroValue2
  t3 := Tryd.underlying3
  a3 := Tryd.isAgg3
  z3 := Tryd.sizeOf3
  v3 := Tryd.zeroValue3
  t4 := Tryd.underlying4
  a4 := Tryd.isAgg4
  z4 := Tryd.sizeOf4
  v4 := Tryd.zeroValue4
  t5 := Tryd.underlying5
  a5 := Tryd.isAgg5
  z5 := Tryd.sizeOf5
  v5 := Tryd.zeroValue5
  t9 := Tryd.underlying9
  a9 := Tryd.isAgg9
  z9 := Tryd.sizeOf9
  v9 := Tryd.zeroValue9
  t20 := Tryd.underlying20
  a20 := Tryd.isAgg20
  z20 := Tryd.sizeOf20
  v20 := Tryd.zeroValue20
  t37 := Tryd.underlying53
  a37 := Tryd.isAgg53
  z37 := Tryd.sizeOf53
  v37 := Tryd.zeroValue53
  t46 := Tryd.underlying105
  a46 := Tryd.isAgg105
  z46 := Tryd.sizeOf105
  v46 := Tryd.zeroValue105
  t51 := Tryd.underlying114
  a51 := Tryd.isAgg114
  z51 := Tryd.sizeOf114
  v51 := Tryd.zeroValue114
  t53 := Tryd.underlying76
  a53 := Tryd.isAgg76
  z53 := Tryd.sizeOf76
  v53 := Tryd.zeroValue76
  t171 := Tryd.underlying106
  a171 := Tryd.isAgg106
  z171 := Tryd.sizeOf106
  v171 := Tryd.zeroValue106
  t173 := Tryd.underlying109
  a173 := Tryd.isAgg109
  z173 := Tryd.sizeOf109
  v173 := Tryd.zeroValue109
  t212 := Tryd.underlying113
  a212 := Tryd.isAgg113
  z212 := Tryd.sizeOf113
  v212 := Tryd.zeroValue113
  t213 := Tryd.underlying115
  a213 := Tryd.isAgg115
  z213 := Tryd.sizeOf115
  t232 := Tryd.underlying120
  a232 := Tryd.isAgg120
  z232 := Tryd.sizeOf120
  v232 := Tryd.zeroValue120
  t233 := Tryd.underlying121
  a233 := Tryd.isAgg121
  z233 := Tryd.sizeOf121
  v233 := Tryd.zeroValue121
  g17 := by kernel_rfl
  g18 := by kernel_rfl
  g19 := by kernel_rfl }
open Go.RowKit Go.Sort Go.Lib in
/-- THE ROAD WITHOUT THE TABLE: 0 <= i < 100: two constants are read, nothing is laid: no premise on the world, and the world is as it was. (LAID: no walk: one application.) -/
theorem Tryd.internal_strconv_FormatInt_10_small (i : Nat) (hi : i < 100) (w : World) :
    Calls Tryd.prog 81 #[.int .i64 i, .int .i64 10] w fun e w' => e = .returned (.string ⟨(Lib.decDigits i).toArray⟩) ∧ w' = w := Any.internal_strconv_FormatInt_10_small Tryd.lays246 i hi w
def Tryd.laysM243_ren : Go.Shelf.Ren := ⟨fun | 243 => 71 | 246 => 81 | 283 => 86 | 284 => 87 | 285 => 88 | 286 => 89 | 129 => 95 | 317 => 94 | 318 => 96 | 319 => 97 | 320 => 98 | 337 => 101 | 338 => 102 | n => n, fun | 3 => 3 | 9 => 9 | 2 => 2 | 4 => 4 | 171 => 106 | 0 => 0 | 53 => 76 | 37 => 53 | 5 => 5 | 173 => 109 | 212 => 113 | 51 => 114 | 20 => 20 | 213 => 115 | 46 => 105 | 232 => 120 | 233 => 121 | n => n, fun | 17 => 1 | 18 => 2 | 19 => 3 | n => n⟩
theorem Tryd.laysM243 : Go.Proofs.LaysM.n243 Tryd.prog Tryd.laysM243_ren := {
  mixed := by kernel_rfl
  f129 := Tryd.func95.trans (congrArg some (by kernel_rfl))
  f243 := Tryd.func71.trans (congrArg some (by kernel_rfl))
  f246 := Tryd.func81.trans (congrArg some (by kernel_rfl))
  f283 := Tryd.func86.trans (congrArg some (by kernel_rfl))
  f284 := Tryd.func87.trans (congrArg some (by kernel_rfl))
  f285 := Tryd.func88.trans (congrArg some (by kernel_rfl))
  f286 := Tryd.func89.trans (congrArg some (by kernel_rfl))
  f317 := Tryd.func94.trans (congrArg some (by kernel_rfl))
  f318 := Tryd.func96.trans (congrArg some (by kernel_rfl))
  f319 := Tryd.func97.trans (congrArg some (by kernel_rfl))
  f320 := Tryd.func98.trans (congrArg some (by kernel_rfl))
  f337 := Tryd.func101.trans (congrArg some (by kernel_rfl))
  f338 := Tryd.func102.trans (congrArg some (by kernel_rfl))
  t0 := Tryd.underlying0
  a0 := Tryd.isAgg0
  z0 := Tryd.sizeOf0
  v0 := Tryd.zeroValue0
  t2 := Tryd.underlying2
  a2 := Tryd.isAgg2
  z2 := Tryd.sizeOf2
  v2 := Tryd.zeroValue2
  t3 := Tryd.underlying3
  a3 := Tryd.isAgg3
  z3 := Tryd.sizeOf3
  v3 := Tryd.zeroValue3
  t4 := Tryd.underlying4
  a4 := Tryd.isAgg4
  z4 := Tryd.sizeOf4
  v4 := Tryd.zeroValue4
  t5 := Tryd.underlying5
  a5 := Tryd.isAgg5
  z5 := Tryd.sizeOf5
  v5 := Tryd.zeroValue5
  t9 := Tryd.underlying9
  a9 := Tryd.isAgg9
  z9 := Tryd.sizeOf9
  v9 := Tryd.zeroValue9
  t20 := Tryd.underlying20
  a20 := Tryd.isAgg20
  z20 := Tryd.sizeOf20
  v20 := Tryd.zeroValue20
  t37 := Tryd.underlying53
  a37 := Tryd.isAgg53
  z37 := Tryd.sizeOf53
  v37 := Tryd.zeroValue53
  t46 := Tryd.underlying105
  a46 := Tryd.isAgg105
  z46 := Tryd.sizeOf105
  v46 := Tryd.zeroValue105
  t51 := Tryd.underlying114
  a51 := Tryd.isAgg114
  z51 := Tryd.sizeOf114
  v51 := Tryd.zeroValue114
  t53 := Tryd.underlying76
  a53 := Tryd.isAgg76
  z53 := Tryd.sizeOf76
  v53 := Tryd.zeroValue76
  t171 := Tryd.underlying106
  a171 := Tryd.isAgg106
  z171 := Tryd.sizeOf106
  v171 := Tryd.zeroValue106
  t173 := Tryd.underlying109
  a173 := Tryd.isAgg109
  z173 := Tryd.sizeOf109
  v173 := Tryd.zeroValue109
  t212 := Tryd.underlying113
  a212 := Tryd.isAgg113
  z212 := Tryd.sizeOf113
  v212 := Tryd.zeroValue113
  t213 := Tryd.underlying115
  a213 := Tryd.isAgg115
  z213 := Tryd.sizeOf115
  t232 := Tryd.underlying120
  a232 := Tryd.isAgg120
  z232 := Tryd.sizeOf120
  v232 := Tryd.zeroValue120
  t233 := Tryd.underlying121
  a233 := Tryd.isAgg121
  z233 := Tryd.sizeOf121
  v233 := Tryd.zeroValue121
  g17 := by kernel_rfl
  g18 := by kernel_rfl
  g19 := by kernel_rfl
  i0 := by kernel_rfl
  i2 := by kernel_rfl
  i3 := by kernel_rfl
  i4 := by kernel_rfl
  i5 := by kernel_rfl
  i9 := by kernel_rfl
  i20 := by kernel_rfl
  i37 := by kernel_rfl
  i46 := by kernel_rfl
  i51 := by kernel_rfl
  i53 := by kernel_rfl
  i171 := by kernel_rfl
  i173 := by kernel_rfl
  i212 := by kernel_rfl
  i232 := by kernel_rfl
  i233 := by kernel_rfl
  m17 := by kernel_rfl
  m18 := by kernel_rfl
  m19 := by kernel_rfl }
open Go.RowKit Go.Sort Go.Lib in
/-- internal/strconv.Itoa: "Itoa is equivalent to FormatInt(int64(i), 10).": i's decimal numeral, for every int. (LAID: no walk: one application.) -/
theorem Tryd.internal_strconv_Itoa (n : Int) (h0 : -9223372036854775808 ≤ n) (h1 : n ≤ 9223372036854775807) (w : World) (htab : Lib.TabIs Tryd.prog w "internal/strconv.uint64pow10" .u64 Lib.pow10Tab) :
    Calls Tryd.prog 71 #[.int .i64 n] w fun e w' => e = .returned (.string ⟨(Lib.itoa n).toArray⟩) ∧ ∃ k os, w' = grow (w.drewN k) os := Any.internal_strconv_Itoa Tryd.laysM243 n h0 h1 w htab
def Tryd.lays243_ren : Go.Shelf.Ren := ⟨fun | 243 => 71 | 246 => 81 | 283 => 86 | 284 => 87 | 285 => 88 | 286 => 89 | 129 => 95 | 317 => 94 | 318 => 96 | 319 => 97 | 320 => 98 | 337 => 101 | 338 => 102 | n => n, fun | 3 => 3 | 9 => 9 | 2 => 2 | 4 => 4 | 171 => 106 | 0 => 0 | 53 => 76 | 37 => 53 | 5 => 5 | 173 => 109 | 212 => 113 | 51 => 114 | 20 => 20 | 213 => 115 | 46 => 105 | 232 => 120 | 233 => 121 | n => n, fun | 17 => 1 | 18 => 2 | 19 => 3 | n => n⟩
theorem Tryd.lays243 : Go.Proofs.Lays.n243 Tryd.prog Tryd.lays243_ren := {
  mixed := by kernel_rfl
  f129 := Tryd.func95.trans (congrArg some (by kernel_rfl))
  f243 := Tryd.func71.trans (congrArg some (by kernel_rfl))
  f246 := Tryd.func81.trans (congrArg some (by kernel_rfl))
  f283 := Tryd.func86.trans (congrArg some (by kernel_rfl))
  f284 := Tryd.func87.trans (congrArg some (by kernel_rfl))
  f285 := Tryd.func88.trans (congrArg some (by kernel_rfl))
  f286 := Tryd.func89.trans (congrArg some (by kernel_rfl))
  f317 := Tryd.func94.trans (congrArg some (by kernel_rfl))
  f318 := Tryd.func96.trans (congrArg some (by kernel_rfl))
  f319 := Tryd.func97.trans (congrArg some (by kernel_rfl))
  f320 := Tryd.func98.trans (congrArg some (by kernel_rfl))
  f337 := Tryd.func101.trans (congrArg some (by kernel_rfl))
  f338 := Tryd.func102.trans (congrArg some (by kernel_rfl))
  t0 := Tryd.underlying0
  a0 := Tryd.isAgg0
  z0 := Tryd.sizeOf0
  v0 := Tryd.zeroValue0
  t2 := Tryd.underlying2
  a2 := Tryd.isAgg2
  z2 := Tryd.sizeOf2
  v2 := Tryd.zeroValue2
  t3 := Tryd.underlying3
  a3 := Tryd.isAgg3
  z3 := Tryd.sizeOf3
  v3 := Tryd.zeroValue3
  t4 := Tryd.underlying4
  a4 := Tryd.isAgg4
  z4 := Tryd.sizeOf4
  v4 := Tryd.zeroValue4
  t5 := Tryd.underlying5
  a5 := Tryd.isAgg5
  z5 := Tryd.sizeOf5
  v5 := Tryd.zeroValue5
  t9 := Tryd.underlying9
  a9 := Tryd.isAgg9
  z9 := Tryd.sizeOf9
  v9 := Tryd.zeroValue9
  t20 := Tryd.underlying20
  a20 := Tryd.isAgg20
  z20 := Tryd.sizeOf20
  v20 := Tryd.zeroValue20
  t37 := Tryd.underlying53
  a37 := Tryd.isAgg53
  z37 := Tryd.sizeOf53
  v37 := Tryd.zeroValue53
  t46 := Tryd.underlying105
  a46 := Tryd.isAgg105
  z46 := Tryd.sizeOf105
  v46 := Tryd.zeroValue105
  t51 := Tryd.underlying114
  a51 := Tryd.isAgg114
  z51 := Tryd.sizeOf114
  v51 := Tryd.zeroValue114
  t53 := Tryd.underlying76
  a53 := Tryd.isAgg76
  z53 := Tryd.sizeOf76
  v53 := Tryd.zeroValue76
  t171 := Tryd.underlying106
  a171 := Tryd.isAgg106
  z171 := Tryd.sizeOf106
  v171 := Tryd.zeroValue106
  t173 := Tryd.underlying109
  a173 := Tryd.isAgg109
  z173 := Tryd.sizeOf109
  v173 := Tryd.zeroValue109
  t212 := Tryd.underlying113
  a212 := Tryd.isAgg113
  z212 := Tryd.sizeOf113
  v212 := Tryd.zeroValue113
  t213 := Tryd.underlying115
  a213 := Tryd.isAgg115
  z213 := Tryd.sizeOf115
  t232 := Tryd.underlying120
  a232 := Tryd.isAgg120
  z232 := Tryd.sizeOf120
  v232 := Tryd.zeroValue120
  t233 := Tryd.underlying121
  a233 := Tryd.isAgg121
  z233 := Tryd.sizeOf121
  v233 := Tryd.zeroValue121
  g17 := by kernel_rfl
  g18 := by kernel_rfl
  g19 := by kernel_rfl }
open Go.RowKit Go.Sort Go.Lib in
/-- THE ROAD WITHOUT THE TABLE: 0 <= i < 100. (LAID: no walk: one application.) -/
theorem Tryd.internal_strconv_Itoa_small (i : Nat) (hi : i < 100) (w : World) :
    Calls Tryd.prog 71 #[.int .i64 i] w fun e w' => e = .returned (.string ⟨(Lib.decDigits i).toArray⟩) ∧ w' = w := Any.internal_strconv_Itoa_small Tryd.lays243 i hi w
def Tryd.laysM171_ren : Go.Shelf.Ren := ⟨fun | 171 => 50 | 243 => 71 | 246 => 81 | 283 => 86 | 284 => 87 | 285 => 88 | 286 => 89 | 129 => 95 | 317 => 94 | 318 => 96 | 319 => 97 | 320 => 98 | 337 => 101 | 338 => 102 | n => n, fun | 3 => 3 | 9 => 9 | 2 => 2 | 4 => 4 | 171 => 106 | 0 => 0 | 53 => 76 | 37 => 53 | 5 => 5 | 173 => 109 | 212 => 113 | 51 => 114 | 20 => 20 | 213 => 115 | 46 => 105 | 232 => 120 | 233 => 121 | n => n, fun | 17 => 1 | 18 => 2 | 19 => 3 | n => n⟩
theorem Tryd.laysM171 : Go.Proofs.LaysM.n171 Tryd.prog Tryd.laysM171_ren := {
  mixed := by kernel_rfl
  f129 := Tryd.func95.trans (congrArg some (by kernel_rfl))
  f171 := Tryd.func50.trans (congrArg some (by kernel_rfl))
  f243 := Tryd.func71.trans (congrArg some (by kernel_rfl))
  f246 := Tryd.func81.trans (congrArg some (by kernel_rfl))
  f283 := Tryd.func86.trans (congrArg some (by kernel_rfl))
  f284 := Tryd.func87.trans (congrArg some (by kernel_rfl))
  f285 := Tryd.func88.trans (congrArg some (by kernel_rfl))
  f286 := Tryd.func89.trans (congrArg some (by kernel_rfl))
  f317 := Tryd.func94.trans (congrArg some (by kernel_rfl))
  f318 := Tryd.func96.trans (congrArg some (by kernel_rfl))
  f319 := Tryd.func97.trans (congrArg some (by kernel_rfl))
  f320 := Tryd.func98.trans (congrArg some (by kernel_rfl))
  f337 := Tryd.func101.trans (congrArg some (by kernel_rfl))
  f338 := Tryd.func102.trans (congrArg some (by kernel_rfl))
  t0 := Tryd.underlying0
  a0 := Tryd.isAgg0
  z0 := Tryd.sizeOf0
  v0 := Tryd.zeroValue0
  t2 := Tryd.underlying2
  a2 := Tryd.isAgg2
  z2 := Tryd.sizeOf2
  v2 := Tryd.zeroValue2
  t3 := Tryd.underlying3
  a3 := Tryd.isAgg3
  z3 := Tryd.sizeOf3
  v3 := Tryd.zeroValue3
  t4 := Tryd.underlying4
  a4 := Tryd.isAgg4
  z4 := Tryd.sizeOf4
  v4 := Tryd.zeroValue4
  t5 := Tryd.underlying5
  a5 := Tryd.isAgg5
  z5 := Tryd.sizeOf5
  v5 := Tryd.zeroValue5
  t9 := Tryd.underlying9
  a9 := Tryd.isAgg9
  z9 := Tryd.sizeOf9
  v9 := Tryd.zeroValue9
  t20 := Tryd.underlying20
  a20 := Tryd.isAgg20
  z20 := Tryd.sizeOf20
  v20 := Tryd.zeroValue20
  t37 := Tryd.underlying53
  a37 := Tryd.isAgg53
  z37 := Tryd.sizeOf53
  v37 := Tryd.zeroValue53
  t46 := Tryd.underlying105
  a46 := Tryd.isAgg105
  z46 := Tryd.sizeOf105
  v46 := Tryd.zeroValue105
  t51 := Tryd.underlying114
  a51 := Tryd.isAgg114
  z51 := Tryd.sizeOf114
  v51 := Tryd.zeroValue114
  t53 := Tryd.underlying76
  a53 := Tryd.isAgg76
  z53 := Tryd.sizeOf76
  v53 := Tryd.zeroValue76
  t171 := Tryd.underlying106
  a171 := Tryd.isAgg106
  z171 := Tryd.sizeOf106
  v171 := Tryd.zeroValue106
  t173 := Tryd.underlying109
  a173 := Tryd.isAgg109
  z173 := Tryd.sizeOf109
  v173 := Tryd.zeroValue109
  t212 := Tryd.underlying113
  a212 := Tryd.isAgg113
  z212 := Tryd.sizeOf113
  v212 := Tryd.zeroValue113
  t213 := Tryd.underlying115
  a213 := Tryd.isAgg115
  z213 := Tryd.sizeOf115
  t232 := Tryd.underlying120
  a232 := Tryd.isAgg120
  z232 := Tryd.sizeOf120
  v232 := Tryd.zeroValue120
  t233 := Tryd.underlying121
  a233 := Tryd.isAgg121
  z233 := Tryd.sizeOf121
  v233 := Tryd.zeroValue121
  g17 := by kernel_rfl
  g18 := by kernel_rfl
  g19 := by kernel_rfl
  i0 := by kernel_rfl
  i2 := by kernel_rfl
  i3 := by kernel_rfl
  i4 := by kernel_rfl
  i5 := by kernel_rfl
  i9 := by kernel_rfl
  i20 := by kernel_rfl
  i37 := by kernel_rfl
  i46 := by kernel_rfl
  i51 := by kernel_rfl
  i53 := by kernel_rfl
  i171 := by kernel_rfl
  i173 := by kernel_rfl
  i212 := by kernel_rfl
  i232 := by kernel_rfl
  i233 := by kernel_rfl
  m17 := by kernel_rfl
  m18 := by kernel_rfl
  m19 := by kernel_rfl }
open Go.RowKit Go.Sort Go.Lib in
/-- strconv.Itoa: "Itoa is equivalent to FormatInt(int64(i), 10).": i's DECIMAL NUMERAL ('Lib.itoa': a '-' where i is negative, then the digits), FOR EVERY int. The world behind the call: the world before it, new blocks behind the heap (the library's 'var a [24]byte'), draws. (LAID: no walk: one application.) -/
theorem Tryd.strconv_Itoa (n : Int) (h0 : -9223372036854775808 ≤ n) (h1 : n ≤ 9223372036854775807) (w : World) (htab : Lib.TabIs Tryd.prog w "internal/strconv.uint64pow10" .u64 Lib.pow10Tab) :
    Calls Tryd.prog 50 #[.int .i64 n] w fun e w' => e = .returned (.string ⟨(Lib.itoa n).toArray⟩) ∧ ∃ k os, w' = grow (w.drewN k) os := Any.strconv_Itoa Tryd.laysM171 n h0 h1 w htab
def Tryd.lays171_ren : Go.Shelf.Ren := ⟨fun | 171 => 50 | 243 => 71 | 246 => 81 | 283 => 86 | 284 => 87 | 285 => 88 | 286 => 89 | 129 => 95 | 317 => 94 | 318 => 96 | 319 => 97 | 320 => 98 | 337 => 101 | 338 => 102 | n => n, fun | 3 => 3 | 9 => 9 | 2 => 2 | 4 => 4 | 171 => 106 | 0 => 0 | 53 => 76 | 37 => 53 | 5 => 5 | 173 => 109 | 212 => 113 | 51 => 114 | 20 => 20 | 213 => 115 | 46 => 105 | 232 => 120 | 233 => 121 | n => n, fun | 17 => 1 | 18 => 2 | 19 => 3 | n => n⟩
theorem Tryd.lays171 : Go.Proofs.Lays.n171 Tryd.prog Tryd.lays171_ren := {
  mixed := by kernel_rfl
  f129 := Tryd.func95.trans (congrArg some (by kernel_rfl))
  f171 := Tryd.func50.trans (congrArg some (by kernel_rfl))
  f243 := Tryd.func71.trans (congrArg some (by kernel_rfl))
  f246 := Tryd.func81.trans (congrArg some (by kernel_rfl))
  f283 := Tryd.func86.trans (congrArg some (by kernel_rfl))
  f284 := Tryd.func87.trans (congrArg some (by kernel_rfl))
  f285 := Tryd.func88.trans (congrArg some (by kernel_rfl))
  f286 := Tryd.func89.trans (congrArg some (by kernel_rfl))
  f317 := Tryd.func94.trans (congrArg some (by kernel_rfl))
  f318 := Tryd.func96.trans (congrArg some (by kernel_rfl))
  f319 := Tryd.func97.trans (congrArg some (by kernel_rfl))
  f320 := Tryd.func98.trans (congrArg some (by kernel_rfl))
  f337 := Tryd.func101.trans (congrArg some (by kernel_rfl))
  f338 := Tryd.func102.trans (congrArg some (by kernel_rfl))
  t0 := Tryd.underlying0
  a0 := Tryd.isAgg0
  z0 := Tryd.sizeOf0
  v0 := Tryd.zeroValue0
  t2 := Tryd.underlying2
  a2 := Tryd.isAgg2
  z2 := Tryd.sizeOf2
  v2 := Tryd.zeroValue2
  t3 := Tryd.underlying3
  a3 := Tryd.isAgg3
  z3 := Tryd.sizeOf3
  v3 := Tryd.zeroValue3
  t4 := Tryd.underlying4
  a4 := Tryd.isAgg4
  z4 := Tryd.sizeOf4
  v4 := Tryd.zeroValue4
  t5 := Tryd.underlying5
  a5 := Tryd.isAgg5
  z5 := Tryd.sizeOf5
  v5 := Tryd.zeroValue5
  t9 := Tryd.underlying9
  a9 := Tryd.isAgg9
  z9 := Tryd.sizeOf9
  v9 := Tryd.zeroValue9
  t20 := Tryd.underlying20
  a20 := Tryd.isAgg20
  z20 := Tryd.sizeOf20
  v20 := Tryd.zeroValue20
  t37 := Tryd.underlying53
  a37 := Tryd.isAgg53
  z37 := Tryd.sizeOf53
  v37 := Tryd.zeroValue53
  t46 := Tryd.underlying105
  a46 := Tryd.isAgg105
  z46 := Tryd.sizeOf105
  v46 := Tryd.zeroValue105
  t51 := Tryd.underlying114
  a51 := Tryd.isAgg114
  z51 := Tryd.sizeOf114
  v51 := Tryd.zeroValue114
  t53 := Tryd.underlying76
  a53 := Tryd.isAgg76
  z53 := Tryd.sizeOf76
  v53 := Tryd.zeroValue76
  t171 := Tryd.underlying106
  a171 := Tryd.isAgg106
  z171 := Tryd.sizeOf106
  v171 := Tryd.zeroValue106
  t173 := Tryd.underlying109
  a173 := Tryd.isAgg109
  z173 := Tryd.sizeOf109
  v173 := Tryd.zeroValue109
  t212 := Tryd.underlying113
  a212 := Tryd.isAgg113
  z212 := Tryd.sizeOf113
  v212 := Tryd.zeroValue113
  t213 := Tryd.underlying115
  a213 := Tryd.isAgg115
  z213 := Tryd.sizeOf115
  t232 := Tryd.underlying120
  a232 := Tryd.isAgg120
  z232 := Tryd.sizeOf120
  v232 := Tryd.zeroValue120
  t233 := Tryd.underlying121
  a233 := Tryd.isAgg121
  z233 := Tryd.sizeOf121
  v233 := Tryd.zeroValue121
  g17 := by kernel_rfl
  g18 := by kernel_rfl
  g19 := by kernel_rfl }
open Go.RowKit Go.Sort Go.Lib in
/-- THE ROAD WITHOUT THE TABLE: 0 <= i < 100: NO PREMISE ON THE WORLD, AND THE WORLD IS AS IT WAS: a row that keeps its argument in that range need list no table ('laid = []'). (LAID: no walk: one application.) -/
theorem Tryd.strconv_Itoa_small (i : Nat) (hi : i < 100) (w : World) :
    Calls Tryd.prog 50 #[.int .i64 i] w fun e w' => e = .returned (.string ⟨(Lib.decDigits i).toArray⟩) ∧ w' = w := Any.strconv_Itoa_small Tryd.lays171 i hi w
def Tryd.lays217_ren : Go.Shelf.Ren := ⟨fun | 217 => 90 | 266 => 99 | n => n, fun | 9 => 9 | 5 => 5 | 3 => 3 | n => n, fun | n => n⟩
theorem Tryd.lays217 : Go.Proofs.Lays.n217 Tryd.prog Tryd.lays217_ren := {
  mixed := by kernel_rfl
  f217 := Tryd.func90.trans (congrArg some (by kernel_rfl))
  f266 := Tryd.func99.trans (congrArg some (by kernel_rfl))
  t3 := Tryd.underlying3
  a3 := Tryd.isAgg3
  z3 := Tryd.sizeOf3
  v3 := Tryd.zeroValue3
  t5 := Tryd.underlying5
  a5 := Tryd.isAgg5
  z5 := Tryd.sizeOf5
  v5 := Tryd.zeroValue5
  t9 := Tryd.underlying9
  a9 := Tryd.isAgg9
  z9 := Tryd.sizeOf9
  v9 := Tryd.zeroValue9 }
open Go.RowKit Go.Lib in
/-- internal/stringslite.IndexByte (what strings.IndexByte calls): IT RETURNS 'Lib.indexByte s c'; the world is as it was. (LAID: no walk: one application.) -/
theorem Tryd.stringslite_IndexByte (s : ByteArray) (c : Int) (w : World) :
    Calls Tryd.prog 90 #[.string s, .int .u8 c] w fun e w' => e = .returned (.int .i64 (Lib.indexByte s.data.toList c.toNat.toUInt8)) ∧ w' = w := Any.stringslite_IndexByte Tryd.lays217 s c w
def Tryd.lays224_ren : Go.Shelf.Ren := ⟨fun | 224 => 92 | n => n, fun | 3 => 3 | n => n, fun | n => n⟩
theorem Tryd.lays224 : Go.Proofs.Lays.n224 Tryd.prog Tryd.lays224_ren := {
  mixed := by kernel_rfl
  f224 := Tryd.func92.trans (congrArg some (by kernel_rfl))
  t3 := Tryd.underlying3
  a3 := Tryd.isAgg3
  z3 := Tryd.sizeOf3
  v3 := Tryd.zeroValue3 }
open Go.RowKit Go.Lib in
/-- internal/bytealg.Cutover: "Cutover reports the number of failures of IndexByte we should tolerate before switching over to Index. n is the number of bytes processed so far.": on amd64: (n + 16) / 8. (LAID: no walk: one application.) -/
theorem Tryd.bytealg_Cutover (n : Int) (h0 : 0 ≤ n) (h1 : n < 4611686018427387904) (w : World) :
    Calls Tryd.prog 92 #[.int .i64 n] w fun e w' => e = .returned (.int .i64 ((n + 16) / 8)) ∧ w' = w := Any.bytealg_Cutover Tryd.lays224 n h0 h1 w
def Tryd.lays314_ren : Go.Shelf.Ren := ⟨fun | 314 => 100 | n => n, fun | 9 => 9 | 51 => 114 | 3 => 3 | 4 => 4 | 5 => 5 | 46 => 105 | n => n, fun | n => n⟩
theorem Tryd.lays314 : Go.Proofs.Lays.n314 Tryd.prog Tryd.lays314_ren := {
  mixed := by kernel_rfl
  f314 := Tryd.func100.trans (congrArg some (by kernel_rfl))
  t3 := Tryd.underlying3
  a3 := Tryd.isAgg3
  z3 := Tryd.sizeOf3
  v3 := Tryd.zeroValue3
  t4 := Tryd.underlying4
  a4 := Tryd.isAgg4
  z4 := Tryd.sizeOf4
  v4 := Tryd.zeroValue4
  t5 := Tryd.underlying5
  a5 := Tryd.isAgg5
  z5 := Tryd.sizeOf5
  v5 := Tryd.zeroValue5
  t9 := Tryd.underlying9
  a9 := Tryd.isAgg9
  z9 := Tryd.sizeOf9
  v9 := Tryd.zeroValue9
  t46 := Tryd.underlying105
  a46 := Tryd.isAgg105
  z46 := Tryd.sizeOf105
  v46 := Tryd.zeroValue105
  t51 := Tryd.underlying114
  a51 := Tryd.isAgg114
  z51 := Tryd.sizeOf114
  v51 := Tryd.zeroValue114 }
open Go.RowKit Go.Lib in
/-- hashStr: "returns the hash and the appropriate multiplicative factor for use in Rabin-Karp algorithm": THE HASH OF ALL OF sep, AND 16777619 ^ len(sep), both in uint32. (LAID: no walk: one application.) -/
theorem Tryd.bytealg_hashStr (sep : ByteArray) (hs : sep.size < 4294967281) (w : World) :
    Calls Tryd.prog 100 #[.string sep] w fun e w' => e = .returned (.tuple #[.int .u32 (RK.H sep.data.toList % 4294967296), .int .u32 (16777619 ^ sep.size % 4294967296)]) ∧ w' = w := Any.bytealg_hashStr Tryd.lays314 sep hs w
def Tryd.lays267_ren : Go.Shelf.Ren := ⟨fun | 267 => 93 | 314 => 100 | n => n, fun | 9 => 9 | 3 => 3 | 146 => 117 | 51 => 114 | 4 => 4 | 5 => 5 | 46 => 105 | n => n, fun | n => n⟩
theorem Tryd.lays267 : Go.Proofs.Lays.n267 Tryd.prog Tryd.lays267_ren := {
  mixed := by kernel_rfl
  f267 := Tryd.func93.trans (congrArg some (by kernel_rfl))
  f314 := Tryd.func100.trans (congrArg some (by kernel_rfl))
  t3 := Tryd.underlying3
  a3 := Tryd.isAgg3
  z3 := Tryd.sizeOf3
  v3 := Tryd.zeroValue3
  t4 := Tryd.underlying4
  a4 := Tryd.isAgg4
  z4 := Tryd.sizeOf4
  v4 := Tryd.zeroValue4
  t5 := Tryd.underlying5
  a5 := Tryd.isAgg5
  z5 := Tryd.sizeOf5
  v5 := Tryd.zeroValue5
  t9 := Tryd.underlying9
  a9 := Tryd.isAgg9
  z9 := Tryd.sizeOf9
  v9 := Tryd.zeroValue9
  t46 := Tryd.underlying105
  a46 := Tryd.isAgg105
  z46 := Tryd.sizeOf105
  v46 := Tryd.zeroValue105
  t51 := Tryd.underlying114
  a51 := Tryd.isAgg114
  z51 := Tryd.sizeOf114
  v51 := Tryd.zeroValue114
  t146 := Tryd.underlying117
  a146 := Tryd.isAgg117
  z146 := Tryd.sizeOf117
  v146 := Tryd.zeroValue117 }
open Go.RowKit Go.Lib in
theorem Tryd.bytealg_IndexRabinKarp (s sep : ByteArray) (h1 : 1 ≤ sep.size) (h2 : sep.size ≤ s.size) (hs : s.size < 4294967281) (w : World) :
    Calls Tryd.prog 93 #[.string s, .string sep] w fun e w' => e = .returned (.int .i64 (Lib.index s.data.toList sep.data.toList)) ∧ w' = w := Any.bytealg_IndexRabinKarp Tryd.lays267 s sep h1 h2 hs w
def Tryd.lays219_ren : Go.Shelf.Ren := ⟨fun | 219 => 85 | 217 => 90 | 225 => 91 | 224 => 92 | 267 => 93 | 266 => 99 | 314 => 100 | n => n, fun | 9 => 9 | 3 => 3 | 4 => 4 | 5 => 5 | 46 => 105 | 146 => 117 | 51 => 114 | n => n, fun | 1 => 0 | n => n⟩
theorem Tryd.lays219 : Go.Proofs.Lays.n219 Tryd.prog Tryd.lays219_ren := {
  mixed := by kernel_rfl
  f217 := Tryd.func90.trans (congrArg some (by kernel_rfl))
  f219 := Tryd.func85.trans (congrArg some (by kernel_rfl))
  f224 := Tryd.func92.trans (congrArg some (by kernel_rfl))
  f225 := Tryd.func91.trans (congrArg some (by kernel_rfl))
  f266 := Tryd.func99.trans (congrArg some (by kernel_rfl))
  f267 := Tryd.func93.trans (congrArg some (by kernel_rfl))
  f314 := Tryd.func100.trans (congrArg some (by kernel_rfl))
  t3 := Tryd.underlying3
  a3 := Tryd.isAgg3
  z3 := Tryd.sizeOf3
  v3 := Tryd.zeroValue3
  t4 := Tryd.underlying4
  a4 := Tryd.isAgg4
  z4 := Tryd.sizeOf4
  v4 := Tryd.zeroValue4
  t5 := Tryd.underlying5
  a5 := Tryd.isAgg5
  z5 := Tryd.sizeOf5
  v5 := Tryd.zeroValue5
  t9 := Tryd.underlying9
  a9 := Tryd.isAgg9
  z9 := Tryd.sizeOf9
  v9 := Tryd.zeroValue9
  t46 := Tryd.underlying105
  a46 := Tryd.isAgg105
  z46 := Tryd.sizeOf105
  v46 := Tryd.zeroValue105
  t51 := Tryd.underlying114
  a51 := Tryd.isAgg114
  z51 := Tryd.sizeOf114
  v51 := Tryd.zeroValue114
  t146 := Tryd.underlying117
  a146 := Tryd.isAgg117
  z146 := Tryd.sizeOf117
  v146 := Tryd.zeroValue117
  g1 := by kernel_rfl }
open Go.RowKit Go.Lib in
/-- internal/stringslite.Index (what strings.Index calls) AT A substr OF ONE BYTE c: IT RETURNS 'Lib.indexByte s c'; the world is as it was. (LAID: no walk: one application.) -/
theorem Tryd.stringslite_Index_one (s : ByteArray) (c : UInt8) (w : World) :
    Calls Tryd.prog 85 #[.string s, .string ⟨#[c]⟩] w fun e w' => e = .returned (.int .i64 (Lib.indexByte s.data.toList c)) ∧ w' = w := Any.stringslite_Index_one Tryd.lays219 s c w
open Go.RowKit Go.Lib in
/-- internal/stringslite.Index (what strings.Index calls) AT A substr OF WHATEVER LENGTH: IT RETURNS 'Lib.index s substr'; the world is as it was. 'm': what internal/bytealg.MaxLen holds: whatever. (LAID: no walk: one application.) -/
theorem Tryd.stringslite_Index (s sub : ByteArray) (m : Int) (w : World) (hs : s.size < 4294967281) (hm : w.cell? ⟨0, 0, none⟩ = some (.int .i64 m)) :
    Calls Tryd.prog 85 #[.string s, .string sub] w fun e w' => e = .returned (.int .i64 (Lib.index s.data.toList sub.data.toList)) ∧ w' = w := Any.stringslite_Index Tryd.lays219 s sub m w hs hm
def Tryd.lays143_ren : Go.Shelf.Ren := ⟨fun | 143 => 79 | 219 => 85 | 217 => 90 | 225 => 91 | 224 => 92 | 267 => 93 | 266 => 99 | 314 => 100 | n => n, fun | 9 => 9 | 3 => 3 | 4 => 4 | 5 => 5 | 46 => 105 | 146 => 117 | 51 => 114 | n => n, fun | 1 => 0 | n => n⟩
theorem Tryd.lays143 : Go.Proofs.Lays.n143 Tryd.prog Tryd.lays143_ren := {
  mixed := by kernel_rfl
  f143 := Tryd.func79.trans (congrArg some (by kernel_rfl))
  f217 := Tryd.func90.trans (congrArg some (by kernel_rfl))
  f219 := Tryd.func85.trans (congrArg some (by kernel_rfl))
  f224 := Tryd.func92.trans (congrArg some (by kernel_rfl))
  f225 := Tryd.func91.trans (congrArg some (by kernel_rfl))
  f266 := Tryd.func99.trans (congrArg some (by kernel_rfl))
  f267 := Tryd.func93.trans (congrArg some (by kernel_rfl))
  f314 := Tryd.func100.trans (congrArg some (by kernel_rfl))
  t3 := Tryd.underlying3
  a3 := Tryd.isAgg3
  z3 := Tryd.sizeOf3
  v3 := Tryd.zeroValue3
  t4 := Tryd.underlying4
  a4 := Tryd.isAgg4
  z4 := Tryd.sizeOf4
  v4 := Tryd.zeroValue4
  t5 := Tryd.underlying5
  a5 := Tryd.isAgg5
  z5 := Tryd.sizeOf5
  v5 := Tryd.zeroValue5
  t9 := Tryd.underlying9
  a9 := Tryd.isAgg9
  z9 := Tryd.sizeOf9
  v9 := Tryd.zeroValue9
  t46 := Tryd.underlying105
  a46 := Tryd.isAgg105
  z46 := Tryd.sizeOf105
  v46 := Tryd.zeroValue105
  t51 := Tryd.underlying114
  a51 := Tryd.isAgg114
  z51 := Tryd.sizeOf114
  v51 := Tryd.zeroValue114
  t146 := Tryd.underlying117
  a146 := Tryd.isAgg117
  z146 := Tryd.sizeOf117
  v146 := Tryd.zeroValue117
  g1 := by kernel_rfl }
open Go.RowKit Go.Lib in
/-- strings.Index: "Index returns the index of the first instance of substr in s, or -1 if substr is not present in s.": AT A substr OF ONE BYTE c: IT RETURNS 'Lib.indexByte s c'; the world is as it was. (LAID: no walk: one application.) -/
theorem Tryd.strings_Index_one (s : ByteArray) (c : UInt8) (w : World) :
    Calls Tryd.prog 79 #[.string s, .string ⟨#[c]⟩] w fun e w' => e = .returned (.int .i64 (Lib.indexByte s.data.toList c)) ∧ w' = w := Any.strings_Index_one Tryd.lays143 s c w
open Go.RowKit Go.Lib in
/-- strings.Index: "Index returns the index of the first instance of substr in s, or -1 if substr is not present in s.": IT RETURNS 'Lib.index s substr'; the world is as it was. (LAID: no walk: one application.) -/
theorem Tryd.strings_Index (s sub : ByteArray) (m : Int) (w : World) (hs : s.size < 4294967281) (hm : w.cell? ⟨0, 0, none⟩ = some (.int .i64 m)) :
    Calls Tryd.prog 79 #[.string s, .string sub] w fun e w' => e = .returned (.int .i64 (Lib.index s.data.toList sub.data.toList)) ∧ w' = w := Any.strings_Index Tryd.lays143 s sub m w hs hm
def Tryd.lays144_ren : Go.Shelf.Ren := ⟨fun | 144 => 63 | 143 => 79 | 219 => 85 | 217 => 90 | 225 => 91 | 224 => 92 | 267 => 93 | 266 => 99 | 314 => 100 | n => n, fun | 9 => 9 | 4 => 4 | 3 => 3 | 5 => 5 | 46 => 105 | 146 => 117 | 51 => 114 | n => n, fun | 1 => 0 | n => n⟩
theorem Tryd.lays144 : Go.Proofs.Lays.n144 Tryd.prog Tryd.lays144_ren := {
  mixed := by kernel_rfl
  f143 := Tryd.func79.trans (congrArg some (by kernel_rfl))
  f144 := Tryd.func63.trans (congrArg some (by kernel_rfl))
  f217 := Tryd.func90.trans (congrArg some (by kernel_rfl))
  f219 := Tryd.func85.trans (congrArg some (by kernel_rfl))
  f224 := Tryd.func92.trans (congrArg some (by kernel_rfl))
  f225 := Tryd.func91.trans (congrArg some (by kernel_rfl))
  f266 := Tryd.func99.trans (congrArg some (by kernel_rfl))
  f267 := Tryd.func93.trans (congrArg some (by kernel_rfl))
  f314 := Tryd.func100.trans (congrArg some (by kernel_rfl))
  t3 := Tryd.underlying3
  a3 := Tryd.isAgg3
  z3 := Tryd.sizeOf3
  v3 := Tryd.zeroValue3
  t4 := Tryd.underlying4
  a4 := Tryd.isAgg4
  z4 := Tryd.sizeOf4
  v4 := Tryd.zeroValue4
  t5 := Tryd.underlying5
  a5 := Tryd.isAgg5
  z5 := Tryd.sizeOf5
  v5 := Tryd.zeroValue5
  t9 := Tryd.underlying9
  a9 := Tryd.isAgg9
  z9 := Tryd.sizeOf9
  v9 := Tryd.zeroValue9
  t46 := Tryd.underlying105
  a46 := Tryd.isAgg105
  z46 := Tryd.sizeOf105
  v46 := Tryd.zeroValue105
  t51 := Tryd.underlying114
  a51 := Tryd.isAgg114
  z51 := Tryd.sizeOf114
  v51 := Tryd.zeroValue114
  t146 := Tryd.underlying117
  a146 := Tryd.isAgg117
  z146 := Tryd.sizeOf117
  v146 := Tryd.zeroValue117
  g1 := by kernel_rfl }
open Go.RowKit Go.Lib in
/-- strings.Contains: "Contains reports whether substr is within s.": AT A substr OF ONE BYTE c: IT RETURNS 'decide (0 ≤ Lib.indexByte s c)'; the world is as it was. (LAID: no walk: one application.) -/
theorem Tryd.strings_Contains_one (s : ByteArray) (c : UInt8) (w : World) :
    Calls Tryd.prog 63 #[.string s, .string ⟨#[c]⟩] w fun e w' => e = .returned (.bool (decide (0 ≤ Lib.indexByte s.data.toList c))) ∧ w' = w := Any.strings_Contains_one Tryd.lays144 s c w
open Go.RowKit Go.Lib in
/-- strings.Contains: "Contains reports whether substr is within s.": IT RETURNS 'Lib.contains s substr'; the world is as it was. (LAID: no walk: one application.) -/
theorem Tryd.strings_Contains (s sub : ByteArray) (m : Int) (w : World) (hs : s.size < 4294967281) (hm : w.cell? ⟨0, 0, none⟩ = some (.int .i64 m)) :
    Calls Tryd.prog 63 #[.string s, .string sub] w fun e w' => e = .returned (.bool (Lib.contains s.data.toList sub.data.toList)) ∧ w' = w := Any.strings_Contains Tryd.lays144 s sub m w hs hm
def Tryd.lays220_ren : Go.Shelf.Ren := ⟨fun | 220 => 82 | 219 => 85 | 217 => 90 | 225 => 91 | 224 => 92 | 267 => 93 | 266 => 99 | 314 => 100 | n => n, fun | 9 => 9 | 4 => 4 | 3 => 3 | 5 => 5 | 46 => 105 | 146 => 117 | 51 => 114 | n => n, fun | 1 => 0 | n => n⟩
theorem Tryd.lays220 : Go.Proofs.Lays.n220 Tryd.prog Tryd.lays220_ren := {
  mixed := by kernel_rfl
  f217 := Tryd.func90.trans (congrArg some (by kernel_rfl))
  f219 := Tryd.func85.trans (congrArg some (by kernel_rfl))
  f220 := Tryd.func82.trans (congrArg some (by kernel_rfl))
  f224 := Tryd.func92.trans (congrArg some (by kernel_rfl))
  f225 := Tryd.func91.trans (congrArg some (by kernel_rfl))
  f266 := Tryd.func99.trans (congrArg some (by kernel_rfl))
  f267 := Tryd.func93.trans (congrArg some (by kernel_rfl))
  f314 := Tryd.func100.trans (congrArg some (by kernel_rfl))
  t3 := Tryd.underlying3
  a3 := Tryd.isAgg3
  z3 := Tryd.sizeOf3
  v3 := Tryd.zeroValue3
  t4 := Tryd.underlying4
  a4 := Tryd.isAgg4
  z4 := Tryd.sizeOf4
  v4 := Tryd.zeroValue4
  t5 := Tryd.underlying5
  a5 := Tryd.isAgg5
  z5 := Tryd.sizeOf5
  v5 := Tryd.zeroValue5
  t9 := Tryd.underlying9
  a9 := Tryd.isAgg9
  z9 := Tryd.sizeOf9
  v9 := Tryd.zeroValue9
  t46 := Tryd.underlying105
  a46 := Tryd.isAgg105
  z46 := Tryd.sizeOf105
  v46 := Tryd.zeroValue105
  t51 := Tryd.underlying114
  a51 := Tryd.isAgg114
  z51 := Tryd.sizeOf114
  v51 := Tryd.zeroValue114
  t146 := Tryd.underlying117
  a146 := Tryd.isAgg117
  z146 := Tryd.sizeOf117
  v146 := Tryd.zeroValue117
  g1 := by kernel_rfl }
open Go.RowKit Go.Lib in
/-- internal/stringslite.Cut (what strings.Cut calls): IT RETURNS 'Lib.cut s sep'; the world is as it was but for the count of draws. (LAID: no walk: one application.) -/
theorem Tryd.stringslite_Cut (s sep : ByteArray) (m : Int) (w : World) (hs : s.size < 4294967281) (hm : w.cell? ⟨0, 0, none⟩ = some (.int .i64 m)) :
    Calls Tryd.prog 82 #[.string s, .string sep] w fun e w' => e = .returned (.tuple #[.string ⟨(Lib.cut s.data.toList sep.data.toList).1.toArray⟩, .string ⟨(Lib.cut s.data.toList sep.data.toList).2.1.toArray⟩, .bool (Lib.cut s.data.toList sep.data.toList).2.2]) ∧ ∃ n, w' = w.drewN n := Any.stringslite_Cut Tryd.lays220 s sep m w hs hm
def Tryd.lays145_ren : Go.Shelf.Ren := ⟨fun | 145 => 74 | 220 => 82 | 219 => 85 | 217 => 90 | 225 => 91 | 224 => 92 | 267 => 93 | 266 => 99 | 314 => 100 | n => n, fun | 9 => 9 | 4 => 4 | 59 => 95 | 3 => 3 | 5 => 5 | 46 => 105 | 146 => 117 | 51 => 114 | n => n, fun | 1 => 0 | n => n⟩
theorem Tryd.lays145 : Go.Proofs.Lays.n145 Tryd.prog Tryd.lays145_ren := {
  mixed := by kernel_rfl
  f145 := Tryd.func74.trans (congrArg some (by kernel_rfl))
  f217 := Tryd.func90.trans (congrArg some (by kernel_rfl))
  f219 := Tryd.func85.trans (congrArg some (by kernel_rfl))
  f220 := Tryd.func82.trans (congrArg some (by kernel_rfl))
  f224 := Tryd.func92.trans (congrArg some (by kernel_rfl))
  f225 := Tryd.func91.trans (congrArg some (by kernel_rfl))
  f266 := Tryd.func99.trans (congrArg some (by kernel_rfl))
  f267 := Tryd.func93.trans (congrArg some (by kernel_rfl))
  f314 := Tryd.func100.trans (congrArg some (by kernel_rfl))
  t3 := Tryd.underlying3
  a3 := Tryd.isAgg3
  z3 := Tryd.sizeOf3
  v3 := Tryd.zeroValue3
  t4 := Tryd.underlying4
  a4 := Tryd.isAgg4
  z4 := Tryd.sizeOf4
  v4 := Tryd.zeroValue4
  t5 := Tryd.underlying5
  a5 := Tryd.isAgg5
  z5 := Tryd.sizeOf5
  v5 := Tryd.zeroValue5
  t9 := Tryd.underlying9
  a9 := Tryd.isAgg9
  z9 := Tryd.sizeOf9
  v9 := Tryd.zeroValue9
  t46 := Tryd.underlying105
  a46 := Tryd.isAgg105
  z46 := Tryd.sizeOf105
  v46 := Tryd.zeroValue105
  t51 := Tryd.underlying114
  a51 := Tryd.isAgg114
  z51 := Tryd.sizeOf114
  v51 := Tryd.zeroValue114
  t59 := Tryd.underlying95
  a59 := Tryd.isAgg95
  z59 := Tryd.sizeOf95
  v59 := Tryd.zeroValue95
  t146 := Tryd.underlying117
  a146 := Tryd.isAgg117
  z146 := Tryd.sizeOf117
  v146 := Tryd.zeroValue117
  g1 := by kernel_rfl }
open Go.RowKit Go.Lib in
/-- strings.Cut: "Cut slices s around the first instance of sep, returning the text before and after sep. The found result reports whether sep appears in s. If sep does not appear in s, cut returns s, "", false.": IT RETURNS 'Lib.cut s sep'; the world is as it was but for the count of draws. (LAID: no walk: one application.) -/
theorem Tryd.strings_Cut (s sep : ByteArray) (m : Int) (w : World) (hs : s.size < 4294967281) (hm : w.cell? ⟨0, 0, none⟩ = some (.int .i64 m)) :
    Calls Tryd.prog 74 #[.string s, .string sep] w fun e w' => e = .returned (.tuple #[.string ⟨(Lib.cut s.data.toList sep.data.toList).1.toArray⟩, .string ⟨(Lib.cut s.data.toList sep.data.toList).2.1.toArray⟩, .bool (Lib.cut s.data.toList sep.data.toList).2.2]) ∧ ∃ n, w' = w.drewN n := Any.strings_Cut Tryd.lays145 s sep m w hs hm
def Tryd.laysM219_ren : Go.Shelf.Ren := ⟨fun | 219 => 85 | 217 => 90 | 225 => 91 | 224 => 92 | 267 => 93 | 266 => 99 | 314 => 100 | n => n, fun | 9 => 9 | 3 => 3 | 4 => 4 | 5 => 5 | 46 => 105 | 146 => 117 | 51 => 114 | n => n, fun | 1 => 0 | n => n⟩
theorem Tryd.laysM219 : Go.Proofs.LaysM.n219 Tryd.prog Tryd.laysM219_ren := {
  mixed := by kernel_rfl
  f217 := Tryd.func90.trans (congrArg some (by kernel_rfl))
  f219 := Tryd.func85.trans (congrArg some (by kernel_rfl))
  f224 := Tryd.func92.trans (congrArg some (by kernel_rfl))
  f225 := Tryd.func91.trans (congrArg some (by kernel_rfl))
  f266 := Tryd.func99.trans (congrArg some (by kernel_rfl))
  f267 := Tryd.func93.trans (congrArg some (by kernel_rfl))
  f314 := Tryd.func100.trans (congrArg some (by kernel_rfl))
  t3 := Tryd.underlying3
  a3 := Tryd.isAgg3
  z3 := Tryd.sizeOf3
  v3 := Tryd.zeroValue3
  t4 := Tryd.underlying4
  a4 := Tryd.isAgg4
  z4 := Tryd.sizeOf4
  v4 := Tryd.zeroValue4
  t5 := Tryd.underlying5
  a5 := Tryd.isAgg5
  z5 := Tryd.sizeOf5
  v5 := Tryd.zeroValue5
  t9 := Tryd.underlying9
  a9 := Tryd.isAgg9
  z9 := Tryd.sizeOf9
  v9 := Tryd.zeroValue9
  t46 := Tryd.underlying105
  a46 := Tryd.isAgg105
  z46 := Tryd.sizeOf105
  v46 := Tryd.zeroValue105
  t51 := Tryd.underlying114
  a51 := Tryd.isAgg114
  z51 := Tryd.sizeOf114
  v51 := Tryd.zeroValue114
  t146 := Tryd.underlying117
  a146 := Tryd.isAgg117
  z146 := Tryd.sizeOf117
  v146 := Tryd.zeroValue117
  g1 := by kernel_rfl
  i3 := by kernel_rfl
  i4 := by kernel_rfl
  i5 := by kernel_rfl
  i9 := by kernel_rfl
  i46 := by kernel_rfl
  i51 := by kernel_rfl
  i146 := by kernel_rfl
  m1 := by kernel_rfl
  s1_3 := fun w h => Go.Proofs.cell_of_shapedOpen_int (zero := #[.int .i64 0]) (t := 3) h (of_decide_eq_true (by kernel_rfl)) (by kernel_rfl) rfl (by kernel_rfl) (by kernel_rfl) Tryd.underlying3 }
open Go.RowKit Go.Lib in
theorem Tryd.stringslite_Index_shaped (s sub : ByteArray) (w : World) (h : w.ShapedOpen Tryd.prog) (hs : s.size < 4294967281) :
    Calls Tryd.prog 85 #[.string s, .string sub] w fun e w' => e = .returned (.int .i64 (Lib.index s.data.toList sub.data.toList)) ∧ w' = w := Any.stringslite_Index_shaped Tryd.laysM219 s sub w h hs
def Tryd.laysM143_ren : Go.Shelf.Ren := ⟨fun | 143 => 79 | 219 => 85 | 217 => 90 | 225 => 91 | 224 => 92 | 267 => 93 | 266 => 99 | 314 => 100 | n => n, fun | 9 => 9 | 3 => 3 | 4 => 4 | 5 => 5 | 46 => 105 | 146 => 117 | 51 => 114 | n => n, fun | 1 => 0 | n => n⟩
theorem Tryd.laysM143 : Go.Proofs.LaysM.n143 Tryd.prog Tryd.laysM143_ren := {
  mixed := by kernel_rfl
  f143 := Tryd.func79.trans (congrArg some (by kernel_rfl))
  f217 := Tryd.func90.trans (congrArg some (by kernel_rfl))
  f219 := Tryd.func85.trans (congrArg some (by kernel_rfl))
  f224 := Tryd.func92.trans (congrArg some (by kernel_rfl))
  f225 := Tryd.func91.trans (congrArg some (by kernel_rfl))
  f266 := Tryd.func99.trans (congrArg some (by kernel_rfl))
  f267 := Tryd.func93.trans (congrArg some (by kernel_rfl))
  f314 := Tryd.func100.trans (congrArg some (by kernel_rfl))
  t3 := Tryd.underlying3
  a3 := Tryd.isAgg3
  z3 := Tryd.sizeOf3
  v3 := Tryd.zeroValue3
  t4 := Tryd.underlying4
  a4 := Tryd.isAgg4
  z4 := Tryd.sizeOf4
  v4 := Tryd.zeroValue4
  t5 := Tryd.underlying5
  a5 := Tryd.isAgg5
  z5 := Tryd.sizeOf5
  v5 := Tryd.zeroValue5
  t9 := Tryd.underlying9
  a9 := Tryd.isAgg9
  z9 := Tryd.sizeOf9
  v9 := Tryd.zeroValue9
  t46 := Tryd.underlying105
  a46 := Tryd.isAgg105
  z46 := Tryd.sizeOf105
  v46 := Tryd.zeroValue105
  t51 := Tryd.underlying114
  a51 := Tryd.isAgg114
  z51 := Tryd.sizeOf114
  v51 := Tryd.zeroValue114
  t146 := Tryd.underlying117
  a146 := Tryd.isAgg117
  z146 := Tryd.sizeOf117
  v146 := Tryd.zeroValue117
  g1 := by kernel_rfl
  i3 := by kernel_rfl
  i4 := by kernel_rfl
  i5 := by kernel_rfl
  i9 := by kernel_rfl
  i46 := by kernel_rfl
  i51 := by kernel_rfl
  i146 := by kernel_rfl
  m1 := by kernel_rfl
  s1_3 := fun w h => Go.Proofs.cell_of_shapedOpen_int (zero := #[.int .i64 0]) (t := 3) h (of_decide_eq_true (by kernel_rfl)) (by kernel_rfl) rfl (by kernel_rfl) (by kernel_rfl) Tryd.underlying3 }
open Go.RowKit Go.Lib in
theorem Tryd.strings_Index_shaped (s sub : ByteArray) (w : World) (h : w.ShapedOpen Tryd.prog) (hs : s.size < 4294967281) :
    Calls Tryd.prog 79 #[.string s, .string sub] w fun e w' => e = .returned (.int .i64 (Lib.index s.data.toList sub.data.toList)) ∧ w' = w := Any.strings_Index_shaped Tryd.laysM143 s sub w h hs
def Tryd.laysM144_ren : Go.Shelf.Ren := ⟨fun | 144 => 63 | 143 => 79 | 219 => 85 | 217 => 90 | 225 => 91 | 224 => 92 | 267 => 93 | 266 => 99 | 314 => 100 | n => n, fun | 9 => 9 | 4 => 4 | 3 => 3 | 5 => 5 | 46 => 105 | 146 => 117 | 51 => 114 | n => n, fun | 1 => 0 | n => n⟩
theorem Tryd.laysM144 : Go.Proofs.LaysM.n144 Tryd.prog Tryd.laysM144_ren := {
  mixed := by kernel_rfl
  f143 := Tryd.func79.trans (congrArg some (by kernel_rfl))
  f144 := Tryd.func63.trans (congrArg some (by kernel_rfl))
  f217 := Tryd.func90.trans (congrArg some (by kernel_rfl))
  f219 := Tryd.func85.trans (congrArg some (by kernel_rfl))
  f224 := Tryd.func92.trans (congrArg some (by kernel_rfl))
  f225 := Tryd.func91.trans (congrArg some (by kernel_rfl))
  f266 := Tryd.func99.trans (congrArg some (by kernel_rfl))
  f267 := Tryd.func93.trans (congrArg some (by kernel_rfl))
  f314 := Tryd.func100.trans (congrArg some (by kernel_rfl))
  t3 := Tryd.underlying3
  a3 := Tryd.isAgg3
  z3 := Tryd.sizeOf3
  v3 := Tryd.zeroValue3
  t4 := Tryd.underlying4
  a4 := Tryd.isAgg4
  z4 := Tryd.sizeOf4
  v4 := Tryd.zeroValue4
  t5 := Tryd.underlying5
  a5 := Tryd.isAgg5
  z5 := Tryd.sizeOf5
  v5 := Tryd.zeroValue5
  t9 := Tryd.underlying9
  a9 := Tryd.isAgg9
  z9 := Tryd.sizeOf9
  v9 := Tryd.zeroValue9
  t46 := Tryd.underlying105
  a46 := Tryd.isAgg105
  z46 := Tryd.sizeOf105
  v46 := Tryd.zeroValue105
  t51 := Tryd.underlying114
  a51 := Tryd.isAgg114
  z51 := Tryd.sizeOf114
  v51 := Tryd.zeroValue114
  t146 := Tryd.underlying117
  a146 := Tryd.isAgg117
  z146 := Tryd.sizeOf117
  v146 := Tryd.zeroValue117
  g1 := by kernel_rfl
  i3 := by kernel_rfl
  i4 := by kernel_rfl
  i5 := by kernel_rfl
  i9 := by kernel_rfl
  i46 := by kernel_rfl
  i51 := by kernel_rfl
  i146 := by kernel_rfl
  m1 := by kernel_rfl
  s1_3 := fun w h => Go.Proofs.cell_of_shapedOpen_int (zero := #[.int .i64 0]) (t := 3) h (of_decide_eq_true (by kernel_rfl)) (by kernel_rfl) rfl (by kernel_rfl) (by kernel_rfl) Tryd.underlying3 }
open Go.RowKit Go.Lib in
theorem Tryd.strings_Contains_shaped (s sub : ByteArray) (w : World) (h : w.ShapedOpen Tryd.prog) (hs : s.size < 4294967281) :
    Calls Tryd.prog 63 #[.string s, .string sub] w fun e w' => e = .returned (.bool (Lib.contains s.data.toList sub.data.toList)) ∧ w' = w := Any.strings_Contains_shaped Tryd.laysM144 s sub w h hs
def Tryd.laysM220_ren : Go.Shelf.Ren := ⟨fun | 220 => 82 | 219 => 85 | 217 => 90 | 225 => 91 | 224 => 92 | 267 => 93 | 266 => 99 | 314 => 100 | n => n, fun | 9 => 9 | 4 => 4 | 3 => 3 | 5 => 5 | 46 => 105 | 146 => 117 | 51 => 114 | n => n, fun | 1 => 0 | n => n⟩
theorem Tryd.laysM220 : Go.Proofs.LaysM.n220 Tryd.prog Tryd.laysM220_ren := {
  mixed := by kernel_rfl
  f217 := Tryd.func90.trans (congrArg some (by kernel_rfl))
  f219 := Tryd.func85.trans (congrArg some (by kernel_rfl))
  f220 := Tryd.func82.trans (congrArg some (by kernel_rfl))
  f224 := Tryd.func92.trans (congrArg some (by kernel_rfl))
  f225 := Tryd.func91.trans (congrArg some (by kernel_rfl))
  f266 := Tryd.func99.trans (congrArg some (by kernel_rfl))
  f267 := Tryd.func93.trans (congrArg some (by kernel_rfl))
  f314 := Tryd.func100.trans (congrArg some (by kernel_rfl))
  t3 := Tryd.underlying3
  a3 := Tryd.isAgg3
  z3 := Tryd.sizeOf3
  v3 := Tryd.zeroValue3
  t4 := Tryd.underlying4
  a4 := Tryd.isAgg4
  z4 := Tryd.sizeOf4
  v4 := Tryd.zeroValue4
  t5 := Tryd.underlying5
  a5 := Tryd.isAgg5
  z5 := Tryd.sizeOf5
  v5 := Tryd.zeroValue5
  t9 := Tryd.underlying9
  a9 := Tryd.isAgg9
  z9 := Tryd.sizeOf9
  v9 := Tryd.zeroValue9
  t46 := Tryd.underlying105
  a46 := Tryd.isAgg105
  z46 := Tryd.sizeOf105
  v46 := Tryd.zeroValue105
  t51 := Tryd.underlying114
  a51 := Tryd.isAgg114
  z51 := Tryd.sizeOf114
  v51 := Tryd.zeroValue114
  t146 := Tryd.underlying117
  a146 := Tryd.isAgg117
  z146 := Tryd.sizeOf117
  v146 := Tryd.zeroValue117
  g1 := by kernel_rfl
  i3 := by kernel_rfl
  i4 := by kernel_rfl
  i5 := by kernel_rfl
  i9 := by kernel_rfl
  i46 := by kernel_rfl
  i51 := by kernel_rfl
  i146 := by kernel_rfl
  m1 := by kernel_rfl
  s1_3 := fun w h => Go.Proofs.cell_of_shapedOpen_int (zero := #[.int .i64 0]) (t := 3) h (of_decide_eq_true (by kernel_rfl)) (by kernel_rfl) rfl (by kernel_rfl) (by kernel_rfl) Tryd.underlying3 }
open Go.RowKit Go.Lib in
theorem Tryd.stringslite_Cut_shaped (s sep : ByteArray) (w : World) (h : w.ShapedOpen Tryd.prog) (hs : s.size < 4294967281) :
    Calls Tryd.prog 82 #[.string s, .string sep] w fun e w' => e = .returned (.tuple #[.string ⟨(Lib.cut s.data.toList sep.data.toList).1.toArray⟩, .string ⟨(Lib.cut s.data.toList sep.data.toList).2.1.toArray⟩, .bool (Lib.cut s.data.toList sep.data.toList).2.2]) ∧ ∃ n, w' = w.drewN n := Any.stringslite_Cut_shaped Tryd.laysM220 s sep w h hs
def Tryd.laysM145_ren : Go.Shelf.Ren := ⟨fun | 145 => 74 | 220 => 82 | 219 => 85 | 217 => 90 | 225 => 91 | 224 => 92 | 267 => 93 | 266 => 99 | 314 => 100 | n => n, fun | 9 => 9 | 4 => 4 | 59 => 95 | 3 => 3 | 5 => 5 | 46 => 105 | 146 => 117 | 51 => 114 | n => n, fun | 1 => 0 | n => n⟩
theorem Tryd.laysM145 : Go.Proofs.LaysM.n145 Tryd.prog Tryd.laysM145_ren := {
  mixed := by kernel_rfl
  f145 := Tryd.func74.trans (congrArg some (by kernel_rfl))
  f217 := Tryd.func90.trans (congrArg some (by kernel_rfl))
  f219 := Tryd.func85.trans (congrArg some (by kernel_rfl))
  f220 := Tryd.func82.trans (congrArg some (by kernel_rfl))
  f224 := Tryd.func92.trans (congrArg some (by kernel_rfl))
  f225 := Tryd.func91.trans (congrArg some (by kernel_rfl))
  f266 := Tryd.func99.trans (congrArg some (by kernel_rfl))
  f267 := Tryd.func93.trans (congrArg some (by kernel_rfl))
  f314 := Tryd.func100.trans (congrArg some (by kernel_rfl))
  t3 := Tryd.underlying3
  a3 := Tryd.isAgg3
  z3 := Tryd.sizeOf3
  v3 := Tryd.zeroValue3
  t4 := Tryd.underlying4
  a4 := Tryd.isAgg4
  z4 := Tryd.sizeOf4
  v4 := Tryd.zeroValue4
  t5 := Tryd.underlying5
  a5 := Tryd.isAgg5
  z5 := Tryd.sizeOf5
  v5 := Tryd.zeroValue5
  t9 := Tryd.underlying9
  a9 := Tryd.isAgg9
  z9 := Tryd.sizeOf9
  v9 := Tryd.zeroValue9
  t46 := Tryd.underlying105
  a46 := Tryd.isAgg105
  z46 := Tryd.sizeOf105
  v46 := Tryd.zeroValue105
  t51 := Tryd.underlying114
  a51 := Tryd.isAgg114
  z51 := Tryd.sizeOf114
  v51 := Tryd.zeroValue114
  t59 := Tryd.underlying95
  a59 := Tryd.isAgg95
  z59 := Tryd.sizeOf95
  v59 := Tryd.zeroValue95
  t146 := Tryd.underlying117
  a146 := Tryd.isAgg117
  z146 := Tryd.sizeOf117
  v146 := Tryd.zeroValue117
  g1 := by kernel_rfl
  i3 := by kernel_rfl
  i4 := by kernel_rfl
  i5 := by kernel_rfl
  i9 := by kernel_rfl
  i46 := by kernel_rfl
  i51 := by kernel_rfl
  i59 := by kernel_rfl
  i146 := by kernel_rfl
  m1 := by kernel_rfl
  s1_3 := fun w h => Go.Proofs.cell_of_shapedOpen_int (zero := #[.int .i64 0]) (t := 3) h (of_decide_eq_true (by kernel_rfl)) (by kernel_rfl) rfl (by kernel_rfl) (by kernel_rfl) Tryd.underlying3 }
open Go.RowKit Go.Lib in
theorem Tryd.strings_Cut_shaped (s sep : ByteArray) (w : World) (h : w.ShapedOpen Tryd.prog) (hs : s.size < 4294967281) :
    Calls Tryd.prog 74 #[.string s, .string sep] w fun e w' => e = .returned (.tuple #[.string ⟨(Lib.cut s.data.toList sep.data.toList).1.toArray⟩, .string ⟨(Lib.cut s.data.toList sep.data.toList).2.1.toArray⟩, .bool (Lib.cut s.data.toList sep.data.toList).2.2]) ∧ ∃ n, w' = w.drewN n := Any.strings_Cut_shaped Tryd.laysM145 s sep w h hs
end Go.Proofs.YtdohjcodjjogbaaDoor

/- The slim functions of this seat (printed by a program; each is checked against the program by the kernel in SlimOk). -/
namespace Go.Proofs.YtdohjcodjjogbaaDoor.Slim
open Go
abbrev f_main_main : FuncId := 0
abbrev f_gosem_cut : FuncId := 1
abbrev f_gosem_cut_init : FuncId := 2
abbrev f_l_FnExactEncodeRecord : FuncId := 3
abbrev f_l_FnExactRecoverLog : FuncId := 4
abbrev f_l_FnExactIsValidLog : FuncId := 5
abbrev f_l_FnExactCrashLog : FuncId := 6
abbrev f_l_FnExactSyncLog : FuncId := 7
abbrev f_l_FnExactAppendRecord : FuncId := 8
abbrev f_l_FnExactLogRecords : FuncId := 9
abbrev f_l_FnLogs : FuncId := 10
abbrev f_l_FnCrashes : FuncId := 11
abbrev f_l_szLogRecord : FuncId := 12
abbrev f_s_EncodeRecord : FuncId := 13
abbrev f_l_toLogRecord : FuncId := 14
abbrev f_i_EncodeRecord : FuncId := 15
abbrev f_s_RecoverLog : FuncId := 16
abbrev f_i_RecoverLog : FuncId := 17
abbrev f_l_eqLog : FuncId := 18
abbrev f_l_szLog : FuncId := 19
abbrev f_s_IsValidLog : FuncId := 20
abbrev f_l_toLog : FuncId := 21
abbrev f_i_IsValidLog : FuncId := 22
abbrev f_s_CrashLog : FuncId := 23
abbrev f_i_CrashLog : FuncId := 24
abbrev f_s_SyncLog : FuncId := 25
abbrev f_i_SyncLog : FuncId := 26
abbrev f_s_AppendRecord : FuncId := 27
abbrev f_i_AppendRecord : FuncId := 28
abbrev f_s_LogRecords : FuncId := 29
abbrev f_i_LogRecords : FuncId := 30
abbrev f_l_eqLogRecordS : FuncId := 31
abbrev f_l_markLogRecordS : FuncId := 32
abbrev f_l_heldLogRecordS : FuncId := 33
abbrev f_l_vBig : FuncId := 34
abbrev f_s_DrawIsValidRecord : FuncId := 35
abbrev f_s_DrawEncodeRecord : FuncId := 36
abbrev f_l_vCut : FuncId := 37
abbrev f_s_DrawIsValidLog : FuncId := 38
abbrev f_s_DrawAppendRecord : FuncId := 39
abbrev f_i_IsValidRecord : FuncId := 40
abbrev f_s_IsValidRecord : FuncId := 41
abbrev f_l_vRecords : FuncId := 42
abbrev f_s_DrawCrashLog : FuncId := 43
abbrev f_s_DrawRecoverLog : FuncId := 44
abbrev f_s_l1In : FuncId := 45
abbrev f_s_l12Record : FuncId := 46
abbrev f_s_l12Line : FuncId := 47
abbrev f_i_within : FuncId := 48
abbrev f_i_AppendChecksum : FuncId := 49
abbrev f_strconv_Itoa : FuncId := 50
abbrev f_s_l12Open : FuncId := 51
abbrev f_i_recoverRecords : FuncId := 52
abbrev f_s_l12Valid : FuncId := 53
abbrev f_i_logRecords : FuncId := 54
abbrev f_l_eqLogRecord : FuncId := 55
abbrev f_l_markText : FuncId := 56
abbrev f_s_l1Cur_logRecord : FuncId := 57
abbrev f_s_l1Cur_among : FuncId := 58
abbrev f_s_l1Cur_anyLog : FuncId := 59
abbrev f_s_l1Cur_one : FuncId := 60
abbrev f_s_l1Cur_pick : FuncId := 61
abbrev f_i_isText : FuncId := 62
abbrev f_strings_Contains : FuncId := 63
abbrev f_s_l1Cur_log12 : FuncId := 64
abbrev f_s_l1Cur_spoilt : FuncId := 65
abbrev f_s_l12Bytes : FuncId := 66
abbrev f_s_l1Stands : FuncId := 67
abbrev f_s_l1Seal : FuncId := 68
abbrev f_s_l1Num : FuncId := 69
abbrev f_i_Checksum : FuncId := 70
abbrev f_internal_strconv_Itoa : FuncId := 71
abbrev f_s_l1Split : FuncId := 72
abbrev f_s_l12Decode : FuncId := 73
abbrev f_strings_Cut : FuncId := 74
abbrev f_i_decode : FuncId := 75
abbrev f_slices_Contains_Sint_int : FuncId := 76
abbrev f_s_l1Cur_of : FuncId := 77
abbrev f_s_l1Cur_next : FuncId := 78
abbrev f_strings_Index : FuncId := 79
abbrev f_s_l1Sum : FuncId := 80
abbrev f_internal_strconv_FormatInt : FuncId := 81
abbrev f_internal_stringslite_Cut : FuncId := 82
abbrev f_i_VerifyChecksum : FuncId := 83
abbrev f_slices_Index_Sint_int : FuncId := 84
abbrev f_internal_stringslite_Index : FuncId := 85
abbrev f_internal_strconv_small : FuncId := 86
abbrev f_internal_strconv_numDigits : FuncId := 87
abbrev f_internal_strconv_formatBase10 : FuncId := 88
abbrev f_internal_strconv_formatBits : FuncId := 89
abbrev f_internal_stringslite_IndexByte : FuncId := 90
abbrev f_internal_bytealg_IndexString : FuncId := 91
abbrev f_internal_bytealg_Cutover : FuncId := 92
abbrev f_internal_bytealg_IndexRabinKarp_string : FuncId := 93
abbrev f_internal_strconv_log10Pow2 : FuncId := 94
abbrev f_math_bits_Len64 : FuncId := 95
abbrev f_internal_strconv_bool2_int : FuncId := 96
abbrev f_internal_strconv_isPowerOfTwo : FuncId := 97
abbrev f_math_bits_TrailingZeros : FuncId := 98
abbrev f_internal_bytealg_IndexByteString : FuncId := 99
abbrev f_internal_bytealg_hashStr_string : FuncId := 100
abbrev f_math_bits_TrailingZeros32 : FuncId := 101
abbrev f_math_bits_TrailingZeros64 : FuncId := 102
abbrev f_runtime_boundsError_Error : FuncId := 103
abbrev f_runtime_boundsError_RuntimeError : FuncId := 104
abbrev f_runtime_errorString_Error : FuncId := 105
abbrev f_runtime_errorString_RuntimeError : FuncId := 106
abbrev f_runtime_plainError_Error : FuncId := 107
abbrev f_runtime_plainError_RuntimeError : FuncId := 108
abbrev f_runtime_errorAddressString_Error : FuncId := 109
abbrev f_runtime_errorAddressString_RuntimeError : FuncId := 110
abbrev f_runtime_TypeAssertionError_Error : FuncId := 111
abbrev f_runtime_TypeAssertionError_RuntimeError : FuncId := 112
abbrev f_runtime_PanicNilError_Error : FuncId := 113
abbrev f_runtime_PanicNilError_RuntimeError : FuncId := 114
abbrev f_internal_abi_Type_Align : FuncId := 115
abbrev f_internal_runtime_maps_unhashableTypeError_Error : FuncId := 116
abbrev f_internal_runtime_maps_unhashableTypeError_RuntimeError : FuncId := 117
abbrev f_s_l1Cur_any1 : FuncId := 118
abbrev f_internal_abi_Kind_String : FuncId := 119
abbrev f_var_s_door__gosem_cut_vars_holds_initialisers_alone__see_the_manifest_s_row_cutvarsword_look_11__test_files_too : FuncId := 120
abbrev f_var_s_door__internal_strconv_uint64pow10_is_laid_by_its_own_initialiser__plain_data_look_11 : FuncId := 121
abbrev f_var_s_door__math_bits_deBruijn32tab_is_laid_by_its_own_initialiser__plain_data_look_11 : FuncId := 122
abbrev f_var_s_door__math_bits_deBruijn64tab_is_laid_by_its_own_initialiser__plain_data_look_11 : FuncId := 123
abbrev f_var_s_door__the_look_of_gosem_cut_vars_went_over_the_folder_that_the_caller_named_as_the_repository_s_root_look_11 : FuncId := 124
abbrev f_gosem_cut_vars : FuncId := 125
def c_gosem_cut_init : ACode :=
 (.region [⟨.call (.c (.fn f_gosem_cut [] [])) [], none⟩] [])
def a_gosem_cut_init : AFun := ⟨[], 1, c_gosem_cut_init, [], 1⟩
def c_l_FnExactEncodeRecord : ACode :=
 (.seq (.region [⟨.box (.t 1), none⟩, ⟨.mv (.c (.bool false)), none⟩] [(2, 0), (3, 1)])
 (.seq (.region [⟨.mv (.c (.int .i64 (1048576))), none⟩] [(4, 0)])
 (.seq (.region [⟨.load true 2 (.t 2), none⟩, ⟨.mv (.t 4), none⟩, ⟨.call (.c (.fn f_l_szLogRecord [] [])) [(.l 0), (.l 1)], none⟩, ⟨.mv (.l 2), none⟩] [(4, 3)])
 (.seq (.seq (.region [⟨.mv (.t 4), none⟩, ⟨.bin 0 .lss (.l 0) (.c (.int .i64 (0))), none⟩] [(9, 1)])
 (.cond (.t 9) (.seq (.region [⟨.mv (.c (.bool true)), none⟩] [(3, 0)])
 .ret) .skip))
 (.seq (.region [⟨.mv (.t 0), none⟩, ⟨.load true 2 (.t 2), none⟩, ⟨.call (.c (.fn f_l_toLogRecord [] [])) [(.l 1)], none⟩, ⟨.call (.c (.fn f_s_EncodeRecord [] [])) [(.l 0), (.l 2)], none⟩, ⟨.mv (.l 3), none⟩, ⟨.extract 0 (.l 4), none⟩, ⟨.extract 1 (.l 4), none⟩, ⟨.mv (.l 5), none⟩, ⟨.mv (.l 6), none⟩] [(5, 7), (6, 8)])
 (.seq (.region [⟨.mv (.t 0), none⟩, ⟨.load true 2 (.t 2), none⟩, ⟨.call (.c (.fn f_l_toLogRecord [] [])) [(.l 1)], none⟩, ⟨.call (.c (.fn f_i_EncodeRecord [] [])) [(.l 0), (.l 2)], none⟩, ⟨.mv (.l 3), none⟩, ⟨.extract 0 (.l 4), none⟩, ⟨.extract 1 (.l 4), none⟩, ⟨.mv (.l 5), none⟩, ⟨.mv (.l 6), none⟩] [(7, 7), (8, 8)])
 (.seq (.seq (.region [⟨.mv (.t 7), none⟩, ⟨.mv (.t 5), none⟩, ⟨.bin 1 .neq (.l 0) (.l 1), none⟩, ⟨.mv (.l 2), none⟩, ⟨.mv (.t 8), some ((.l 3), false)⟩, ⟨.mv (.t 6), some ((.l 3), false)⟩, ⟨.bin 2 .neq (.l 4) (.l 5), some ((.l 3), false)⟩, ⟨.pick (.l 3) (.c (.bool true)) (.l 6), none⟩] [(10, 7)])
 (.cond (.t 10) (.seq (.region [⟨.mv (.c (.bool false)), none⟩] [(3, 0)])
 .ret) .skip))
 (.seq (.region [⟨.mv (.c (.bool true)), none⟩] [(3, 0)])
 .ret))))))))
def a_l_FnExactEncodeRecord : AFun := ⟨[0, 1, 3, 4, 5, 6, 7, 8, 9, 14, 36], 37, c_l_FnExactEncodeRecord, [.tmp 3], 1⟩
def c_l_FnExactRecoverLog : ACode :=
 (.seq (.region [⟨.mv (.c (.bool false)), none⟩] [(1, 0)])
 (.seq (.seq (.region [⟨.mv (.t 0), none⟩, ⟨.lenStr (.l 0), none⟩, ⟨.bin 0 .gtr (.l 1) (.c (.int .i64 (1048576))), none⟩] [(8, 2)])
 (.cond (.t 8) (.seq (.region [⟨.mv (.c (.bool true)), none⟩] [(1, 0)])
 .ret) .skip))
 (.seq (.region [⟨.mv (.t 0), none⟩, ⟨.call (.c (.fn f_s_RecoverLog [] [])) [(.l 0)], none⟩, ⟨.mv (.l 1), none⟩, ⟨.extract 0 (.l 2), none⟩, ⟨.extract 1 (.l 2), none⟩, ⟨.extract 2 (.l 2), none⟩, ⟨.alloc [.str ⟨#[]⟩, .str ⟨#[]⟩, .int .i64 (0)], none⟩, ⟨.store 3 (.l 6) (.l 3), none⟩, ⟨.mv (.l 4), none⟩, ⟨.mv (.l 5), none⟩] [(2, 6), (3, 8), (4, 9)])
 (.seq (.region [⟨.mv (.t 0), none⟩, ⟨.call (.c (.fn f_i_RecoverLog [] [])) [(.l 0)], none⟩, ⟨.mv (.l 1), none⟩, ⟨.extract 0 (.l 2), none⟩, ⟨.extract 1 (.l 2), none⟩, ⟨.extract 2 (.l 2), none⟩, ⟨.alloc [.str ⟨#[]⟩, .str ⟨#[]⟩, .int .i64 (0)], none⟩, ⟨.store 3 (.l 6) (.l 3), none⟩, ⟨.mv (.l 4), none⟩, ⟨.mv (.l 5), none⟩] [(5, 6), (6, 8), (7, 9)])
 (.seq (.seq (.region [⟨.load true 3 (.t 5), none⟩, ⟨.load true 3 (.t 2), none⟩, ⟨.call (.c (.fn f_l_eqLog [] [])) [(.l 0), (.l 1)], none⟩, ⟨.un .not (.l 2), none⟩, ⟨.mv (.l 3), none⟩, ⟨.mv (.t 6), some ((.l 4), false)⟩, ⟨.mv (.t 3), some ((.l 4), false)⟩, ⟨.bin 0 .neq (.l 5) (.l 6), some ((.l 4), false)⟩, ⟨.pick (.l 4) (.c (.bool true)) (.l 7), none⟩, ⟨.mv (.l 8), none⟩, ⟨.mv (.t 7), some ((.l 9), false)⟩, ⟨.mv (.t 4), some ((.l 9), false)⟩, ⟨.bin 2 .neq (.l 10) (.l 11), some ((.l 9), false)⟩, ⟨.pick (.l 9) (.c (.bool true)) (.l 12), none⟩] [(9, 13)])
 (.cond (.t 9) (.seq (.region [⟨.mv (.c (.bool false)), none⟩] [(1, 0)])
 .ret) .skip))
 (.seq (.region [⟨.mv (.c (.bool true)), none⟩] [(1, 0)])
 .ret))))))
def a_l_FnExactRecoverLog : AFun := ⟨[0, 2, 3, 4, 5, 6, 7, 8, 11, 37], 38, c_l_FnExactRecoverLog, [.tmp 1], 1⟩
def c_l_FnExactIsValidLog : ACode :=
 (.seq (.region [⟨.box (.t 0), none⟩, ⟨.mv (.c (.bool false)), none⟩] [(1, 0), (2, 1)])
 (.seq (.region [⟨.mv (.c (.int .i64 (1048576))), none⟩] [(3, 0)])
 (.seq (.region [⟨.load true 3 (.t 1), none⟩, ⟨.mv (.t 3), none⟩, ⟨.call (.c (.fn f_l_szLog [] [])) [(.l 0), (.l 1)], none⟩, ⟨.mv (.l 2), none⟩] [(3, 3)])
 (.seq (.seq (.region [⟨.mv (.t 3), none⟩, ⟨.bin 0 .lss (.l 0) (.c (.int .i64 (0))), none⟩] [(6, 1)])
 (.cond (.t 6) (.seq (.region [⟨.mv (.c (.bool true)), none⟩] [(2, 0)])
 .ret) .skip))
 (.seq (.region [⟨.load true 3 (.t 1), none⟩, ⟨.call (.c (.fn f_l_toLog [] [])) [(.l 0)], none⟩, ⟨.call (.c (.fn f_s_IsValidLog [] [])) [(.l 1)], none⟩, ⟨.mv (.l 2), none⟩] [(4, 3)])
 (.seq (.region [⟨.load true 3 (.t 1), none⟩, ⟨.call (.c (.fn f_l_toLog [] [])) [(.l 0)], none⟩, ⟨.call (.c (.fn f_i_IsValidLog [] [])) [(.l 1)], none⟩, ⟨.mv (.l 2), none⟩] [(5, 3)])
 (.seq (.seq (.region [⟨.mv (.t 5), none⟩, ⟨.mv (.t 4), none⟩, ⟨.bin 2 .neq (.l 0) (.l 1), none⟩] [(7, 2)])
 (.cond (.t 7) (.seq (.region [⟨.mv (.c (.bool false)), none⟩] [(2, 0)])
 .ret) .skip))
 (.seq (.region [⟨.mv (.c (.bool true)), none⟩] [(2, 0)])
 .ret))))))))
def a_l_FnExactIsValidLog : AFun := ⟨[0, 1, 2, 3, 4, 5, 10, 19], 20, c_l_FnExactIsValidLog, [.tmp 2], 1⟩
def c_l_FnExactCrashLog : ACode :=
 (.seq (.region [⟨.box (.t 0), none⟩, ⟨.mv (.c (.bool false)), none⟩] [(3, 0), (4, 1)])
 (.seq (.region [⟨.mv (.c (.int .i64 (1048576))), none⟩] [(5, 0)])
 (.seq (.region [⟨.load true 3 (.t 3), none⟩, ⟨.mv (.t 5), none⟩, ⟨.call (.c (.fn f_l_szLog [] [])) [(.l 0), (.l 1)], none⟩, ⟨.mv (.l 2), none⟩] [(5, 3)])
 (.seq (.seq (.region [⟨.mv (.t 5), none⟩, ⟨.bin 0 .lss (.l 0) (.c (.int .i64 (0))), none⟩] [(10, 1)])
 (.cond (.t 10) (.seq (.region [⟨.mv (.c (.bool true)), none⟩] [(4, 0)])
 .ret) .skip))
 (.seq (.region [⟨.load true 3 (.t 3), none⟩, ⟨.call (.c (.fn f_l_toLog [] [])) [(.l 0)], none⟩, ⟨.mv (.t 1), none⟩, ⟨.mv (.t 2), none⟩, ⟨.call (.c (.fn f_s_CrashLog [] [])) [(.l 1), (.l 2), (.l 3)], none⟩, ⟨.mv (.l 4), none⟩, ⟨.extract 0 (.l 5), none⟩, ⟨.extract 1 (.l 5), none⟩, ⟨.mv (.l 6), none⟩, ⟨.mv (.l 7), none⟩] [(6, 8), (7, 9)])
 (.seq (.region [⟨.load true 3 (.t 3), none⟩, ⟨.call (.c (.fn f_l_toLog [] [])) [(.l 0)], none⟩, ⟨.mv (.t 1), none⟩, ⟨.mv (.t 2), none⟩, ⟨.call (.c (.fn f_i_CrashLog [] [])) [(.l 1), (.l 2), (.l 3)], none⟩, ⟨.mv (.l 4), none⟩, ⟨.extract 0 (.l 5), none⟩, ⟨.extract 1 (.l 5), none⟩, ⟨.mv (.l 6), none⟩, ⟨.mv (.l 7), none⟩] [(8, 8), (9, 9)])
 (.seq (.seq (.region [⟨.mv (.t 8), none⟩, ⟨.mv (.t 6), none⟩, ⟨.bin 1 .neq (.l 0) (.l 1), none⟩, ⟨.mv (.l 2), none⟩, ⟨.mv (.t 9), some ((.l 3), false)⟩, ⟨.mv (.t 7), some ((.l 3), false)⟩, ⟨.bin 2 .neq (.l 4) (.l 5), some ((.l 3), false)⟩, ⟨.pick (.l 3) (.c (.bool true)) (.l 6), none⟩] [(11, 7)])
 (.cond (.t 11) (.seq (.region [⟨.mv (.c (.bool false)), none⟩] [(4, 0)])
 .ret) .skip))
 (.seq (.region [⟨.mv (.c (.bool true)), none⟩] [(4, 0)])
 .ret))))))))
def a_l_FnExactCrashLog : AFun := ⟨[0, 1, 2, 3, 6, 7, 8, 9, 10, 11, 16, 40], 41, c_l_FnExactCrashLog, [.tmp 4], 1⟩
def c_l_FnExactSyncLog : ACode :=
 (.seq (.region [⟨.box (.t 0), none⟩, ⟨.mv (.c (.bool false)), none⟩] [(1, 0), (2, 1)])
 (.seq (.region [⟨.mv (.c (.int .i64 (1048576))), none⟩] [(3, 0)])
 (.seq (.region [⟨.load true 3 (.t 1), none⟩, ⟨.mv (.t 3), none⟩, ⟨.call (.c (.fn f_l_szLog [] [])) [(.l 0), (.l 1)], none⟩, ⟨.mv (.l 2), none⟩] [(3, 3)])
 (.seq (.seq (.region [⟨.mv (.t 3), none⟩, ⟨.bin 0 .lss (.l 0) (.c (.int .i64 (0))), none⟩] [(8, 1)])
 (.cond (.t 8) (.seq (.region [⟨.mv (.c (.bool true)), none⟩] [(2, 0)])
 .ret) .skip))
 (.seq (.region [⟨.load true 3 (.t 1), none⟩, ⟨.call (.c (.fn f_l_toLog [] [])) [(.l 0)], none⟩, ⟨.call (.c (.fn f_s_SyncLog [] [])) [(.l 1)], none⟩, ⟨.mv (.l 2), none⟩, ⟨.extract 0 (.l 3), none⟩, ⟨.extract 1 (.l 3), none⟩, ⟨.alloc [.str ⟨#[]⟩, .str ⟨#[]⟩, .int .i64 (0)], none⟩, ⟨.store 3 (.l 6) (.l 4), none⟩, ⟨.mv (.l 5), none⟩] [(4, 6), (5, 8)])
 (.seq (.region [⟨.load true 3 (.t 1), none⟩, ⟨.call (.c (.fn f_l_toLog [] [])) [(.l 0)], none⟩, ⟨.call (.c (.fn f_i_SyncLog [] [])) [(.l 1)], none⟩, ⟨.mv (.l 2), none⟩, ⟨.extract 0 (.l 3), none⟩, ⟨.extract 1 (.l 3), none⟩, ⟨.alloc [.str ⟨#[]⟩, .str ⟨#[]⟩, .int .i64 (0)], none⟩, ⟨.store 3 (.l 6) (.l 4), none⟩, ⟨.mv (.l 5), none⟩] [(6, 6), (7, 8)])
 (.seq (.seq (.region [⟨.load true 3 (.t 6), none⟩, ⟨.load true 3 (.t 4), none⟩, ⟨.call (.c (.fn f_l_eqLog [] [])) [(.l 0), (.l 1)], none⟩, ⟨.un .not (.l 2), none⟩, ⟨.mv (.l 3), none⟩, ⟨.mv (.t 7), some ((.l 4), false)⟩, ⟨.mv (.t 5), some ((.l 4), false)⟩, ⟨.bin 2 .neq (.l 5) (.l 6), some ((.l 4), false)⟩, ⟨.pick (.l 4) (.c (.bool true)) (.l 7), none⟩] [(9, 8)])
 (.cond (.t 9) (.seq (.region [⟨.mv (.c (.bool false)), none⟩] [(2, 0)])
 .ret) .skip))
 (.seq (.region [⟨.mv (.c (.bool true)), none⟩] [(2, 0)])
 .ret))))))))
def a_l_FnExactSyncLog : AFun := ⟨[0, 1, 2, 3, 4, 5, 6, 7, 12, 33], 34, c_l_FnExactSyncLog, [.tmp 2], 1⟩
def c_l_FnExactAppendRecord : ACode :=
 (.seq (.region [⟨.box (.t 0), none⟩, ⟨.box (.t 1), none⟩, ⟨.mv (.c (.bool false)), none⟩] [(2, 0), (3, 1), (4, 2)])
 (.seq (.region [⟨.mv (.c (.int .i64 (1048576))), none⟩] [(5, 0)])
 (.seq (.region [⟨.load true 3 (.t 2), none⟩, ⟨.mv (.t 5), none⟩, ⟨.call (.c (.fn f_l_szLog [] [])) [(.l 0), (.l 1)], none⟩, ⟨.mv (.l 2), none⟩] [(5, 3)])
 (.seq (.seq (.region [⟨.mv (.t 5), none⟩, ⟨.bin 0 .lss (.l 0) (.c (.int .i64 (0))), none⟩] [(10, 1)])
 (.cond (.t 10) (.seq (.region [⟨.mv (.c (.bool true)), none⟩] [(4, 0)])
 .ret) .skip))
 (.seq (.region [⟨.load true 2 (.t 3), none⟩, ⟨.mv (.t 5), none⟩, ⟨.call (.c (.fn f_l_szLogRecord [] [])) [(.l 0), (.l 1)], none⟩, ⟨.mv (.l 2), none⟩] [(5, 3)])
 (.seq (.seq (.region [⟨.mv (.t 5), none⟩, ⟨.bin 0 .lss (.l 0) (.c (.int .i64 (0))), none⟩] [(11, 1)])
 (.cond (.t 11) (.seq (.region [⟨.mv (.c (.bool true)), none⟩] [(4, 0)])
 .ret) .skip))
 (.seq (.draw [⟨.load true 3 (.t 2), none, []⟩, ⟨.load true 2 (.t 3), none, []⟩, ⟨.call (.c (.fn f_l_toLog [] [])) [(.l 0)], none, [(1, ⟨.load true 2 (.t 3), none⟩)]⟩, ⟨.call (.c (.fn f_l_toLogRecord [] [])) [(.l 1)], none, []⟩, ⟨.call (.c (.fn f_s_AppendRecord [] [])) [(.l 2), (.l 3)], none, []⟩, ⟨.mv (.l 4), none, []⟩, ⟨.extract 0 (.l 5), none, []⟩, ⟨.extract 1 (.l 5), none, []⟩, ⟨.alloc [.str ⟨#[]⟩, .str ⟨#[]⟩, .int .i64 (0)], none, [(0, ⟨.load true 3 (.t 2), none⟩), (1, ⟨.load true 2 (.t 3), none⟩)]⟩, ⟨.store 3 (.l 8) (.l 6), none, []⟩, ⟨.mv (.l 7), none, []⟩] [(6, 8), (7, 10)])
 (.seq (.draw [⟨.load true 3 (.t 2), none, []⟩, ⟨.load true 2 (.t 3), none, []⟩, ⟨.call (.c (.fn f_l_toLog [] [])) [(.l 0)], none, [(1, ⟨.load true 2 (.t 3), none⟩)]⟩, ⟨.call (.c (.fn f_l_toLogRecord [] [])) [(.l 1)], none, []⟩, ⟨.call (.c (.fn f_i_AppendRecord [] [])) [(.l 2), (.l 3)], none, []⟩, ⟨.mv (.l 4), none, []⟩, ⟨.extract 0 (.l 5), none, []⟩, ⟨.extract 1 (.l 5), none, []⟩, ⟨.alloc [.str ⟨#[]⟩, .str ⟨#[]⟩, .int .i64 (0)], none, [(0, ⟨.load true 3 (.t 2), none⟩), (1, ⟨.load true 2 (.t 3), none⟩)]⟩, ⟨.store 3 (.l 8) (.l 6), none, []⟩, ⟨.mv (.l 7), none, []⟩] [(8, 8), (9, 10)])
 (.seq (.seq (.region [⟨.load true 3 (.t 8), none⟩, ⟨.load true 3 (.t 6), none⟩, ⟨.call (.c (.fn f_l_eqLog [] [])) [(.l 0), (.l 1)], none⟩, ⟨.un .not (.l 2), none⟩, ⟨.mv (.l 3), none⟩, ⟨.mv (.t 9), some ((.l 4), false)⟩, ⟨.mv (.t 7), some ((.l 4), false)⟩, ⟨.bin 0 .neq (.l 5) (.l 6), some ((.l 4), false)⟩, ⟨.pick (.l 4) (.c (.bool true)) (.l 7), none⟩] [(12, 8)])
 (.cond (.t 12) (.seq (.region [⟨.mv (.c (.bool false)), none⟩] [(4, 0)])
 .ret) .skip))
 (.seq (.region [⟨.mv (.c (.bool true)), none⟩] [(4, 0)])
 .ret))))))))))
def a_l_FnExactAppendRecord : AFun := ⟨[0, 1, 2, 3, 4, 5, 6, 7, 8, 9, 14, 19, 44], 45, c_l_FnExactAppendRecord, [.tmp 4], 1⟩
def c_l_FnExactLogRecords : ACode :=
 (.seq (.region [⟨.box (.t 0), none⟩, ⟨.mv (.c (.bool false)), none⟩] [(1, 0), (2, 1)])
 (.seq (.region [⟨.mv (.c (.int .i64 (1048576))), none⟩] [(3, 0)])
 (.seq (.region [⟨.load true 3 (.t 1), none⟩, ⟨.mv (.t 3), none⟩, ⟨.call (.c (.fn f_l_szLog [] [])) [(.l 0), (.l 1)], none⟩, ⟨.mv (.l 2), none⟩] [(3, 3)])
 (.seq (.seq (.region [⟨.mv (.t 3), none⟩, ⟨.bin 0 .lss (.l 0) (.c (.int .i64 (0))), none⟩] [(12, 1)])
 (.cond (.t 12) (.seq (.region [⟨.mv (.c (.bool true)), none⟩] [(2, 0)])
 .ret) .skip))
 (.seq (.region [⟨.load true 3 (.t 1), none⟩, ⟨.call (.c (.fn f_l_toLog [] [])) [(.l 0)], none⟩, ⟨.call (.c (.fn f_s_LogRecords [] [])) [(.l 1)], none⟩, ⟨.mv (.l 2), none⟩, ⟨.extract 0 (.l 3), none⟩, ⟨.extract 1 (.l 3), none⟩, ⟨.mv (.l 4), none⟩, ⟨.mv (.l 5), none⟩] [(4, 6), (5, 7)])
 (.seq (.region [⟨.load true 3 (.t 1), none⟩, ⟨.call (.c (.fn f_l_toLog [] [])) [(.l 0)], none⟩, ⟨.call (.c (.fn f_i_LogRecords [] [])) [(.l 1)], none⟩, ⟨.mv (.l 2), none⟩, ⟨.extract 0 (.l 3), none⟩, ⟨.extract 1 (.l 3), none⟩, ⟨.mv (.l 4), none⟩, ⟨.mv (.l 5), none⟩] [(6, 6), (7, 7)])
 (.seq (.seq (.region [⟨.mv (.t 6), none⟩, ⟨.mv (.t 4), none⟩, ⟨.call (.c (.fn f_l_eqLogRecordS [] [])) [(.l 0), (.l 1)], none⟩, ⟨.un .not (.l 2), none⟩, ⟨.mv (.l 3), none⟩, ⟨.mv (.t 7), some ((.l 4), false)⟩, ⟨.mv (.t 5), some ((.l 4), false)⟩, ⟨.bin 2 .neq (.l 5) (.l 6), some ((.l 4), false)⟩, ⟨.pick (.l 4) (.c (.bool true)) (.l 7), none⟩] [(13, 8)])
 (.cond (.t 13) (.seq (.region [⟨.mv (.c (.bool false)), none⟩] [(2, 0)])
 .ret) .skip))
 (.seq (.region [⟨.mv (.c (.int .i64 (1))), none⟩] [(8, 0)])
 (.seq (.region [⟨.mv (.t 6), none⟩, ⟨.mv (.t 8), none⟩, ⟨.call (.c (.fn f_l_markLogRecordS [] [])) [(.l 0), (.l 1)], none⟩, ⟨.mv (.l 2), none⟩] [(8, 3)])
 (.seq (.region [⟨.mv (.c (.int .i64 (1))), none⟩] [(9, 0)])
 (.seq (.region [⟨.mv (.t 6), none⟩, ⟨.mv (.t 9), none⟩, ⟨.call (.c (.fn f_l_heldLogRecordS [] [])) [(.l 0), (.l 1)], none⟩, ⟨.mv (.l 2), none⟩] [(9, 3)])
 (.seq (.seq (.region [⟨.mv (.t 9), none⟩, ⟨.bin 0 .lss (.l 0) (.c (.int .i64 (0))), none⟩] [(14, 1)])
 (.cond (.t 14) (.seq (.region [⟨.mv (.c (.bool false)), none⟩] [(2, 0)])
 .ret) .skip))
 (.seq (.seq (.region [⟨.mv (.t 9), none⟩, ⟨.mv (.t 8), none⟩, ⟨.bin 0 .neq (.l 0) (.l 1), none⟩] [(15, 2)])
 (.cond (.t 15) (.seq (.region [⟨.mv (.c (.bool false)), none⟩] [(2, 0)])
 .ret) .skip))
 (.seq (.region [⟨.load true 3 (.t 1), none⟩, ⟨.call (.c (.fn f_l_toLog [] [])) [(.l 0)], none⟩, ⟨.call (.c (.fn f_i_LogRecords [] [])) [(.l 1)], none⟩, ⟨.mv (.l 2), none⟩, ⟨.extract 0 (.l 3), none⟩, ⟨.extract 1 (.l 3), none⟩, ⟨.mv (.l 4), none⟩, ⟨.mv (.l 5), none⟩] [(10, 6), (11, 7)])
 (.seq (.seq (.region [⟨.mv (.t 10), none⟩, ⟨.mv (.t 4), none⟩, ⟨.call (.c (.fn f_l_eqLogRecordS [] [])) [(.l 0), (.l 1)], none⟩, ⟨.un .not (.l 2), none⟩, ⟨.mv (.l 3), none⟩, ⟨.mv (.t 11), some ((.l 4), false)⟩, ⟨.mv (.t 5), some ((.l 4), false)⟩, ⟨.bin 2 .neq (.l 5) (.l 6), some ((.l 4), false)⟩, ⟨.pick (.l 4) (.c (.bool true)) (.l 7), none⟩] [(16, 8)])
 (.cond (.t 16) (.seq (.region [⟨.mv (.c (.bool false)), none⟩] [(2, 0)])
 .ret) .skip))
 (.seq (.region [⟨.mv (.c (.int .i64 (1))), none⟩] [(9, 0)])
 (.seq (.region [⟨.mv (.t 6), none⟩, ⟨.mv (.t 9), none⟩, ⟨.call (.c (.fn f_l_heldLogRecordS [] [])) [(.l 0), (.l 1)], none⟩, ⟨.mv (.l 2), none⟩] [(9, 3)])
 (.seq (.seq (.region [⟨.mv (.t 9), none⟩, ⟨.bin 0 .lss (.l 0) (.c (.int .i64 (0))), none⟩] [(17, 1)])
 (.cond (.t 17) (.seq (.region [⟨.mv (.c (.bool false)), none⟩] [(2, 0)])
 .ret) .skip))
 (.seq (.seq (.region [⟨.mv (.t 9), none⟩, ⟨.mv (.t 8), none⟩, ⟨.bin 0 .neq (.l 0) (.l 1), none⟩] [(18, 2)])
 (.cond (.t 18) (.seq (.region [⟨.mv (.c (.bool false)), none⟩] [(2, 0)])
 .ret) .skip))
 (.seq (.region [⟨.mv (.c (.bool true)), none⟩] [(2, 0)])
 .ret))))))))))))))))))))
def a_l_FnExactLogRecords : AFun := ⟨[0, 1, 2, 3, 4, 5, 6, 7, 8, 9, 10, 11, 16, 37, 45, 48, 63, 68, 71], 72, c_l_FnExactLogRecords, [.tmp 2], 1⟩
def c_l_FnLogs : ACode :=
 (.seq (.region [⟨.mv (.c (.bool false)), none⟩] [(1, 0)])
 (.seq (.seq (.region [⟨.mv (.t 0), none⟩, ⟨.call (.c (.fn f_l_vBig [] [])) [(.l 0)], none⟩] [(26, 1)])
 (.cond (.t 26) (.seq (.region [⟨.mv (.c (.bool true)), none⟩] [(1, 0)])
 .ret) .skip))
 (.seq (.region [⟨.mv (.t 0), none⟩, ⟨.call (.c (.fn f_s_DrawIsValidRecord [] [])) [(.l 0)], none⟩, ⟨.alloc [.str ⟨#[]⟩, .str ⟨#[]⟩], none⟩, ⟨.store 2 (.l 2) (.l 1), none⟩] [(2, 2)])
 (.seq (.region [⟨.mv (.t 0), none⟩, ⟨.call (.c (.fn f_l_vCut [] [])) [(.l 0), (.c (.int .i64 (1)))], none⟩, ⟨.call (.c (.fn f_s_DrawEncodeRecord [] [])) [(.l 1)], none⟩, ⟨.mv (.l 2), none⟩, ⟨.extract 0 (.l 3), none⟩, ⟨.extract 1 (.l 3), none⟩, ⟨.alloc [.str ⟨#[]⟩, .str ⟨#[]⟩], none⟩, ⟨.mv (.l 4), none⟩, ⟨.store 2 (.l 6) (.l 5), none⟩] [(3, 7), (4, 6)])
 (.seq (.region [⟨.mv (.t 3), none⟩, ⟨.load true 2 (.t 4), none⟩, ⟨.call (.c (.fn f_i_EncodeRecord [] [])) [(.l 0), (.l 1)], none⟩, ⟨.mv (.l 2), none⟩, ⟨.extract 0 (.l 3), none⟩, ⟨.extract 1 (.l 3), none⟩, ⟨.mv (.l 4), none⟩, ⟨.mv (.l 5), none⟩] [(5, 6), (6, 7)])
 (.seq (.region [⟨.mv (.t 3), none⟩, ⟨.load true 2 (.t 4), none⟩, ⟨.call (.c (.fn f_s_EncodeRecord [] [])) [(.l 0), (.l 1)], none⟩, ⟨.mv (.l 2), none⟩, ⟨.extract 0 (.l 3), none⟩, ⟨.extract 1 (.l 3), none⟩, ⟨.mv (.l 4), none⟩, ⟨.mv (.l 5), none⟩] [(7, 6), (8, 7)])
 (.seq (.region [⟨.mv (.t 0), none⟩, ⟨.call (.c (.fn f_l_vCut [] [])) [(.l 0), (.c (.int .i64 (2)))], none⟩, ⟨.call (.c (.fn f_s_DrawIsValidLog [] [])) [(.l 1)], none⟩, ⟨.alloc [.str ⟨#[]⟩, .str ⟨#[]⟩, .int .i64 (0)], none⟩, ⟨.store 3 (.l 3) (.l 2), none⟩] [(9, 3)])
 (.seq (.region [⟨.mv (.t 0), none⟩, ⟨.call (.c (.fn f_l_vCut [] [])) [(.l 0), (.c (.int .i64 (3)))], none⟩, ⟨.call (.c (.fn f_s_DrawAppendRecord [] [])) [(.l 1)], none⟩, ⟨.mv (.l 2), none⟩, ⟨.extract 0 (.l 3), none⟩, ⟨.extract 1 (.l 3), none⟩, ⟨.alloc [.str ⟨#[]⟩, .str ⟨#[]⟩, .int .i64 (0)], none⟩, ⟨.alloc [.str ⟨#[]⟩, .str ⟨#[]⟩], none⟩, ⟨.store 3 (.l 6) (.l 4), none⟩, ⟨.store 2 (.l 7) (.l 5), none⟩] [(10, 6), (11, 7)])
 (.seq (.region [⟨.load true 3 (.t 10), none⟩, ⟨.load true 2 (.t 11), none⟩, ⟨.call (.c (.fn f_i_AppendRecord [] [])) [(.l 0), (.l 1)], none⟩, ⟨.mv (.l 2), none⟩, ⟨.extract 0 (.l 3), none⟩, ⟨.extract 1 (.l 3), none⟩, ⟨.alloc [.str ⟨#[]⟩, .str ⟨#[]⟩, .int .i64 (0)], none⟩, ⟨.store 3 (.l 6) (.l 4), none⟩, ⟨.mv (.l 5), none⟩] [(12, 6), (13, 8)])
 (.seq (.region [⟨.load true 3 (.t 10), none⟩, ⟨.load true 2 (.t 11), none⟩, ⟨.call (.c (.fn f_s_AppendRecord [] [])) [(.l 0), (.l 1)], none⟩, ⟨.mv (.l 2), none⟩, ⟨.extract 0 (.l 3), none⟩, ⟨.extract 1 (.l 3), none⟩, ⟨.alloc [.str ⟨#[]⟩, .str ⟨#[]⟩, .int .i64 (0)], none⟩, ⟨.store 3 (.l 6) (.l 4), none⟩, ⟨.mv (.l 5), none⟩] [(14, 6), (15, 8)])
 (.seq (.seq (.draw [⟨.load true 2 (.t 2), none, []⟩, ⟨.load true 2 (.t 2), none, []⟩, ⟨.call (.c (.fn f_i_IsValidRecord [] [])) [(.l 0)], none, [(1, ⟨.load true 2 (.t 2), none⟩)]⟩, ⟨.call (.c (.fn f_s_IsValidRecord [] [])) [(.l 1)], none, []⟩, ⟨.bin 2 .neq (.l 2) (.l 3), none, []⟩, ⟨.mv (.l 4), none, []⟩, ⟨.mv (.t 5), some ((.l 5), false), []⟩, ⟨.mv (.t 7), some ((.l 5), false), []⟩, ⟨.bin 1 .neq (.l 6) (.l 7), some ((.l 5), false), []⟩, ⟨.pick (.l 5) (.c (.bool true)) (.l 8), none, []⟩, ⟨.mv (.l 9), none, []⟩, ⟨.mv (.t 6), some ((.l 10), false), []⟩, ⟨.mv (.t 8), some ((.l 10), false), []⟩, ⟨.bin 2 .neq (.l 11) (.l 12), some ((.l 10), false), []⟩, ⟨.pick (.l 10) (.c (.bool true)) (.l 13), none, []⟩, ⟨.mv (.l 14), none, []⟩, ⟨.load true 3 (.t 9), some ((.l 15), false), []⟩, ⟨.load true 3 (.t 9), some ((.l 15), false), []⟩, ⟨.call (.c (.fn f_i_IsValidLog [] [])) [(.l 16)], some ((.l 15), false), [(17, ⟨.load true 3 (.t 9), some ((.l 15), false)⟩)]⟩, ⟨.call (.c (.fn f_s_IsValidLog [] [])) [(.l 17)], some ((.l 15), false), []⟩, ⟨.bin 2 .neq (.l 18) (.l 19), some ((.l 15), false), []⟩, ⟨.pick (.l 15) (.c (.bool true)) (.l 20), none, []⟩, ⟨.mv (.l 21), none, []⟩, ⟨.load true 3 (.t 12), some ((.l 22), false), []⟩, ⟨.load true 3 (.t 14), some ((.l 22), false), []⟩, ⟨.eqCells [2, 2, 0] true (.l 23) (.l 24), some ((.l 22), false), []⟩, ⟨.pick (.l 22) (.c (.bool true)) (.l 25), none, []⟩, ⟨.mv (.l 26), none, []⟩, ⟨.mv (.t 13), some ((.l 27), false), []⟩, ⟨.mv (.t 15), some ((.l 27), false), []⟩, ⟨.bin 0 .neq (.l 28) (.l 29), some ((.l 27), false), []⟩, ⟨.pick (.l 27) (.c (.bool true)) (.l 30), none, []⟩] [(27, 31)])
 (.cond (.t 27) (.seq (.region [⟨.mv (.c (.bool false)), none⟩] [(1, 0)])
 .ret) .skip))
 (.seq (.region [⟨.load true 3 (.t 10), none⟩, ⟨.call (.c (.fn f_i_SyncLog [] [])) [(.l 0)], none⟩, ⟨.mv (.l 1), none⟩, ⟨.extract 0 (.l 2), none⟩, ⟨.extract 1 (.l 2), none⟩, ⟨.alloc [.str ⟨#[]⟩, .str ⟨#[]⟩, .int .i64 (0)], none⟩, ⟨.store 3 (.l 5) (.l 3), none⟩, ⟨.mv (.l 4), none⟩] [(16, 5), (17, 7)])
 (.seq (.region [⟨.load true 3 (.t 10), none⟩, ⟨.call (.c (.fn f_s_SyncLog [] [])) [(.l 0)], none⟩, ⟨.mv (.l 1), none⟩, ⟨.extract 0 (.l 2), none⟩, ⟨.extract 1 (.l 2), none⟩, ⟨.alloc [.str ⟨#[]⟩, .str ⟨#[]⟩, .int .i64 (0)], none⟩, ⟨.store 3 (.l 5) (.l 3), none⟩, ⟨.mv (.l 4), none⟩] [(18, 5), (19, 7)])
 (.seq (.region [⟨.load true 3 (.t 10), none⟩, ⟨.call (.c (.fn f_i_LogRecords [] [])) [(.l 0)], none⟩, ⟨.mv (.l 1), none⟩, ⟨.extract 0 (.l 2), none⟩, ⟨.extract 1 (.l 2), none⟩, ⟨.mv (.l 3), none⟩, ⟨.mv (.l 4), none⟩] [(20, 5), (21, 6)])
 (.seq (.region [⟨.load true 3 (.t 10), none⟩, ⟨.call (.c (.fn f_s_LogRecords [] [])) [(.l 0)], none⟩, ⟨.mv (.l 1), none⟩, ⟨.extract 0 (.l 2), none⟩, ⟨.extract 1 (.l 2), none⟩, ⟨.mv (.l 3), none⟩, ⟨.mv (.l 4), none⟩] [(22, 5), (23, 6)])
 (.seq (.seq (.region [⟨.load true 3 (.t 16), none⟩, ⟨.load true 3 (.t 18), none⟩, ⟨.eqCells [2, 2, 0] true (.l 0) (.l 1), none⟩, ⟨.mv (.l 2), none⟩, ⟨.mv (.t 17), some ((.l 3), false)⟩, ⟨.mv (.t 19), some ((.l 3), false)⟩, ⟨.bin 2 .neq (.l 4) (.l 5), some ((.l 3), false)⟩, ⟨.pick (.l 3) (.c (.bool true)) (.l 6), none⟩, ⟨.mv (.l 7), none⟩, ⟨.mv (.t 21), some ((.l 8), false)⟩, ⟨.mv (.t 23), some ((.l 8), false)⟩, ⟨.bin 2 .neq (.l 9) (.l 10), some ((.l 8), false)⟩, ⟨.pick (.l 8) (.c (.bool true)) (.l 11), none⟩, ⟨.mv (.l 12), none⟩, ⟨.mv (.t 20), some ((.l 13), false)⟩, ⟨.mv (.t 22), some ((.l 13), false)⟩, ⟨.call (.c (.fn f_l_vRecords [] [])) [(.l 14), (.l 15)], some ((.l 13), false)⟩, ⟨.un .not (.l 16), some ((.l 13), false)⟩, ⟨.pick (.l 13) (.c (.bool true)) (.l 17), none⟩] [(28, 18)])
 (.cond (.t 28) (.seq (.region [⟨.mv (.c (.bool false)), none⟩] [(1, 0)])
 .ret) .skip))
 (.seq (.region [⟨.load true 3 (.t 16), none⟩, ⟨.call (.c (.fn f_i_LogRecords [] [])) [(.l 0)], none⟩, ⟨.mv (.l 1), none⟩, ⟨.extract 0 (.l 2), none⟩, ⟨.extract 1 (.l 2), none⟩, ⟨.mv (.l 3), none⟩, ⟨.mv (.l 4), none⟩] [(24, 5)])
 (.seq (.seq (.region [⟨.mv (.t 17), none⟩, ⟨.mv (.l 0), none⟩, ⟨.mv (.t 24), some ((.l 1), true)⟩, ⟨.mv (.t 20), some ((.l 1), true)⟩, ⟨.call (.c (.fn f_l_vRecords [] [])) [(.l 2), (.l 3)], some ((.l 1), true)⟩, ⟨.un .not (.l 4), some ((.l 1), true)⟩, ⟨.pick (.l 1) (.l 5) (.c (.bool false)), none⟩] [(29, 6)])
 (.cond (.t 29) (.seq (.region [⟨.mv (.c (.bool false)), none⟩] [(1, 0)])
 .ret) .skip))
 (.seq (.seq (.region [⟨.mv (.t 13), none⟩, ⟨.bin 0 .neq (.l 0) (.c (.int .i64 (0))), none⟩] [(30, 1)])
 (.cond (.t 30) (.seq (.region [⟨.load true 3 (.t 12), none⟩, ⟨.load true 3 (.t 10), none⟩, ⟨.eqCells [2, 2, 0] false (.l 0) (.l 1), none⟩, ⟨.mv (.l 2), none⟩] [(1, 3)])
 .ret) .skip))
 (.seq (.region [⟨.load true 3 (.t 12), none⟩, ⟨.call (.c (.fn f_i_LogRecords [] [])) [(.l 0)], none⟩, ⟨.mv (.l 1), none⟩, ⟨.extract 0 (.l 2), none⟩, ⟨.extract 1 (.l 2), none⟩, ⟨.mv (.l 3), none⟩, ⟨.mv (.l 4), none⟩] [(25, 5)])
 (.seq (.draw [⟨.load true 3 (.t 12), none, []⟩, ⟨.call (.c (.fn f_i_IsValidLog [] [])) [(.l 0)], none, []⟩, ⟨.mv (.l 1), none, []⟩, ⟨.mv (.t 25), some ((.l 2), true), []⟩, ⟨.len (.l 3), some ((.l 2), true), []⟩, ⟨.mv (.t 20), some ((.l 2), true), []⟩, ⟨.len (.l 5), some ((.l 2), true), []⟩, ⟨.bin 0 .add (.l 6) (.c (.int .i64 (1))), some ((.l 2), true), []⟩, ⟨.bin 0 .eql (.l 4) (.l 7), some ((.l 2), true), []⟩, ⟨.pick (.l 2) (.l 8) (.c (.bool false)), none, []⟩, ⟨.mv (.l 9), none, []⟩, ⟨.mv (.t 25), some ((.l 10), true), []⟩, ⟨.mv (.t 20), some ((.l 10), true), []⟩, ⟨.len (.l 12), some ((.l 10), true), []⟩, ⟨.sliceSl 2 (.l 11) none (some (.l 13)) none, some ((.l 10), true), []⟩, ⟨.mv (.t 20), some ((.l 10), true), []⟩, ⟨.call (.c (.fn f_l_vRecords [] [])) [(.l 14), (.l 15)], some ((.l 10), true), []⟩, ⟨.pick (.l 10) (.l 16) (.c (.bool false)), none, []⟩, ⟨.mv (.l 17), none, []⟩, ⟨.mv (.t 25), some ((.l 18), true), []⟩, ⟨.mv (.t 20), some ((.l 18), true), []⟩, ⟨.len (.l 20), some ((.l 18), true), []⟩, ⟨.indexAddrS 2 (.l 19) (.l 21), some ((.l 18), true), []⟩, ⟨.load true 2 (.l 22), some ((.l 18), true), []⟩, ⟨.load true 2 (.t 11), some ((.l 18), true), []⟩, ⟨.eqCells [2, 2] false (.l 23) (.l 24), some ((.l 18), true), []⟩, ⟨.pick (.l 18) (.l 25) (.c (.bool false)), none, []⟩, ⟨.mv (.l 26), none, []⟩] [(1, 27)])
 .ret)))))))))))))))))))))
def a_l_FnLogs : AFun := ⟨[0, 2, 3, 4, 5, 6, 7, 8, 9, 10, 11, 12, 13, 14, 15, 16, 17, 18, 19, 20, 21, 22, 23, 24, 25, 27, 30, 103, 142, 154, 156], 192, c_l_FnLogs, [.tmp 1], 1⟩
def c_l_FnCrashes : ACode :=
 (.seq (.region [⟨.mv (.c (.bool false)), none⟩] [(1, 0)])
 (.seq (.seq (.region [⟨.mv (.t 0), none⟩, ⟨.call (.c (.fn f_l_vBig [] [])) [(.l 0)], none⟩] [(21, 1)])
 (.cond (.t 21) (.seq (.region [⟨.mv (.c (.bool true)), none⟩] [(1, 0)])
 .ret) .skip))
 (.seq (.region [⟨.mv (.t 0), none⟩, ⟨.call (.c (.fn f_s_DrawCrashLog [] [])) [(.l 0)], none⟩, ⟨.mv (.l 1), none⟩, ⟨.extract 0 (.l 2), none⟩, ⟨.extract 1 (.l 2), none⟩, ⟨.extract 2 (.l 2), none⟩, ⟨.alloc [.str ⟨#[]⟩, .str ⟨#[]⟩, .int .i64 (0)], none⟩, ⟨.store 3 (.l 6) (.l 3), none⟩, ⟨.mv (.l 4), none⟩, ⟨.mv (.l 5), none⟩] [(2, 6), (3, 8), (4, 9)])
 (.seq (.region [⟨.load true 3 (.t 2), none⟩, ⟨.mv (.t 3), none⟩, ⟨.mv (.t 4), none⟩, ⟨.call (.c (.fn f_i_CrashLog [] [])) [(.l 0), (.l 1), (.l 2)], none⟩, ⟨.mv (.l 3), none⟩, ⟨.extract 0 (.l 4), none⟩, ⟨.extract 1 (.l 4), none⟩, ⟨.mv (.l 5), none⟩, ⟨.mv (.l 6), none⟩] [(5, 7), (6, 8)])
 (.seq (.region [⟨.load true 3 (.t 2), none⟩, ⟨.mv (.t 3), none⟩, ⟨.mv (.t 4), none⟩, ⟨.call (.c (.fn f_s_CrashLog [] [])) [(.l 0), (.l 1), (.l 2)], none⟩, ⟨.mv (.l 3), none⟩, ⟨.extract 0 (.l 4), none⟩, ⟨.extract 1 (.l 4), none⟩, ⟨.mv (.l 5), none⟩, ⟨.mv (.l 6), none⟩] [(7, 7), (8, 8)])
 (.seq (.region [⟨.mv (.t 0), none⟩, ⟨.call (.c (.fn f_l_vCut [] [])) [(.l 0), (.c (.int .i64 (1)))], none⟩, ⟨.call (.c (.fn f_s_DrawRecoverLog [] [])) [(.l 1)], none⟩, ⟨.mv (.l 2), none⟩] [(9, 3)])
 (.seq (.region [⟨.mv (.t 9), none⟩, ⟨.call (.c (.fn f_i_RecoverLog [] [])) [(.l 0)], none⟩, ⟨.mv (.l 1), none⟩, ⟨.extract 0 (.l 2), none⟩, ⟨.extract 1 (.l 2), none⟩, ⟨.extract 2 (.l 2), none⟩, ⟨.alloc [.str ⟨#[]⟩, .str ⟨#[]⟩, .int .i64 (0)], none⟩, ⟨.store 3 (.l 6) (.l 3), none⟩, ⟨.mv (.l 4), none⟩, ⟨.mv (.l 5), none⟩] [(10, 6), (11, 8), (12, 9)])
 (.seq (.region [⟨.mv (.t 9), none⟩, ⟨.call (.c (.fn f_s_RecoverLog [] [])) [(.l 0)], none⟩, ⟨.mv (.l 1), none⟩, ⟨.extract 0 (.l 2), none⟩, ⟨.extract 1 (.l 2), none⟩, ⟨.extract 2 (.l 2), none⟩, ⟨.alloc [.str ⟨#[]⟩, .str ⟨#[]⟩, .int .i64 (0)], none⟩, ⟨.store 3 (.l 6) (.l 3), none⟩, ⟨.mv (.l 4), none⟩, ⟨.mv (.l 5), none⟩] [(13, 6), (14, 8), (15, 9)])
 (.seq (.seq (.region [⟨.mv (.t 5), none⟩, ⟨.mv (.t 7), none⟩, ⟨.bin 1 .neq (.l 0) (.l 1), none⟩, ⟨.mv (.l 2), none⟩, ⟨.mv (.t 6), some ((.l 3), false)⟩, ⟨.mv (.t 8), some ((.l 3), false)⟩, ⟨.bin 2 .neq (.l 4) (.l 5), some ((.l 3), false)⟩, ⟨.pick (.l 3) (.c (.bool true)) (.l 6), none⟩, ⟨.mv (.l 7), none⟩, ⟨.load true 3 (.t 10), some ((.l 8), false)⟩, ⟨.load true 3 (.t 13), some ((.l 8), false)⟩, ⟨.eqCells [2, 2, 0] true (.l 9) (.l 10), some ((.l 8), false)⟩, ⟨.pick (.l 8) (.c (.bool true)) (.l 11), none⟩, ⟨.mv (.l 12), none⟩, ⟨.mv (.t 11), some ((.l 13), false)⟩, ⟨.mv (.t 14), some ((.l 13), false)⟩, ⟨.bin 0 .neq (.l 14) (.l 15), some ((.l 13), false)⟩, ⟨.pick (.l 13) (.c (.bool true)) (.l 16), none⟩, ⟨.mv (.l 17), none⟩, ⟨.mv (.t 12), some ((.l 18), false)⟩, ⟨.mv (.t 15), some ((.l 18), false)⟩, ⟨.bin 2 .neq (.l 19) (.l 20), some ((.l 18), false)⟩, ⟨.pick (.l 18) (.c (.bool true)) (.l 21), none⟩] [(22, 22)])
 (.cond (.t 22) (.seq (.region [⟨.mv (.c (.bool false)), none⟩] [(1, 0)])
 .ret) .skip))
 (.seq (.seq (.region [⟨.mv (.t 6), none⟩, ⟨.un .not (.l 0), none⟩] [(23, 1)])
 (.cond (.t 23) (.seq (.region [⟨.mv (.c (.bool true)), none⟩] [(1, 0)])
 .ret) .skip))
 (.seq (.region [⟨.mv (.t 5), none⟩, ⟨.call (.c (.fn f_i_RecoverLog [] [])) [(.l 0)], none⟩, ⟨.mv (.l 1), none⟩, ⟨.extract 0 (.l 2), none⟩, ⟨.extract 1 (.l 2), none⟩, ⟨.extract 2 (.l 2), none⟩, ⟨.alloc [.str ⟨#[]⟩, .str ⟨#[]⟩, .int .i64 (0)], none⟩, ⟨.store 3 (.l 6) (.l 3), none⟩, ⟨.mv (.l 4), none⟩, ⟨.mv (.l 5), none⟩] [(16, 6), (17, 8), (18, 9)])
 (.seq (.seq (.region [⟨.mv (.t 18), none⟩, ⟨.un .not (.l 0), none⟩, ⟨.mv (.l 1), none⟩, ⟨.load true 3 (.t 16), some ((.l 2), false)⟩, ⟨.call (.c (.fn f_i_IsValidLog [] [])) [(.l 3)], some ((.l 2), false)⟩, ⟨.un .not (.l 4), some ((.l 2), false)⟩, ⟨.pick (.l 2) (.c (.bool true)) (.l 5), none⟩, ⟨.mv (.l 6), none⟩, ⟨.mv (.t 17), some ((.l 7), false)⟩, ⟨.fieldAddr 0 (.t 2), some ((.l 7), false)⟩, ⟨.load false 1 (.l 9), some ((.l 7), false)⟩, ⟨.lenStr (.l 10), some ((.l 7), false)⟩, ⟨.bin 0 .lss (.l 8) (.l 11), some ((.l 7), false)⟩, ⟨.pick (.l 7) (.c (.bool true)) (.l 12), none⟩, ⟨.mv (.l 13), none⟩, ⟨.fieldAddr 0 (.t 16), some ((.l 14), false)⟩, ⟨.load false 1 (.l 15), some ((.l 14), false)⟩, ⟨.lenStr (.l 16), some ((.l 14), false)⟩, ⟨.mv (.t 17), some ((.l 14), false)⟩, ⟨.bin 0 .neq (.l 17) (.l 18), some ((.l 14), false)⟩, ⟨.pick (.l 14) (.c (.bool true)) (.l 19), none⟩] [(24, 20)])
 (.cond (.t 24) (.seq (.region [⟨.mv (.c (.bool false)), none⟩] [(1, 0)])
 .ret) .skip))
 (.seq (.region [⟨.load true 3 (.t 2), none⟩, ⟨.call (.c (.fn f_i_LogRecords [] [])) [(.l 0)], none⟩, ⟨.mv (.l 1), none⟩, ⟨.extract 0 (.l 2), none⟩, ⟨.extract 1 (.l 2), none⟩, ⟨.mv (.l 3), none⟩, ⟨.mv (.l 4), none⟩] [(19, 5)])
 (.seq (.region [⟨.load true 3 (.t 16), none⟩, ⟨.call (.c (.fn f_i_LogRecords [] [])) [(.l 0)], none⟩, ⟨.mv (.l 1), none⟩, ⟨.extract 0 (.l 2), none⟩, ⟨.extract 1 (.l 2), none⟩, ⟨.mv (.l 3), none⟩, ⟨.mv (.l 4), none⟩] [(20, 5)])
 (.seq (.region [⟨.mv (.t 20), none⟩, ⟨.len (.l 0), none⟩, ⟨.mv (.t 19), none⟩, ⟨.len (.l 2), none⟩, ⟨.bin 0 .leq (.l 1) (.l 3), none⟩, ⟨.mv (.l 4), none⟩, ⟨.mv (.t 20), some ((.l 5), true)⟩, ⟨.mv (.t 19), some ((.l 5), true)⟩, ⟨.mv (.t 20), some ((.l 5), true)⟩, ⟨.len (.l 8), some ((.l 5), true)⟩, ⟨.sliceSl 2 (.l 7) none (some (.l 9)) none, some ((.l 5), true)⟩, ⟨.call (.c (.fn f_l_vRecords [] [])) [(.l 6), (.l 10)], some ((.l 5), true)⟩, ⟨.pick (.l 5) (.l 11) (.c (.bool false)), none⟩, ⟨.mv (.l 12), none⟩, ⟨.mv (.t 4), some ((.l 13), true)⟩, ⟨.mv (.l 14), some ((.l 13), true)⟩, ⟨.mv (.t 3), some ((.l 15), false)⟩, ⟨.fieldAddr 1 (.t 2), some ((.l 15), false)⟩, ⟨.load false 1 (.l 17), some ((.l 15), false)⟩, ⟨.lenStr (.l 18), some ((.l 15), false)⟩, ⟨.bin 0 .lss (.l 16) (.l 19), some ((.l 15), false)⟩, ⟨.pick (.l 15) (.c (.bool true)) (.l 20), some ((.l 13), true)⟩, ⟨.mv (.l 21), some ((.l 13), true)⟩, ⟨.mv (.t 20), some ((.l 22), false)⟩, ⟨.len (.l 23), some ((.l 22), false)⟩, ⟨.mv (.t 19), some ((.l 22), false)⟩, ⟨.len (.l 25), some ((.l 22), false)⟩, ⟨.bin 0 .eql (.l 24) (.l 26), some ((.l 22), false)⟩, ⟨.pick (.l 22) (.c (.bool true)) (.l 27), some ((.l 13), true)⟩, ⟨.pick (.l 13) (.l 28) (.c (.bool false)), none⟩, ⟨.mv (.l 29), none⟩] [(1, 30)])
 .ret)))))))))))))))
def a_l_FnCrashes : AFun := ⟨[0, 2, 3, 4, 5, 6, 7, 8, 9, 10, 11, 12, 13, 14, 15, 16, 17, 18, 19, 20, 22, 25, 83, 85, 112], 153, c_l_FnCrashes, [.tmp 1], 1⟩
def c_l_szLogRecord : ACode :=
 (.seq (.region [⟨.box (.t 0), none⟩, ⟨.mv (.c (.int .i64 (0))), none⟩] [(2, 0), (3, 1)])
 (.seq (.region [⟨.mv (.t 1), none⟩, ⟨.fieldAddr 0 (.t 2), none⟩, ⟨.load false 1 (.l 1), none⟩, ⟨.lenStr (.l 2), none⟩, ⟨.bin 0 .sub (.l 0) (.l 3), none⟩, ⟨.mv (.l 4), none⟩] [(1, 5)])
 (.seq (.seq (.region [⟨.mv (.t 1), none⟩, ⟨.bin 0 .lss (.l 0) (.c (.int .i64 (0))), none⟩] [(4, 1)])
 (.cond (.t 4) (.seq (.region [⟨.mv (.c (.int .i64 (-1))), none⟩] [(3, 0)])
 .ret) .skip))
 (.seq (.region [⟨.mv (.t 1), none⟩, ⟨.fieldAddr 1 (.t 2), none⟩, ⟨.load false 1 (.l 1), none⟩, ⟨.lenStr (.l 2), none⟩, ⟨.bin 0 .sub (.l 0) (.l 3), none⟩, ⟨.mv (.l 4), none⟩] [(1, 5)])
 (.seq (.seq (.region [⟨.mv (.t 1), none⟩, ⟨.bin 0 .lss (.l 0) (.c (.int .i64 (0))), none⟩] [(5, 1)])
 (.cond (.t 5) (.seq (.region [⟨.mv (.c (.int .i64 (-1))), none⟩] [(3, 0)])
 .ret) .skip))
 (.seq (.region [⟨.mv (.t 1), none⟩, ⟨.mv (.l 0), none⟩] [(3, 1)])
 .ret))))))
def a_l_szLogRecord : AFun := ⟨[0, 1, 2, 4, 11, 18], 20, c_l_szLogRecord, [.tmp 3], 1⟩
def c_s_EncodeRecord : ACode :=
 (.seq (.region [⟨.box (.t 1), none⟩, ⟨.mv (.c (.str ⟨#[]⟩)), none⟩, ⟨.mv (.c (.bool false)), none⟩] [(2, 0), (3, 1), (4, 2)])
 (.seq (.seq (.region [⟨.mv (.t 0), none⟩, ⟨.call (.c (.fn f_s_l1In [] [])) [(.l 0), (.c (.int .i64 (0))), (.c (.int .i64 (59)))], none⟩, ⟨.un .not (.l 1), none⟩, ⟨.mv (.l 2), none⟩, ⟨.load true 2 (.t 2), some ((.l 3), false)⟩, ⟨.call (.c (.fn f_s_l12Record [] [])) [(.l 4)], some ((.l 3), false)⟩, ⟨.un .not (.l 5), some ((.l 3), false)⟩, ⟨.pick (.l 3) (.c (.bool true)) (.l 6), none⟩] [(5, 7)])
 (.cond (.t 5) (.seq (.region [⟨.mv (.c (.str ⟨#[]⟩)), none⟩, ⟨.mv (.c (.bool false)), none⟩] [(3, 0), (4, 1)])
 .ret) .skip))
 (.seq (.region [⟨.mv (.t 0), none⟩, ⟨.load true 2 (.t 2), none⟩, ⟨.call (.c (.fn f_s_l12Line [] [])) [(.l 0), (.l 1)], none⟩, ⟨.mv (.l 2), none⟩, ⟨.mv (.c (.bool true)), none⟩] [(3, 3), (4, 4)])
 .ret)))
def a_s_EncodeRecord : AFun := ⟨[0, 1, 3, 4, 5, 13], 17, c_s_EncodeRecord, [.tmp 3, .tmp 4], 1⟩
def c_l_toLogRecord : ACode :=
 (.seq (.region [⟨.box (.t 0), none⟩, ⟨.alloc [.str ⟨#[]⟩, .str ⟨#[]⟩], none⟩] [(1, 0), (2, 1)])
 (.seq (.region [⟨.alloc [.str ⟨#[]⟩, .str ⟨#[]⟩], none⟩] [(3, 0)])
 (.seq (.region [⟨.fieldAddr 0 (.t 1), none⟩, ⟨.load false 1 (.l 0), none⟩, ⟨.fieldAddr 0 (.t 3), none⟩, ⟨.store 1 (.l 2) (.l 1), none⟩] [])
 (.seq (.region [⟨.fieldAddr 1 (.t 1), none⟩, ⟨.load false 1 (.l 0), none⟩, ⟨.fieldAddr 1 (.t 3), none⟩, ⟨.store 1 (.l 2) (.l 1), none⟩] [])
 (.seq (.region [⟨.load true 2 (.t 3), none⟩, ⟨.store 2 (.t 2) (.l 0), none⟩] [])
 .ret)))))
def a_l_toLogRecord : AFun := ⟨[0, 1, 2, 3], 11, c_l_toLogRecord, [.cell 2 true 2], 1⟩
def c_i_EncodeRecord : ACode :=
 (.seq (.region [⟨.box (.t 1), none⟩, ⟨.mv (.c (.str ⟨#[]⟩)), none⟩, ⟨.mv (.c (.bool false)), none⟩] [(2, 0), (3, 1), (4, 2)])
 (.seq (.seq (.region [⟨.mv (.t 0), none⟩, ⟨.call (.c (.fn f_i_within [] [])) [(.l 0), (.c (.int .i64 (0))), (.c (.int .i64 (59)))], none⟩, ⟨.un .not (.l 1), none⟩, ⟨.mv (.l 2), none⟩, ⟨.load true 2 (.t 2), some ((.l 3), false)⟩, ⟨.call (.c (.fn f_i_IsValidRecord [] [])) [(.l 4)], some ((.l 3), false)⟩, ⟨.un .not (.l 5), some ((.l 3), false)⟩, ⟨.pick (.l 3) (.c (.bool true)) (.l 6), none⟩] [(7, 7)])
 (.cond (.t 7) (.seq (.region [⟨.mv (.c (.str ⟨#[]⟩)), none⟩, ⟨.mv (.c (.bool false)), none⟩] [(3, 0), (4, 1)])
 .ret) .skip))
 (.seq (.draw [⟨.mv (.t 0), none, []⟩, ⟨.fieldAddr 0 (.t 2), none, []⟩, ⟨.load false 1 (.l 1), none, []⟩, ⟨.fieldAddr 1 (.t 2), none, []⟩, ⟨.load false 1 (.l 3), none, []⟩, ⟨.call (.c (.fn f_strconv_Itoa [] [])) [(.l 0)], none, [(2, ⟨.load false 1 (.l 1), none⟩), (4, ⟨.load false 1 (.l 3), none⟩)]⟩, ⟨.bin 1 .add (.l 5) (.c (.str ⟨#[32]⟩)), none, []⟩, ⟨.bin 1 .add (.l 6) (.l 2), none, []⟩, ⟨.bin 1 .add (.l 7) (.c (.str ⟨#[64]⟩)), none, []⟩, ⟨.bin 1 .add (.l 8) (.l 4), none, []⟩, ⟨.call (.c (.fn f_i_AppendChecksum [] [])) [(.l 9)], none, []⟩, ⟨.mv (.l 10), none, []⟩, ⟨.extract 0 (.l 11), none, []⟩, ⟨.extract 1 (.l 11), none, []⟩, ⟨.mv (.l 12), none, []⟩, ⟨.mv (.l 13), none, []⟩] [(5, 14), (6, 15)])
 (.seq (.region [⟨.mv (.t 5), none⟩, ⟨.bin 1 .add (.l 0) (.c (.str ⟨#[10]⟩)), none⟩, ⟨.mv (.t 6), none⟩, ⟨.mv (.l 1), none⟩, ⟨.mv (.l 2), none⟩] [(3, 3), (4, 4)])
 .ret))))
def a_i_EncodeRecord : AFun := ⟨[0, 1, 3, 4, 5, 6, 7, 15], 33, c_i_EncodeRecord, [.tmp 3, .tmp 4], 1⟩
def c_s_RecoverLog : ACode :=
 (.seq (.region [⟨.alloc [.str ⟨#[]⟩, .str ⟨#[]⟩, .int .i64 (0)], none⟩, ⟨.mv (.c (.int .i64 (0))), none⟩, ⟨.mv (.c (.bool false)), none⟩] [(1, 0), (2, 1), (3, 2)])
 (.seq (.seq (.region [⟨.mv (.t 0), none⟩, ⟨.lenStr (.l 0), none⟩, ⟨.bin 0 .gtr (.l 1) (.c (.int .i64 (30000))), none⟩] [(6, 2)])
 (.cond (.t 6) (.seq (.region [⟨.build [.str ⟨#[]⟩, .str ⟨#[]⟩, .int .i64 (0)] [], none⟩, ⟨.store 3 (.t 1) (.l 0), none⟩, ⟨.mv (.c (.int .i64 (0))), none⟩, ⟨.mv (.c (.bool false)), none⟩] [(2, 2), (3, 3)])
 .ret) .skip))
 (.seq (.region [⟨.mv (.t 0), none⟩, ⟨.call (.c (.fn f_s_l12Open [] [])) [(.l 0)], none⟩, ⟨.mv (.l 1), none⟩, ⟨.extract 0 (.l 2), none⟩, ⟨.extract 1 (.l 2), none⟩, ⟨.mv (.l 3), none⟩, ⟨.mv (.l 4), none⟩] [(4, 5), (5, 6)])
 (.seq (.region [⟨.mv (.t 0), none⟩, ⟨.mv (.t 5), none⟩, ⟨.sliceStr (.l 0) none (some (.l 1)), none⟩, ⟨.mv (.t 4), none⟩, ⟨.len (.l 3), none⟩, ⟨.build [.str ⟨#[]⟩, .str ⟨#[]⟩, .int .i64 (0)] [(0, 1, (.l 2)), (2, 1, (.l 4))], none⟩, ⟨.mv (.t 5), none⟩, ⟨.store 3 (.t 1) (.l 5), none⟩, ⟨.mv (.l 6), none⟩, ⟨.mv (.c (.bool true)), none⟩] [(2, 8), (3, 9)])
 .ret))))
def a_s_RecoverLog : AFun := ⟨[0, 2, 3, 4, 5, 6, 9], 23, c_s_RecoverLog, [.cell 1 true 3, .tmp 2, .tmp 3], 1⟩
def c_i_RecoverLog : ACode :=
 (.seq (.region [⟨.alloc [.str ⟨#[]⟩, .str ⟨#[]⟩, .int .i64 (0)], none⟩, ⟨.mv (.c (.int .i64 (0))), none⟩, ⟨.mv (.c (.bool false)), none⟩] [(1, 0), (2, 1), (3, 2)])
 (.seq (.seq (.region [⟨.mv (.t 0), none⟩, ⟨.lenStr (.l 0), none⟩, ⟨.bin 0 .gtr (.l 1) (.c (.int .i64 (30000))), none⟩] [(7, 2)])
 (.cond (.t 7) (.seq (.region [⟨.build [.str ⟨#[]⟩, .str ⟨#[]⟩, .int .i64 (0)] [], none⟩, ⟨.store 3 (.t 1) (.l 0), none⟩, ⟨.mv (.c (.int .i64 (0))), none⟩, ⟨.mv (.c (.bool false)), none⟩] [(2, 2), (3, 3)])
 .ret) .skip))
 (.seq (.region [⟨.mv (.t 0), none⟩, ⟨.call (.c (.fn f_i_recoverRecords [] [])) [(.l 0)], none⟩, ⟨.mv (.l 1), none⟩, ⟨.extract 0 (.l 2), none⟩, ⟨.extract 1 (.l 2), none⟩, ⟨.mv (.l 3), none⟩, ⟨.mv (.l 4), none⟩] [(4, 5), (5, 6)])
 (.seq (.region [⟨.mv (.c (.int .i64 (0))), none⟩] [(6, 0)])
 (.seq (.seq (.region [⟨.mv (.t 5), none⟩, ⟨.len (.l 0), none⟩, ⟨.bin 0 .gtr (.l 1) (.c (.int .i64 (0))), none⟩] [(8, 2)])
 (.cond (.t 8) (.region [⟨.mv (.t 5), none⟩, ⟨.mv (.t 5), none⟩, ⟨.len (.l 1), none⟩, ⟨.bin 0 .sub (.l 2) (.c (.int .i64 (1))), none⟩, ⟨.indexAddrS 1 (.l 0) (.l 3), none⟩, ⟨.load false 1 (.l 4), none⟩, ⟨.mv (.l 5), none⟩] [(6, 6)]) .skip))
 (.seq (.region [⟨.mv (.t 0), none⟩, ⟨.mv (.t 6), none⟩, ⟨.sliceStr (.l 0) none (some (.l 1)), none⟩, ⟨.mv (.t 4), none⟩, ⟨.len (.l 3), none⟩, ⟨.build [.str ⟨#[]⟩, .str ⟨#[]⟩, .int .i64 (0)] [(0, 1, (.l 2)), (2, 1, (.l 4))], none⟩, ⟨.mv (.t 6), none⟩, ⟨.store 3 (.t 1) (.l 5), none⟩, ⟨.mv (.l 6), none⟩, ⟨.mv (.c (.bool true)), none⟩] [(2, 8), (3, 9)])
 .ret))))))
def a_i_RecoverLog : AFun := ⟨[0, 2, 3, 4, 5, 6, 7, 10, 19], 33, c_i_RecoverLog, [.cell 1 true 3, .tmp 2, .tmp 3], 1⟩
def c_l_eqLog : ACode :=
 (.seq (.region [⟨.box (.t 0), none⟩, ⟨.box (.t 1), none⟩, ⟨.mv (.c (.bool false)), none⟩] [(2, 0), (3, 1), (4, 2)])
 (.seq (.seq (.region [⟨.fieldAddr 0 (.t 2), none⟩, ⟨.load false 1 (.l 0), none⟩, ⟨.fieldAddr 0 (.t 3), none⟩, ⟨.load false 1 (.l 2), none⟩, ⟨.bin 1 .neq (.l 1) (.l 3), none⟩] [(5, 4)])
 (.cond (.t 5) (.seq (.region [⟨.mv (.c (.bool false)), none⟩] [(4, 0)])
 .ret) .skip))
 (.seq (.seq (.region [⟨.fieldAddr 1 (.t 2), none⟩, ⟨.load false 1 (.l 0), none⟩, ⟨.fieldAddr 1 (.t 3), none⟩, ⟨.load false 1 (.l 2), none⟩, ⟨.bin 1 .neq (.l 1) (.l 3), none⟩] [(6, 4)])
 (.cond (.t 6) (.seq (.region [⟨.mv (.c (.bool false)), none⟩] [(4, 0)])
 .ret) .skip))
 (.seq (.seq (.region [⟨.fieldAddr 2 (.t 2), none⟩, ⟨.load false 1 (.l 0), none⟩, ⟨.fieldAddr 2 (.t 3), none⟩, ⟨.load false 1 (.l 2), none⟩, ⟨.bin 0 .neq (.l 1) (.l 3), none⟩] [(7, 4)])
 (.cond (.t 7) (.seq (.region [⟨.mv (.c (.bool false)), none⟩] [(4, 0)])
 .ret) .skip))
 (.seq (.region [⟨.mv (.c (.bool true)), none⟩] [(4, 0)])
 .ret)))))
def a_l_eqLog : AFun := ⟨[0, 1, 2, 3, 4, 9, 14, 19], 20, c_l_eqLog, [.tmp 4], 1⟩
def c_l_szLog : ACode :=
 (.seq (.region [⟨.box (.t 0), none⟩, ⟨.mv (.c (.int .i64 (0))), none⟩] [(2, 0), (3, 1)])
 (.seq (.region [⟨.mv (.t 1), none⟩, ⟨.fieldAddr 0 (.t 2), none⟩, ⟨.load false 1 (.l 1), none⟩, ⟨.lenStr (.l 2), none⟩, ⟨.bin 0 .sub (.l 0) (.l 3), none⟩, ⟨.mv (.l 4), none⟩] [(1, 5)])
 (.seq (.seq (.region [⟨.mv (.t 1), none⟩, ⟨.bin 0 .lss (.l 0) (.c (.int .i64 (0))), none⟩] [(4, 1)])
 (.cond (.t 4) (.seq (.region [⟨.mv (.c (.int .i64 (-1))), none⟩] [(3, 0)])
 .ret) .skip))
 (.seq (.region [⟨.mv (.t 1), none⟩, ⟨.fieldAddr 1 (.t 2), none⟩, ⟨.load false 1 (.l 1), none⟩, ⟨.lenStr (.l 2), none⟩, ⟨.bin 0 .sub (.l 0) (.l 3), none⟩, ⟨.mv (.l 4), none⟩] [(1, 5)])
 (.seq (.seq (.region [⟨.mv (.t 1), none⟩, ⟨.bin 0 .lss (.l 0) (.c (.int .i64 (0))), none⟩] [(5, 1)])
 (.cond (.t 5) (.seq (.region [⟨.mv (.c (.int .i64 (-1))), none⟩] [(3, 0)])
 .ret) .skip))
 (.seq (.region [⟨.mv (.t 1), none⟩, ⟨.mv (.l 0), none⟩] [(3, 1)])
 .ret))))))
def a_l_szLog : AFun := ⟨[0, 1, 2, 4, 11, 18], 20, c_l_szLog, [.tmp 3], 1⟩
def c_s_IsValidLog : ACode :=
 (.seq (.region [⟨.box (.t 0), none⟩, ⟨.mv (.c (.bool false)), none⟩] [(1, 0), (2, 1)])
 (.seq (.region [⟨.load true 3 (.t 1), none⟩, ⟨.call (.c (.fn f_s_l12Valid [] [])) [(.l 0)], none⟩, ⟨.mv (.l 1), none⟩] [(2, 2)])
 .ret))
def a_s_IsValidLog : AFun := ⟨[0, 1, 2], 5, c_s_IsValidLog, [.tmp 2], 1⟩
def c_l_toLog : ACode :=
 (.seq (.region [⟨.box (.t 0), none⟩, ⟨.alloc [.str ⟨#[]⟩, .str ⟨#[]⟩, .int .i64 (0)], none⟩] [(1, 0), (2, 1)])
 (.seq (.region [⟨.alloc [.str ⟨#[]⟩, .str ⟨#[]⟩, .int .i64 (0)], none⟩] [(3, 0)])
 (.seq (.region [⟨.fieldAddr 0 (.t 1), none⟩, ⟨.load false 1 (.l 0), none⟩, ⟨.fieldAddr 0 (.t 3), none⟩, ⟨.store 1 (.l 2) (.l 1), none⟩] [])
 (.seq (.region [⟨.fieldAddr 1 (.t 1), none⟩, ⟨.load false 1 (.l 0), none⟩, ⟨.fieldAddr 1 (.t 3), none⟩, ⟨.store 1 (.l 2) (.l 1), none⟩] [])
 (.seq (.region [⟨.fieldAddr 2 (.t 1), none⟩, ⟨.load false 1 (.l 0), none⟩, ⟨.fieldAddr 2 (.t 3), none⟩, ⟨.store 1 (.l 2) (.l 1), none⟩] [])
 (.seq (.region [⟨.load true 3 (.t 3), none⟩, ⟨.store 3 (.t 2) (.l 0), none⟩] [])
 .ret))))))
def a_l_toLog : AFun := ⟨[0, 1, 2, 3], 14, c_l_toLog, [.cell 2 true 3], 1⟩
def c_i_IsValidLog : ACode :=
 (.seq (.region [⟨.box (.t 0), none⟩, ⟨.mv (.c (.bool false)), none⟩] [(1, 0), (2, 1)])
 (.seq (.region [⟨.load true 3 (.t 1), none⟩, ⟨.call (.c (.fn f_i_logRecords [] [])) [(.l 0)], none⟩, ⟨.mv (.l 1), none⟩, ⟨.extract 0 (.l 2), none⟩, ⟨.extract 1 (.l 2), none⟩, ⟨.mv (.l 3), none⟩, ⟨.mv (.l 4), none⟩] [(3, 6)])
 (.seq (.region [⟨.mv (.t 3), none⟩, ⟨.mv (.l 0), none⟩] [(2, 1)])
 .ret)))
def a_i_IsValidLog : AFun := ⟨[0, 1, 2, 4], 11, c_i_IsValidLog, [.tmp 2], 1⟩
def c_s_CrashLog : ACode :=
 (.seq (.region [⟨.box (.t 0), none⟩, ⟨.mv (.c (.str ⟨#[]⟩)), none⟩, ⟨.mv (.c (.bool false)), none⟩] [(3, 0), (4, 1), (5, 2)])
 (.seq (.seq (.region [⟨.load true 3 (.t 3), none⟩, ⟨.call (.c (.fn f_s_l12Valid [] [])) [(.l 0)], none⟩, ⟨.un .not (.l 1), none⟩, ⟨.mv (.l 2), none⟩, ⟨.mv (.t 1), some ((.l 3), false)⟩, ⟨.fieldAddr 1 (.t 3), some ((.l 3), false)⟩, ⟨.load false 1 (.l 5), some ((.l 3), false)⟩, ⟨.lenStr (.l 6), some ((.l 3), false)⟩, ⟨.call (.c (.fn f_s_l1In [] [])) [(.l 4), (.c (.int .i64 (0))), (.l 7)], some ((.l 3), false)⟩, ⟨.un .not (.l 8), some ((.l 3), false)⟩, ⟨.pick (.l 3) (.c (.bool true)) (.l 9), none⟩] [(7, 10)])
 (.cond (.t 7) (.seq (.region [⟨.mv (.c (.str ⟨#[]⟩)), none⟩, ⟨.mv (.c (.bool false)), none⟩] [(4, 0), (5, 1)])
 .ret) .skip))
 (.seq (.region [⟨.fieldAddr 1 (.t 3), none⟩, ⟨.load false 1 (.l 0), none⟩, ⟨.mv (.t 1), none⟩, ⟨.sliceStr (.l 1) none (some (.l 2)), none⟩, ⟨.toBytes (.l 3), none⟩, ⟨.mv (.l 4), none⟩] [(6, 5)])
 (.seq (.seq (.region [⟨.mv (.t 2), none⟩, ⟨.mv (.l 0), none⟩, ⟨.mv (.t 1), some ((.l 1), true)⟩, ⟨.bin 0 .gtr (.l 2) (.c (.int .i64 (0))), some ((.l 1), true)⟩, ⟨.pick (.l 1) (.l 3) (.c (.bool false)), none⟩] [(8, 4)])
 (.cond (.t 8) (.region [⟨.mv (.t 6), none⟩, ⟨.mv (.t 1), none⟩, ⟨.bin 0 .sub (.l 1) (.c (.int .i64 (1))), none⟩, ⟨.mv (.t 6), none⟩, ⟨.mv (.t 1), none⟩, ⟨.bin 0 .sub (.l 4) (.c (.int .i64 (1))), none⟩, ⟨.indexAddrS 1 (.l 3) (.l 5), none⟩, ⟨.load false 1 (.l 6), none⟩, ⟨.bin 0 .sub (.c (.int .u8 (255))) (.l 7), none⟩, ⟨.indexAddrS 1 (.l 0) (.l 2), none⟩, ⟨.store 1 (.l 9) (.l 8), none⟩] []) .skip))
 (.seq (.region [⟨.fieldAddr 0 (.t 3), none⟩, ⟨.load false 1 (.l 0), none⟩, ⟨.mv (.t 6), none⟩, ⟨.ofBytes (.l 2), none⟩, ⟨.bin 1 .add (.l 1) (.l 3), none⟩, ⟨.mv (.l 4), none⟩, ⟨.mv (.c (.bool true)), none⟩] [(4, 5), (5, 6)])
 .ret)))))
def a_s_CrashLog : AFun := ⟨[0, 1, 2, 3, 6, 7, 8, 19, 29], 45, c_s_CrashLog, [.tmp 4, .tmp 5], 1⟩
def c_i_CrashLog : ACode :=
 (.seq (.region [⟨.box (.t 0), none⟩, ⟨.mv (.c (.str ⟨#[]⟩)), none⟩, ⟨.mv (.c (.bool false)), none⟩] [(3, 0), (4, 1), (5, 2)])
 (.seq (.seq (.region [⟨.load true 3 (.t 3), none⟩, ⟨.call (.c (.fn f_i_IsValidLog [] [])) [(.l 0)], none⟩, ⟨.un .not (.l 1), none⟩, ⟨.mv (.l 2), none⟩, ⟨.mv (.t 1), some ((.l 3), false)⟩, ⟨.fieldAddr 1 (.t 3), some ((.l 3), false)⟩, ⟨.load false 1 (.l 5), some ((.l 3), false)⟩, ⟨.lenStr (.l 6), some ((.l 3), false)⟩, ⟨.call (.c (.fn f_i_within [] [])) [(.l 4), (.c (.int .i64 (0))), (.l 7)], some ((.l 3), false)⟩, ⟨.un .not (.l 8), some ((.l 3), false)⟩, ⟨.pick (.l 3) (.c (.bool true)) (.l 9), none⟩] [(7, 10)])
 (.cond (.t 7) (.seq (.region [⟨.mv (.c (.str ⟨#[]⟩)), none⟩, ⟨.mv (.c (.bool false)), none⟩] [(4, 0), (5, 1)])
 .ret) .skip))
 (.seq (.region [⟨.fieldAddr 1 (.t 3), none⟩, ⟨.load false 1 (.l 0), none⟩, ⟨.mv (.t 1), none⟩, ⟨.sliceStr (.l 1) none (some (.l 2)), none⟩, ⟨.toBytes (.l 3), none⟩, ⟨.mv (.l 4), none⟩] [(6, 5)])
 (.seq (.seq (.region [⟨.mv (.t 2), none⟩, ⟨.mv (.l 0), none⟩, ⟨.mv (.t 1), some ((.l 1), true)⟩, ⟨.bin 0 .gtr (.l 2) (.c (.int .i64 (0))), some ((.l 1), true)⟩, ⟨.pick (.l 1) (.l 3) (.c (.bool false)), none⟩] [(8, 4)])
 (.cond (.t 8) (.region [⟨.mv (.t 6), none⟩, ⟨.mv (.t 1), none⟩, ⟨.bin 0 .sub (.l 1) (.c (.int .i64 (1))), none⟩, ⟨.mv (.t 6), none⟩, ⟨.mv (.t 1), none⟩, ⟨.bin 0 .sub (.l 4) (.c (.int .i64 (1))), none⟩, ⟨.indexAddrS 1 (.l 3) (.l 5), none⟩, ⟨.load false 1 (.l 6), none⟩, ⟨.bin 0 .sub (.c (.int .u8 (255))) (.l 7), none⟩, ⟨.indexAddrS 1 (.l 0) (.l 2), none⟩, ⟨.store 1 (.l 9) (.l 8), none⟩] []) .skip))
 (.seq (.region [⟨.fieldAddr 0 (.t 3), none⟩, ⟨.load false 1 (.l 0), none⟩, ⟨.mv (.t 6), none⟩, ⟨.ofBytes (.l 2), none⟩, ⟨.bin 1 .add (.l 1) (.l 3), none⟩, ⟨.mv (.l 4), none⟩, ⟨.mv (.c (.bool true)), none⟩] [(4, 5), (5, 6)])
 .ret)))))
def a_i_CrashLog : AFun := ⟨[0, 1, 2, 3, 6, 7, 8, 19, 29], 45, c_i_CrashLog, [.tmp 4, .tmp 5], 1⟩
def c_s_SyncLog : ACode :=
 (.seq (.region [⟨.box (.t 0), none⟩, ⟨.alloc [.str ⟨#[]⟩, .str ⟨#[]⟩, .int .i64 (0)], none⟩, ⟨.mv (.c (.bool false)), none⟩] [(1, 0), (2, 1), (3, 2)])
 (.seq (.seq (.region [⟨.load true 3 (.t 1), none⟩, ⟨.call (.c (.fn f_s_l12Valid [] [])) [(.l 0)], none⟩, ⟨.un .not (.l 1), none⟩] [(4, 2)])
 (.cond (.t 4) (.seq (.region [⟨.build [.str ⟨#[]⟩, .str ⟨#[]⟩, .int .i64 (0)] [], none⟩, ⟨.store 3 (.t 2) (.l 0), none⟩, ⟨.mv (.c (.bool false)), none⟩] [(3, 2)])
 .ret) .skip))
 (.seq (.region [⟨.fieldAddr 0 (.t 1), none⟩, ⟨.load false 1 (.l 0), none⟩, ⟨.fieldAddr 1 (.t 1), none⟩, ⟨.load false 1 (.l 2), none⟩, ⟨.bin 1 .add (.l 1) (.l 3), none⟩, ⟨.fieldAddr 2 (.t 1), none⟩, ⟨.load false 1 (.l 5), none⟩, ⟨.build [.str ⟨#[]⟩, .str ⟨#[]⟩, .int .i64 (0)] [(0, 1, (.l 4)), (2, 1, (.l 6))], none⟩, ⟨.store 3 (.t 2) (.l 7), none⟩, ⟨.mv (.c (.bool true)), none⟩] [(3, 9)])
 .ret)))
def a_s_SyncLog : AFun := ⟨[0, 1, 2, 3, 6], 16, c_s_SyncLog, [.cell 2 true 3, .tmp 3], 1⟩
def c_i_SyncLog : ACode :=
 (.seq (.region [⟨.box (.t 0), none⟩, ⟨.alloc [.str ⟨#[]⟩, .str ⟨#[]⟩, .int .i64 (0)], none⟩, ⟨.mv (.c (.bool false)), none⟩] [(1, 0), (2, 1), (3, 2)])
 (.seq (.seq (.region [⟨.load true 3 (.t 1), none⟩, ⟨.call (.c (.fn f_i_IsValidLog [] [])) [(.l 0)], none⟩, ⟨.un .not (.l 1), none⟩] [(4, 2)])
 (.cond (.t 4) (.seq (.region [⟨.build [.str ⟨#[]⟩, .str ⟨#[]⟩, .int .i64 (0)] [], none⟩, ⟨.store 3 (.t 2) (.l 0), none⟩, ⟨.mv (.c (.bool false)), none⟩] [(3, 2)])
 .ret) .skip))
 (.seq (.region [⟨.fieldAddr 0 (.t 1), none⟩, ⟨.load false 1 (.l 0), none⟩, ⟨.fieldAddr 1 (.t 1), none⟩, ⟨.load false 1 (.l 2), none⟩, ⟨.bin 1 .add (.l 1) (.l 3), none⟩, ⟨.fieldAddr 2 (.t 1), none⟩, ⟨.load false 1 (.l 5), none⟩, ⟨.build [.str ⟨#[]⟩, .str ⟨#[]⟩, .int .i64 (0)] [(0, 1, (.l 4)), (2, 1, (.l 6))], none⟩, ⟨.store 3 (.t 2) (.l 7), none⟩, ⟨.mv (.c (.bool true)), none⟩] [(3, 9)])
 .ret)))
def a_i_SyncLog : AFun := ⟨[0, 1, 2, 3, 6], 16, c_i_SyncLog, [.cell 2 true 3, .tmp 3], 1⟩
def c_s_AppendRecord : ACode :=
 (.seq (.region [⟨.box (.t 0), none⟩, ⟨.box (.t 1), none⟩, ⟨.alloc [.str ⟨#[]⟩, .str ⟨#[]⟩, .int .i64 (0)], none⟩, ⟨.mv (.c (.int .i64 (0))), none⟩] [(2, 0), (3, 1), (4, 2), (5, 3)])
 (.seq (.seq (.region [⟨.load true 3 (.t 2), none⟩, ⟨.call (.c (.fn f_s_l12Valid [] [])) [(.l 0)], none⟩, ⟨.un .not (.l 1), none⟩, ⟨.mv (.l 2), none⟩, ⟨.load true 2 (.t 3), some ((.l 3), false)⟩, ⟨.call (.c (.fn f_s_l12Record [] [])) [(.l 4)], some ((.l 3), false)⟩, ⟨.un .not (.l 5), some ((.l 3), false)⟩, ⟨.pick (.l 3) (.c (.bool true)) (.l 6), none⟩] [(6, 7)])
 (.cond (.t 6) (.seq (.region [⟨.load true 3 (.t 2), none⟩, ⟨.store 3 (.t 4) (.l 0), none⟩, ⟨.mv (.c (.int .i64 (1))), none⟩] [(5, 2)])
 .ret) .skip))
 (.seq (.seq (.region [⟨.fieldAddr 2 (.t 2), none⟩, ⟨.load false 1 (.l 0), none⟩, ⟨.bin 0 .eql (.l 1) (.c (.int .i64 (60))), none⟩] [(7, 2)])
 (.cond (.t 7) (.seq (.region [⟨.load true 3 (.t 2), none⟩, ⟨.store 3 (.t 4) (.l 0), none⟩, ⟨.mv (.c (.int .i64 (2))), none⟩] [(5, 2)])
 .ret) .skip))
 (.seq (.draw [⟨.fieldAddr 1 (.t 2), none, []⟩, ⟨.load false 1 (.l 0), none, []⟩, ⟨.fieldAddr 2 (.t 2), none, []⟩, ⟨.load false 1 (.l 2), none, []⟩, ⟨.load true 2 (.t 3), none, []⟩, ⟨.call (.c (.fn f_s_l12Line [] [])) [(.l 3), (.l 4)], none, [(1, ⟨.load false 1 (.l 0), none⟩)]⟩, ⟨.bin 1 .add (.l 1) (.l 5), none, []⟩, ⟨.fieldAddr 1 (.t 2), none, []⟩, ⟨.store 1 (.l 7) (.l 6), none, []⟩] [])
 (.seq (.region [⟨.fieldAddr 2 (.t 2), none⟩, ⟨.load false 1 (.l 0), none⟩, ⟨.bin 0 .add (.l 1) (.c (.int .i64 (1))), none⟩, ⟨.fieldAddr 2 (.t 2), none⟩, ⟨.store 1 (.l 3) (.l 2), none⟩] [])
 (.seq (.region [⟨.load true 3 (.t 2), none⟩, ⟨.store 3 (.t 4) (.l 0), none⟩, ⟨.mv (.c (.int .i64 (0))), none⟩] [(5, 2)])
 .ret))))))
def a_s_AppendRecord : AFun := ⟨[0, 1, 2, 3, 4, 5, 13, 17], 32, c_s_AppendRecord, [.cell 4 true 3, .tmp 5], 1⟩
def c_i_AppendRecord : ACode :=
 (.seq (.region [⟨.box (.t 0), none⟩, ⟨.box (.t 1), none⟩, ⟨.alloc [.str ⟨#[]⟩, .str ⟨#[]⟩, .int .i64 (0)], none⟩, ⟨.mv (.c (.int .i64 (0))), none⟩] [(2, 0), (3, 1), (4, 2), (5, 3)])
 (.seq (.block 0 (.seq (.region [⟨.load true 3 (.t 2), none⟩, ⟨.call (.c (.fn f_i_IsValidLog [] [])) [(.l 0)], none⟩, ⟨.un .not (.l 1), none⟩, ⟨.mv (.l 2), none⟩, ⟨.load true 2 (.t 3), some ((.l 3), false)⟩, ⟨.call (.c (.fn f_i_IsValidRecord [] [])) [(.l 4)], some ((.l 3), false)⟩, ⟨.un .not (.l 5), some ((.l 3), false)⟩, ⟨.pick (.l 3) (.c (.bool true)) (.l 6), none⟩, ⟨.mv (.l 7), none⟩] [(7, 8)])
 (.cond (.t 7) (.seq (.region [⟨.load true 3 (.t 2), none⟩, ⟨.store 3 (.t 4) (.l 0), none⟩, ⟨.mv (.c (.int .i64 (1))), none⟩] [(5, 2)])
 .ret) (.seq (.region [⟨.fieldAddr 2 (.t 2), none⟩, ⟨.load false 1 (.l 0), none⟩, ⟨.bin 0 .eql (.l 1) (.c (.int .i64 (60))), none⟩, ⟨.mv (.l 2), none⟩] [(8, 3)])
 (.cond (.t 8) (.seq (.region [⟨.load true 3 (.t 2), none⟩, ⟨.store 3 (.t 4) (.l 0), none⟩, ⟨.mv (.c (.int .i64 (2))), none⟩] [(5, 2)])
 .ret) .skip)))))
 (.seq (.region [⟨.fieldAddr 2 (.t 2), none⟩, ⟨.load false 1 (.l 0), none⟩, ⟨.load true 2 (.t 3), none⟩, ⟨.call (.c (.fn f_i_EncodeRecord [] [])) [(.l 1), (.l 2)], none⟩, ⟨.mv (.l 3), none⟩, ⟨.extract 0 (.l 4), none⟩, ⟨.extract 1 (.l 4), none⟩, ⟨.mv (.l 5), none⟩, ⟨.mv (.l 6), none⟩] [(6, 7)])
 (.seq (.region [⟨.fieldAddr 0 (.t 2), none⟩, ⟨.load false 1 (.l 0), none⟩, ⟨.fieldAddr 1 (.t 2), none⟩, ⟨.load false 1 (.l 2), none⟩, ⟨.mv (.t 6), none⟩, ⟨.bin 1 .add (.l 3) (.l 4), none⟩, ⟨.fieldAddr 2 (.t 2), none⟩, ⟨.load false 1 (.l 6), none⟩, ⟨.bin 0 .add (.l 7) (.c (.int .i64 (1))), none⟩, ⟨.build [.str ⟨#[]⟩, .str ⟨#[]⟩, .int .i64 (0)] [(0, 1, (.l 1)), (1, 1, (.l 5)), (2, 1, (.l 8))], none⟩, ⟨.store 3 (.t 4) (.l 9), none⟩, ⟨.mv (.c (.int .i64 (0))), none⟩] [(5, 11)])
 .ret))))
def a_i_AppendRecord : AFun := ⟨[0, 1, 2, 3, 4, 5, 6, 8, 18], 40, c_i_AppendRecord, [.cell 4 true 3, .tmp 5], 1⟩
def c_s_LogRecords : ACode :=
 (.seq (.region [⟨.box (.t 0), none⟩, ⟨.mv (.c (.slice none 0 0 none)), none⟩, ⟨.mv (.c (.bool false)), none⟩] [(1, 0), (2, 1), (3, 2)])
 (.seq (.seq (.region [⟨.load true 3 (.t 1), none⟩, ⟨.call (.c (.fn f_s_l12Valid [] [])) [(.l 0)], none⟩, ⟨.un .not (.l 1), none⟩] [(5, 2)])
 (.cond (.t 5) (.seq (.region [⟨.buildSlice 2 0 [] [], none⟩, ⟨.mv (.l 0), none⟩, ⟨.mv (.c (.bool false)), none⟩] [(2, 1), (3, 2)])
 .ret) .skip))
 (.seq (.region [⟨.fieldAddr 0 (.t 1), none⟩, ⟨.load false 1 (.l 0), none⟩, ⟨.fieldAddr 1 (.t 1), none⟩, ⟨.load false 1 (.l 2), none⟩, ⟨.bin 1 .add (.l 1) (.l 3), none⟩, ⟨.call (.c (.fn f_s_l12Open [] [])) [(.l 4)], none⟩, ⟨.mv (.l 5), none⟩, ⟨.extract 0 (.l 6), none⟩, ⟨.extract 1 (.l 6), none⟩, ⟨.mv (.l 7), none⟩, ⟨.mv (.l 8), none⟩] [(4, 9)])
 (.seq (.region [⟨.mv (.t 4), none⟩, ⟨.mv (.l 0), none⟩, ⟨.mv (.c (.bool true)), none⟩] [(2, 1), (3, 2)])
 .ret))))
def a_s_LogRecords : AFun := ⟨[0, 1, 2, 3, 4, 8], 20, c_s_LogRecords, [.tmp 2, .tmp 3], 2⟩
def c_i_LogRecords : ACode :=
 (.seq (.region [⟨.box (.t 0), none⟩, ⟨.mv (.c (.slice none 0 0 none)), none⟩, ⟨.mv (.c (.bool false)), none⟩] [(1, 0), (2, 1), (3, 2)])
 (.seq (.region [⟨.load true 3 (.t 1), none⟩, ⟨.call (.c (.fn f_i_logRecords [] [])) [(.l 0)], none⟩, ⟨.mv (.l 1), none⟩, ⟨.extract 0 (.l 2), none⟩, ⟨.extract 1 (.l 2), none⟩, ⟨.mv (.l 3), none⟩, ⟨.mv (.l 4), none⟩] [(4, 5), (5, 6)])
 (.seq (.seq (.region [⟨.mv (.t 5), none⟩, ⟨.un .not (.l 0), none⟩] [(6, 1)])
 (.cond (.t 6) (.seq (.region [⟨.mv (.c (.slice none 0 0 none)), none⟩, ⟨.mv (.c (.bool false)), none⟩] [(2, 0), (3, 1)])
 .ret) .skip))
 (.seq (.region [⟨.mv (.t 4), none⟩, ⟨.mv (.l 0), none⟩, ⟨.mv (.c (.bool true)), none⟩] [(2, 1), (3, 2)])
 .ret))))
def a_i_LogRecords : AFun := ⟨[0, 1, 2, 3, 4, 5, 12], 14, c_i_LogRecords, [.tmp 2, .tmp 3], 2⟩
def w_l_eqLogRecordS_1 : ACode :=
 (.seq (.seq (.region [⟨.mv (.t 3), none⟩, ⟨.mv (.t 0), none⟩, ⟨.len (.l 1), none⟩, ⟨.bin 0 .lss (.l 0) (.l 2), none⟩] [(5, 3)])
 (.cond (.t 5) .skip (.exit 0)))
 (.seq (.block 1 (.seq (.draw [⟨.mv (.t 0), none, []⟩, ⟨.mv (.t 3), none, []⟩, ⟨.indexAddrS 2 (.l 0) (.l 1), none, []⟩, ⟨.load true 2 (.l 2), none, []⟩, ⟨.mv (.t 1), none, []⟩, ⟨.mv (.t 3), none, []⟩, ⟨.indexAddrS 2 (.l 4) (.l 5), none, []⟩, ⟨.load true 2 (.l 6), none, []⟩, ⟨.call (.c (.fn f_l_eqLogRecord [] [])) [(.l 3), (.l 7)], none, []⟩, ⟨.un .not (.l 8), none, []⟩] [(6, 9)])
 (.cond (.t 6) (.seq (.region [⟨.mv (.c (.bool false)), none⟩] [(2, 0)])
 .ret) .skip)))
 (.region [⟨.mv (.t 3), none⟩, ⟨.bin 0 .add (.l 0) (.c (.int .i64 (1))), none⟩, ⟨.mv (.l 1), none⟩] [(3, 2)])))
def c_l_eqLogRecordS : ACode :=
 (.seq (.region [⟨.mv (.c (.bool false)), none⟩] [(2, 0)])
 (.seq (.seq (.region [⟨.mv (.t 0), none⟩, ⟨.len (.l 0), none⟩, ⟨.mv (.t 1), none⟩, ⟨.len (.l 2), none⟩, ⟨.bin 0 .neq (.l 1) (.l 3), none⟩] [(4, 4)])
 (.cond (.t 4) (.seq (.region [⟨.mv (.c (.bool false)), none⟩] [(2, 0)])
 .ret) .skip))
 (.seq (.seq (.region [⟨.mv (.c (.int .i64 (0))), none⟩] [(3, 0)])
 (.block 0 (.loop w_l_eqLogRecordS_1)))
 (.seq (.region [⟨.mv (.c (.bool true)), none⟩] [(2, 0)])
 .ret))))
def a_l_eqLogRecordS : AFun := ⟨[0, 1, 4, 5, 10, 14, 26], 27, c_l_eqLogRecordS, [.tmp 2], 1⟩
def w_l_markLogRecordS_1 : ACode :=
 (.seq (.seq (.region [⟨.mv (.t 3), none⟩, ⟨.mv (.t 0), none⟩, ⟨.len (.l 1), none⟩, ⟨.bin 0 .lss (.l 0) (.l 2), none⟩] [(4, 3)])
 (.cond (.t 4) .skip (.exit 0)))
 (.seq (.block 1 (.seq (.region [⟨.mv (.t 0), none⟩, ⟨.mv (.t 3), none⟩, ⟨.mv (.t 1), none⟩, ⟨.call (.c (.fn f_l_markText [] [])) [(.l 2)], none⟩, ⟨.indexAddrS 2 (.l 0) (.l 1), none⟩, ⟨.fieldAddr 0 (.l 4), none⟩, ⟨.store 1 (.l 5) (.l 3), none⟩] [])
 (.seq (.region [⟨.mv (.t 1), none⟩, ⟨.bin 0 .add (.l 0) (.c (.int .i64 (1))), none⟩, ⟨.mv (.l 1), none⟩] [(1, 2)])
 (.seq (.region [⟨.mv (.t 0), none⟩, ⟨.mv (.t 3), none⟩, ⟨.mv (.t 1), none⟩, ⟨.call (.c (.fn f_l_markText [] [])) [(.l 2)], none⟩, ⟨.indexAddrS 2 (.l 0) (.l 1), none⟩, ⟨.fieldAddr 1 (.l 4), none⟩, ⟨.store 1 (.l 5) (.l 3), none⟩] [])
 (.region [⟨.mv (.t 1), none⟩, ⟨.bin 0 .add (.l 0) (.c (.int .i64 (1))), none⟩, ⟨.mv (.l 1), none⟩] [(1, 2)])))))
 (.region [⟨.mv (.t 3), none⟩, ⟨.bin 0 .add (.l 0) (.c (.int .i64 (1))), none⟩, ⟨.mv (.l 1), none⟩] [(3, 2)])))
def c_l_markLogRecordS : ACode :=
 (.seq (.region [⟨.mv (.c (.int .i64 (0))), none⟩] [(2, 0)])
 (.seq (.seq (.region [⟨.mv (.c (.int .i64 (0))), none⟩] [(3, 0)])
 (.block 0 (.loop w_l_markLogRecordS_1)))
 (.seq (.region [⟨.mv (.t 1), none⟩, ⟨.mv (.l 0), none⟩] [(2, 1)])
 .ret)))
def a_l_markLogRecordS : AFun := ⟨[0, 1, 4, 5, 9], 29, c_l_markLogRecordS, [.tmp 2], 1⟩
def w_l_heldLogRecordS_1 : ACode :=
 (.seq (.seq (.region [⟨.mv (.t 3), none⟩, ⟨.mv (.t 0), none⟩, ⟨.len (.l 1), none⟩, ⟨.bin 0 .lss (.l 0) (.l 2), none⟩] [(4, 3)])
 (.cond (.t 4) .skip (.exit 0)))
 (.seq (.block 1 (.seq (.seq (.draw [⟨.mv (.t 0), none, []⟩, ⟨.mv (.t 3), none, []⟩, ⟨.indexAddrS 2 (.l 0) (.l 1), none, []⟩, ⟨.fieldAddr 0 (.l 2), none, []⟩, ⟨.load false 1 (.l 3), none, []⟩, ⟨.mv (.t 1), none, []⟩, ⟨.call (.c (.fn f_l_markText [] [])) [(.l 5)], none, [(4, ⟨.load false 1 (.l 3), none⟩)]⟩, ⟨.bin 1 .neq (.l 4) (.l 6), none, []⟩] [(5, 7)])
 (.cond (.t 5) (.seq (.region [⟨.mv (.c (.int .i64 (-1))), none⟩] [(2, 0)])
 .ret) .skip))
 (.seq (.region [⟨.mv (.t 1), none⟩, ⟨.bin 0 .add (.l 0) (.c (.int .i64 (1))), none⟩, ⟨.mv (.l 1), none⟩] [(1, 2)])
 (.seq (.seq (.draw [⟨.mv (.t 0), none, []⟩, ⟨.mv (.t 3), none, []⟩, ⟨.indexAddrS 2 (.l 0) (.l 1), none, []⟩, ⟨.fieldAddr 1 (.l 2), none, []⟩, ⟨.load false 1 (.l 3), none, []⟩, ⟨.mv (.t 1), none, []⟩, ⟨.call (.c (.fn f_l_markText [] [])) [(.l 5)], none, [(4, ⟨.load false 1 (.l 3), none⟩)]⟩, ⟨.bin 1 .neq (.l 4) (.l 6), none, []⟩] [(6, 7)])
 (.cond (.t 6) (.seq (.region [⟨.mv (.c (.int .i64 (-1))), none⟩] [(2, 0)])
 .ret) .skip))
 (.region [⟨.mv (.t 1), none⟩, ⟨.bin 0 .add (.l 0) (.c (.int .i64 (1))), none⟩, ⟨.mv (.l 1), none⟩] [(1, 2)])))))
 (.region [⟨.mv (.t 3), none⟩, ⟨.bin 0 .add (.l 0) (.c (.int .i64 (1))), none⟩, ⟨.mv (.l 1), none⟩] [(3, 2)])))
def c_l_heldLogRecordS : ACode :=
 (.seq (.region [⟨.mv (.c (.int .i64 (0))), none⟩] [(2, 0)])
 (.seq (.seq (.region [⟨.mv (.c (.int .i64 (0))), none⟩] [(3, 0)])
 (.block 0 (.loop w_l_heldLogRecordS_1)))
 (.seq (.region [⟨.mv (.t 1), none⟩, ⟨.mv (.l 0), none⟩] [(2, 1)])
 .ret)))
def a_l_heldLogRecordS : AFun := ⟨[0, 1, 4, 5, 9, 19, 29], 33, c_l_heldLogRecordS, [.tmp 2], 1⟩
def c_l_vBig : ACode :=
 (.seq (.region [⟨.mv (.c (.bool false)), none⟩] [(1, 0)])
 (.seq (.region [⟨.mv (.t 0), none⟩, ⟨.len (.l 0), none⟩, ⟨.bin 0 .gtr (.l 1) (.c (.int .i64 (65536))), none⟩, ⟨.mv (.l 2), none⟩] [(1, 3)])
 .ret))
def a_l_vBig : AFun := ⟨[0, 2], 6, c_l_vBig, [.tmp 1], 1⟩
def c_s_DrawIsValidRecord : ACode :=
 (.seq (.region [⟨.alloc [.str ⟨#[]⟩, .str ⟨#[]⟩], none⟩] [(1, 0)])
 (.seq (.region [⟨.mv (.t 0), none⟩, ⟨.build [.slice none 0 0 none, .int .i64 (0), .int .u64 (0)] [(0, 1, (.l 0))], none⟩, ⟨.box (.l 1), none⟩, ⟨.mv (.l 2), none⟩] [(2, 3)])
 (.seq (.region [⟨.mv (.t 2), none⟩, ⟨.call (.c (.fn f_s_l1Cur_logRecord [] [])) [(.l 0)], none⟩, ⟨.store 2 (.t 1) (.l 1), none⟩] [])
 .ret)))
def a_s_DrawIsValidRecord : AFun := ⟨[0, 2, 3], 9, c_s_DrawIsValidRecord, [.cell 1 true 2], 1⟩
def c_s_DrawEncodeRecord : ACode :=
 (.seq (.region [⟨.mv (.c (.int .i64 (0))), none⟩, ⟨.alloc [.str ⟨#[]⟩, .str ⟨#[]⟩], none⟩] [(1, 0), (2, 1)])
 (.seq (.region [⟨.mv (.t 0), none⟩, ⟨.build [.slice none 0 0 none, .int .i64 (0), .int .u64 (0)] [(0, 1, (.l 0))], none⟩, ⟨.box (.l 1), none⟩, ⟨.mv (.l 2), none⟩] [(3, 3)])
 (.seq (.region [⟨.mv (.t 3), none⟩, ⟨.buildSlice 1 6 [.int .i64 (0), .int .i64 (0), .int .i64 (0), .int .i64 (0), .int .i64 (0), .int .i64 (0)] [(0, 1, (.c (.int .i64 (0)))), (1, 1, (.c (.int .i64 (1)))), (2, 1, (.c (.int .i64 (12)))), (3, 1, (.c (.int .i64 (59)))), (4, 1, (.c (.int .i64 (60)))), (5, 1, (.c (.int .i64 (-1))))], none⟩, ⟨.call (.c (.fn f_s_l1Cur_among [] [])) [(.l 0), (.l 1)], none⟩, ⟨.mv (.l 2), none⟩] [(4, 3)])
 (.seq (.region [⟨.mv (.t 4), none⟩, ⟨.mv (.t 3), none⟩, ⟨.call (.c (.fn f_s_l1Cur_logRecord [] [])) [(.l 1)], none⟩, ⟨.mv (.l 0), none⟩, ⟨.store 2 (.t 2) (.l 2), none⟩] [(1, 3)])
 .ret))))
def a_s_DrawEncodeRecord : AFun := ⟨[0, 2, 3, 4, 5], 15, c_s_DrawEncodeRecord, [.tmp 1, .cell 2 true 2], 1⟩
def c_l_vCut : ACode :=
 (.seq (.region [⟨.mv (.c (.slice none 0 0 none)), none⟩] [(2, 0)])
 (.seq (.seq (.region [⟨.mv (.t 1), none⟩, ⟨.mv (.t 0), none⟩, ⟨.len (.l 1), none⟩, ⟨.bin 0 .gtr (.l 0) (.l 2), none⟩] [(3, 3)])
 (.cond (.t 3) (.region [⟨.mv (.t 0), none⟩, ⟨.len (.l 0), none⟩, ⟨.mv (.l 1), none⟩] [(1, 2)]) .skip))
 (.seq (.region [⟨.buildSlice 1 0 [] [], none⟩, ⟨.mv (.t 0), none⟩, ⟨.mv (.t 1), none⟩, ⟨.sliceSl 1 (.l 1) (some (.l 2)) none none, none⟩, ⟨.append false 1 1 (.l 0) (.l 3), none⟩, ⟨.mv (.t 1), none⟩, ⟨.conv .u8 (.l 5), none⟩, ⟨.buildSlice 1 1 [.int .u8 (0)] [(0, 1, (.l 6))], none⟩, ⟨.append false 1 1 (.l 4) (.l 7), none⟩, ⟨.mv (.l 8), none⟩] [(2, 9)])
 .ret)))
def a_l_vCut : AFun := ⟨[0, 1, 4, 8], 20, c_l_vCut, [.tmp 2], 2⟩
def c_s_DrawIsValidLog : ACode :=
 (.seq (.region [⟨.alloc [.str ⟨#[]⟩, .str ⟨#[]⟩, .int .i64 (0)], none⟩] [(1, 0)])
 (.seq (.region [⟨.mv (.t 0), none⟩, ⟨.build [.slice none 0 0 none, .int .i64 (0), .int .u64 (0)] [(0, 1, (.l 0))], none⟩, ⟨.box (.l 1), none⟩, ⟨.mv (.l 2), none⟩] [(2, 3)])
 (.seq (.region [⟨.mv (.t 2), none⟩, ⟨.call (.c (.fn f_s_l1Cur_anyLog [] [])) [(.l 0)], none⟩, ⟨.store 3 (.t 1) (.l 1), none⟩] [])
 .ret)))
def a_s_DrawIsValidLog : AFun := ⟨[0, 2, 3], 9, c_s_DrawIsValidLog, [.cell 1 true 3], 1⟩
def w_s_DrawAppendRecord_1 : ACode :=
 (.seq (.seq (.region [⟨.mv (.t 5), none⟩, ⟨.bin 0 .gtr (.l 0) (.c (.int .i64 (0))), none⟩] [(7, 1)])
 (.cond (.t 7) .skip (.exit 0)))
 (.seq (.block 1 (.region [⟨.load true 3 (.t 4), none⟩, ⟨.build [.str ⟨#[]⟩, .str ⟨#[]⟩] [(0, 1, (.c (.str ⟨#[120]⟩)))], none⟩, ⟨.call (.c (.fn f_s_AppendRecord [] [])) [(.l 0), (.l 1)], none⟩, ⟨.mv (.l 2), none⟩, ⟨.extract 0 (.l 3), none⟩, ⟨.extract 1 (.l 3), none⟩, ⟨.store 3 (.t 4) (.l 4), none⟩] []))
 (.region [⟨.mv (.t 5), none⟩, ⟨.bin 0 .sub (.l 0) (.c (.int .i64 (1))), none⟩, ⟨.mv (.l 1), none⟩] [(5, 2)])))
def c_s_DrawAppendRecord : ACode :=
 (.seq (.region [⟨.alloc [.str ⟨#[]⟩, .str ⟨#[]⟩, .int .i64 (0)], none⟩, ⟨.alloc [.str ⟨#[]⟩, .str ⟨#[]⟩], none⟩] [(1, 0), (2, 1)])
 (.seq (.region [⟨.mv (.t 0), none⟩, ⟨.build [.slice none 0 0 none, .int .i64 (0), .int .u64 (0)] [(0, 1, (.l 0))], none⟩, ⟨.box (.l 1), none⟩, ⟨.mv (.l 2), none⟩] [(3, 3)])
 (.seq (.region [⟨.mv (.t 3), none⟩, ⟨.call (.c (.fn f_s_l1Cur_anyLog [] [])) [(.l 0)], none⟩, ⟨.alloc [.str ⟨#[]⟩, .str ⟨#[]⟩, .int .i64 (0)], none⟩, ⟨.store 3 (.l 2) (.l 1), none⟩] [(4, 2)])
 (.seq (.seq (.region [⟨.mv (.t 3), none⟩, ⟨.call (.c (.fn f_s_l1Cur_one [] [])) [(.l 0), (.c (.int .i64 (40)))], none⟩] [(6, 1)])
 (.cond (.t 6) (.seq (.region [⟨.build [.str ⟨#[]⟩, .str ⟨#[]⟩, .int .i64 (0)] [], none⟩, ⟨.store 3 (.t 4) (.l 0), none⟩] [])
 (.seq (.region [⟨.mv (.t 3), none⟩, ⟨.call (.c (.fn f_s_l1Cur_pick [] [])) [(.l 0), (.c (.int .i64 (2)))], none⟩, ⟨.bin 0 .add (.c (.int .i64 (59))) (.l 1), none⟩, ⟨.mv (.l 2), none⟩] [(5, 3)])
 (.block 0 (.loop w_s_DrawAppendRecord_1)))) .skip))
 (.seq (.draw [⟨.load true 3 (.t 4), none, []⟩, ⟨.mv (.t 3), none, []⟩, ⟨.call (.c (.fn f_s_l1Cur_logRecord [] [])) [(.l 1)], none, [(0, ⟨.load true 3 (.t 4), none⟩)]⟩, ⟨.store 3 (.t 1) (.l 0), none, []⟩, ⟨.store 2 (.t 2) (.l 2), none, []⟩] [])
 .ret)))))
def a_s_DrawAppendRecord : AFun := ⟨[0, 2, 3, 4, 5, 6, 13, 19], 31, c_s_DrawAppendRecord, [.cell 1 true 3, .cell 2 true 2], 1⟩
def c_i_IsValidRecord : ACode :=
 (.seq (.region [⟨.box (.t 0), none⟩, ⟨.mv (.c (.bool false)), none⟩] [(1, 0), (2, 1)])
 (.seq (.region [⟨.fieldAddr 0 (.t 1), none⟩, ⟨.load false 1 (.l 0), none⟩, ⟨.lenStr (.l 1), none⟩, ⟨.call (.c (.fn f_i_within [] [])) [(.l 2), (.c (.int .i64 (1))), (.c (.int .i64 (160)))], none⟩, ⟨.mv (.l 3), none⟩, ⟨.fieldAddr 1 (.t 1), some ((.l 4), true)⟩, ⟨.load false 1 (.l 5), some ((.l 4), true)⟩, ⟨.lenStr (.l 6), some ((.l 4), true)⟩, ⟨.bin 0 .leq (.l 7) (.c (.int .i64 (250))), some ((.l 4), true)⟩, ⟨.pick (.l 4) (.l 8) (.c (.bool false)), none⟩, ⟨.mv (.l 9), none⟩, ⟨.fieldAddr 0 (.t 1), some ((.l 10), true)⟩, ⟨.load false 1 (.l 11), some ((.l 10), true)⟩, ⟨.call (.c (.fn f_i_isText [] [])) [(.l 12)], some ((.l 10), true)⟩, ⟨.pick (.l 10) (.l 13) (.c (.bool false)), none⟩, ⟨.mv (.l 14), none⟩, ⟨.fieldAddr 1 (.t 1), some ((.l 15), true)⟩, ⟨.load false 1 (.l 16), some ((.l 15), true)⟩, ⟨.call (.c (.fn f_i_isText [] [])) [(.l 17)], some ((.l 15), true)⟩, ⟨.pick (.l 15) (.l 18) (.c (.bool false)), none⟩, ⟨.mv (.l 19), none⟩, ⟨.fieldAddr 0 (.t 1), some ((.l 20), true)⟩, ⟨.load false 1 (.l 21), some ((.l 20), true)⟩, ⟨.call (.c (.fn f_strings_Contains [] [])) [(.l 22), (.c (.str ⟨#[64]⟩))], some ((.l 20), true)⟩, ⟨.un .not (.l 23), some ((.l 20), true)⟩, ⟨.pick (.l 20) (.l 24) (.c (.bool false)), none⟩, ⟨.mv (.l 25), none⟩] [(2, 26)])
 .ret))
def a_i_IsValidRecord : AFun := ⟨[0, 1, 2], 29, c_i_IsValidRecord, [.tmp 2], 1⟩
def c_s_IsValidRecord : ACode :=
 (.seq (.region [⟨.box (.t 0), none⟩, ⟨.mv (.c (.bool false)), none⟩] [(1, 0), (2, 1)])
 (.seq (.region [⟨.load true 2 (.t 1), none⟩, ⟨.call (.c (.fn f_s_l12Record [] [])) [(.l 0)], none⟩, ⟨.mv (.l 1), none⟩] [(2, 2)])
 .ret))
def a_s_IsValidRecord : AFun := ⟨[0, 1, 2], 5, c_s_IsValidRecord, [.tmp 2], 1⟩
def w_l_vRecords_1 : ACode :=
 (.seq (.seq (.region [⟨.mv (.t 3), none⟩, ⟨.mv (.t 0), none⟩, ⟨.len (.l 1), none⟩, ⟨.bin 0 .lss (.l 0) (.l 2), none⟩] [(5, 3)])
 (.cond (.t 5) .skip (.exit 0)))
 (.seq (.block 1 (.seq (.draw [⟨.mv (.t 0), none, []⟩, ⟨.mv (.t 3), none, []⟩, ⟨.indexAddrS 2 (.l 0) (.l 1), none, []⟩, ⟨.load true 2 (.l 2), none, []⟩, ⟨.mv (.t 1), none, []⟩, ⟨.mv (.t 3), none, []⟩, ⟨.indexAddrS 2 (.l 4) (.l 5), none, []⟩, ⟨.load true 2 (.l 6), none, []⟩, ⟨.eqCells [2, 2] true (.l 3) (.l 7), none, []⟩] [(6, 8)])
 (.cond (.t 6) (.seq (.region [⟨.mv (.c (.bool false)), none⟩] [(2, 0)])
 .ret) .skip)))
 (.region [⟨.mv (.t 3), none⟩, ⟨.bin 0 .add (.l 0) (.c (.int .i64 (1))), none⟩, ⟨.mv (.l 1), none⟩] [(3, 2)])))
def c_l_vRecords : ACode :=
 (.seq (.region [⟨.mv (.c (.bool false)), none⟩] [(2, 0)])
 (.seq (.seq (.region [⟨.mv (.t 0), none⟩, ⟨.len (.l 0), none⟩, ⟨.mv (.t 1), none⟩, ⟨.len (.l 2), none⟩, ⟨.bin 0 .neq (.l 1) (.l 3), none⟩] [(4, 4)])
 (.cond (.t 4) (.seq (.region [⟨.mv (.c (.bool false)), none⟩] [(2, 0)])
 .ret) .skip))
 (.seq (.seq (.region [⟨.mv (.c (.int .i64 (0))), none⟩] [(3, 0)])
 (.block 0 (.loop w_l_vRecords_1)))
 (.seq (.region [⟨.mv (.c (.bool true)), none⟩] [(2, 0)])
 .ret))))
def a_l_vRecords : AFun := ⟨[0, 1, 4, 5, 10, 14, 25], 26, c_l_vRecords, [.tmp 2], 1⟩
def c_s_DrawCrashLog : ACode :=
 (.seq (.region [⟨.alloc [.str ⟨#[]⟩, .str ⟨#[]⟩, .int .i64 (0)], none⟩, ⟨.mv (.c (.int .i64 (0))), none⟩, ⟨.mv (.c (.bool false)), none⟩] [(1, 0), (2, 1), (3, 2)])
 (.seq (.region [⟨.mv (.t 0), none⟩, ⟨.build [.slice none 0 0 none, .int .i64 (0), .int .u64 (0)] [(0, 1, (.l 0))], none⟩, ⟨.box (.l 1), none⟩, ⟨.mv (.l 2), none⟩] [(4, 3)])
 (.seq (.region [⟨.mv (.t 4), none⟩, ⟨.call (.c (.fn f_s_l1Cur_anyLog [] [])) [(.l 0)], none⟩, ⟨.alloc [.str ⟨#[]⟩, .str ⟨#[]⟩, .int .i64 (0)], none⟩, ⟨.store 3 (.l 2) (.l 1), none⟩] [(5, 2)])
 (.seq (.region [⟨.mv (.t 4), none⟩, ⟨.fieldAddr 1 (.t 5), none⟩, ⟨.load false 1 (.l 1), none⟩, ⟨.lenStr (.l 2), none⟩, ⟨.bin 0 .add (.l 3) (.c (.int .i64 (3))), none⟩, ⟨.call (.c (.fn f_s_l1Cur_pick [] [])) [(.l 0), (.l 4)], none⟩, ⟨.bin 0 .sub (.l 5) (.c (.int .i64 (1))), none⟩, ⟨.mv (.l 6), none⟩] [(6, 7)])
 (.seq (.draw [⟨.load true 3 (.t 5), none, []⟩, ⟨.mv (.t 6), none, []⟩, ⟨.mv (.t 4), none, []⟩, ⟨.call (.c (.fn f_s_l1Cur_one [] [])) [(.l 2), (.c (.int .i64 (2)))], none, [(0, ⟨.load true 3 (.t 5), none⟩)]⟩, ⟨.store 3 (.t 1) (.l 0), none, []⟩, ⟨.mv (.l 1), none, []⟩, ⟨.mv (.l 3), none, []⟩] [(2, 5), (3, 6)])
 .ret)))))
def a_s_DrawCrashLog : AFun := ⟨[0, 2, 3, 4, 5, 6, 7], 24, c_s_DrawCrashLog, [.cell 1 true 3, .tmp 2, .tmp 3], 1⟩
def c_s_DrawRecoverLog : ACode :=
 (.seq (.region [⟨.mv (.c (.str ⟨#[]⟩)), none⟩] [(1, 0)])
 (.seq (.region [⟨.mv (.t 0), none⟩, ⟨.build [.slice none 0 0 none, .int .i64 (0), .int .u64 (0)] [(0, 1, (.l 0))], none⟩, ⟨.box (.l 1), none⟩, ⟨.mv (.l 2), none⟩] [(2, 3)])
 (.seq (.region [⟨.mv (.t 2), none⟩, ⟨.call (.c (.fn f_s_l1Cur_log12 [] [])) [(.l 0)], none⟩, ⟨.alloc [.str ⟨#[]⟩, .str ⟨#[]⟩, .int .i64 (0)], none⟩, ⟨.store 3 (.l 2) (.l 1), none⟩] [(3, 2)])
 (.seq (.region [⟨.fieldAddr 0 (.t 3), none⟩, ⟨.load false 1 (.l 0), none⟩, ⟨.fieldAddr 1 (.t 3), none⟩, ⟨.load false 1 (.l 2), none⟩, ⟨.bin 1 .add (.l 1) (.l 3), none⟩, ⟨.mv (.l 4), none⟩] [(4, 5)])
 (.seq (.seq (.region [⟨.mv (.t 2), none⟩, ⟨.call (.c (.fn f_s_l1Cur_pick [] [])) [(.l 0), (.c (.int .i64 (4)))], none⟩] [(5, 1)])
 (.block 0 (.seq (.region [⟨.bin 0 .eql (.t 5) (.c (.int .i64 (0))), none⟩, ⟨.mv (.l 0), none⟩] [(6, 1)])
 (.cond (.t 6) (.region [⟨.mv (.t 2), none⟩, ⟨.mv (.t 4), none⟩, ⟨.call (.c (.fn f_s_l1Cur_spoilt [] [])) [(.l 0), (.l 1), (.c (.str ⟨#[35, 64, 10, 48, 49]⟩))], none⟩, ⟨.mv (.l 2), none⟩] [(4, 3)]) (.seq (.region [⟨.bin 0 .eql (.t 5) (.c (.int .i64 (1))), none⟩, ⟨.mv (.l 0), none⟩] [(7, 1)])
 (.cond (.t 7) (.region [⟨.mv (.t 4), none⟩, ⟨.mv (.t 2), none⟩, ⟨.mv (.t 4), none⟩, ⟨.lenStr (.l 2), none⟩, ⟨.bin 0 .add (.l 3) (.c (.int .i64 (1))), none⟩, ⟨.call (.c (.fn f_s_l1Cur_pick [] [])) [(.l 1), (.l 4)], none⟩, ⟨.sliceStr (.l 0) none (some (.l 5)), none⟩, ⟨.mv (.l 6), none⟩] [(4, 7)]) (.seq (.region [⟨.bin 0 .eql (.t 5) (.c (.int .i64 (2))), none⟩, ⟨.mv (.l 0), none⟩] [(8, 1)])
 (.cond (.t 8) (.region [⟨.mv (.t 4), none⟩, ⟨.mv (.t 2), none⟩, ⟨.call (.c (.fn f_s_l1Cur_pick [] [])) [(.l 1), (.c (.int .i64 (4)))], none⟩, ⟨.mv (.t 2), none⟩, ⟨.call (.c (.fn f_s_l1Cur_logRecord [] [])) [(.l 3)], none⟩, ⟨.call (.c (.fn f_s_l12Line [] [])) [(.l 2), (.l 4)], none⟩, ⟨.bin 1 .add (.l 0) (.l 5), none⟩, ⟨.mv (.l 6), none⟩] [(4, 7)]) .skip))))))))
 (.seq (.seq (.region [⟨.mv (.t 2), none⟩, ⟨.call (.c (.fn f_s_l1Cur_one [] [])) [(.l 0), (.c (.int .i64 (40)))], none⟩] [(9, 1)])
 (.cond (.t 9) (.region [⟨.mv (.t 2), none⟩, ⟨.call (.c (.fn f_s_l1Cur_pick [] [])) [(.l 0), (.c (.int .i64 (2)))], none⟩, ⟨.bin 0 .add (.c (.int .i64 (30000))) (.l 1), none⟩, ⟨.makeSlice 1 1 [.int .u8 (0)] (.l 2) (.l 2), none⟩, ⟨.ofBytes (.l 3), none⟩, ⟨.mv (.l 4), none⟩] [(4, 5)]) .skip))
 (.seq (.region [⟨.mv (.t 4), none⟩, ⟨.mv (.l 0), none⟩] [(1, 1)])
 .ret)))))))
def a_s_DrawRecoverLog : AFun := ⟨[0, 2, 3, 4, 5, 17, 18, 23, 32, 42], 49, c_s_DrawRecoverLog, [.tmp 1], 1⟩
def c_s_l1In : ACode :=
 (.seq (.region [⟨.mv (.c (.bool false)), none⟩] [(3, 0)])
 (.seq (.region [⟨.mv (.t 0), none⟩, ⟨.mv (.t 1), none⟩, ⟨.bin 0 .geq (.l 0) (.l 1), none⟩, ⟨.mv (.l 2), none⟩, ⟨.mv (.t 0), some ((.l 3), true)⟩, ⟨.mv (.t 2), some ((.l 3), true)⟩, ⟨.bin 0 .leq (.l 4) (.l 5), some ((.l 3), true)⟩, ⟨.pick (.l 3) (.l 6) (.c (.bool false)), none⟩, ⟨.mv (.l 7), none⟩] [(3, 8)])
 .ret))
def a_s_l1In : AFun := ⟨[0, 1, 2, 6], 15, c_s_l1In, [.tmp 3], 1⟩
def c_s_l12Record : ACode :=
 (.seq (.region [⟨.box (.t 0), none⟩, ⟨.mv (.c (.bool false)), none⟩] [(1, 0), (2, 1)])
 (.seq (.region [⟨.fieldAddr 0 (.t 1), none⟩, ⟨.load false 1 (.l 0), none⟩, ⟨.bin 1 .neq (.l 1) (.c (.str ⟨#[]⟩)), none⟩, ⟨.mv (.l 2), none⟩, ⟨.fieldAddr 0 (.t 1), some ((.l 3), true)⟩, ⟨.load false 1 (.l 4), some ((.l 3), true)⟩, ⟨.call (.c (.fn f_s_l12Bytes [] [])) [(.l 5), (.c (.int .i64 (160)))], some ((.l 3), true)⟩, ⟨.pick (.l 3) (.l 6) (.c (.bool false)), none⟩, ⟨.mv (.l 7), none⟩, ⟨.fieldAddr 0 (.t 1), some ((.l 8), true)⟩, ⟨.load false 1 (.l 9), some ((.l 8), true)⟩, ⟨.call (.c (.fn f_s_l1Stands [] [])) [(.l 10), (.c (.int .u8 (64)))], some ((.l 8), true)⟩, ⟨.un .not (.l 11), some ((.l 8), true)⟩, ⟨.pick (.l 8) (.l 12) (.c (.bool false)), none⟩, ⟨.mv (.l 13), none⟩, ⟨.fieldAddr 1 (.t 1), some ((.l 14), true)⟩, ⟨.load false 1 (.l 15), some ((.l 14), true)⟩, ⟨.call (.c (.fn f_s_l12Bytes [] [])) [(.l 16), (.c (.int .i64 (250)))], some ((.l 14), true)⟩, ⟨.pick (.l 14) (.l 17) (.c (.bool false)), none⟩, ⟨.mv (.l 18), none⟩] [(2, 19)])
 .ret))
def a_s_l12Record : AFun := ⟨[0, 1, 2], 22, c_s_l12Record, [.tmp 2], 1⟩
def c_s_l12Line : ACode :=
 (.seq (.region [⟨.box (.t 1), none⟩, ⟨.mv (.c (.str ⟨#[]⟩)), none⟩] [(2, 0), (3, 1)])
 (.seq (.draw [⟨.mv (.t 0), none, []⟩, ⟨.fieldAddr 0 (.t 2), none, []⟩, ⟨.load false 1 (.l 1), none, []⟩, ⟨.fieldAddr 1 (.t 2), none, []⟩, ⟨.load false 1 (.l 3), none, []⟩, ⟨.call (.c (.fn f_s_l1Num [] [])) [(.l 0)], none, [(2, ⟨.load false 1 (.l 1), none⟩), (4, ⟨.load false 1 (.l 3), none⟩)]⟩, ⟨.bin 1 .add (.l 5) (.c (.str ⟨#[32]⟩)), none, []⟩, ⟨.bin 1 .add (.l 6) (.l 2), none, []⟩, ⟨.bin 1 .add (.l 7) (.c (.str ⟨#[64]⟩)), none, []⟩, ⟨.bin 1 .add (.l 8) (.l 4), none, []⟩, ⟨.call (.c (.fn f_s_l1Seal [] [])) [(.l 9)], none, []⟩, ⟨.bin 1 .add (.l 10) (.c (.str ⟨#[10]⟩)), none, []⟩, ⟨.mv (.l 11), none, []⟩] [(3, 12)])
 .ret))
def a_s_l12Line : AFun := ⟨[0, 1, 3, 4], 17, c_s_l12Line, [.tmp 3], 1⟩
def c_i_within : ACode :=
 (.seq (.region [⟨.mv (.c (.bool false)), none⟩] [(3, 0)])
 (.seq (.region [⟨.mv (.t 0), none⟩, ⟨.mv (.t 1), none⟩, ⟨.bin 0 .geq (.l 0) (.l 1), none⟩, ⟨.mv (.l 2), none⟩, ⟨.mv (.t 0), some ((.l 3), true)⟩, ⟨.mv (.t 2), some ((.l 3), true)⟩, ⟨.bin 0 .leq (.l 4) (.l 5), some ((.l 3), true)⟩, ⟨.pick (.l 3) (.l 6) (.c (.bool false)), none⟩, ⟨.mv (.l 7), none⟩] [(3, 8)])
 .ret))
def a_i_within : AFun := ⟨[0, 1, 2, 6], 15, c_i_within, [.tmp 3], 1⟩
def c_i_AppendChecksum : ACode :=
 (.seq (.region [⟨.mv (.c (.str ⟨#[]⟩)), none⟩, ⟨.mv (.c (.bool false)), none⟩] [(1, 0), (2, 1)])
 (.seq (.region [⟨.mv (.t 0), none⟩, ⟨.call (.c (.fn f_i_Checksum [] [])) [(.l 0)], none⟩, ⟨.mv (.l 1), none⟩, ⟨.extract 0 (.l 2), none⟩, ⟨.extract 1 (.l 2), none⟩, ⟨.mv (.l 3), none⟩, ⟨.mv (.l 4), none⟩] [(3, 5), (4, 6)])
 (.seq (.region [⟨.mv (.t 0), none⟩, ⟨.bin 1 .add (.l 0) (.c (.str ⟨#[35]⟩)), none⟩, ⟨.mv (.t 3), none⟩, ⟨.call (.c (.fn f_strconv_Itoa [] [])) [(.l 2)], none⟩, ⟨.bin 1 .add (.l 1) (.l 3), none⟩, ⟨.mv (.l 4), none⟩] [(5, 5)])
 (.seq (.seq (.region [⟨.mv (.t 4), none⟩, ⟨.un .not (.l 0), none⟩, ⟨.mv (.l 1), none⟩, ⟨.mv (.t 0), some ((.l 2), false)⟩, ⟨.call (.c (.fn f_strings_Contains [] [])) [(.l 3), (.c (.str ⟨#[35]⟩))], some ((.l 2), false)⟩, ⟨.pick (.l 2) (.c (.bool true)) (.l 4), none⟩, ⟨.mv (.l 5), none⟩, ⟨.mv (.t 5), some ((.l 6), false)⟩, ⟨.lenStr (.l 7), some ((.l 6), false)⟩, ⟨.bin 0 .gtr (.l 8) (.c (.int .i64 (4000))), some ((.l 6), false)⟩, ⟨.pick (.l 6) (.c (.bool true)) (.l 9), none⟩] [(6, 10)])
 (.cond (.t 6) (.seq (.region [⟨.mv (.c (.str ⟨#[]⟩)), none⟩, ⟨.mv (.c (.bool false)), none⟩] [(1, 0), (2, 1)])
 .ret) .skip))
 (.seq (.region [⟨.mv (.t 5), none⟩, ⟨.mv (.l 0), none⟩, ⟨.mv (.c (.bool true)), none⟩] [(1, 1), (2, 2)])
 .ret)))))
def a_i_AppendChecksum : AFun := ⟨[0, 2, 3, 4, 5, 6, 27], 29, c_i_AppendChecksum, [.tmp 1, .tmp 2], 1⟩
-- strconv_Itoa: by contract
def w_s_l12Open_1 : ACode :=
 (.seq (.seq (.region [⟨.mv (.t 4), none⟩, ⟨.mv (.t 0), none⟩, ⟨.lenStr (.l 1), none⟩, ⟨.bin 0 .lss (.l 0) (.l 2), none⟩, ⟨.mv (.l 3), none⟩, ⟨.mv (.t 3), some ((.l 4), true)⟩, ⟨.len (.l 5), some ((.l 4), true)⟩, ⟨.bin 0 .lss (.l 6) (.c (.int .i64 (60))), some ((.l 4), true)⟩, ⟨.pick (.l 4) (.l 7) (.c (.bool false)), none⟩] [(8, 8)])
 (.cond (.t 8) .skip (.exit 0)))
 (.block 1 (.seq (.region [⟨.mv (.t 0), none⟩, ⟨.mv (.t 4), none⟩, ⟨.sliceStr (.l 0) (some (.l 1)) none, none⟩, ⟨.call (.c (.fn f_s_l1Split [] [])) [(.l 2), (.c (.int .u8 (10)))], none⟩, ⟨.mv (.l 3), none⟩] [(5, 4)])
 (.seq (.region [⟨.mv (.t 5), none⟩, ⟨.indexAddrS 1 (.l 0) (.c (.int .i64 (0))), none⟩, ⟨.load false 1 (.l 1), none⟩, ⟨.mv (.t 3), none⟩, ⟨.len (.l 3), none⟩, ⟨.call (.c (.fn f_s_l12Decode [] [])) [(.l 2), (.l 4)], none⟩, ⟨.mv (.l 5), none⟩, ⟨.extract 0 (.l 6), none⟩, ⟨.extract 1 (.l 6), none⟩, ⟨.alloc [.str ⟨#[]⟩, .str ⟨#[]⟩], none⟩, ⟨.store 2 (.l 9) (.l 7), none⟩, ⟨.mv (.l 8), none⟩] [(6, 9), (7, 11)])
 (.seq (.seq (.region [⟨.mv (.t 5), none⟩, ⟨.len (.l 0), none⟩, ⟨.bin 0 .lss (.l 1) (.c (.int .i64 (2))), none⟩, ⟨.mv (.l 2), none⟩, ⟨.mv (.t 7), some ((.l 3), false)⟩, ⟨.un .not (.l 4), some ((.l 3), false)⟩, ⟨.pick (.l 3) (.c (.bool true)) (.l 5), none⟩] [(9, 6)])
 (.cond (.t 9) (.exit 0) .skip))
 (.seq (.region [⟨.mv (.t 3), none⟩, ⟨.load true 2 (.t 6), none⟩, ⟨.buildSlice 2 1 [.str ⟨#[]⟩, .str ⟨#[]⟩] [(0, 2, (.l 1))], none⟩, ⟨.append false 2 32 (.l 0) (.l 2), none⟩, ⟨.mv (.l 3), none⟩] [(3, 4)])
 (.region [⟨.mv (.t 4), none⟩, ⟨.mv (.t 5), none⟩, ⟨.indexAddrS 1 (.l 1) (.c (.int .i64 (0))), none⟩, ⟨.load false 1 (.l 2), none⟩, ⟨.lenStr (.l 3), none⟩, ⟨.bin 0 .add (.l 0) (.l 4), none⟩, ⟨.bin 0 .add (.l 5) (.c (.int .i64 (1))), none⟩, ⟨.mv (.l 6), none⟩] [(4, 7)])))))))
def c_s_l12Open : ACode :=
 (.seq (.region [⟨.mv (.c (.slice none 0 0 none)), none⟩, ⟨.mv (.c (.int .i64 (0))), none⟩] [(1, 0), (2, 1)])
 (.seq (.region [⟨.buildSlice 2 0 [] [], none⟩, ⟨.mv (.l 0), none⟩] [(3, 1)])
 (.seq (.region [⟨.mv (.c (.int .i64 (0))), none⟩] [(4, 0)])
 (.seq (.block 0 (.loop w_s_l12Open_1))
 (.seq (.region [⟨.mv (.t 3), none⟩, ⟨.mv (.t 4), none⟩, ⟨.mv (.l 0), none⟩, ⟨.mv (.l 1), none⟩] [(1, 2), (2, 3)])
 .ret)))))
def a_s_l12Open : AFun := ⟨[0, 2, 3, 4, 5, 6, 7, 8, 18, 38], 52, c_s_l12Open, [.tmp 1, .tmp 2], 2⟩
def w_i_recoverRecords_1 : ACode :=
 (.seq (.seq (.region [⟨.mv (.t 3), none⟩, ⟨.len (.l 0), none⟩, ⟨.bin 0 .lss (.l 1) (.c (.int .i64 (60))), none⟩] [(10, 2)])
 (.cond (.t 10) .skip (.exit 0)))
 (.block 1 (.seq (.region [⟨.mv (.t 0), none⟩, ⟨.mv (.t 5), none⟩, ⟨.sliceStr (.l 0) (some (.l 1)) none, none⟩, ⟨.call (.c (.fn f_strings_Cut [] [])) [(.l 2), (.c (.str ⟨#[10]⟩))], none⟩, ⟨.mv (.l 3), none⟩, ⟨.extract 0 (.l 4), none⟩, ⟨.extract 1 (.l 4), none⟩, ⟨.extract 2 (.l 4), none⟩, ⟨.mv (.l 5), none⟩, ⟨.mv (.l 6), none⟩, ⟨.mv (.l 7), none⟩] [(6, 8), (7, 10)])
 (.seq (.region [⟨.mv (.t 3), none⟩, ⟨.len (.l 0), none⟩, ⟨.mv (.t 6), none⟩, ⟨.call (.c (.fn f_i_decode [] [])) [(.l 1), (.l 2)], none⟩, ⟨.mv (.l 3), none⟩, ⟨.extract 0 (.l 4), none⟩, ⟨.extract 1 (.l 4), none⟩, ⟨.alloc [.str ⟨#[]⟩, .str ⟨#[]⟩], none⟩, ⟨.store 2 (.l 7) (.l 5), none⟩, ⟨.mv (.l 6), none⟩] [(8, 7), (9, 9)])
 (.seq (.seq (.region [⟨.mv (.t 7), none⟩, ⟨.un .not (.l 0), none⟩, ⟨.mv (.l 1), none⟩, ⟨.mv (.t 9), some ((.l 2), false)⟩, ⟨.un .not (.l 3), some ((.l 2), false)⟩, ⟨.pick (.l 2) (.c (.bool true)) (.l 4), none⟩] [(11, 5)])
 (.cond (.t 11) (.exit 0) .skip))
 (.seq (.region [⟨.mv (.t 5), none⟩, ⟨.mv (.t 6), none⟩, ⟨.lenStr (.l 1), none⟩, ⟨.bin 0 .add (.l 2) (.c (.int .i64 (1))), none⟩, ⟨.bin 0 .add (.l 0) (.l 3), none⟩, ⟨.mv (.l 4), none⟩] [(5, 5)])
 (.region [⟨.mv (.t 3), none⟩, ⟨.load true 2 (.t 8), none⟩, ⟨.buildSlice 2 1 [.str ⟨#[]⟩, .str ⟨#[]⟩] [(0, 2, (.l 1))], none⟩, ⟨.append false 2 32 (.l 0) (.l 2), none⟩, ⟨.mv (.t 4), none⟩, ⟨.mv (.t 5), none⟩, ⟨.buildSlice 1 1 [.int .i64 (0)] [(0, 1, (.l 5))], none⟩, ⟨.append false 1 8 (.l 4) (.l 6), none⟩, ⟨.mv (.l 3), none⟩, ⟨.mv (.l 7), none⟩] [(3, 8), (4, 9)])))))))
def c_i_recoverRecords : ACode :=
 (.seq (.region [⟨.mv (.c (.slice none 0 0 none)), none⟩, ⟨.mv (.c (.slice none 0 0 none)), none⟩] [(1, 0), (2, 1)])
 (.seq (.region [⟨.buildSlice 2 0 [] [], none⟩, ⟨.buildSlice 1 0 [] [], none⟩, ⟨.mv (.l 0), none⟩, ⟨.mv (.l 1), none⟩, ⟨.mv (.c (.int .i64 (0))), none⟩] [(3, 2), (4, 3), (5, 4)])
 (.seq (.block 0 (.loop w_i_recoverRecords_1))
 (.seq (.region [⟨.mv (.t 3), none⟩, ⟨.mv (.t 4), none⟩, ⟨.mv (.l 0), none⟩, ⟨.mv (.l 1), none⟩] [(1, 2), (2, 3)])
 .ret))))
def a_i_recoverRecords : AFun := ⟨[0, 2, 3, 4, 5, 6, 7, 9, 10, 11, 16, 37], 53, c_i_recoverRecords, [.tmp 1, .tmp 2], 2⟩
def c_s_l12Valid : ACode :=
 (.seq (.region [⟨.box (.t 0), none⟩, ⟨.mv (.c (.bool false)), none⟩] [(1, 0), (2, 1)])
 (.seq (.seq (.region [⟨.fieldAddr 0 (.t 1), none⟩, ⟨.load false 1 (.l 0), none⟩, ⟨.lenStr (.l 1), none⟩, ⟨.fieldAddr 1 (.t 1), none⟩, ⟨.load false 1 (.l 3), none⟩, ⟨.lenStr (.l 4), none⟩, ⟨.bin 0 .add (.l 2) (.l 5), none⟩, ⟨.bin 0 .gtr (.l 6) (.c (.int .i64 (30000))), none⟩] [(6, 7)])
 (.cond (.t 6) (.seq (.region [⟨.mv (.c (.bool false)), none⟩] [(2, 0)])
 .ret) .skip))
 (.seq (.region [⟨.fieldAddr 0 (.t 1), none⟩, ⟨.load false 1 (.l 0), none⟩, ⟨.fieldAddr 1 (.t 1), none⟩, ⟨.load false 1 (.l 2), none⟩, ⟨.bin 1 .add (.l 1) (.l 3), none⟩, ⟨.call (.c (.fn f_s_l12Open [] [])) [(.l 4)], none⟩, ⟨.mv (.l 5), none⟩, ⟨.extract 0 (.l 6), none⟩, ⟨.extract 1 (.l 6), none⟩, ⟨.mv (.l 7), none⟩, ⟨.mv (.l 8), none⟩] [(3, 9), (4, 10)])
 (.seq (.region [⟨.fieldAddr 0 (.t 1), none⟩, ⟨.load false 1 (.l 0), none⟩, ⟨.call (.c (.fn f_s_l12Open [] [])) [(.l 1)], none⟩, ⟨.mv (.l 2), none⟩, ⟨.extract 0 (.l 3), none⟩, ⟨.extract 1 (.l 3), none⟩, ⟨.mv (.l 4), none⟩, ⟨.mv (.l 5), none⟩] [(5, 7)])
 (.seq (.region [⟨.mv (.t 4), none⟩, ⟨.fieldAddr 0 (.t 1), none⟩, ⟨.load false 1 (.l 1), none⟩, ⟨.lenStr (.l 2), none⟩, ⟨.fieldAddr 1 (.t 1), none⟩, ⟨.load false 1 (.l 4), none⟩, ⟨.lenStr (.l 5), none⟩, ⟨.bin 0 .add (.l 3) (.l 6), none⟩, ⟨.bin 0 .eql (.l 0) (.l 7), none⟩, ⟨.mv (.l 8), none⟩, ⟨.mv (.t 5), some ((.l 9), true)⟩, ⟨.fieldAddr 0 (.t 1), some ((.l 9), true)⟩, ⟨.load false 1 (.l 11), some ((.l 9), true)⟩, ⟨.lenStr (.l 12), some ((.l 9), true)⟩, ⟨.bin 0 .eql (.l 10) (.l 13), some ((.l 9), true)⟩, ⟨.pick (.l 9) (.l 14) (.c (.bool false)), none⟩, ⟨.mv (.l 15), none⟩, ⟨.mv (.t 3), some ((.l 16), true)⟩, ⟨.len (.l 17), some ((.l 16), true)⟩, ⟨.fieldAddr 2 (.t 1), some ((.l 16), true)⟩, ⟨.load false 1 (.l 19), some ((.l 16), true)⟩, ⟨.bin 0 .eql (.l 18) (.l 20), some ((.l 16), true)⟩, ⟨.pick (.l 16) (.l 21) (.c (.bool false)), none⟩, ⟨.mv (.l 22), none⟩] [(2, 23)])
 .ret)))))
def a_s_l12Valid : AFun := ⟨[0, 1, 2, 3, 4, 6, 14], 53, c_s_l12Valid, [.tmp 2], 1⟩
def c_i_logRecords : ACode :=
 (.seq (.region [⟨.box (.t 0), none⟩, ⟨.mv (.c (.slice none 0 0 none)), none⟩, ⟨.mv (.c (.bool false)), none⟩] [(1, 0), (2, 1), (3, 2)])
 (.seq (.region [⟨.fieldAddr 0 (.t 1), none⟩, ⟨.load false 1 (.l 0), none⟩, ⟨.fieldAddr 1 (.t 1), none⟩, ⟨.load false 1 (.l 2), none⟩, ⟨.bin 1 .add (.l 1) (.l 3), none⟩, ⟨.mv (.l 4), none⟩] [(4, 5)])
 (.seq (.seq (.region [⟨.mv (.t 4), none⟩, ⟨.lenStr (.l 0), none⟩, ⟨.bin 0 .gtr (.l 1) (.c (.int .i64 (30000))), none⟩] [(7, 2)])
 (.cond (.t 7) (.seq (.region [⟨.mv (.c (.slice none 0 0 none)), none⟩, ⟨.mv (.c (.bool false)), none⟩] [(2, 0), (3, 1)])
 .ret) .skip))
 (.seq (.region [⟨.mv (.t 4), none⟩, ⟨.call (.c (.fn f_i_recoverRecords [] [])) [(.l 0)], none⟩, ⟨.mv (.l 1), none⟩, ⟨.extract 0 (.l 2), none⟩, ⟨.extract 1 (.l 2), none⟩, ⟨.mv (.l 3), none⟩, ⟨.mv (.l 4), none⟩] [(5, 5), (6, 6)])
 (.seq (.region [⟨.buildSlice 1 1 [.int .i64 (0)] [(0, 1, (.c (.int .i64 (0))))], none⟩, ⟨.mv (.t 6), none⟩, ⟨.append false 1 8 (.l 0) (.l 1), none⟩, ⟨.mv (.l 2), none⟩] [(6, 3)])
 (.seq (.draw [⟨.mv (.t 5), none, []⟩, ⟨.mv (.t 6), none, []⟩, ⟨.mv (.t 6), none, []⟩, ⟨.len (.l 2), none, []⟩, ⟨.bin 0 .sub (.l 3) (.c (.int .i64 (1))), none, []⟩, ⟨.indexAddrS 1 (.l 1) (.l 4), none, []⟩, ⟨.load false 1 (.l 5), none, []⟩, ⟨.mv (.t 4), none, []⟩, ⟨.lenStr (.l 7), none, []⟩, ⟨.bin 0 .eql (.l 6) (.l 8), none, []⟩, ⟨.mv (.l 9), none, []⟩, ⟨.mv (.t 6), some ((.l 10), true), []⟩, ⟨.fieldAddr 0 (.t 1), some ((.l 10), true), []⟩, ⟨.load false 1 (.l 12), some ((.l 10), true), []⟩, ⟨.lenStr (.l 13), some ((.l 10), true), []⟩, ⟨.call (.c (.fn f_slices_Contains_Sint_int [] [])) [(.l 11), (.l 14)], some ((.l 10), true), []⟩, ⟨.pick (.l 10) (.l 15) (.c (.bool false)), none, []⟩, ⟨.mv (.l 16), none, []⟩, ⟨.fieldAddr 2 (.t 1), some ((.l 17), true), []⟩, ⟨.load false 1 (.l 18), some ((.l 17), true), []⟩, ⟨.mv (.t 5), some ((.l 17), true), []⟩, ⟨.len (.l 20), some ((.l 17), true), []⟩, ⟨.bin 0 .eql (.l 19) (.l 21), some ((.l 17), true), []⟩, ⟨.pick (.l 17) (.l 22) (.c (.bool false)), none, []⟩, ⟨.mv (.l 0), none, []⟩, ⟨.mv (.l 23), none, []⟩] [(2, 24), (3, 25)])
 .ret))))))
def a_i_logRecords : AFun := ⟨[0, 1, 2, 3, 4, 5, 6, 14], 47, c_i_logRecords, [.tmp 2, .tmp 3], 2⟩
def c_l_eqLogRecord : ACode :=
 (.seq (.region [⟨.box (.t 0), none⟩, ⟨.box (.t 1), none⟩, ⟨.mv (.c (.bool false)), none⟩] [(2, 0), (3, 1), (4, 2)])
 (.seq (.seq (.region [⟨.fieldAddr 0 (.t 2), none⟩, ⟨.load false 1 (.l 0), none⟩, ⟨.fieldAddr 0 (.t 3), none⟩, ⟨.load false 1 (.l 2), none⟩, ⟨.bin 1 .neq (.l 1) (.l 3), none⟩] [(5, 4)])
 (.cond (.t 5) (.seq (.region [⟨.mv (.c (.bool false)), none⟩] [(4, 0)])
 .ret) .skip))
 (.seq (.seq (.region [⟨.fieldAddr 1 (.t 2), none⟩, ⟨.load false 1 (.l 0), none⟩, ⟨.fieldAddr 1 (.t 3), none⟩, ⟨.load false 1 (.l 2), none⟩, ⟨.bin 1 .neq (.l 1) (.l 3), none⟩] [(6, 4)])
 (.cond (.t 6) (.seq (.region [⟨.mv (.c (.bool false)), none⟩] [(4, 0)])
 .ret) .skip))
 (.seq (.region [⟨.mv (.c (.bool true)), none⟩] [(4, 0)])
 .ret))))
def a_l_eqLogRecord : AFun := ⟨[0, 1, 2, 3, 4, 9, 14], 15, c_l_eqLogRecord, [.tmp 4], 1⟩
def w_l_markText_1 : ACode :=
 (.seq (.seq (.region [⟨.mv (.t 0), none⟩, ⟨.bin 0 .gtr (.l 0) (.c (.int .i64 (0))), none⟩] [(4, 1)])
 (.cond (.t 4) .skip (.exit 0)))
 (.block 1 (.seq (.region [⟨.mv (.t 0), none⟩, ⟨.bin 0 .rem (.l 0) (.c (.int .i64 (10))), none⟩, ⟨.bin 0 .add (.c (.int .i64 (48))) (.l 1), none⟩, ⟨.conv .u8 (.l 2), none⟩, ⟨.buildSlice 1 1 [.int .u8 (0)] [(0, 1, (.l 3))], none⟩, ⟨.ofBytes (.l 4), none⟩, ⟨.mv (.t 2), none⟩, ⟨.bin 1 .add (.l 5) (.l 6), none⟩, ⟨.mv (.l 7), none⟩] [(2, 8)])
 (.region [⟨.mv (.t 0), none⟩, ⟨.bin 0 .quo (.l 0) (.c (.int .i64 (10))), none⟩, ⟨.mv (.l 1), none⟩] [(0, 2)]))))
def c_l_markText : ACode :=
 (.seq (.region [⟨.mv (.c (.str ⟨#[]⟩)), none⟩] [(1, 0)])
 (.seq (.seq (.region [⟨.mv (.t 0), none⟩, ⟨.bin 0 .leq (.l 0) (.c (.int .i64 (0))), none⟩] [(3, 1)])
 (.cond (.t 3) (.seq (.region [⟨.mv (.c (.str ⟨#[109, 48]⟩)), none⟩] [(1, 0)])
 .ret) .skip))
 (.seq (.region [⟨.mv (.c (.str ⟨#[]⟩)), none⟩] [(2, 0)])
 (.seq (.block 0 (.loop w_l_markText_1))
 (.seq (.region [⟨.mv (.t 2), none⟩, ⟨.bin 1 .add (.c (.str ⟨#[109]⟩)) (.l 0), none⟩, ⟨.mv (.l 1), none⟩] [(1, 2)])
 .ret)))))
def a_l_markText : AFun := ⟨[0, 2, 3, 5, 7], 20, c_l_markText, [.tmp 1], 1⟩
def c_s_l1Cur_logRecord : ACode :=
 (.seq (.region [⟨.alloc [.str ⟨#[]⟩, .str ⟨#[]⟩], none⟩] [(1, 0)])
 (.seq (.region [⟨.mv (.t 0), none⟩, ⟨.buildSlice 1 5 [.str ⟨#[]⟩, .str ⟨#[]⟩, .str ⟨#[]⟩, .str ⟨#[]⟩, .str ⟨#[]⟩] [(0, 1, (.c (.str ⟨#[114, 111, 119]⟩))), (1, 1, (.c (.str ⟨#[108, 111, 97, 100, 32, 49, 32, 50]⟩))), (2, 1, (.c (.str ⟨#[120]⟩))), (3, 1, (.c (.str ⟨#[116, 97, 107, 101, 32, 50]⟩))), (4, 1, (.c (.str ⟨#[48, 32, 49]⟩)))], none⟩, ⟨.call (.c (.fn f_s_l1Cur_of [] [])) [(.l 0), (.l 1)], none⟩, ⟨.mv (.t 0), none⟩, ⟨.buildSlice 1 5 [.str ⟨#[]⟩, .str ⟨#[]⟩, .str ⟨#[]⟩, .str ⟨#[]⟩, .str ⟨#[]⟩] [(0, 1, (.c (.str ⟨#[]⟩))), (1, 1, (.c (.str ⟨#[51]⟩))), (2, 1, (.c (.str ⟨#[63]⟩))), (3, 1, (.c (.str ⟨#[97, 64, 98]⟩))), (4, 1, (.c (.str ⟨#[51, 32, 49, 32, 50]⟩)))], none⟩, ⟨.call (.c (.fn f_s_l1Cur_of [] [])) [(.l 3), (.l 4)], none⟩, ⟨.build [.str ⟨#[]⟩, .str ⟨#[]⟩] [(0, 1, (.l 2)), (1, 1, (.l 5))], none⟩, ⟨.alloc [.str ⟨#[]⟩, .str ⟨#[]⟩], none⟩, ⟨.store 2 (.l 7) (.l 6), none⟩] [(2, 7)])
 (.seq (.seq (.region [⟨.mv (.t 0), none⟩, ⟨.call (.c (.fn f_s_l1Cur_pick [] [])) [(.l 0), (.c (.int .i64 (24)))], none⟩] [(3, 1)])
 (.block 0 (.seq (.region [⟨.bin 0 .eql (.t 3) (.c (.int .i64 (0))), none⟩, ⟨.mv (.l 0), none⟩] [(4, 1)])
 (.cond (.t 4) (.region [⟨.mv (.t 0), none⟩, ⟨.makeSlice 1 1 [.int .u8 (0)] (.c (.int .i64 (3))) (.c (.int .i64 (3))), none⟩, ⟨.ofBytes (.l 1), none⟩, ⟨.buildSlice 1 5 [.str ⟨#[]⟩, .str ⟨#[]⟩, .str ⟨#[]⟩, .str ⟨#[]⟩, .str ⟨#[]⟩] [(0, 1, (.c (.str ⟨#[]⟩))), (1, 1, (.c (.str ⟨#[97, 64, 98]⟩))), (2, 1, (.c (.str ⟨#[97, 35]⟩))), (3, 1, (.c (.str ⟨#[10]⟩))), (4, 1, (.l 2))], none⟩, ⟨.call (.c (.fn f_s_l1Cur_of [] [])) [(.l 0), (.l 3)], none⟩, ⟨.fieldAddr 0 (.t 2), none⟩, ⟨.store 1 (.l 5) (.l 4), none⟩] []) (.seq (.region [⟨.bin 0 .eql (.t 3) (.c (.int .i64 (1))), none⟩, ⟨.mv (.l 0), none⟩] [(5, 1)])
 (.cond (.t 5) (.region [⟨.mv (.t 0), none⟩, ⟨.buildSlice 1 3 [.str ⟨#[]⟩, .str ⟨#[]⟩, .str ⟨#[]⟩] [(0, 1, (.c (.str ⟨#[35]⟩))), (1, 1, (.c (.str ⟨#[10]⟩))), (2, 1, (.c (.str ⟨#[127]⟩)))], none⟩, ⟨.call (.c (.fn f_s_l1Cur_of [] [])) [(.l 0), (.l 1)], none⟩, ⟨.fieldAddr 1 (.t 2), none⟩, ⟨.store 1 (.l 3) (.l 2), none⟩] []) .skip))))))
 (.seq (.region [⟨.load true 2 (.t 2), none⟩, ⟨.store 2 (.t 1) (.l 0), none⟩] [])
 .ret))))
def a_s_l1Cur_logRecord : AFun := ⟨[0, 2, 3, 12, 13, 21], 28, c_s_l1Cur_logRecord, [.cell 1 true 2], 1⟩
def c_s_l1Cur_among : ACode :=
 (.seq (.region [⟨.mv (.c (.int .i64 (0))), none⟩] [(2, 0)])
 (.seq (.region [⟨.mv (.t 1), none⟩, ⟨.mv (.t 0), none⟩, ⟨.mv (.t 1), none⟩, ⟨.len (.l 2), none⟩, ⟨.call (.c (.fn f_s_l1Cur_pick [] [])) [(.l 1), (.l 3)], none⟩, ⟨.indexAddrS 1 (.l 0) (.l 4), none⟩, ⟨.load false 1 (.l 5), none⟩, ⟨.mv (.l 6), none⟩] [(2, 7)])
 .ret))
def a_s_l1Cur_among : AFun := ⟨[0, 1, 4], 12, c_s_l1Cur_among, [.tmp 2], 1⟩
def c_s_l1Cur_anyLog : ACode :=
 (.seq (.region [⟨.alloc [.str ⟨#[]⟩, .str ⟨#[]⟩, .int .i64 (0)], none⟩] [(1, 0)])
 (.seq (.region [⟨.mv (.t 0), none⟩, ⟨.call (.c (.fn f_s_l1Cur_log12 [] [])) [(.l 0)], none⟩, ⟨.alloc [.str ⟨#[]⟩, .str ⟨#[]⟩, .int .i64 (0)], none⟩, ⟨.store 3 (.l 2) (.l 1), none⟩] [(2, 2)])
 (.seq (.seq (.region [⟨.mv (.t 0), none⟩, ⟨.call (.c (.fn f_s_l1Cur_pick [] [])) [(.l 0), (.c (.int .i64 (24)))], none⟩] [(3, 1)])
 (.block 0 (.seq (.region [⟨.bin 0 .eql (.t 3) (.c (.int .i64 (0))), none⟩, ⟨.mv (.l 0), none⟩] [(4, 1)])
 (.cond (.t 4) (.region [⟨.fieldAddr 2 (.t 2), none⟩, ⟨.load false 1 (.l 0), none⟩, ⟨.bin 0 .add (.l 1) (.c (.int .i64 (1))), none⟩, ⟨.fieldAddr 2 (.t 2), none⟩, ⟨.store 1 (.l 3) (.l 2), none⟩] []) (.seq (.region [⟨.bin 0 .eql (.t 3) (.c (.int .i64 (1))), none⟩, ⟨.mv (.l 0), none⟩] [(5, 1)])
 (.cond (.t 5) (.region [⟨.mv (.t 0), none⟩, ⟨.fieldAddr 1 (.t 2), none⟩, ⟨.load false 1 (.l 1), none⟩, ⟨.call (.c (.fn f_s_l1Cur_spoilt [] [])) [(.l 0), (.l 2), (.c (.str ⟨#[35, 64, 10, 48, 49]⟩))], none⟩, ⟨.fieldAddr 1 (.t 2), none⟩, ⟨.store 1 (.l 4) (.l 3), none⟩] []) (.seq (.region [⟨.bin 0 .eql (.t 3) (.c (.int .i64 (2))), none⟩, ⟨.mv (.l 0), none⟩] [(6, 1)])
 (.cond (.t 6) (.region [⟨.fieldAddr 0 (.t 2), none⟩, ⟨.load false 1 (.l 0), none⟩, ⟨.fieldAddr 1 (.t 2), none⟩, ⟨.load false 1 (.l 2), none⟩, ⟨.bin 1 .add (.l 1) (.l 3), none⟩, ⟨.fieldAddr 0 (.t 2), none⟩, ⟨.store 1 (.l 5) (.l 4), none⟩] []) .skip))))))))
 (.seq (.region [⟨.load true 3 (.t 2), none⟩, ⟨.store 3 (.t 1) (.l 0), none⟩] [])
 .ret))))
def a_s_l1Cur_anyLog : AFun := ⟨[0, 2, 3, 7, 8, 14, 21], 30, c_s_l1Cur_anyLog, [.cell 1 true 3], 1⟩
def c_s_l1Cur_one : ACode :=
 (.seq (.region [⟨.mv (.c (.bool false)), none⟩] [(2, 0)])
 (.seq (.region [⟨.mv (.t 0), none⟩, ⟨.mv (.t 1), none⟩, ⟨.call (.c (.fn f_s_l1Cur_pick [] [])) [(.l 0), (.l 1)], none⟩, ⟨.bin 0 .eql (.l 2) (.c (.int .i64 (0))), none⟩, ⟨.mv (.l 3), none⟩] [(2, 4)])
 .ret))
def a_s_l1Cur_one : AFun := ⟨[0, 1, 4], 9, c_s_l1Cur_one, [.tmp 2], 1⟩
def c_s_l1Cur_pick : ACode :=
 (.seq (.region [⟨.mv (.c (.int .i64 (0))), none⟩] [(2, 0)])
 (.seq (.seq (.region [⟨.mv (.t 1), none⟩, ⟨.bin 0 .leq (.l 0) (.c (.int .i64 (1))), none⟩] [(4, 1)])
 (.cond (.t 4) (.seq (.region [⟨.mv (.c (.int .i64 (0))), none⟩] [(2, 0)])
 .ret) .skip))
 (.seq (.region [⟨.mv (.t 0), none⟩, ⟨.call (.c (.fn f_s_l1Cur_next [] [])) [(.l 0)], none⟩, ⟨.mv (.l 1), none⟩] [(3, 2)])
 (.seq (.seq (.region [⟨.mv (.t 1), none⟩, ⟨.bin 0 .gtr (.l 0) (.c (.int .i64 (200))), none⟩] [(5, 1)])
 (.cond (.t 5) (.region [⟨.mv (.t 3), none⟩, ⟨.bin 0 .mul (.l 0) (.c (.int .i64 (256))), none⟩, ⟨.mv (.t 0), none⟩, ⟨.call (.c (.fn f_s_l1Cur_next [] [])) [(.l 2)], none⟩, ⟨.bin 0 .add (.l 1) (.l 3), none⟩, ⟨.mv (.l 4), none⟩] [(3, 5)]) .skip))
 (.seq (.region [⟨.mv (.t 3), none⟩, ⟨.mv (.t 1), none⟩, ⟨.bin 0 .rem (.l 0) (.l 1), none⟩, ⟨.mv (.l 2), none⟩] [(2, 3)])
 .ret)))))
def a_s_l1Cur_pick : AFun := ⟨[0, 1, 4, 5, 7, 11], 20, c_s_l1Cur_pick, [.tmp 2], 1⟩
def w_i_isText_1 : ACode :=
 (.seq (.region [⟨.bin 0 .lss (.t 4) (.t 3), none⟩] [(5, 0)])
 (.seq (.cond (.t 5) .skip (.exit 0))
 (.seq (.block 1 (.seq (.region [⟨.mv (.t 4), none⟩, ⟨.mv (.l 0), none⟩] [(2, 1)])
 (.seq (.region [⟨.mv (.t 0), none⟩, ⟨.mv (.t 2), none⟩, ⟨.indexS (.l 0) (.l 1), none⟩, ⟨.bin 0 .lss (.l 2) (.c (.int .u8 (32))), none⟩, ⟨.mv (.l 3), none⟩, ⟨.mv (.t 0), some ((.l 4), false)⟩, ⟨.mv (.t 2), some ((.l 4), false)⟩, ⟨.indexS (.l 5) (.l 6), some ((.l 4), false)⟩, ⟨.bin 0 .gtr (.l 7) (.c (.int .u8 (126))), some ((.l 4), false)⟩, ⟨.pick (.l 4) (.c (.bool true)) (.l 8), none⟩, ⟨.mv (.l 9), none⟩, ⟨.mv (.t 0), some ((.l 10), false)⟩, ⟨.mv (.t 2), some ((.l 10), false)⟩, ⟨.indexS (.l 11) (.l 12), some ((.l 10), false)⟩, ⟨.bin 0 .eql (.l 13) (.c (.int .u8 (35))), some ((.l 10), false)⟩, ⟨.pick (.l 10) (.c (.bool true)) (.l 14), none⟩] [(6, 15)])
 (.cond (.t 6) (.seq (.region [⟨.mv (.c (.bool false)), none⟩] [(1, 0)])
 .ret) .skip))))
 (.region [⟨.bin 0 .add (.t 4) (.c (.int .i64 (1))), none⟩, ⟨.mv (.l 0), none⟩] [(4, 1)]))))
def c_i_isText : ACode :=
 (.seq (.region [⟨.mv (.c (.bool false)), none⟩] [(1, 0)])
 (.seq (.seq (.region [⟨.mv (.t 0), none⟩, ⟨.lenStr (.l 0), none⟩, ⟨.mv (.c (.int .i64 (0))), none⟩] [(3, 1), (4, 2)])
 (.block 0 (.loop w_i_isText_1)))
 (.seq (.region [⟨.mv (.c (.bool true)), none⟩] [(1, 0)])
 .ret)))
def a_i_isText : AFun := ⟨[0, 2, 3, 5, 6, 7, 24], 26, c_i_isText, [.tmp 1], 1⟩
-- strings_Contains: by contract
def w_s_l1Cur_log12_1 : ACode :=
 (.seq (.seq (.region [⟨.mv (.t 3), none⟩, ⟨.bin 0 .gtr (.l 0) (.c (.int .i64 (0))), none⟩] [(4, 1)])
 (.cond (.t 4) .skip (.exit 0)))
 (.seq (.block 1 (.seq (.draw [⟨.load true 3 (.t 2), none, []⟩, ⟨.mv (.t 0), none, []⟩, ⟨.call (.c (.fn f_s_l1Cur_logRecord [] [])) [(.l 1)], none, [(0, ⟨.load true 3 (.t 2), none⟩)]⟩, ⟨.call (.c (.fn f_s_AppendRecord [] [])) [(.l 0), (.l 2)], none, []⟩, ⟨.mv (.l 3), none, []⟩, ⟨.extract 0 (.l 4), none, []⟩, ⟨.extract 1 (.l 4), none, []⟩, ⟨.store 3 (.t 2) (.l 5), none, []⟩] [])
 (.seq (.region [⟨.mv (.t 0), none⟩, ⟨.call (.c (.fn f_s_l1Cur_one [] [])) [(.l 0), (.c (.int .i64 (4)))], none⟩] [(5, 1)])
 (.cond (.t 5) (.region [⟨.load true 3 (.t 2), none⟩, ⟨.call (.c (.fn f_s_SyncLog [] [])) [(.l 0)], none⟩, ⟨.mv (.l 1), none⟩, ⟨.extract 0 (.l 2), none⟩, ⟨.extract 1 (.l 2), none⟩, ⟨.store 3 (.t 2) (.l 3), none⟩] []) .skip))))
 (.region [⟨.mv (.t 3), none⟩, ⟨.bin 0 .sub (.l 0) (.c (.int .i64 (1))), none⟩, ⟨.mv (.l 1), none⟩] [(3, 2)])))
def c_s_l1Cur_log12 : ACode :=
 (.seq (.region [⟨.alloc [.str ⟨#[]⟩, .str ⟨#[]⟩, .int .i64 (0)], none⟩] [(1, 0)])
 (.seq (.region [⟨.build [.str ⟨#[]⟩, .str ⟨#[]⟩, .int .i64 (0)] [], none⟩, ⟨.alloc [.str ⟨#[]⟩, .str ⟨#[]⟩, .int .i64 (0)], none⟩, ⟨.store 3 (.l 1) (.l 0), none⟩] [(2, 1)])
 (.seq (.seq (.region [⟨.mv (.t 0), none⟩, ⟨.call (.c (.fn f_s_l1Cur_pick [] [])) [(.l 0), (.c (.int .i64 (7)))], none⟩, ⟨.mv (.l 1), none⟩] [(3, 2)])
 (.block 0 (.loop w_s_l1Cur_log12_1)))
 (.seq (.region [⟨.load true 3 (.t 2), none⟩, ⟨.store 3 (.t 1) (.l 0), none⟩] [])
 .ret))))
def a_s_l1Cur_log12 : AFun := ⟨[0, 2, 3, 4, 9, 20], 27, c_s_l1Cur_log12, [.cell 1 true 3], 1⟩
def c_s_l1Cur_spoilt : ACode :=
 (.seq (.region [⟨.mv (.c (.str ⟨#[]⟩)), none⟩] [(3, 0)])
 (.seq (.seq (.region [⟨.mv (.t 1), none⟩, ⟨.bin 1 .eql (.l 0) (.c (.str ⟨#[]⟩)), none⟩] [(6, 1)])
 (.cond (.t 6) (.seq (.region [⟨.mv (.t 2), none⟩, ⟨.sliceStr (.l 0) none (some (.c (.int .i64 (1)))), none⟩, ⟨.mv (.l 1), none⟩] [(3, 2)])
 .ret) .skip))
 (.seq (.region [⟨.mv (.t 0), none⟩, ⟨.mv (.t 1), none⟩, ⟨.lenStr (.l 1), none⟩, ⟨.call (.c (.fn f_s_l1Cur_pick [] [])) [(.l 0), (.l 2)], none⟩, ⟨.mv (.l 3), none⟩] [(4, 4)])
 (.seq (.region [⟨.mv (.t 2), none⟩, ⟨.mv (.t 0), none⟩, ⟨.mv (.t 2), none⟩, ⟨.lenStr (.l 2), none⟩, ⟨.call (.c (.fn f_s_l1Cur_pick [] [])) [(.l 1), (.l 3)], none⟩, ⟨.sliceStr (.l 0) (some (.l 4)) none, none⟩, ⟨.sliceStr (.l 5) none (some (.c (.int .i64 (1)))), none⟩, ⟨.mv (.l 6), none⟩] [(5, 7)])
 (.seq (.seq (.region [⟨.mv (.t 0), none⟩, ⟨.call (.c (.fn f_s_l1Cur_pick [] [])) [(.l 0), (.c (.int .i64 (3)))], none⟩] [(7, 1)])
 (.block 0 (.seq (.region [⟨.bin 0 .eql (.t 7) (.c (.int .i64 (0))), none⟩, ⟨.mv (.l 0), none⟩] [(8, 1)])
 (.cond (.t 8) (.seq (.draw [⟨.mv (.t 1), none, []⟩, ⟨.mv (.t 4), none, []⟩, ⟨.sliceStr (.l 0) none (some (.l 1)), none, []⟩, ⟨.mv (.t 5), none, []⟩, ⟨.bin 1 .add (.l 2) (.l 3), none, []⟩, ⟨.mv (.t 1), none, []⟩, ⟨.mv (.t 4), none, []⟩, ⟨.sliceStr (.l 5) (some (.l 6)) none, none, []⟩, ⟨.bin 1 .add (.l 4) (.l 7), none, []⟩, ⟨.mv (.l 8), none, []⟩] [(3, 9)])
 .ret) (.seq (.region [⟨.bin 0 .eql (.t 7) (.c (.int .i64 (1))), none⟩, ⟨.mv (.l 0), none⟩] [(9, 1)])
 (.cond (.t 9) (.seq (.draw [⟨.mv (.t 1), none, []⟩, ⟨.mv (.t 4), none, []⟩, ⟨.sliceStr (.l 0) none (some (.l 1)), none, []⟩, ⟨.mv (.t 5), none, []⟩, ⟨.bin 1 .add (.l 2) (.l 3), none, []⟩, ⟨.mv (.t 1), none, []⟩, ⟨.mv (.t 4), none, []⟩, ⟨.bin 0 .add (.l 6) (.c (.int .i64 (1))), none, []⟩, ⟨.sliceStr (.l 5) (some (.l 7)) none, none, []⟩, ⟨.bin 1 .add (.l 4) (.l 8), none, []⟩, ⟨.mv (.l 9), none, []⟩] [(3, 10)])
 .ret) .skip))))))
 (.seq (.draw [⟨.mv (.t 1), none, []⟩, ⟨.mv (.t 4), none, []⟩, ⟨.sliceStr (.l 0) none (some (.l 1)), none, []⟩, ⟨.mv (.t 1), none, []⟩, ⟨.mv (.t 4), none, []⟩, ⟨.bin 0 .add (.l 4) (.c (.int .i64 (1))), none, []⟩, ⟨.sliceStr (.l 3) (some (.l 5)) none, none, []⟩, ⟨.bin 1 .add (.l 2) (.l 6), none, []⟩, ⟨.mv (.l 7), none, []⟩] [(3, 8)])
 .ret))))))
def a_s_l1Cur_spoilt : AFun := ⟨[0, 1, 2, 6, 7, 8, 10, 25, 26, 37], 57, c_s_l1Cur_spoilt, [.tmp 3], 1⟩
def w_s_l12Bytes_1 : ACode :=
 (.seq (.seq (.region [⟨.mv (.t 3), none⟩, ⟨.mv (.t 0), none⟩, ⟨.lenStr (.l 1), none⟩, ⟨.bin 0 .lss (.l 0) (.l 2), none⟩] [(4, 3)])
 (.cond (.t 4) .skip (.exit 0)))
 (.seq (.block 1 (.seq (.region [⟨.mv (.t 0), none⟩, ⟨.mv (.t 3), none⟩, ⟨.indexS (.l 0) (.l 1), none⟩, ⟨.conv .i64 (.l 2), none⟩, ⟨.call (.c (.fn f_s_l1In [] [])) [(.l 3), (.c (.int .i64 (32))), (.c (.int .i64 (126)))], none⟩, ⟨.un .not (.l 4), none⟩, ⟨.mv (.l 5), none⟩, ⟨.mv (.t 0), some ((.l 6), false)⟩, ⟨.mv (.t 3), some ((.l 6), false)⟩, ⟨.indexS (.l 7) (.l 8), some ((.l 6), false)⟩, ⟨.bin 0 .eql (.l 9) (.c (.int .u8 (35))), some ((.l 6), false)⟩, ⟨.pick (.l 6) (.c (.bool true)) (.l 10), none⟩] [(5, 11)])
 (.cond (.t 5) (.seq (.region [⟨.mv (.c (.bool false)), none⟩] [(2, 0)])
 .ret) .skip)))
 (.region [⟨.mv (.t 3), none⟩, ⟨.bin 0 .add (.l 0) (.c (.int .i64 (1))), none⟩, ⟨.mv (.l 1), none⟩] [(3, 2)])))
def c_s_l12Bytes : ACode :=
 (.seq (.region [⟨.mv (.c (.bool false)), none⟩] [(2, 0)])
 (.seq (.seq (.region [⟨.mv (.c (.int .i64 (0))), none⟩] [(3, 0)])
 (.block 0 (.loop w_s_l12Bytes_1)))
 (.seq (.region [⟨.mv (.t 0), none⟩, ⟨.lenStr (.l 0), none⟩, ⟨.mv (.t 1), none⟩, ⟨.bin 0 .leq (.l 1) (.l 2), none⟩, ⟨.mv (.l 3), none⟩] [(2, 4)])
 .ret)))
def a_s_l12Bytes : AFun := ⟨[0, 1, 4, 5, 9, 23], 28, c_s_l12Bytes, [.tmp 2], 1⟩
def w_s_l1Stands_1 : ACode :=
 (.seq (.seq (.region [⟨.mv (.t 3), none⟩, ⟨.mv (.t 0), none⟩, ⟨.lenStr (.l 1), none⟩, ⟨.bin 0 .lss (.l 0) (.l 2), none⟩] [(4, 3)])
 (.cond (.t 4) .skip (.exit 0)))
 (.seq (.block 1 (.seq (.region [⟨.mv (.t 0), none⟩, ⟨.mv (.t 3), none⟩, ⟨.indexS (.l 0) (.l 1), none⟩, ⟨.mv (.t 1), none⟩, ⟨.bin 0 .eql (.l 2) (.l 3), none⟩] [(5, 4)])
 (.cond (.t 5) (.seq (.region [⟨.mv (.c (.bool true)), none⟩] [(2, 0)])
 .ret) .skip)))
 (.region [⟨.mv (.t 3), none⟩, ⟨.bin 0 .add (.l 0) (.c (.int .i64 (1))), none⟩, ⟨.mv (.l 1), none⟩] [(3, 2)])))
def c_s_l1Stands : ACode :=
 (.seq (.region [⟨.mv (.c (.bool false)), none⟩] [(2, 0)])
 (.seq (.seq (.region [⟨.mv (.c (.int .i64 (0))), none⟩] [(3, 0)])
 (.block 0 (.loop w_s_l1Stands_1)))
 (.seq (.region [⟨.mv (.c (.bool false)), none⟩] [(2, 0)])
 .ret)))
def a_s_l1Stands : AFun := ⟨[0, 1, 4, 5, 9, 16], 17, c_s_l1Stands, [.tmp 2], 1⟩
def c_s_l1Seal : ACode :=
 (.seq (.region [⟨.mv (.c (.str ⟨#[]⟩)), none⟩] [(1, 0)])
 (.seq (.region [⟨.mv (.t 0), none⟩, ⟨.bin 1 .add (.l 0) (.c (.str ⟨#[35]⟩)), none⟩, ⟨.mv (.t 0), none⟩, ⟨.call (.c (.fn f_s_l1Sum [] [])) [(.l 2)], none⟩, ⟨.call (.c (.fn f_s_l1Num [] [])) [(.l 3)], none⟩, ⟨.bin 1 .add (.l 1) (.l 4), none⟩, ⟨.mv (.l 5), none⟩] [(1, 6)])
 .ret))
def a_s_l1Seal : AFun := ⟨[0, 2], 9, c_s_l1Seal, [.tmp 1], 1⟩
def c_s_l1Num : ACode :=
 (.seq (.region [⟨.mv (.c (.str ⟨#[]⟩)), none⟩] [(1, 0)])
 (.seq (.seq (.region [⟨.mv (.t 0), none⟩, ⟨.bin 0 .lss (.l 0) (.c (.int .i64 (0))), none⟩] [(2, 1)])
 (.cond (.t 2) (.seq (.region [⟨.mv (.t 0), none⟩, ⟨.un .neg (.l 0), none⟩, ⟨.call (.c (.fn f_s_l1Num [] [])) [(.l 1)], none⟩, ⟨.bin 1 .add (.c (.str ⟨#[45]⟩)) (.l 2), none⟩, ⟨.mv (.l 3), none⟩] [(1, 4)])
 .ret) .skip))
 (.seq (.seq (.region [⟨.mv (.t 0), none⟩, ⟨.bin 0 .lss (.l 0) (.c (.int .i64 (10))), none⟩] [(3, 1)])
 (.cond (.t 3) (.seq (.region [⟨.mv (.t 0), none⟩, ⟨.mv (.t 0), none⟩, ⟨.bin 0 .add (.l 1) (.c (.int .i64 (1))), none⟩, ⟨.sliceStr (.c (.str ⟨#[48, 49, 50, 51, 52, 53, 54, 55, 56, 57]⟩)) (some (.l 0)) (some (.l 2)), none⟩, ⟨.mv (.l 3), none⟩] [(1, 4)])
 .ret) .skip))
 (.seq (.draw [⟨.mv (.t 0), none, []⟩, ⟨.bin 0 .quo (.l 0) (.c (.int .i64 (10))), none, []⟩, ⟨.mv (.t 0), none, []⟩, ⟨.bin 0 .rem (.l 2) (.c (.int .i64 (10))), none, []⟩, ⟨.mv (.t 0), none, []⟩, ⟨.bin 0 .rem (.l 4) (.c (.int .i64 (10))), none, []⟩, ⟨.bin 0 .add (.l 5) (.c (.int .i64 (1))), none, []⟩, ⟨.sliceStr (.c (.str ⟨#[48, 49, 50, 51, 52, 53, 54, 55, 56, 57]⟩)) (some (.l 3)) (some (.l 6)), none, []⟩, ⟨.call (.c (.fn f_s_l1Num [] [])) [(.l 1)], none, []⟩, ⟨.bin 1 .add (.l 8) (.l 7), none, []⟩, ⟨.mv (.l 9), none, []⟩] [(1, 10)])
 .ret))))
def a_s_l1Num : AFun := ⟨[0, 2, 4, 10], 25, c_s_l1Num, [.tmp 1], 1⟩
def w_i_Checksum_1 : ACode :=
 (.seq (.region [⟨.bin 0 .lss (.t 7) (.t 6), none⟩] [(8, 0)])
 (.seq (.cond (.t 8) .skip (.exit 0))
 (.seq (.block 1 (.seq (.region [⟨.mv (.t 7), none⟩, ⟨.mv (.l 0), none⟩] [(4, 1)])
 (.region [⟨.mv (.t 3), none⟩, ⟨.bin 0 .mul (.c (.int .i64 (41))) (.l 0), none⟩, ⟨.mv (.t 0), none⟩, ⟨.mv (.t 4), none⟩, ⟨.indexS (.l 2) (.l 3), none⟩, ⟨.conv .i64 (.l 4), none⟩, ⟨.bin 0 .add (.l 1) (.l 5), none⟩, ⟨.bin 0 .add (.l 6) (.c (.int .i64 (1))), none⟩, ⟨.bin 0 .rem (.l 7) (.c (.int .i64 (999979))), none⟩, ⟨.mv (.l 8), none⟩] [(3, 9)])))
 (.region [⟨.bin 0 .add (.t 7) (.c (.int .i64 (1))), none⟩, ⟨.mv (.l 0), none⟩] [(7, 1)]))))
def c_i_Checksum : ACode :=
 (.seq (.region [⟨.mv (.c (.int .i64 (0))), none⟩, ⟨.mv (.c (.bool false)), none⟩] [(1, 0), (2, 1)])
 (.seq (.seq (.region [⟨.mv (.t 0), none⟩, ⟨.lenStr (.l 0), none⟩, ⟨.bin 0 .gtr (.l 1) (.c (.int .i64 (4000))), none⟩] [(5, 2)])
 (.cond (.t 5) (.seq (.region [⟨.mv (.c (.int .i64 (0))), none⟩, ⟨.mv (.c (.bool false)), none⟩] [(1, 0), (2, 1)])
 .ret) .skip))
 (.seq (.region [⟨.mv (.c (.int .i64 (7))), none⟩] [(3, 0)])
 (.seq (.seq (.region [⟨.mv (.t 0), none⟩, ⟨.lenStr (.l 0), none⟩, ⟨.mv (.c (.int .i64 (0))), none⟩] [(6, 1), (7, 2)])
 (.block 0 (.loop w_i_Checksum_1)))
 (.seq (.region [⟨.mv (.t 3), none⟩, ⟨.mv (.l 0), none⟩, ⟨.mv (.c (.bool true)), none⟩] [(1, 1), (2, 2)])
 .ret)))))
def a_i_Checksum : AFun := ⟨[0, 2, 3, 4, 5, 8, 10, 11, 12], 25, c_i_Checksum, [.tmp 1, .tmp 2], 1⟩
def c_internal_strconv_Itoa : ACode :=
 (.seq (.region [⟨.mv (.c (.str ⟨#[]⟩)), none⟩] [(1, 0)])
 (.seq (.region [⟨.mv (.t 0), none⟩, ⟨.call (.c (.fn f_internal_strconv_FormatInt [] [])) [(.l 0), (.c (.int .i64 (10)))], none⟩, ⟨.mv (.l 1), none⟩] [(1, 2)])
 .ret))
def a_internal_strconv_Itoa : AFun := ⟨[0, 2], 5, c_internal_strconv_Itoa, [.tmp 1], 1⟩
def w_s_l1Split_1 : ACode :=
 (.seq (.seq (.region [⟨.mv (.t 5), none⟩, ⟨.mv (.t 0), none⟩, ⟨.lenStr (.l 1), none⟩, ⟨.bin 0 .lss (.l 0) (.l 2), none⟩] [(6, 3)])
 (.cond (.t 6) .skip (.exit 0)))
 (.seq (.block 1 (.seq (.region [⟨.mv (.t 0), none⟩, ⟨.mv (.t 5), none⟩, ⟨.indexS (.l 0) (.l 1), none⟩, ⟨.mv (.t 1), none⟩, ⟨.bin 0 .eql (.l 2) (.l 3), none⟩] [(7, 4)])
 (.cond (.t 7) (.seq (.region [⟨.mv (.t 3), none⟩, ⟨.mv (.t 0), none⟩, ⟨.mv (.t 4), none⟩, ⟨.mv (.t 5), none⟩, ⟨.sliceStr (.l 1) (some (.l 2)) (some (.l 3)), none⟩, ⟨.buildSlice 1 1 [.str ⟨#[]⟩] [(0, 1, (.l 4))], none⟩, ⟨.append false 1 16 (.l 0) (.l 5), none⟩, ⟨.mv (.l 6), none⟩] [(3, 7)])
 (.region [⟨.mv (.t 5), none⟩, ⟨.bin 0 .add (.l 0) (.c (.int .i64 (1))), none⟩, ⟨.mv (.l 1), none⟩] [(4, 2)])) .skip)))
 (.region [⟨.mv (.t 5), none⟩, ⟨.bin 0 .add (.l 0) (.c (.int .i64 (1))), none⟩, ⟨.mv (.l 1), none⟩] [(5, 2)])))
def c_s_l1Split : ACode :=
 (.seq (.region [⟨.mv (.c (.slice none 0 0 none)), none⟩] [(2, 0)])
 (.seq (.region [⟨.buildSlice 1 0 [] [], none⟩, ⟨.mv (.l 0), none⟩] [(3, 1)])
 (.seq (.region [⟨.mv (.c (.int .i64 (0))), none⟩] [(4, 0)])
 (.seq (.seq (.region [⟨.mv (.c (.int .i64 (0))), none⟩] [(5, 0)])
 (.block 0 (.loop w_s_l1Split_1)))
 (.seq (.region [⟨.mv (.t 3), none⟩, ⟨.mv (.t 0), none⟩, ⟨.mv (.t 4), none⟩, ⟨.sliceStr (.l 1) (some (.l 2)) none, none⟩, ⟨.buildSlice 1 1 [.str ⟨#[]⟩] [(0, 1, (.l 3))], none⟩, ⟨.append false 1 16 (.l 0) (.l 4), none⟩, ⟨.mv (.l 5), none⟩] [(2, 6)])
 .ret)))))
def a_s_l1Split : AFun := ⟨[0, 1, 4, 5, 6, 7, 12, 19], 35, c_s_l1Split, [.tmp 2], 2⟩
def c_s_l12Decode : ACode :=
 (.seq (.region [⟨.alloc [.str ⟨#[]⟩, .str ⟨#[]⟩], none⟩, ⟨.mv (.c (.bool false)), none⟩] [(2, 0), (3, 1)])
 (.seq (.region [⟨.mv (.t 1), none⟩, ⟨.call (.c (.fn f_s_l1Num [] [])) [(.l 0)], none⟩, ⟨.bin 1 .add (.l 1) (.c (.str ⟨#[32]⟩)), none⟩, ⟨.mv (.l 2), none⟩] [(4, 3)])
 (.seq (.region [⟨.mv (.t 0), none⟩, ⟨.call (.c (.fn f_s_l1Split [] [])) [(.l 0), (.c (.int .u8 (35)))], none⟩, ⟨.indexAddrS 1 (.l 1) (.c (.int .i64 (0))), none⟩, ⟨.load false 1 (.l 2), none⟩, ⟨.mv (.l 3), none⟩] [(5, 4)])
 (.seq (.seq (.region [⟨.mv (.t 5), none⟩, ⟨.lenStr (.l 0), none⟩, ⟨.mv (.t 4), none⟩, ⟨.lenStr (.l 2), none⟩, ⟨.bin 0 .lss (.l 1) (.l 3), none⟩, ⟨.mv (.l 4), none⟩, ⟨.mv (.t 5), some ((.l 5), false)⟩, ⟨.mv (.t 4), some ((.l 5), false)⟩, ⟨.lenStr (.l 7), some ((.l 5), false)⟩, ⟨.sliceStr (.l 6) none (some (.l 8)), some ((.l 5), false)⟩, ⟨.mv (.t 4), some ((.l 5), false)⟩, ⟨.bin 1 .neq (.l 9) (.l 10), some ((.l 5), false)⟩, ⟨.pick (.l 5) (.c (.bool true)) (.l 11), none⟩] [(9, 12)])
 (.cond (.t 9) (.seq (.region [⟨.build [.str ⟨#[]⟩, .str ⟨#[]⟩] [], none⟩, ⟨.store 2 (.t 2) (.l 0), none⟩, ⟨.mv (.c (.bool false)), none⟩] [(3, 2)])
 .ret) .skip))
 (.seq (.region [⟨.mv (.t 5), none⟩, ⟨.mv (.t 4), none⟩, ⟨.lenStr (.l 1), none⟩, ⟨.sliceStr (.l 0) (some (.l 2)) none, none⟩, ⟨.mv (.l 3), none⟩] [(6, 4)])
 (.seq (.region [⟨.mv (.t 6), none⟩, ⟨.call (.c (.fn f_s_l1Split [] [])) [(.l 0), (.c (.int .u8 (64)))], none⟩, ⟨.indexAddrS 1 (.l 1) (.c (.int .i64 (0))), none⟩, ⟨.load false 1 (.l 2), none⟩, ⟨.mv (.l 3), none⟩] [(7, 4)])
 (.seq (.seq (.region [⟨.mv (.t 7), none⟩, ⟨.lenStr (.l 0), none⟩, ⟨.mv (.t 6), none⟩, ⟨.lenStr (.l 2), none⟩, ⟨.bin 0 .eql (.l 1) (.l 3), none⟩] [(10, 4)])
 (.cond (.t 10) (.seq (.region [⟨.build [.str ⟨#[]⟩, .str ⟨#[]⟩] [], none⟩, ⟨.store 2 (.t 2) (.l 0), none⟩, ⟨.mv (.c (.bool false)), none⟩] [(3, 2)])
 .ret) .skip))
 (.seq (.region [⟨.mv (.t 7), none⟩, ⟨.mv (.t 6), none⟩, ⟨.mv (.t 7), none⟩, ⟨.lenStr (.l 2), none⟩, ⟨.bin 0 .add (.l 3) (.c (.int .i64 (1))), none⟩, ⟨.sliceStr (.l 1) (some (.l 4)) none, none⟩, ⟨.build [.str ⟨#[]⟩, .str ⟨#[]⟩] [(0, 1, (.l 0)), (1, 1, (.l 5))], none⟩, ⟨.alloc [.str ⟨#[]⟩, .str ⟨#[]⟩], none⟩, ⟨.store 2 (.l 7) (.l 6), none⟩] [(8, 7)])
 (.seq (.draw [⟨.load true 2 (.t 8), none, []⟩, ⟨.load true 2 (.t 8), none, []⟩, ⟨.call (.c (.fn f_s_l12Record [] [])) [(.l 1)], none, [(0, ⟨.load true 2 (.t 8), none⟩)]⟩, ⟨.mv (.l 2), none, []⟩, ⟨.mv (.t 1), some ((.l 3), true), []⟩, ⟨.load true 2 (.t 8), some ((.l 3), true), []⟩, ⟨.mv (.t 0), some ((.l 3), true), []⟩, ⟨.bin 1 .add (.l 6) (.c (.str ⟨#[10]⟩)), some ((.l 3), true), []⟩, ⟨.call (.c (.fn f_s_l12Line [] [])) [(.l 4), (.l 5)], some ((.l 3), true), [(0, ⟨.load true 2 (.t 8), none⟩)]⟩, ⟨.bin 1 .eql (.l 8) (.l 7), some ((.l 3), true), []⟩, ⟨.pick (.l 3) (.l 9) (.c (.bool false)), none, []⟩, ⟨.store 2 (.t 2) (.l 0), none, []⟩, ⟨.mv (.l 10), none, []⟩] [(3, 12)])
 .ret)))))))))
def a_s_l12Decode : AFun := ⟨[0, 1, 4, 5, 6, 7, 8, 9, 10, 30, 44], 64, c_s_l12Decode, [.cell 2 true 2, .tmp 3], 1⟩
def c_strings_Cut : ACode :=
 (.seq (.region [⟨.mv (.c (.str ⟨#[]⟩)), none⟩, ⟨.mv (.c (.str ⟨#[]⟩)), none⟩, ⟨.mv (.c (.bool false)), none⟩] [(2, 0), (3, 1), (4, 2)])
 (.seq (.region [⟨.mv (.t 0), none⟩, ⟨.mv (.t 1), none⟩, ⟨.call (.c (.fn f_internal_stringslite_Cut [] [])) [(.l 0), (.l 1)], none⟩, ⟨.extract 0 (.l 2), none⟩, ⟨.extract 1 (.l 2), none⟩, ⟨.extract 2 (.l 2), none⟩, ⟨.mv (.l 3), none⟩, ⟨.mv (.l 4), none⟩, ⟨.mv (.l 5), none⟩] [(2, 6), (3, 7), (4, 8)])
 .ret))
def a_strings_Cut : AFun := ⟨[0, 1, 4, 5, 6], 13, c_strings_Cut, [.tmp 2, .tmp 3, .tmp 4], 1⟩
def c_i_decode : ACode :=
 (.seq (.region [⟨.alloc [.str ⟨#[]⟩, .str ⟨#[]⟩], none⟩, ⟨.mv (.c (.bool false)), none⟩] [(2, 0), (3, 1)])
 (.seq (.region [⟨.mv (.t 1), none⟩, ⟨.call (.c (.fn f_i_VerifyChecksum [] [])) [(.l 0)], none⟩, ⟨.mv (.l 1), none⟩, ⟨.extract 0 (.l 2), none⟩, ⟨.extract 1 (.l 2), none⟩, ⟨.mv (.l 3), none⟩, ⟨.mv (.l 4), none⟩] [(4, 5), (5, 6)])
 (.seq (.region [⟨.mv (.t 4), none⟩, ⟨.call (.c (.fn f_strings_Cut [] [])) [(.l 0), (.c (.str ⟨#[32]⟩))], none⟩, ⟨.mv (.l 1), none⟩, ⟨.extract 0 (.l 2), none⟩, ⟨.extract 1 (.l 2), none⟩, ⟨.extract 2 (.l 2), none⟩, ⟨.mv (.l 3), none⟩, ⟨.mv (.l 4), none⟩, ⟨.mv (.l 5), none⟩] [(6, 7)])
 (.seq (.region [⟨.mv (.t 6), none⟩, ⟨.call (.c (.fn f_strings_Cut [] [])) [(.l 0), (.c (.str ⟨#[64]⟩))], none⟩, ⟨.mv (.l 1), none⟩, ⟨.extract 0 (.l 2), none⟩, ⟨.extract 1 (.l 2), none⟩, ⟨.extract 2 (.l 2), none⟩, ⟨.mv (.l 3), none⟩, ⟨.mv (.l 4), none⟩, ⟨.mv (.l 5), none⟩] [(7, 6), (8, 7)])
 (.seq (.region [⟨.mv (.t 7), none⟩, ⟨.mv (.t 8), none⟩, ⟨.build [.str ⟨#[]⟩, .str ⟨#[]⟩] [(0, 1, (.l 0)), (1, 1, (.l 1))], none⟩, ⟨.alloc [.str ⟨#[]⟩, .str ⟨#[]⟩], none⟩, ⟨.store 2 (.l 3) (.l 2), none⟩] [(9, 3)])
 (.seq (.region [⟨.mv (.t 0), none⟩, ⟨.load true 2 (.t 9), none⟩, ⟨.call (.c (.fn f_i_EncodeRecord [] [])) [(.l 0), (.l 1)], none⟩, ⟨.mv (.l 2), none⟩, ⟨.extract 0 (.l 3), none⟩, ⟨.extract 1 (.l 3), none⟩, ⟨.mv (.l 4), none⟩, ⟨.mv (.l 5), none⟩] [(10, 6), (11, 7)])
 (.seq (.region [⟨.load true 2 (.t 9), none⟩, ⟨.mv (.t 5), none⟩, ⟨.mv (.l 1), none⟩, ⟨.mv (.t 11), some ((.l 2), true)⟩, ⟨.pick (.l 2) (.l 3) (.c (.bool false)), none⟩, ⟨.mv (.l 4), none⟩, ⟨.mv (.t 10), some ((.l 5), true)⟩, ⟨.mv (.t 1), some ((.l 5), true)⟩, ⟨.bin 1 .add (.l 7) (.c (.str ⟨#[10]⟩)), some ((.l 5), true)⟩, ⟨.bin 1 .eql (.l 6) (.l 8), some ((.l 5), true)⟩, ⟨.pick (.l 5) (.l 9) (.c (.bool false)), none⟩, ⟨.store 2 (.t 2) (.l 0), none⟩, ⟨.mv (.l 10), none⟩] [(3, 12)])
 .ret)))))))
def a_i_decode : AFun := ⟨[0, 1, 4, 5, 6, 7, 9, 11, 12, 14, 15, 16], 54, c_i_decode, [.cell 2 true 2, .tmp 3], 1⟩
def c_slices_Contains_Sint_int : ACode :=
 (.seq (.region [⟨.mv (.c (.bool false)), none⟩] [(2, 0)])
 (.seq (.region [⟨.mv (.t 0), none⟩, ⟨.mv (.t 1), none⟩, ⟨.call (.c (.fn f_slices_Index_Sint_int [] [])) [(.l 0), (.l 1)], none⟩, ⟨.bin 0 .geq (.l 2) (.c (.int .i64 (0))), none⟩, ⟨.mv (.l 3), none⟩] [(2, 4)])
 .ret))
def a_slices_Contains_Sint_int : AFun := ⟨[0, 1, 4], 9, c_slices_Contains_Sint_int, [.tmp 2], 1⟩
def c_s_l1Cur_of : ACode :=
 (.seq (.region [⟨.mv (.c (.str ⟨#[]⟩)), none⟩] [(2, 0)])
 (.seq (.region [⟨.mv (.t 1), none⟩, ⟨.mv (.t 0), none⟩, ⟨.mv (.t 1), none⟩, ⟨.len (.l 2), none⟩, ⟨.call (.c (.fn f_s_l1Cur_pick [] [])) [(.l 1), (.l 3)], none⟩, ⟨.indexAddrS 1 (.l 0) (.l 4), none⟩, ⟨.load false 1 (.l 5), none⟩, ⟨.mv (.l 6), none⟩] [(2, 7)])
 .ret))
def a_s_l1Cur_of : AFun := ⟨[0, 1, 4], 12, c_s_l1Cur_of, [.tmp 2], 1⟩
def c_s_l1Cur_next : ACode :=
 (.seq (.region [⟨.mv (.c (.int .i64 (0))), none⟩] [(1, 0)])
 (.seq (.region [⟨.mv (.c (.int .i64 (0))), none⟩] [(2, 0)])
 (.seq (.seq (.draw [⟨.mv (.t 0), none, []⟩, ⟨.nilCheck (.l 0), none, []⟩, ⟨.fieldAddr 1 (.l 1), none, []⟩, ⟨.load false 1 (.l 2), none, []⟩, ⟨.mv (.t 0), none, []⟩, ⟨.nilCheck (.l 4), none, []⟩, ⟨.fieldAddr 0 (.l 5), none, []⟩, ⟨.load false 1 (.l 6), none, []⟩, ⟨.len (.l 7), none, []⟩, ⟨.bin 0 .lss (.l 3) (.l 8), none, []⟩] [(3, 9)])
 (.cond (.t 3) (.draw [⟨.mv (.t 0), none, []⟩, ⟨.nilCheck (.l 0), none, []⟩, ⟨.fieldAddr 0 (.l 1), none, []⟩, ⟨.load false 1 (.l 2), none, []⟩, ⟨.mv (.t 0), none, []⟩, ⟨.nilCheck (.l 4), none, []⟩, ⟨.fieldAddr 1 (.l 5), none, []⟩, ⟨.load false 1 (.l 6), none, []⟩, ⟨.indexAddrS 1 (.l 3) (.l 7), none, []⟩, ⟨.load false 1 (.l 8), none, []⟩, ⟨.conv .i64 (.l 9), none, []⟩, ⟨.mv (.l 10), none, []⟩] [(2, 11)]) .skip))
 (.seq (.region [⟨.mv (.t 0), none⟩, ⟨.nilCheck (.l 0), none⟩, ⟨.fieldAddr 1 (.l 1), none⟩, ⟨.load false 1 (.l 2), none⟩, ⟨.bin 0 .add (.l 3) (.c (.int .i64 (1))), none⟩, ⟨.nilCheck (.l 0), none⟩, ⟨.fieldAddr 1 (.l 5), none⟩, ⟨.store 1 (.l 6) (.l 4), none⟩] [])
 (.seq (.region [⟨.mv (.t 0), none⟩, ⟨.mv (.t 0), none⟩, ⟨.nilCheck (.l 1), none⟩, ⟨.fieldAddr 2 (.l 2), none⟩, ⟨.load false 1 (.l 3), none⟩, ⟨.bin 0 .mul (.l 4) (.c (.int .u64 (6364136223846793005))), none⟩, ⟨.mv (.t 2), none⟩, ⟨.conv .u64 (.l 6), none⟩, ⟨.bin 0 .add (.l 5) (.l 7), none⟩, ⟨.bin 0 .add (.l 8) (.c (.int .u64 (462197))), none⟩, ⟨.nilCheck (.l 0), none⟩, ⟨.fieldAddr 2 (.l 10), none⟩, ⟨.store 1 (.l 11) (.l 9), none⟩] [])
 (.seq (.seq (.draw [⟨.mv (.t 0), none, []⟩, ⟨.nilCheck (.l 0), none, []⟩, ⟨.fieldAddr 1 (.l 1), none, []⟩, ⟨.load false 1 (.l 2), none, []⟩, ⟨.mv (.t 0), none, []⟩, ⟨.nilCheck (.l 4), none, []⟩, ⟨.fieldAddr 0 (.l 5), none, []⟩, ⟨.load false 1 (.l 6), none, []⟩, ⟨.len (.l 7), none, []⟩, ⟨.bin 0 .leq (.l 3) (.l 8), none, []⟩] [(4, 9)])
 (.cond (.t 4) (.seq (.region [⟨.mv (.t 2), none⟩, ⟨.mv (.l 0), none⟩] [(1, 1)])
 .ret) .skip))
 (.seq (.region [⟨.mv (.t 0), none⟩, ⟨.nilCheck (.l 0), none⟩, ⟨.fieldAddr 2 (.l 1), none⟩, ⟨.load false 1 (.l 2), none⟩, ⟨.bin 0 .shr (.l 3) (.c (.int .u64 (40))), none⟩, ⟨.bin 0 .and (.l 4) (.c (.int .u64 (255))), none⟩, ⟨.conv .i64 (.l 5), none⟩, ⟨.mv (.l 6), none⟩] [(1, 7)])
 .ret)))))))
def a_s_l1Cur_next : AFun := ⟨[0, 2, 3, 13, 53], 62, c_s_l1Cur_next, [.tmp 1], 1⟩
def c_strings_Index : ACode :=
 (.seq (.region [⟨.mv (.c (.int .i64 (0))), none⟩] [(2, 0)])
 (.seq (.region [⟨.mv (.t 0), none⟩, ⟨.mv (.t 1), none⟩, ⟨.call (.c (.fn f_internal_stringslite_Index [] [])) [(.l 0), (.l 1)], none⟩, ⟨.mv (.l 2), none⟩] [(2, 3)])
 .ret))
def a_strings_Index : AFun := ⟨[0, 1, 4], 8, c_strings_Index, [.tmp 2], 1⟩
def w_s_l1Sum_1 : ACode :=
 (.seq (.seq (.region [⟨.mv (.t 3), none⟩, ⟨.mv (.t 0), none⟩, ⟨.lenStr (.l 1), none⟩, ⟨.bin 0 .lss (.l 0) (.l 2), none⟩] [(4, 3)])
 (.cond (.t 4) .skip (.exit 0)))
 (.seq (.block 1 (.region [⟨.mv (.t 2), none⟩, ⟨.bin 0 .mul (.c (.int .i64 (41))) (.l 0), none⟩, ⟨.mv (.t 0), none⟩, ⟨.mv (.t 3), none⟩, ⟨.indexS (.l 2) (.l 3), none⟩, ⟨.conv .i64 (.l 4), none⟩, ⟨.bin 0 .add (.l 1) (.l 5), none⟩, ⟨.bin 0 .add (.l 6) (.c (.int .i64 (1))), none⟩, ⟨.bin 0 .rem (.l 7) (.c (.int .i64 (999979))), none⟩, ⟨.mv (.l 8), none⟩] [(2, 9)]))
 (.region [⟨.mv (.t 3), none⟩, ⟨.bin 0 .add (.l 0) (.c (.int .i64 (1))), none⟩, ⟨.mv (.l 1), none⟩] [(3, 2)])))
def c_s_l1Sum : ACode :=
 (.seq (.region [⟨.mv (.c (.int .i64 (0))), none⟩] [(1, 0)])
 (.seq (.region [⟨.mv (.c (.int .i64 (7))), none⟩] [(2, 0)])
 (.seq (.seq (.region [⟨.mv (.c (.int .i64 (0))), none⟩] [(3, 0)])
 (.block 0 (.loop w_s_l1Sum_1)))
 (.seq (.region [⟨.mv (.t 2), none⟩, ⟨.mv (.l 0), none⟩] [(1, 1)])
 .ret))))
def a_s_l1Sum : AFun := ⟨[0, 2, 3, 4, 8], 21, c_s_l1Sum, [.tmp 1], 1⟩
def c_internal_strconv_FormatInt : ACode :=
 (.seq (.region [⟨.mv (.c (.str ⟨#[]⟩)), none⟩] [(2, 0)])
 (.seq (.seq (.region [⟨.mv (.t 1), none⟩, ⟨.bin 0 .eql (.l 0) (.c (.int .i64 (10))), none⟩] [(7, 1)])
 (.cond (.t 7) (.seq (.seq (.region [⟨.mv (.t 0), none⟩, ⟨.bin 0 .leq (.c (.int .i64 (0))) (.l 0), none⟩, ⟨.mv (.l 1), none⟩, ⟨.mv (.t 0), some ((.l 2), true)⟩, ⟨.bin 0 .lss (.l 3) (.c (.int .i64 (100))), some ((.l 2), true)⟩, ⟨.pick (.l 2) (.l 4) (.c (.bool false)), none⟩] [(8, 5)])
 (.cond (.t 8) (.seq (.region [⟨.mv (.t 0), none⟩, ⟨.call (.c (.fn f_internal_strconv_small [] [])) [(.l 0)], none⟩, ⟨.mv (.l 1), none⟩] [(2, 2)])
 .ret) .skip))
 (.seq (.region [⟨.alloc [.int .u8 (0), .int .u8 (0), .int .u8 (0), .int .u8 (0), .int .u8 (0), .int .u8 (0), .int .u8 (0), .int .u8 (0), .int .u8 (0), .int .u8 (0), .int .u8 (0), .int .u8 (0), .int .u8 (0), .int .u8 (0), .int .u8 (0), .int .u8 (0), .int .u8 (0), .int .u8 (0), .int .u8 (0), .int .u8 (0), .int .u8 (0), .int .u8 (0), .int .u8 (0), .int .u8 (0)], none⟩] [(3, 0)])
 (.seq (.region [⟨.mv (.t 0), none⟩, ⟨.conv .u64 (.l 0), none⟩, ⟨.mv (.l 1), none⟩] [(4, 2)])
 (.seq (.seq (.region [⟨.mv (.t 0), none⟩, ⟨.bin 0 .lss (.l 0) (.c (.int .i64 (0))), none⟩] [(9, 1)])
 (.cond (.t 9) (.region [⟨.mv (.t 4), none⟩, ⟨.un .neg (.l 0), none⟩, ⟨.mv (.l 1), none⟩] [(4, 2)]) .skip))
 (.seq (.region [⟨.mv (.t 4), none⟩, ⟨.call (.c (.fn f_internal_strconv_numDigits [] [])) [(.l 0)], none⟩, ⟨.mv (.l 1), none⟩] [(5, 2)])
 (.seq (.region [⟨.mv (.t 5), none⟩, ⟨.bin 0 .add (.c (.int .i64 (1))) (.l 0), none⟩, ⟨.sliceArr 24 1 (.t 3) (some (.c (.int .i64 (1)))) (some (.l 1)) none, none⟩, ⟨.mv (.t 4), none⟩, ⟨.call (.c (.fn f_internal_strconv_formatBase10 [] [])) [(.l 2), (.l 3)], none⟩] [])
 (.seq (.seq (.region [⟨.mv (.t 0), none⟩, ⟨.bin 0 .lss (.l 0) (.c (.int .i64 (0))), none⟩] [(10, 1)])
 (.cond (.t 10) (.seq (.region [⟨.indexAddrA 24 1 (.t 3) (.c (.int .i64 (0))), none⟩, ⟨.store 1 (.l 0) (.c (.int .u8 (45))), none⟩] [])
 (.seq (.region [⟨.mv (.t 5), none⟩, ⟨.bin 0 .add (.c (.int .i64 (1))) (.l 0), none⟩, ⟨.sliceArr 24 1 (.t 3) none (some (.l 1)) none, none⟩, ⟨.ofBytes (.l 2), none⟩, ⟨.mv (.l 3), none⟩] [(2, 4)])
 .ret)) .skip))
 (.seq (.region [⟨.mv (.t 5), none⟩, ⟨.bin 0 .add (.c (.int .i64 (1))) (.l 0), none⟩, ⟨.sliceArr 24 1 (.t 3) (some (.c (.int .i64 (1)))) (some (.l 1)) none, none⟩, ⟨.ofBytes (.l 2), none⟩, ⟨.mv (.l 3), none⟩] [(2, 4)])
 .ret)))))))) .skip))
 (.seq (.region [⟨.mv (.t 0), none⟩, ⟨.conv .u64 (.l 0), none⟩, ⟨.mv (.t 1), none⟩, ⟨.mv (.t 0), none⟩, ⟨.bin 0 .lss (.l 3) (.c (.int .i64 (0))), none⟩, ⟨.call (.c (.fn f_internal_strconv_formatBits [] [])) [(.c (.slice none 0 0 none)), (.l 1), (.l 2), (.l 4), (.c (.bool false))], none⟩, ⟨.mv (.l 5), none⟩, ⟨.extract 0 (.l 6), none⟩, ⟨.extract 1 (.l 6), none⟩, ⟨.mv (.l 7), none⟩, ⟨.mv (.l 8), none⟩] [(6, 10)])
 (.seq (.region [⟨.mv (.t 6), none⟩, ⟨.mv (.l 0), none⟩] [(2, 1)])
 .ret))))
def a_internal_strconv_FormatInt : AFun := ⟨[0, 1, 4, 5, 6, 7, 9, 11, 17, 23, 34], 54, c_internal_strconv_FormatInt, [.tmp 2], 1⟩
def c_internal_stringslite_Cut : ACode :=
 (.seq (.region [⟨.mv (.c (.str ⟨#[]⟩)), none⟩, ⟨.mv (.c (.str ⟨#[]⟩)), none⟩, ⟨.mv (.c (.bool false)), none⟩] [(2, 0), (3, 1), (4, 2)])
 (.seq (.seq (.region [⟨.mv (.t 0), none⟩, ⟨.mv (.t 1), none⟩, ⟨.call (.c (.fn f_internal_stringslite_Index [] [])) [(.l 0), (.l 1)], none⟩, ⟨.mv (.l 2), none⟩] [(5, 3)])
 (.seq (.region [⟨.mv (.t 5), none⟩, ⟨.bin 0 .geq (.l 0) (.c (.int .i64 (0))), none⟩] [(6, 1)])
 (.cond (.t 6) (.seq (.draw [⟨.mv (.t 0), none, []⟩, ⟨.mv (.t 5), none, []⟩, ⟨.sliceStr (.l 0) none (some (.l 1)), none, []⟩, ⟨.mv (.t 0), none, []⟩, ⟨.mv (.t 5), none, []⟩, ⟨.mv (.t 1), none, []⟩, ⟨.lenStr (.l 5), none, []⟩, ⟨.bin 0 .add (.l 4) (.l 6), none, []⟩, ⟨.sliceStr (.l 3) (some (.l 7)) none, none, []⟩, ⟨.mv (.l 2), none, []⟩, ⟨.mv (.l 8), none, []⟩, ⟨.mv (.c (.bool true)), none, []⟩] [(2, 9), (3, 10), (4, 11)])
 .ret) .skip)))
 (.seq (.region [⟨.mv (.t 0), none⟩, ⟨.mv (.l 0), none⟩, ⟨.mv (.c (.str ⟨#[]⟩)), none⟩, ⟨.mv (.c (.bool false)), none⟩] [(2, 1), (3, 2), (4, 3)])
 .ret)))
def a_internal_stringslite_Cut : AFun := ⟨[0, 1, 4, 5, 6, 7, 12], 23, c_internal_stringslite_Cut, [.tmp 2, .tmp 3, .tmp 4], 1⟩
def c_i_VerifyChecksum : ACode :=
 (.seq (.region [⟨.mv (.c (.str ⟨#[]⟩)), none⟩, ⟨.mv (.c (.bool false)), none⟩] [(1, 0), (2, 1)])
 (.seq (.region [⟨.mv (.t 0), none⟩, ⟨.call (.c (.fn f_strings_Cut [] [])) [(.l 0), (.c (.str ⟨#[35]⟩))], none⟩, ⟨.mv (.l 1), none⟩, ⟨.extract 0 (.l 2), none⟩, ⟨.extract 1 (.l 2), none⟩, ⟨.extract 2 (.l 2), none⟩, ⟨.mv (.l 3), none⟩, ⟨.mv (.l 4), none⟩, ⟨.mv (.l 5), none⟩] [(3, 6)])
 (.seq (.seq (.region [⟨.mv (.t 3), none⟩, ⟨.call (.c (.fn f_i_AppendChecksum [] [])) [(.l 0)], none⟩, ⟨.mv (.l 1), none⟩, ⟨.extract 0 (.l 2), none⟩, ⟨.extract 1 (.l 2), none⟩, ⟨.mv (.l 3), none⟩, ⟨.mv (.l 4), none⟩] [(4, 5), (5, 6)])
 (.seq (.region [⟨.mv (.t 5), none⟩, ⟨.un .not (.l 0), none⟩, ⟨.mv (.l 1), none⟩, ⟨.mv (.t 4), some ((.l 2), false)⟩, ⟨.mv (.t 0), some ((.l 2), false)⟩, ⟨.bin 1 .neq (.l 3) (.l 4), some ((.l 2), false)⟩, ⟨.pick (.l 2) (.c (.bool true)) (.l 5), none⟩] [(6, 6)])
 (.cond (.t 6) (.seq (.region [⟨.mv (.c (.str ⟨#[]⟩)), none⟩, ⟨.mv (.c (.bool false)), none⟩] [(1, 0), (2, 1)])
 .ret) .skip)))
 (.seq (.region [⟨.mv (.t 3), none⟩, ⟨.mv (.l 0), none⟩, ⟨.mv (.c (.bool true)), none⟩] [(1, 1), (2, 2)])
 .ret))))
def a_i_VerifyChecksum : AFun := ⟨[0, 2, 3, 4, 7, 8, 26], 28, c_i_VerifyChecksum, [.tmp 1, .tmp 2], 1⟩
def w_slices_Index_Sint_int_1 : ACode :=
 (.seq (.region [⟨.bin 0 .lss (.t 5) (.t 4), none⟩] [(6, 0)])
 (.seq (.cond (.t 6) .skip (.exit 0))
 (.seq (.block 1 (.seq (.region [⟨.mv (.t 5), none⟩, ⟨.mv (.l 0), none⟩] [(3, 1)])
 (.seq (.region [⟨.mv (.t 1), none⟩, ⟨.mv (.t 0), none⟩, ⟨.mv (.t 3), none⟩, ⟨.indexAddrS 1 (.l 1) (.l 2), none⟩, ⟨.load false 1 (.l 3), none⟩, ⟨.bin 0 .eql (.l 0) (.l 4), none⟩] [(7, 5)])
 (.cond (.t 7) (.seq (.region [⟨.mv (.t 3), none⟩, ⟨.mv (.l 0), none⟩] [(2, 1)])
 .ret) .skip))))
 (.region [⟨.bin 0 .add (.t 5) (.c (.int .i64 (1))), none⟩, ⟨.mv (.l 0), none⟩] [(5, 1)]))))
def c_slices_Index_Sint_int : ACode :=
 (.seq (.region [⟨.mv (.c (.int .i64 (0))), none⟩] [(2, 0)])
 (.seq (.seq (.region [⟨.mv (.t 0), none⟩, ⟨.len (.l 0), none⟩, ⟨.mv (.c (.int .i64 (0))), none⟩] [(4, 1), (5, 2)])
 (.block 0 (.loop w_slices_Index_Sint_int_1)))
 (.seq (.region [⟨.mv (.c (.int .i64 (-1))), none⟩] [(2, 0)])
 .ret)))
def a_slices_Index_Sint_int : AFun := ⟨[0, 1, 4, 5, 7, 8, 9, 16], 19, c_slices_Index_Sint_int, [.tmp 2], 1⟩
-- internal_stringslite_Index: by contract
def c_internal_strconv_small : ACode :=
 (.seq (.region [⟨.mv (.c (.str ⟨#[]⟩)), none⟩] [(1, 0)])
 (.seq (.seq (.region [⟨.mv (.t 0), none⟩, ⟨.bin 0 .lss (.l 0) (.c (.int .i64 (10))), none⟩] [(2, 1)])
 (.cond (.t 2) (.seq (.region [⟨.mv (.t 0), none⟩, ⟨.mv (.t 0), none⟩, ⟨.bin 0 .add (.l 1) (.c (.int .i64 (1))), none⟩, ⟨.sliceStr (.c (.str ⟨#[48, 49, 50, 51, 52, 53, 54, 55, 56, 57, 97, 98, 99, 100, 101, 102, 103, 104, 105, 106, 107, 108, 109, 110, 111, 112, 113, 114, 115, 116, 117, 118, 119, 120, 121, 122]⟩)) (some (.l 0)) (some (.l 2)), none⟩, ⟨.mv (.l 3), none⟩] [(1, 4)])
 .ret) .skip))
 (.seq (.region [⟨.mv (.t 0), none⟩, ⟨.bin 0 .mul (.l 0) (.c (.int .i64 (2))), none⟩, ⟨.mv (.t 0), none⟩, ⟨.bin 0 .mul (.l 2) (.c (.int .i64 (2))), none⟩, ⟨.bin 0 .add (.l 3) (.c (.int .i64 (2))), none⟩, ⟨.sliceStr (.c (.str ⟨#[48, 48, 48, 49, 48, 50, 48, 51, 48, 52, 48, 53, 48, 54, 48, 55, 48, 56, 48, 57, 49, 48, 49, 49, 49, 50, 49, 51, 49, 52, 49, 53, 49, 54, 49, 55, 49, 56, 49, 57, 50, 48, 50, 49, 50, 50, 50, 51, 50, 52, 50, 53, 50, 54, 50, 55, 50, 56, 50, 57, 51, 48, 51, 49, 51, 50, 51, 51, 51, 52, 51, 53, 51, 54, 51, 55, 51, 56, 51, 57, 52, 48, 52, 49, 52, 50, 52, 51, 52, 52, 52, 53, 52, 54, 52, 55, 52, 56, 52, 57, 53, 48, 53, 49, 53, 50, 53, 51, 53, 52, 53, 53, 53, 54, 53, 55, 53, 56, 53, 57, 54, 48, 54, 49, 54, 50, 54, 51, 54, 52, 54, 53, 54, 54, 54, 55, 54, 56, 54, 57, 55, 48, 55, 49, 55, 50, 55, 51, 55, 52, 55, 53, 55, 54, 55, 55, 55, 56, 55, 57, 56, 48, 56, 49, 56, 50, 56, 51, 56, 52, 56, 53, 56, 54, 56, 55, 56, 56, 56, 57, 57, 48, 57, 49, 57, 50, 57, 51, 57, 52, 57, 53, 57, 54, 57, 55, 57, 56, 57, 57]⟩)) (some (.l 1)) (some (.l 4)), none⟩, ⟨.mv (.l 5), none⟩] [(1, 6)])
 .ret)))
def a_internal_strconv_small : AFun := ⟨[0, 2, 4], 15, c_internal_strconv_small, [.tmp 1], 1⟩
-- internal_strconv_numDigits: not taken
def w_internal_strconv_formatBase10_1 : ACode :=
 (.seq (.seq (.region [⟨.mv (.t 2), none⟩, ⟨.bin 0 .geq (.l 0) (.c (.int .i64 (8))), none⟩] [(15, 1)])
 (.cond (.t 15) .skip (.exit 0)))
 (.block 1 (.seq (.region [⟨.mv (.t 1), none⟩, ⟨.bin 0 .rem (.l 0) (.c (.int .u64 (100000000))), none⟩, ⟨.conv .u32 (.l 1), none⟩, ⟨.mv (.l 2), none⟩] [(3, 3)])
 (.seq (.region [⟨.mv (.t 1), none⟩, ⟨.bin 0 .quo (.l 0) (.c (.int .u64 (100000000))), none⟩, ⟨.mv (.l 1), none⟩] [(1, 2)])
 (.seq (.region [⟨.mv (.t 3), none⟩, ⟨.bin 0 .quo (.l 0) (.c (.int .u32 (10000))), none⟩, ⟨.mv (.t 3), none⟩, ⟨.bin 0 .rem (.l 2) (.c (.int .u32 (10000))), none⟩, ⟨.mv (.l 1), none⟩, ⟨.mv (.l 3), none⟩] [(4, 4), (5, 5)])
 (.seq (.region [⟨.mv (.t 5), none⟩, ⟨.bin 0 .quo (.l 0) (.c (.int .u32 (100))), none⟩, ⟨.bin 0 .mul (.l 1) (.c (.int .u32 (2))), none⟩, ⟨.mv (.t 5), none⟩, ⟨.bin 0 .rem (.l 3) (.c (.int .u32 (100))), none⟩, ⟨.bin 0 .mul (.l 4) (.c (.int .u32 (2))), none⟩, ⟨.mv (.l 2), none⟩, ⟨.mv (.l 5), none⟩] [(6, 6), (7, 7)])
 (.seq (.region [⟨.mv (.t 4), none⟩, ⟨.bin 0 .quo (.l 0) (.c (.int .u32 (100))), none⟩, ⟨.bin 0 .mul (.l 1) (.c (.int .u32 (2))), none⟩, ⟨.mv (.t 4), none⟩, ⟨.bin 0 .rem (.l 3) (.c (.int .u32 (100))), none⟩, ⟨.bin 0 .mul (.l 4) (.c (.int .u32 (2))), none⟩, ⟨.mv (.l 2), none⟩, ⟨.mv (.l 5), none⟩] [(8, 6), (9, 7)])
 (.seq (.draw [⟨.mv (.t 0), none, []⟩, ⟨.mv (.t 2), none, []⟩, ⟨.bin 0 .sub (.l 1) (.c (.int .i64 (1))), none, []⟩, ⟨.mv (.t 0), none, []⟩, ⟨.mv (.t 2), none, []⟩, ⟨.bin 0 .sub (.l 4) (.c (.int .i64 (2))), none, []⟩, ⟨.mv (.t 7), none, []⟩, ⟨.bin 0 .add (.l 6) (.c (.int .u32 (1))), none, []⟩, ⟨.indexS (.c (.str ⟨#[48, 48, 48, 49, 48, 50, 48, 51, 48, 52, 48, 53, 48, 54, 48, 55, 48, 56, 48, 57, 49, 48, 49, 49, 49, 50, 49, 51, 49, 52, 49, 53, 49, 54, 49, 55, 49, 56, 49, 57, 50, 48, 50, 49, 50, 50, 50, 51, 50, 52, 50, 53, 50, 54, 50, 55, 50, 56, 50, 57, 51, 48, 51, 49, 51, 50, 51, 51, 51, 52, 51, 53, 51, 54, 51, 55, 51, 56, 51, 57, 52, 48, 52, 49, 52, 50, 52, 51, 52, 52, 52, 53, 52, 54, 52, 55, 52, 56, 52, 57, 53, 48, 53, 49, 53, 50, 53, 51, 53, 52, 53, 53, 53, 54, 53, 55, 53, 56, 53, 57, 54, 48, 54, 49, 54, 50, 54, 51, 54, 52, 54, 53, 54, 54, 54, 55, 54, 56, 54, 57, 55, 48, 55, 49, 55, 50, 55, 51, 55, 52, 55, 53, 55, 54, 55, 55, 55, 56, 55, 57, 56, 48, 56, 49, 56, 50, 56, 51, 56, 52, 56, 53, 56, 54, 56, 55, 56, 56, 56, 57, 57, 48, 57, 49, 57, 50, 57, 51, 57, 52, 57, 53, 57, 54, 57, 55, 57, 56, 57, 57]⟩)) (.l 7), none, []⟩, ⟨.mv (.t 7), none, []⟩, ⟨.indexS (.c (.str ⟨#[48, 48, 48, 49, 48, 50, 48, 51, 48, 52, 48, 53, 48, 54, 48, 55, 48, 56, 48, 57, 49, 48, 49, 49, 49, 50, 49, 51, 49, 52, 49, 53, 49, 54, 49, 55, 49, 56, 49, 57, 50, 48, 50, 49, 50, 50, 50, 51, 50, 52, 50, 53, 50, 54, 50, 55, 50, 56, 50, 57, 51, 48, 51, 49, 51, 50, 51, 51, 51, 52, 51, 53, 51, 54, 51, 55, 51, 56, 51, 57, 52, 48, 52, 49, 52, 50, 52, 51, 52, 52, 52, 53, 52, 54, 52, 55, 52, 56, 52, 57, 53, 48, 53, 49, 53, 50, 53, 51, 53, 52, 53, 53, 53, 54, 53, 55, 53, 56, 53, 57, 54, 48, 54, 49, 54, 50, 54, 51, 54, 52, 54, 53, 54, 54, 54, 55, 54, 56, 54, 57, 55, 48, 55, 49, 55, 50, 55, 51, 55, 52, 55, 53, 55, 54, 55, 55, 55, 56, 55, 57, 56, 48, 56, 49, 56, 50, 56, 51, 56, 52, 56, 53, 56, 54, 56, 55, 56, 56, 56, 57, 57, 48, 57, 49, 57, 50, 57, 51, 57, 52, 57, 53, 57, 54, 57, 55, 57, 56, 57, 57]⟩)) (.l 9), none, []⟩, ⟨.indexAddrS 1 (.l 0) (.l 2), none, []⟩, ⟨.store 1 (.l 11) (.l 8), none, []⟩, ⟨.indexAddrS 1 (.l 3) (.l 5), none, []⟩, ⟨.store 1 (.l 13) (.l 10), none, []⟩] [])
 (.seq (.draw [⟨.mv (.t 0), none, []⟩, ⟨.mv (.t 2), none, []⟩, ⟨.bin 0 .sub (.l 1) (.c (.int .i64 (3))), none, []⟩, ⟨.mv (.t 0), none, []⟩, ⟨.mv (.t 2), none, []⟩, ⟨.bin 0 .sub (.l 4) (.c (.int .i64 (4))), none, []⟩, ⟨.mv (.t 6), none, []⟩, ⟨.bin 0 .add (.l 6) (.c (.int .u32 (1))), none, []⟩, ⟨.indexS (.c (.str ⟨#[48, 48, 48, 49, 48, 50, 48, 51, 48, 52, 48, 53, 48, 54, 48, 55, 48, 56, 48, 57, 49, 48, 49, 49, 49, 50, 49, 51, 49, 52, 49, 53, 49, 54, 49, 55, 49, 56, 49, 57, 50, 48, 50, 49, 50, 50, 50, 51, 50, 52, 50, 53, 50, 54, 50, 55, 50, 56, 50, 57, 51, 48, 51, 49, 51, 50, 51, 51, 51, 52, 51, 53, 51, 54, 51, 55, 51, 56, 51, 57, 52, 48, 52, 49, 52, 50, 52, 51, 52, 52, 52, 53, 52, 54, 52, 55, 52, 56, 52, 57, 53, 48, 53, 49, 53, 50, 53, 51, 53, 52, 53, 53, 53, 54, 53, 55, 53, 56, 53, 57, 54, 48, 54, 49, 54, 50, 54, 51, 54, 52, 54, 53, 54, 54, 54, 55, 54, 56, 54, 57, 55, 48, 55, 49, 55, 50, 55, 51, 55, 52, 55, 53, 55, 54, 55, 55, 55, 56, 55, 57, 56, 48, 56, 49, 56, 50, 56, 51, 56, 52, 56, 53, 56, 54, 56, 55, 56, 56, 56, 57, 57, 48, 57, 49, 57, 50, 57, 51, 57, 52, 57, 53, 57, 54, 57, 55, 57, 56, 57, 57]⟩)) (.l 7), none, []⟩, ⟨.mv (.t 6), none, []⟩, ⟨.indexS (.c (.str ⟨#[48, 48, 48, 49, 48, 50, 48, 51, 48, 52, 48, 53, 48, 54, 48, 55, 48, 56, 48, 57, 49, 48, 49, 49, 49, 50, 49, 51, 49, 52, 49, 53, 49, 54, 49, 55, 49, 56, 49, 57, 50, 48, 50, 49, 50, 50, 50, 51, 50, 52, 50, 53, 50, 54, 50, 55, 50, 56, 50, 57, 51, 48, 51, 49, 51, 50, 51, 51, 51, 52, 51, 53, 51, 54, 51, 55, 51, 56, 51, 57, 52, 48, 52, 49, 52, 50, 52, 51, 52, 52, 52, 53, 52, 54, 52, 55, 52, 56, 52, 57, 53, 48, 53, 49, 53, 50, 53, 51, 53, 52, 53, 53, 53, 54, 53, 55, 53, 56, 53, 57, 54, 48, 54, 49, 54, 50, 54, 51, 54, 52, 54, 53, 54, 54, 54, 55, 54, 56, 54, 57, 55, 48, 55, 49, 55, 50, 55, 51, 55, 52, 55, 53, 55, 54, 55, 55, 55, 56, 55, 57, 56, 48, 56, 49, 56, 50, 56, 51, 56, 52, 56, 53, 56, 54, 56, 55, 56, 56, 56, 57, 57, 48, 57, 49, 57, 50, 57, 51, 57, 52, 57, 53, 57, 54, 57, 55, 57, 56, 57, 57]⟩)) (.l 9), none, []⟩, ⟨.indexAddrS 1 (.l 0) (.l 2), none, []⟩, ⟨.store 1 (.l 11) (.l 8), none, []⟩, ⟨.indexAddrS 1 (.l 3) (.l 5), none, []⟩, ⟨.store 1 (.l 13) (.l 10), none, []⟩] [])
 (.seq (.draw [⟨.mv (.t 0), none, []⟩, ⟨.mv (.t 2), none, []⟩, ⟨.bin 0 .sub (.l 1) (.c (.int .i64 (5))), none, []⟩, ⟨.mv (.t 0), none, []⟩, ⟨.mv (.t 2), none, []⟩, ⟨.bin 0 .sub (.l 4) (.c (.int .i64 (6))), none, []⟩, ⟨.mv (.t 9), none, []⟩, ⟨.bin 0 .add (.l 6) (.c (.int .u32 (1))), none, []⟩, ⟨.indexS (.c (.str ⟨#[48, 48, 48, 49, 48, 50, 48, 51, 48, 52, 48, 53, 48, 54, 48, 55, 48, 56, 48, 57, 49, 48, 49, 49, 49, 50, 49, 51, 49, 52, 49, 53, 49, 54, 49, 55, 49, 56, 49, 57, 50, 48, 50, 49, 50, 50, 50, 51, 50, 52, 50, 53, 50, 54, 50, 55, 50, 56, 50, 57, 51, 48, 51, 49, 51, 50, 51, 51, 51, 52, 51, 53, 51, 54, 51, 55, 51, 56, 51, 57, 52, 48, 52, 49, 52, 50, 52, 51, 52, 52, 52, 53, 52, 54, 52, 55, 52, 56, 52, 57, 53, 48, 53, 49, 53, 50, 53, 51, 53, 52, 53, 53, 53, 54, 53, 55, 53, 56, 53, 57, 54, 48, 54, 49, 54, 50, 54, 51, 54, 52, 54, 53, 54, 54, 54, 55, 54, 56, 54, 57, 55, 48, 55, 49, 55, 50, 55, 51, 55, 52, 55, 53, 55, 54, 55, 55, 55, 56, 55, 57, 56, 48, 56, 49, 56, 50, 56, 51, 56, 52, 56, 53, 56, 54, 56, 55, 56, 56, 56, 57, 57, 48, 57, 49, 57, 50, 57, 51, 57, 52, 57, 53, 57, 54, 57, 55, 57, 56, 57, 57]⟩)) (.l 7), none, []⟩, ⟨.mv (.t 9), none, []⟩, ⟨.indexS (.c (.str ⟨#[48, 48, 48, 49, 48, 50, 48, 51, 48, 52, 48, 53, 48, 54, 48, 55, 48, 56, 48, 57, 49, 48, 49, 49, 49, 50, 49, 51, 49, 52, 49, 53, 49, 54, 49, 55, 49, 56, 49, 57, 50, 48, 50, 49, 50, 50, 50, 51, 50, 52, 50, 53, 50, 54, 50, 55, 50, 56, 50, 57, 51, 48, 51, 49, 51, 50, 51, 51, 51, 52, 51, 53, 51, 54, 51, 55, 51, 56, 51, 57, 52, 48, 52, 49, 52, 50, 52, 51, 52, 52, 52, 53, 52, 54, 52, 55, 52, 56, 52, 57, 53, 48, 53, 49, 53, 50, 53, 51, 53, 52, 53, 53, 53, 54, 53, 55, 53, 56, 53, 57, 54, 48, 54, 49, 54, 50, 54, 51, 54, 52, 54, 53, 54, 54, 54, 55, 54, 56, 54, 57, 55, 48, 55, 49, 55, 50, 55, 51, 55, 52, 55, 53, 55, 54, 55, 55, 55, 56, 55, 57, 56, 48, 56, 49, 56, 50, 56, 51, 56, 52, 56, 53, 56, 54, 56, 55, 56, 56, 56, 57, 57, 48, 57, 49, 57, 50, 57, 51, 57, 52, 57, 53, 57, 54, 57, 55, 57, 56, 57, 57]⟩)) (.l 9), none, []⟩, ⟨.indexAddrS 1 (.l 0) (.l 2), none, []⟩, ⟨.store 1 (.l 11) (.l 8), none, []⟩, ⟨.indexAddrS 1 (.l 3) (.l 5), none, []⟩, ⟨.store 1 (.l 13) (.l 10), none, []⟩] [])
 (.seq (.draw [⟨.mv (.t 0), none, []⟩, ⟨.mv (.t 2), none, []⟩, ⟨.bin 0 .sub (.l 1) (.c (.int .i64 (7))), none, []⟩, ⟨.mv (.t 0), none, []⟩, ⟨.mv (.t 2), none, []⟩, ⟨.bin 0 .sub (.l 4) (.c (.int .i64 (8))), none, []⟩, ⟨.mv (.t 8), none, []⟩, ⟨.bin 0 .add (.l 6) (.c (.int .u32 (1))), none, []⟩, ⟨.indexS (.c (.str ⟨#[48, 48, 48, 49, 48, 50, 48, 51, 48, 52, 48, 53, 48, 54, 48, 55, 48, 56, 48, 57, 49, 48, 49, 49, 49, 50, 49, 51, 49, 52, 49, 53, 49, 54, 49, 55, 49, 56, 49, 57, 50, 48, 50, 49, 50, 50, 50, 51, 50, 52, 50, 53, 50, 54, 50, 55, 50, 56, 50, 57, 51, 48, 51, 49, 51, 50, 51, 51, 51, 52, 51, 53, 51, 54, 51, 55, 51, 56, 51, 57, 52, 48, 52, 49, 52, 50, 52, 51, 52, 52, 52, 53, 52, 54, 52, 55, 52, 56, 52, 57, 53, 48, 53, 49, 53, 50, 53, 51, 53, 52, 53, 53, 53, 54, 53, 55, 53, 56, 53, 57, 54, 48, 54, 49, 54, 50, 54, 51, 54, 52, 54, 53, 54, 54, 54, 55, 54, 56, 54, 57, 55, 48, 55, 49, 55, 50, 55, 51, 55, 52, 55, 53, 55, 54, 55, 55, 55, 56, 55, 57, 56, 48, 56, 49, 56, 50, 56, 51, 56, 52, 56, 53, 56, 54, 56, 55, 56, 56, 56, 57, 57, 48, 57, 49, 57, 50, 57, 51, 57, 52, 57, 53, 57, 54, 57, 55, 57, 56, 57, 57]⟩)) (.l 7), none, []⟩, ⟨.mv (.t 8), none, []⟩, ⟨.indexS (.c (.str ⟨#[48, 48, 48, 49, 48, 50, 48, 51, 48, 52, 48, 53, 48, 54, 48, 55, 48, 56, 48, 57, 49, 48, 49, 49, 49, 50, 49, 51, 49, 52, 49, 53, 49, 54, 49, 55, 49, 56, 49, 57, 50, 48, 50, 49, 50, 50, 50, 51, 50, 52, 50, 53, 50, 54, 50, 55, 50, 56, 50, 57, 51, 48, 51, 49, 51, 50, 51, 51, 51, 52, 51, 53, 51, 54, 51, 55, 51, 56, 51, 57, 52, 48, 52, 49, 52, 50, 52, 51, 52, 52, 52, 53, 52, 54, 52, 55, 52, 56, 52, 57, 53, 48, 53, 49, 53, 50, 53, 51, 53, 52, 53, 53, 53, 54, 53, 55, 53, 56, 53, 57, 54, 48, 54, 49, 54, 50, 54, 51, 54, 52, 54, 53, 54, 54, 54, 55, 54, 56, 54, 57, 55, 48, 55, 49, 55, 50, 55, 51, 55, 52, 55, 53, 55, 54, 55, 55, 55, 56, 55, 57, 56, 48, 56, 49, 56, 50, 56, 51, 56, 52, 56, 53, 56, 54, 56, 55, 56, 56, 56, 57, 57, 48, 57, 49, 57, 50, 57, 51, 57, 52, 57, 53, 57, 54, 57, 55, 57, 56, 57, 57]⟩)) (.l 9), none, []⟩, ⟨.indexAddrS 1 (.l 0) (.l 2), none, []⟩, ⟨.store 1 (.l 11) (.l 8), none, []⟩, ⟨.indexAddrS 1 (.l 3) (.l 5), none, []⟩, ⟨.store 1 (.l 13) (.l 10), none, []⟩] [])
 (.region [⟨.mv (.t 2), none⟩, ⟨.bin 0 .sub (.l 0) (.c (.int .i64 (8))), none⟩, ⟨.mv (.l 1), none⟩] [(2, 2)]))))))))))))
def c_internal_strconv_formatBase10 : ACode :=
 (.seq (.region [⟨.mv (.t 0), none⟩, ⟨.len (.l 0), none⟩, ⟨.mv (.l 1), none⟩] [(2, 2)])
 (.seq (.block 0 (.loop w_internal_strconv_formatBase10_1))
 (.seq (.region [⟨.mv (.t 1), none⟩, ⟨.conv .u32 (.l 0), none⟩, ⟨.mv (.l 1), none⟩] [(10, 2)])
 (.seq (.seq (.region [⟨.mv (.t 2), none⟩, ⟨.bin 0 .geq (.l 0) (.c (.int .i64 (4))), none⟩] [(16, 1)])
 (.cond (.t 16) (.seq (.region [⟨.mv (.t 10), none⟩, ⟨.bin 0 .rem (.l 0) (.c (.int .u32 (10000))), none⟩, ⟨.mv (.l 1), none⟩] [(11, 2)])
 (.seq (.region [⟨.mv (.t 10), none⟩, ⟨.bin 0 .quo (.l 0) (.c (.int .u32 (10000))), none⟩, ⟨.mv (.l 1), none⟩] [(10, 2)])
 (.seq (.region [⟨.mv (.t 11), none⟩, ⟨.bin 0 .quo (.l 0) (.c (.int .u32 (100))), none⟩, ⟨.bin 0 .mul (.l 1) (.c (.int .u32 (2))), none⟩, ⟨.mv (.t 11), none⟩, ⟨.bin 0 .rem (.l 3) (.c (.int .u32 (100))), none⟩, ⟨.bin 0 .mul (.l 4) (.c (.int .u32 (2))), none⟩, ⟨.mv (.l 2), none⟩, ⟨.mv (.l 5), none⟩] [(12, 6), (13, 7)])
 (.seq (.draw [⟨.mv (.t 0), none, []⟩, ⟨.mv (.t 2), none, []⟩, ⟨.bin 0 .sub (.l 1) (.c (.int .i64 (1))), none, []⟩, ⟨.mv (.t 0), none, []⟩, ⟨.mv (.t 2), none, []⟩, ⟨.bin 0 .sub (.l 4) (.c (.int .i64 (2))), none, []⟩, ⟨.mv (.t 13), none, []⟩, ⟨.bin 0 .add (.l 6) (.c (.int .u32 (1))), none, []⟩, ⟨.indexS (.c (.str ⟨#[48, 48, 48, 49, 48, 50, 48, 51, 48, 52, 48, 53, 48, 54, 48, 55, 48, 56, 48, 57, 49, 48, 49, 49, 49, 50, 49, 51, 49, 52, 49, 53, 49, 54, 49, 55, 49, 56, 49, 57, 50, 48, 50, 49, 50, 50, 50, 51, 50, 52, 50, 53, 50, 54, 50, 55, 50, 56, 50, 57, 51, 48, 51, 49, 51, 50, 51, 51, 51, 52, 51, 53, 51, 54, 51, 55, 51, 56, 51, 57, 52, 48, 52, 49, 52, 50, 52, 51, 52, 52, 52, 53, 52, 54, 52, 55, 52, 56, 52, 57, 53, 48, 53, 49, 53, 50, 53, 51, 53, 52, 53, 53, 53, 54, 53, 55, 53, 56, 53, 57, 54, 48, 54, 49, 54, 50, 54, 51, 54, 52, 54, 53, 54, 54, 54, 55, 54, 56, 54, 57, 55, 48, 55, 49, 55, 50, 55, 51, 55, 52, 55, 53, 55, 54, 55, 55, 55, 56, 55, 57, 56, 48, 56, 49, 56, 50, 56, 51, 56, 52, 56, 53, 56, 54, 56, 55, 56, 56, 56, 57, 57, 48, 57, 49, 57, 50, 57, 51, 57, 52, 57, 53, 57, 54, 57, 55, 57, 56, 57, 57]⟩)) (.l 7), none, []⟩, ⟨.mv (.t 13), none, []⟩, ⟨.indexS (.c (.str ⟨#[48, 48, 48, 49, 48, 50, 48, 51, 48, 52, 48, 53, 48, 54, 48, 55, 48, 56, 48, 57, 49, 48, 49, 49, 49, 50, 49, 51, 49, 52, 49, 53, 49, 54, 49, 55, 49, 56, 49, 57, 50, 48, 50, 49, 50, 50, 50, 51, 50, 52, 50, 53, 50, 54, 50, 55, 50, 56, 50, 57, 51, 48, 51, 49, 51, 50, 51, 51, 51, 52, 51, 53, 51, 54, 51, 55, 51, 56, 51, 57, 52, 48, 52, 49, 52, 50, 52, 51, 52, 52, 52, 53, 52, 54, 52, 55, 52, 56, 52, 57, 53, 48, 53, 49, 53, 50, 53, 51, 53, 52, 53, 53, 53, 54, 53, 55, 53, 56, 53, 57, 54, 48, 54, 49, 54, 50, 54, 51, 54, 52, 54, 53, 54, 54, 54, 55, 54, 56, 54, 57, 55, 48, 55, 49, 55, 50, 55, 51, 55, 52, 55, 53, 55, 54, 55, 55, 55, 56, 55, 57, 56, 48, 56, 49, 56, 50, 56, 51, 56, 52, 56, 53, 56, 54, 56, 55, 56, 56, 56, 57, 57, 48, 57, 49, 57, 50, 57, 51, 57, 52, 57, 53, 57, 54, 57, 55, 57, 56, 57, 57]⟩)) (.l 9), none, []⟩, ⟨.indexAddrS 1 (.l 0) (.l 2), none, []⟩, ⟨.store 1 (.l 11) (.l 8), none, []⟩, ⟨.indexAddrS 1 (.l 3) (.l 5), none, []⟩, ⟨.store 1 (.l 13) (.l 10), none, []⟩] [])
 (.seq (.draw [⟨.mv (.t 0), none, []⟩, ⟨.mv (.t 2), none, []⟩, ⟨.bin 0 .sub (.l 1) (.c (.int .i64 (3))), none, []⟩, ⟨.mv (.t 0), none, []⟩, ⟨.mv (.t 2), none, []⟩, ⟨.bin 0 .sub (.l 4) (.c (.int .i64 (4))), none, []⟩, ⟨.mv (.t 12), none, []⟩, ⟨.bin 0 .add (.l 6) (.c (.int .u32 (1))), none, []⟩, ⟨.indexS (.c (.str ⟨#[48, 48, 48, 49, 48, 50, 48, 51, 48, 52, 48, 53, 48, 54, 48, 55, 48, 56, 48, 57, 49, 48, 49, 49, 49, 50, 49, 51, 49, 52, 49, 53, 49, 54, 49, 55, 49, 56, 49, 57, 50, 48, 50, 49, 50, 50, 50, 51, 50, 52, 50, 53, 50, 54, 50, 55, 50, 56, 50, 57, 51, 48, 51, 49, 51, 50, 51, 51, 51, 52, 51, 53, 51, 54, 51, 55, 51, 56, 51, 57, 52, 48, 52, 49, 52, 50, 52, 51, 52, 52, 52, 53, 52, 54, 52, 55, 52, 56, 52, 57, 53, 48, 53, 49, 53, 50, 53, 51, 53, 52, 53, 53, 53, 54, 53, 55, 53, 56, 53, 57, 54, 48, 54, 49, 54, 50, 54, 51, 54, 52, 54, 53, 54, 54, 54, 55, 54, 56, 54, 57, 55, 48, 55, 49, 55, 50, 55, 51, 55, 52, 55, 53, 55, 54, 55, 55, 55, 56, 55, 57, 56, 48, 56, 49, 56, 50, 56, 51, 56, 52, 56, 53, 56, 54, 56, 55, 56, 56, 56, 57, 57, 48, 57, 49, 57, 50, 57, 51, 57, 52, 57, 53, 57, 54, 57, 55, 57, 56, 57, 57]⟩)) (.l 7), none, []⟩, ⟨.mv (.t 12), none, []⟩, ⟨.indexS (.c (.str ⟨#[48, 48, 48, 49, 48, 50, 48, 51, 48, 52, 48, 53, 48, 54, 48, 55, 48, 56, 48, 57, 49, 48, 49, 49, 49, 50, 49, 51, 49, 52, 49, 53, 49, 54, 49, 55, 49, 56, 49, 57, 50, 48, 50, 49, 50, 50, 50, 51, 50, 52, 50, 53, 50, 54, 50, 55, 50, 56, 50, 57, 51, 48, 51, 49, 51, 50, 51, 51, 51, 52, 51, 53, 51, 54, 51, 55, 51, 56, 51, 57, 52, 48, 52, 49, 52, 50, 52, 51, 52, 52, 52, 53, 52, 54, 52, 55, 52, 56, 52, 57, 53, 48, 53, 49, 53, 50, 53, 51, 53, 52, 53, 53, 53, 54, 53, 55, 53, 56, 53, 57, 54, 48, 54, 49, 54, 50, 54, 51, 54, 52, 54, 53, 54, 54, 54, 55, 54, 56, 54, 57, 55, 48, 55, 49, 55, 50, 55, 51, 55, 52, 55, 53, 55, 54, 55, 55, 55, 56, 55, 57, 56, 48, 56, 49, 56, 50, 56, 51, 56, 52, 56, 53, 56, 54, 56, 55, 56, 56, 56, 57, 57, 48, 57, 49, 57, 50, 57, 51, 57, 52, 57, 53, 57, 54, 57, 55, 57, 56, 57, 57]⟩)) (.l 9), none, []⟩, ⟨.indexAddrS 1 (.l 0) (.l 2), none, []⟩, ⟨.store 1 (.l 11) (.l 8), none, []⟩, ⟨.indexAddrS 1 (.l 3) (.l 5), none, []⟩, ⟨.store 1 (.l 13) (.l 10), none, []⟩] [])
 (.region [⟨.mv (.t 2), none⟩, ⟨.bin 0 .sub (.l 0) (.c (.int .i64 (4))), none⟩, ⟨.mv (.l 1), none⟩] [(2, 2)])))))) .skip))
 (.seq (.seq (.region [⟨.mv (.t 2), none⟩, ⟨.bin 0 .geq (.l 0) (.c (.int .i64 (2))), none⟩] [(17, 1)])
 (.cond (.t 17) (.seq (.region [⟨.mv (.t 10), none⟩, ⟨.bin 0 .rem (.l 0) (.c (.int .u32 (100))), none⟩, ⟨.bin 0 .mul (.l 1) (.c (.int .u32 (2))), none⟩, ⟨.mv (.l 2), none⟩] [(14, 3)])
 (.seq (.region [⟨.mv (.t 10), none⟩, ⟨.bin 0 .quo (.l 0) (.c (.int .u32 (100))), none⟩, ⟨.mv (.l 1), none⟩] [(10, 2)])
 (.seq (.draw [⟨.mv (.t 0), none, []⟩, ⟨.mv (.t 2), none, []⟩, ⟨.bin 0 .sub (.l 1) (.c (.int .i64 (1))), none, []⟩, ⟨.mv (.t 0), none, []⟩, ⟨.mv (.t 2), none, []⟩, ⟨.bin 0 .sub (.l 4) (.c (.int .i64 (2))), none, []⟩, ⟨.mv (.t 14), none, []⟩, ⟨.bin 0 .add (.l 6) (.c (.int .u32 (1))), none, []⟩, ⟨.indexS (.c (.str ⟨#[48, 48, 48, 49, 48, 50, 48, 51, 48, 52, 48, 53, 48, 54, 48, 55, 48, 56, 48, 57, 49, 48, 49, 49, 49, 50, 49, 51, 49, 52, 49, 53, 49, 54, 49, 55, 49, 56, 49, 57, 50, 48, 50, 49, 50, 50, 50, 51, 50, 52, 50, 53, 50, 54, 50, 55, 50, 56, 50, 57, 51, 48, 51, 49, 51, 50, 51, 51, 51, 52, 51, 53, 51, 54, 51, 55, 51, 56, 51, 57, 52, 48, 52, 49, 52, 50, 52, 51, 52, 52, 52, 53, 52, 54, 52, 55, 52, 56, 52, 57, 53, 48, 53, 49, 53, 50, 53, 51, 53, 52, 53, 53, 53, 54, 53, 55, 53, 56, 53, 57, 54, 48, 54, 49, 54, 50, 54, 51, 54, 52, 54, 53, 54, 54, 54, 55, 54, 56, 54, 57, 55, 48, 55, 49, 55, 50, 55, 51, 55, 52, 55, 53, 55, 54, 55, 55, 55, 56, 55, 57, 56, 48, 56, 49, 56, 50, 56, 51, 56, 52, 56, 53, 56, 54, 56, 55, 56, 56, 56, 57, 57, 48, 57, 49, 57, 50, 57, 51, 57, 52, 57, 53, 57, 54, 57, 55, 57, 56, 57, 57]⟩)) (.l 7), none, []⟩, ⟨.mv (.t 14), none, []⟩, ⟨.indexS (.c (.str ⟨#[48, 48, 48, 49, 48, 50, 48, 51, 48, 52, 48, 53, 48, 54, 48, 55, 48, 56, 48, 57, 49, 48, 49, 49, 49, 50, 49, 51, 49, 52, 49, 53, 49, 54, 49, 55, 49, 56, 49, 57, 50, 48, 50, 49, 50, 50, 50, 51, 50, 52, 50, 53, 50, 54, 50, 55, 50, 56, 50, 57, 51, 48, 51, 49, 51, 50, 51, 51, 51, 52, 51, 53, 51, 54, 51, 55, 51, 56, 51, 57, 52, 48, 52, 49, 52, 50, 52, 51, 52, 52, 52, 53, 52, 54, 52, 55, 52, 56, 52, 57, 53, 48, 53, 49, 53, 50, 53, 51, 53, 52, 53, 53, 53, 54, 53, 55, 53, 56, 53, 57, 54, 48, 54, 49, 54, 50, 54, 51, 54, 52, 54, 53, 54, 54, 54, 55, 54, 56, 54, 57, 55, 48, 55, 49, 55, 50, 55, 51, 55, 52, 55, 53, 55, 54, 55, 55, 55, 56, 55, 57, 56, 48, 56, 49, 56, 50, 56, 51, 56, 52, 56, 53, 56, 54, 56, 55, 56, 56, 56, 57, 57, 48, 57, 49, 57, 50, 57, 51, 57, 52, 57, 53, 57, 54, 57, 55, 57, 56, 57, 57]⟩)) (.l 9), none, []⟩, ⟨.indexAddrS 1 (.l 0) (.l 2), none, []⟩, ⟨.store 1 (.l 11) (.l 8), none, []⟩, ⟨.indexAddrS 1 (.l 3) (.l 5), none, []⟩, ⟨.store 1 (.l 13) (.l 10), none, []⟩] [])
 (.region [⟨.mv (.t 2), none⟩, ⟨.bin 0 .sub (.l 0) (.c (.int .i64 (2))), none⟩, ⟨.mv (.l 1), none⟩] [(2, 2)])))) .skip))
 (.seq (.region [⟨.mv (.t 2), none⟩, ⟨.bin 0 .gtr (.l 0) (.c (.int .i64 (0))), none⟩] [(18, 1)])
 (.cond (.t 18) (.region [⟨.mv (.t 0), none⟩, ⟨.mv (.t 10), none⟩, ⟨.bin 0 .add (.c (.int .u32 (48))) (.l 1), none⟩, ⟨.conv .u8 (.l 2), none⟩, ⟨.indexAddrS 1 (.l 0) (.c (.int .i64 (0))), none⟩, ⟨.store 1 (.l 4) (.l 3), none⟩] []) .skip)))))))
def a_internal_strconv_formatBase10 : AFun := ⟨[0, 1, 4, 5, 6, 7, 8, 9, 10, 11, 12, 13, 14, 15, 16, 20, 99, 139, 161], 167, c_internal_strconv_formatBase10, [], 1⟩
-- internal_strconv_formatBits: not taken
def c_internal_stringslite_IndexByte : ACode :=
 (.seq (.region [⟨.mv (.c (.int .i64 (0))), none⟩] [(2, 0)])
 (.seq (.region [⟨.mv (.t 0), none⟩, ⟨.mv (.t 1), none⟩, ⟨.call (.c (.fn f_internal_bytealg_IndexByteString [] [])) [(.l 0), (.l 1)], none⟩, ⟨.mv (.l 2), none⟩] [(2, 3)])
 .ret))
def a_internal_stringslite_IndexByte : AFun := ⟨[0, 1, 4], 8, c_internal_stringslite_IndexByte, [.tmp 2], 1⟩
def c_internal_bytealg_Cutover : ACode :=
 (.seq (.region [⟨.mv (.c (.int .i64 (0))), none⟩] [(1, 0)])
 (.seq (.region [⟨.mv (.t 0), none⟩, ⟨.bin 0 .add (.l 0) (.c (.int .i64 (16))), none⟩, ⟨.bin 0 .quo (.l 1) (.c (.int .i64 (8))), none⟩, ⟨.mv (.l 2), none⟩] [(1, 3)])
 .ret))
def a_internal_bytealg_Cutover : AFun := ⟨[0, 2], 6, c_internal_bytealg_Cutover, [.tmp 1], 1⟩
def w_internal_bytealg_IndexRabinKarp_string_1 : ACode :=
 (.seq (.seq (.region [⟨.mv (.t 7), none⟩, ⟨.mv (.t 5), none⟩, ⟨.bin 0 .lss (.l 0) (.l 1), none⟩] [(9, 2)])
 (.cond (.t 9) .skip (.exit 0)))
 (.seq (.block 1 (.region [⟨.mv (.t 6), none⟩, ⟨.bin 0 .mul (.l 0) (.c (.int .u32 (16777619))), none⟩, ⟨.mv (.t 0), none⟩, ⟨.mv (.t 7), none⟩, ⟨.indexS (.l 2) (.l 3), none⟩, ⟨.conv .u32 (.l 4), none⟩, ⟨.bin 0 .add (.l 1) (.l 5), none⟩, ⟨.mv (.l 6), none⟩] [(6, 7)]))
 (.region [⟨.mv (.t 7), none⟩, ⟨.bin 0 .add (.l 0) (.c (.int .i64 (1))), none⟩, ⟨.mv (.l 1), none⟩] [(7, 2)])))
def w_internal_bytealg_IndexRabinKarp_string_2 : ACode :=
 (.seq (.seq (.region [⟨.mv (.t 8), none⟩, ⟨.mv (.t 0), none⟩, ⟨.lenStr (.l 1), none⟩, ⟨.bin 0 .lss (.l 0) (.l 2), none⟩] [(11, 3)])
 (.cond (.t 11) .skip (.exit 2)))
 (.block 3 (.seq (.region [⟨.mv (.t 6), none⟩, ⟨.bin 0 .mul (.l 0) (.c (.int .u32 (16777619))), none⟩, ⟨.mv (.l 1), none⟩] [(6, 2)])
 (.seq (.region [⟨.mv (.t 6), none⟩, ⟨.mv (.t 0), none⟩, ⟨.mv (.t 8), none⟩, ⟨.indexS (.l 1) (.l 2), none⟩, ⟨.conv .u32 (.l 3), none⟩, ⟨.bin 0 .add (.l 0) (.l 4), none⟩, ⟨.mv (.l 5), none⟩] [(6, 6)])
 (.seq (.region [⟨.mv (.t 6), none⟩, ⟨.mv (.t 4), none⟩, ⟨.mv (.t 0), none⟩, ⟨.mv (.t 8), none⟩, ⟨.mv (.t 5), none⟩, ⟨.bin 0 .sub (.l 3) (.l 4), none⟩, ⟨.indexS (.l 2) (.l 5), none⟩, ⟨.conv .u32 (.l 6), none⟩, ⟨.bin 0 .mul (.l 1) (.l 7), none⟩, ⟨.bin 0 .sub (.l 0) (.l 8), none⟩, ⟨.mv (.l 9), none⟩] [(6, 10)])
 (.seq (.region [⟨.mv (.t 8), none⟩, ⟨.bin 0 .add (.l 0) (.c (.int .i64 (1))), none⟩, ⟨.mv (.l 1), none⟩] [(8, 2)])
 (.seq (.region [⟨.mv (.t 6), none⟩, ⟨.mv (.t 3), none⟩, ⟨.bin 0 .eql (.l 0) (.l 1), none⟩, ⟨.mv (.l 2), none⟩, ⟨.mv (.t 0), some ((.l 3), true)⟩, ⟨.mv (.t 8), some ((.l 3), true)⟩, ⟨.mv (.t 5), some ((.l 3), true)⟩, ⟨.bin 0 .sub (.l 5) (.l 6), some ((.l 3), true)⟩, ⟨.mv (.t 8), some ((.l 3), true)⟩, ⟨.sliceStr (.l 4) (some (.l 7)) (some (.l 8)), some ((.l 3), true)⟩, ⟨.mv (.t 1), some ((.l 3), true)⟩, ⟨.bin 1 .eql (.l 9) (.l 10), some ((.l 3), true)⟩, ⟨.pick (.l 3) (.l 11) (.c (.bool false)), none⟩] [(12, 12)])
 (.cond (.t 12) (.seq (.region [⟨.mv (.t 8), none⟩, ⟨.mv (.t 5), none⟩, ⟨.bin 0 .sub (.l 0) (.l 1), none⟩, ⟨.mv (.l 2), none⟩] [(2, 3)])
 .ret) .skip))))))))
def c_internal_bytealg_IndexRabinKarp_string : ACode :=
 (.seq (.region [⟨.mv (.c (.int .i64 (0))), none⟩] [(2, 0)])
 (.seq (.region [⟨.mv (.t 1), none⟩, ⟨.call (.c (.fn f_internal_bytealg_hashStr_string [] [])) [(.l 0)], none⟩, ⟨.mv (.l 1), none⟩, ⟨.extract 0 (.l 2), none⟩, ⟨.extract 1 (.l 2), none⟩, ⟨.mv (.l 3), none⟩, ⟨.mv (.l 4), none⟩] [(3, 5), (4, 6)])
 (.seq (.region [⟨.mv (.t 1), none⟩, ⟨.lenStr (.l 0), none⟩, ⟨.mv (.l 1), none⟩] [(5, 2)])
 (.seq (.region [⟨.mv (.c (.int .u32 (0))), none⟩] [(6, 0)])
 (.seq (.seq (.region [⟨.mv (.c (.int .i64 (0))), none⟩] [(7, 0)])
 (.block 0 (.loop w_internal_bytealg_IndexRabinKarp_string_1)))
 (.seq (.seq (.region [⟨.mv (.t 6), none⟩, ⟨.mv (.t 3), none⟩, ⟨.bin 0 .eql (.l 0) (.l 1), none⟩, ⟨.mv (.l 2), none⟩, ⟨.mv (.t 0), some ((.l 3), true)⟩, ⟨.mv (.t 5), some ((.l 3), true)⟩, ⟨.sliceStr (.l 4) none (some (.l 5)), some ((.l 3), true)⟩, ⟨.mv (.t 1), some ((.l 3), true)⟩, ⟨.bin 1 .eql (.l 6) (.l 7), some ((.l 3), true)⟩, ⟨.pick (.l 3) (.l 8) (.c (.bool false)), none⟩] [(10, 9)])
 (.cond (.t 10) (.seq (.region [⟨.mv (.c (.int .i64 (0))), none⟩] [(2, 0)])
 .ret) .skip))
 (.seq (.seq (.region [⟨.mv (.t 5), none⟩, ⟨.mv (.l 0), none⟩] [(8, 1)])
 (.block 2 (.loop w_internal_bytealg_IndexRabinKarp_string_2)))
 (.seq (.region [⟨.mv (.c (.int .i64 (-1))), none⟩] [(2, 0)])
 .ret))))))))
def a_internal_bytealg_IndexRabinKarp_string : AFun := ⟨[0, 1, 4, 5, 6, 7, 8, 9, 10, 20, 39, 44, 77], 81, c_internal_bytealg_IndexRabinKarp_string, [.tmp 2], 1⟩
def c_internal_strconv_log10Pow2 : ACode :=
 (.seq (.region [⟨.mv (.c (.int .i64 (0))), none⟩] [(1, 0)])
 (.seq (.region [⟨.mv (.t 0), none⟩, ⟨.bin 0 .mul (.l 0) (.c (.int .i64 (78913))), none⟩, ⟨.bin 0 .shr (.l 1) (.c (.int .u64 (18))), none⟩, ⟨.mv (.l 2), none⟩] [(1, 3)])
 .ret))
def a_internal_strconv_log10Pow2 : AFun := ⟨[0, 2], 6, c_internal_strconv_log10Pow2, [.tmp 1], 1⟩
def c_math_bits_Len64 : ACode :=
 (.seq (.region [⟨.mv (.c (.int .i64 (0))), none⟩] [(1, 0)])
 (.seq (.seq (.region [⟨.mv (.t 0), none⟩, ⟨.bin 0 .geq (.l 0) (.c (.int .u64 (4294967296))), none⟩] [(2, 1)])
 (.cond (.t 2) (.seq (.region [⟨.mv (.t 0), none⟩, ⟨.bin 0 .shr (.l 0) (.c (.int .u64 (32))), none⟩, ⟨.mv (.l 1), none⟩] [(0, 2)])
 (.region [⟨.mv (.c (.int .i64 (32))), none⟩] [(1, 0)])) .skip))
 (.seq (.seq (.region [⟨.mv (.t 0), none⟩, ⟨.bin 0 .geq (.l 0) (.c (.int .u64 (65536))), none⟩] [(3, 1)])
 (.cond (.t 3) (.seq (.region [⟨.mv (.t 0), none⟩, ⟨.bin 0 .shr (.l 0) (.c (.int .u64 (16))), none⟩, ⟨.mv (.l 1), none⟩] [(0, 2)])
 (.region [⟨.mv (.t 1), none⟩, ⟨.bin 0 .add (.l 0) (.c (.int .i64 (16))), none⟩, ⟨.mv (.l 1), none⟩] [(1, 2)])) .skip))
 (.seq (.seq (.region [⟨.mv (.t 0), none⟩, ⟨.bin 0 .geq (.l 0) (.c (.int .u64 (256))), none⟩] [(4, 1)])
 (.cond (.t 4) (.seq (.region [⟨.mv (.t 0), none⟩, ⟨.bin 0 .shr (.l 0) (.c (.int .u64 (8))), none⟩, ⟨.mv (.l 1), none⟩] [(0, 2)])
 (.region [⟨.mv (.t 1), none⟩, ⟨.bin 0 .add (.l 0) (.c (.int .i64 (8))), none⟩, ⟨.mv (.l 1), none⟩] [(1, 2)])) .skip))
 (.seq (.region [⟨.mv (.t 1), none⟩, ⟨.mv (.t 0), none⟩, ⟨.conv .u8 (.l 1), none⟩, ⟨.indexS (.c (.str ⟨#[0, 1, 2, 2, 3, 3, 3, 3, 4, 4, 4, 4, 4, 4, 4, 4, 5, 5, 5, 5, 5, 5, 5, 5, 5, 5, 5, 5, 5, 5, 5, 5, 6, 6, 6, 6, 6, 6, 6, 6, 6, 6, 6, 6, 6, 6, 6, 6, 6, 6, 6, 6, 6, 6, 6, 6, 6, 6, 6, 6, 6, 6, 6, 6, 7, 7, 7, 7, 7, 7, 7, 7, 7, 7, 7, 7, 7, 7, 7, 7, 7, 7, 7, 7, 7, 7, 7, 7, 7, 7, 7, 7, 7, 7, 7, 7, 7, 7, 7, 7, 7, 7, 7, 7, 7, 7, 7, 7, 7, 7, 7, 7, 7, 7, 7, 7, 7, 7, 7, 7, 7, 7, 7, 7, 7, 7, 7, 7, 8, 8, 8, 8, 8, 8, 8, 8, 8, 8, 8, 8, 8, 8, 8, 8, 8, 8, 8, 8, 8, 8, 8, 8, 8, 8, 8, 8, 8, 8, 8, 8, 8, 8, 8, 8, 8, 8, 8, 8, 8, 8, 8, 8, 8, 8, 8, 8, 8, 8, 8, 8, 8, 8, 8, 8, 8, 8, 8, 8, 8, 8, 8, 8, 8, 8, 8, 8, 8, 8, 8, 8, 8, 8, 8, 8, 8, 8, 8, 8, 8, 8, 8, 8, 8, 8, 8, 8, 8, 8, 8, 8, 8, 8, 8, 8, 8, 8, 8, 8, 8, 8, 8, 8, 8, 8, 8, 8, 8, 8, 8, 8, 8, 8, 8, 8, 8, 8, 8, 8, 8, 8, 8, 8, 8, 8, 8, 8]⟩)) (.l 2), none⟩, ⟨.conv .i64 (.l 3), none⟩, ⟨.bin 0 .add (.l 0) (.l 4), none⟩, ⟨.mv (.l 5), none⟩] [(1, 6)])
 .ret)))))
def a_math_bits_Len64 : AFun := ⟨[0, 2, 4, 8, 14], 25, c_math_bits_Len64, [.tmp 1], 1⟩
def c_internal_strconv_bool2_int : ACode :=
 (.seq (.region [⟨.mv (.c (.int .i64 (0))), none⟩] [(1, 0)])
 (.seq (.seq (.region [⟨.mv (.t 0), none⟩] [(2, 0)])
 (.cond (.t 2) (.seq (.region [⟨.mv (.c (.int .i64 (1))), none⟩] [(1, 0)])
 .ret) .skip))
 (.seq (.region [⟨.mv (.c (.int .i64 (0))), none⟩] [(1, 0)])
 .ret)))
def a_internal_strconv_bool2_int : AFun := ⟨[0, 2, 3], 4, c_internal_strconv_bool2_int, [.tmp 1], 1⟩
def c_internal_strconv_isPowerOfTwo : ACode :=
 (.seq (.region [⟨.mv (.c (.bool false)), none⟩] [(1, 0)])
 (.seq (.region [⟨.mv (.t 0), none⟩, ⟨.mv (.t 0), none⟩, ⟨.bin 0 .sub (.l 1) (.c (.int .i64 (1))), none⟩, ⟨.bin 0 .and (.l 0) (.l 2), none⟩, ⟨.bin 0 .eql (.l 3) (.c (.int .i64 (0))), none⟩, ⟨.mv (.l 4), none⟩] [(1, 5)])
 .ret))
def a_internal_strconv_isPowerOfTwo : AFun := ⟨[0, 2], 8, c_internal_strconv_isPowerOfTwo, [.tmp 1], 1⟩
def c_math_bits_TrailingZeros : ACode :=
 (.seq (.region [⟨.mv (.c (.int .i64 (0))), none⟩] [(1, 0)])
 (.seq (.cond (.c (.bool false)) (.seq (.region [⟨.mv (.t 0), none⟩, ⟨.conv .u32 (.l 0), none⟩, ⟨.call (.c (.fn f_math_bits_TrailingZeros32 [] [])) [(.l 1)], none⟩, ⟨.mv (.l 2), none⟩] [(1, 3)])
 .ret) .skip)
 (.seq (.region [⟨.mv (.t 0), none⟩, ⟨.call (.c (.fn f_math_bits_TrailingZeros64 [] [])) [(.l 0)], none⟩, ⟨.mv (.l 1), none⟩] [(1, 2)])
 .ret)))
def a_math_bits_TrailingZeros : AFun := ⟨[0, 2], 8, c_math_bits_TrailingZeros, [.tmp 1], 1⟩
def w_internal_bytealg_hashStr_string_1 : ACode :=
 (.seq (.seq (.region [⟨.mv (.t 4), none⟩, ⟨.mv (.t 0), none⟩, ⟨.lenStr (.l 1), none⟩, ⟨.bin 0 .lss (.l 0) (.l 2), none⟩] [(8, 3)])
 (.cond (.t 8) .skip (.exit 0)))
 (.seq (.block 1 (.region [⟨.mv (.t 3), none⟩, ⟨.bin 0 .mul (.l 0) (.c (.int .u32 (16777619))), none⟩, ⟨.mv (.t 0), none⟩, ⟨.mv (.t 4), none⟩, ⟨.indexS (.l 2) (.l 3), none⟩, ⟨.conv .u32 (.l 4), none⟩, ⟨.bin 0 .add (.l 1) (.l 5), none⟩, ⟨.mv (.l 6), none⟩] [(3, 7)]))
 (.region [⟨.mv (.t 4), none⟩, ⟨.bin 0 .add (.l 0) (.c (.int .i64 (1))), none⟩, ⟨.mv (.l 1), none⟩] [(4, 2)])))
def w_internal_bytealg_hashStr_string_2 : ACode :=
 (.seq (.seq (.region [⟨.mv (.t 7), none⟩, ⟨.bin 0 .gtr (.l 0) (.c (.int .i64 (0))), none⟩] [(9, 1)])
 (.cond (.t 9) .skip (.exit 2)))
 (.seq (.block 3 (.seq (.seq (.region [⟨.mv (.t 7), none⟩, ⟨.bin 0 .and (.l 0) (.c (.int .i64 (1))), none⟩, ⟨.bin 0 .neq (.l 1) (.c (.int .i64 (0))), none⟩] [(10, 2)])
 (.cond (.t 10) (.region [⟨.mv (.t 5), none⟩, ⟨.mv (.t 6), none⟩, ⟨.bin 0 .mul (.l 0) (.l 1), none⟩, ⟨.mv (.l 2), none⟩] [(5, 3)]) .skip))
 (.region [⟨.mv (.t 6), none⟩, ⟨.mv (.t 6), none⟩, ⟨.bin 0 .mul (.l 0) (.l 1), none⟩, ⟨.mv (.l 2), none⟩] [(6, 3)])))
 (.region [⟨.mv (.t 7), none⟩, ⟨.bin 0 .shr (.l 0) (.c (.int .u64 (1))), none⟩, ⟨.mv (.l 1), none⟩] [(7, 2)])))
def c_internal_bytealg_hashStr_string : ACode :=
 (.seq (.region [⟨.mv (.c (.int .u32 (0))), none⟩, ⟨.mv (.c (.int .u32 (0))), none⟩] [(1, 0), (2, 1)])
 (.seq (.region [⟨.mv (.c (.int .u32 (0))), none⟩] [(3, 0)])
 (.seq (.seq (.region [⟨.mv (.c (.int .i64 (0))), none⟩] [(4, 0)])
 (.block 0 (.loop w_internal_bytealg_hashStr_string_1)))
 (.seq (.region [⟨.mv (.c (.int .u32 (1))), none⟩, ⟨.mv (.c (.int .u32 (16777619))), none⟩] [(5, 0), (6, 1)])
 (.seq (.seq (.region [⟨.mv (.t 0), none⟩, ⟨.lenStr (.l 0), none⟩, ⟨.mv (.l 1), none⟩] [(7, 2)])
 (.block 2 (.loop w_internal_bytealg_hashStr_string_2)))
 (.seq (.region [⟨.mv (.t 3), none⟩, ⟨.mv (.t 5), none⟩, ⟨.mv (.l 0), none⟩, ⟨.mv (.l 1), none⟩] [(1, 2), (2, 3)])
 .ret))))))
def a_internal_bytealg_hashStr_string : AFun := ⟨[0, 2, 3, 4, 5, 6, 7, 8, 12, 25, 30], 39, c_internal_bytealg_hashStr_string, [.tmp 1, .tmp 2], 1⟩
-- math_bits_TrailingZeros32: not taken
-- math_bits_TrailingZeros64: not taken
-- gosem_cut_vars: not taken
def tab : List (FuncId × AFun) :=
 [(f_gosem_cut_init, a_gosem_cut_init), (f_l_FnExactEncodeRecord, a_l_FnExactEncodeRecord), (f_l_FnExactRecoverLog, a_l_FnExactRecoverLog), (f_l_FnExactIsValidLog, a_l_FnExactIsValidLog), (f_l_FnExactCrashLog, a_l_FnExactCrashLog), (f_l_FnExactSyncLog, a_l_FnExactSyncLog), (f_l_FnExactAppendRecord, a_l_FnExactAppendRecord), (f_l_FnExactLogRecords, a_l_FnExactLogRecords), (f_l_FnLogs, a_l_FnLogs), (f_l_FnCrashes, a_l_FnCrashes), (f_l_szLogRecord, a_l_szLogRecord), (f_s_EncodeRecord, a_s_EncodeRecord), (f_l_toLogRecord, a_l_toLogRecord), (f_i_EncodeRecord, a_i_EncodeRecord), (f_s_RecoverLog, a_s_RecoverLog), (f_i_RecoverLog, a_i_RecoverLog), (f_l_eqLog, a_l_eqLog), (f_l_szLog, a_l_szLog), (f_s_IsValidLog, a_s_IsValidLog), (f_l_toLog, a_l_toLog), (f_i_IsValidLog, a_i_IsValidLog), (f_s_CrashLog, a_s_CrashLog), (f_i_CrashLog, a_i_CrashLog), (f_s_SyncLog, a_s_SyncLog), (f_i_SyncLog, a_i_SyncLog), (f_s_AppendRecord, a_s_AppendRecord), (f_i_AppendRecord, a_i_AppendRecord), (f_s_LogRecords, a_s_LogRecords), (f_i_LogRecords, a_i_LogRecords), (f_l_eqLogRecordS, a_l_eqLogRecordS), (f_l_markLogRecordS, a_l_markLogRecordS), (f_l_heldLogRecordS, a_l_heldLogRecordS), (f_l_vBig, a_l_vBig), (f_s_DrawIsValidRecord, a_s_DrawIsValidRecord), (f_s_DrawEncodeRecord, a_s_DrawEncodeRecord), (f_l_vCut, a_l_vCut), (f_s_DrawIsValidLog, a_s_DrawIsValidLog), (f_s_DrawAppendRecord, a_s_DrawAppendRecord), (f_i_IsValidRecord, a_i_IsValidRecord), (f_s_IsValidRecord, a_s_IsValidRecord), (f_l_vRecords, a_l_vRecords), (f_s_DrawCrashLog, a_s_DrawCrashLog), (f_s_DrawRecoverLog, a_s_DrawRecoverLog), (f_s_l1In, a_s_l1In), (f_s_l12Record, a_s_l12Record), (f_s_l12Line, a_s_l12Line), (f_i_within, a_i_within), (f_i_AppendChecksum, a_i_AppendChecksum), (f_s_l12Open, a_s_l12Open), (f_i_recoverRecords, a_i_recoverRecords), (f_s_l12Valid, a_s_l12Valid), (f_i_logRecords, a_i_logRecords), (f_l_eqLogRecord, a_l_eqLogRecord), (f_l_markText, a_l_markText), (f_s_l1Cur_logRecord, a_s_l1Cur_logRecord), (f_s_l1Cur_among, a_s_l1Cur_among), (f_s_l1Cur_anyLog, a_s_l1Cur_anyLog), (f_s_l1Cur_one, a_s_l1Cur_one), (f_s_l1Cur_pick, a_s_l1Cur_pick), (f_i_isText, a_i_isText), (f_s_l1Cur_log12, a_s_l1Cur_log12), (f_s_l1Cur_spoilt, a_s_l1Cur_spoilt), (f_s_l12Bytes, a_s_l12Bytes), (f_s_l1Stands, a_s_l1Stands), (f_s_l1Seal, a_s_l1Seal), (f_s_l1Num, a_s_l1Num), (f_i_Checksum, a_i_Checksum), (f_internal_strconv_Itoa, a_internal_strconv_Itoa), (f_s_l1Split, a_s_l1Split), (f_s_l12Decode, a_s_l12Decode), (f_strings_Cut, a_strings_Cut), (f_i_decode, a_i_decode), (f_slices_Contains_Sint_int, a_slices_Contains_Sint_int), (f_s_l1Cur_of, a_s_l1Cur_of), (f_s_l1Cur_next, a_s_l1Cur_next), (f_strings_Index, a_strings_Index), (f_s_l1Sum, a_s_l1Sum), (f_internal_strconv_FormatInt, a_internal_strconv_FormatInt), (f_internal_stringslite_Cut, a_internal_stringslite_Cut), (f_i_VerifyChecksum, a_i_VerifyChecksum), (f_slices_Index_Sint_int, a_slices_Index_Sint_int), (f_internal_strconv_small, a_internal_strconv_small), (f_internal_strconv_formatBase10, a_internal_strconv_formatBase10), (f_internal_stringslite_IndexByte, a_internal_stringslite_IndexByte), (f_internal_bytealg_Cutover, a_internal_bytealg_Cutover), (f_internal_bytealg_IndexRabinKarp_string, a_internal_bytealg_IndexRabinKarp_string), (f_internal_strconv_log10Pow2, a_internal_strconv_log10Pow2), (f_math_bits_Len64, a_math_bits_Len64), (f_internal_strconv_bool2_int, a_internal_strconv_bool2_int), (f_internal_strconv_isPowerOfTwo, a_internal_strconv_isPowerOfTwo), (f_math_bits_TrailingZeros, a_math_bits_TrailingZeros), (f_internal_bytealg_hashStr_string, a_internal_bytealg_hashStr_string)]
def T : Table := fun f => tab.lookup f
theorem t_gosem_cut_init : T f_gosem_cut_init = some a_gosem_cut_init := rfl
theorem t_l_FnExactEncodeRecord : T f_l_FnExactEncodeRecord = some a_l_FnExactEncodeRecord := rfl
theorem t_l_FnExactRecoverLog : T f_l_FnExactRecoverLog = some a_l_FnExactRecoverLog := rfl
theorem t_l_FnExactIsValidLog : T f_l_FnExactIsValidLog = some a_l_FnExactIsValidLog := rfl
theorem t_l_FnExactCrashLog : T f_l_FnExactCrashLog = some a_l_FnExactCrashLog := rfl
theorem t_l_FnExactSyncLog : T f_l_FnExactSyncLog = some a_l_FnExactSyncLog := rfl
theorem t_l_FnExactAppendRecord : T f_l_FnExactAppendRecord = some a_l_FnExactAppendRecord := rfl
theorem t_l_FnExactLogRecords : T f_l_FnExactLogRecords = some a_l_FnExactLogRecords := rfl
theorem t_l_FnLogs : T f_l_FnLogs = some a_l_FnLogs := rfl
theorem t_l_FnCrashes : T f_l_FnCrashes = some a_l_FnCrashes := rfl
theorem t_l_szLogRecord : T f_l_szLogRecord = some a_l_szLogRecord := rfl
theorem t_s_EncodeRecord : T f_s_EncodeRecord = some a_s_EncodeRecord := rfl
theorem t_l_toLogRecord : T f_l_toLogRecord = some a_l_toLogRecord := rfl
theorem t_i_EncodeRecord : T f_i_EncodeRecord = some a_i_EncodeRecord := rfl
theorem t_s_RecoverLog : T f_s_RecoverLog = some a_s_RecoverLog := rfl
theorem t_i_RecoverLog : T f_i_RecoverLog = some a_i_RecoverLog := rfl
theorem t_l_eqLog : T f_l_eqLog = some a_l_eqLog := rfl
theorem t_l_szLog : T f_l_szLog = some a_l_szLog := rfl
theorem t_s_IsValidLog : T f_s_IsValidLog = some a_s_IsValidLog := rfl
theorem t_l_toLog : T f_l_toLog = some a_l_toLog := rfl
theorem t_i_IsValidLog : T f_i_IsValidLog = some a_i_IsValidLog := rfl
theorem t_s_CrashLog : T f_s_CrashLog = some a_s_CrashLog := rfl
theorem t_i_CrashLog : T f_i_CrashLog = some a_i_CrashLog := rfl
theorem t_s_SyncLog : T f_s_SyncLog = some a_s_SyncLog := rfl
theorem t_i_SyncLog : T f_i_SyncLog = some a_i_SyncLog := rfl
theorem t_s_AppendRecord : T f_s_AppendRecord = some a_s_AppendRecord := rfl
theorem t_i_AppendRecord : T f_i_AppendRecord = some a_i_AppendRecord := rfl
theorem t_s_LogRecords : T f_s_LogRecords = some a_s_LogRecords := rfl
theorem t_i_LogRecords : T f_i_LogRecords = some a_i_LogRecords := rfl
theorem t_l_eqLogRecordS : T f_l_eqLogRecordS = some a_l_eqLogRecordS := rfl
theorem t_l_markLogRecordS : T f_l_markLogRecordS = some a_l_markLogRecordS := rfl
theorem t_l_heldLogRecordS : T f_l_heldLogRecordS = some a_l_heldLogRecordS := rfl
theorem t_l_vBig : T f_l_vBig = some a_l_vBig := rfl
theorem t_s_DrawIsValidRecord : T f_s_DrawIsValidRecord = some a_s_DrawIsValidRecord := rfl
theorem t_s_DrawEncodeRecord : T f_s_DrawEncodeRecord = some a_s_DrawEncodeRecord := rfl
theorem t_l_vCut : T f_l_vCut = some a_l_vCut := rfl
theorem t_s_DrawIsValidLog : T f_s_DrawIsValidLog = some a_s_DrawIsValidLog := rfl
theorem t_s_DrawAppendRecord : T f_s_DrawAppendRecord = some a_s_DrawAppendRecord := rfl
theorem t_i_IsValidRecord : T f_i_IsValidRecord = some a_i_IsValidRecord := rfl
theorem t_s_IsValidRecord : T f_s_IsValidRecord = some a_s_IsValidRecord := rfl
theorem t_l_vRecords : T f_l_vRecords = some a_l_vRecords := rfl
theorem t_s_DrawCrashLog : T f_s_DrawCrashLog = some a_s_DrawCrashLog := rfl
theorem t_s_DrawRecoverLog : T f_s_DrawRecoverLog = some a_s_DrawRecoverLog := rfl
theorem t_s_l1In : T f_s_l1In = some a_s_l1In := rfl
theorem t_s_l12Record : T f_s_l12Record = some a_s_l12Record := rfl
theorem t_s_l12Line : T f_s_l12Line = some a_s_l12Line := rfl
theorem t_i_within : T f_i_within = some a_i_within := rfl
theorem t_i_AppendChecksum : T f_i_AppendChecksum = some a_i_AppendChecksum := rfl
theorem t_s_l12Open : T f_s_l12Open = some a_s_l12Open := rfl
theorem t_i_recoverRecords : T f_i_recoverRecords = some a_i_recoverRecords := rfl
theorem t_s_l12Valid : T f_s_l12Valid = some a_s_l12Valid := rfl
theorem t_i_logRecords : T f_i_logRecords = some a_i_logRecords := rfl
theorem t_l_eqLogRecord : T f_l_eqLogRecord = some a_l_eqLogRecord := rfl
theorem t_l_markText : T f_l_markText = some a_l_markText := rfl
theorem t_s_l1Cur_logRecord : T f_s_l1Cur_logRecord = some a_s_l1Cur_logRecord := rfl
theorem t_s_l1Cur_among : T f_s_l1Cur_among = some a_s_l1Cur_among := rfl
theorem t_s_l1Cur_anyLog : T f_s_l1Cur_anyLog = some a_s_l1Cur_anyLog := rfl
theorem t_s_l1Cur_one : T f_s_l1Cur_one = some a_s_l1Cur_one := rfl
theorem t_s_l1Cur_pick : T f_s_l1Cur_pick = some a_s_l1Cur_pick := rfl
theorem t_i_isText : T f_i_isText = some a_i_isText := rfl
theorem t_s_l1Cur_log12 : T f_s_l1Cur_log12 = some a_s_l1Cur_log12 := rfl
theorem t_s_l1Cur_spoilt : T f_s_l1Cur_spoilt = some a_s_l1Cur_spoilt := rfl
theorem t_s_l12Bytes : T f_s_l12Bytes = some a_s_l12Bytes := rfl
theorem t_s_l1Stands : T f_s_l1Stands = some a_s_l1Stands := rfl
theorem t_s_l1Seal : T f_s_l1Seal = some a_s_l1Seal := rfl
theorem t_s_l1Num : T f_s_l1Num = some a_s_l1Num := rfl
theorem t_i_Checksum : T f_i_Checksum = some a_i_Checksum := rfl
theorem t_internal_strconv_Itoa : T f_internal_strconv_Itoa = some a_internal_strconv_Itoa := rfl
theorem t_s_l1Split : T f_s_l1Split = some a_s_l1Split := rfl
theorem t_s_l12Decode : T f_s_l12Decode = some a_s_l12Decode := rfl
theorem t_strings_Cut : T f_strings_Cut = some a_strings_Cut := rfl
theorem t_i_decode : T f_i_decode = some a_i_decode := rfl
theorem t_slices_Contains_Sint_int : T f_slices_Contains_Sint_int = some a_slices_Contains_Sint_int := rfl
theorem t_s_l1Cur_of : T f_s_l1Cur_of = some a_s_l1Cur_of := rfl
theorem t_s_l1Cur_next : T f_s_l1Cur_next = some a_s_l1Cur_next := rfl
theorem t_strings_Index : T f_strings_Index = some a_strings_Index := rfl
theorem t_s_l1Sum : T f_s_l1Sum = some a_s_l1Sum := rfl
theorem t_internal_strconv_FormatInt : T f_internal_strconv_FormatInt = some a_internal_strconv_FormatInt := rfl
theorem t_internal_stringslite_Cut : T f_internal_stringslite_Cut = some a_internal_stringslite_Cut := rfl
theorem t_i_VerifyChecksum : T f_i_VerifyChecksum = some a_i_VerifyChecksum := rfl
theorem t_slices_Index_Sint_int : T f_slices_Index_Sint_int = some a_slices_Index_Sint_int := rfl
theorem t_internal_strconv_small : T f_internal_strconv_small = some a_internal_strconv_small := rfl
theorem t_internal_strconv_formatBase10 : T f_internal_strconv_formatBase10 = some a_internal_strconv_formatBase10 := rfl
theorem t_internal_stringslite_IndexByte : T f_internal_stringslite_IndexByte = some a_internal_stringslite_IndexByte := rfl
theorem t_internal_bytealg_Cutover : T f_internal_bytealg_Cutover = some a_internal_bytealg_Cutover := rfl
theorem t_internal_bytealg_IndexRabinKarp_string : T f_internal_bytealg_IndexRabinKarp_string = some a_internal_bytealg_IndexRabinKarp_string := rfl
theorem t_internal_strconv_log10Pow2 : T f_internal_strconv_log10Pow2 = some a_internal_strconv_log10Pow2 := rfl
theorem t_math_bits_Len64 : T f_math_bits_Len64 = some a_math_bits_Len64 := rfl
theorem t_internal_strconv_bool2_int : T f_internal_strconv_bool2_int = some a_internal_strconv_bool2_int := rfl
theorem t_internal_strconv_isPowerOfTwo : T f_internal_strconv_isPowerOfTwo = some a_internal_strconv_isPowerOfTwo := rfl
theorem t_math_bits_TrailingZeros : T f_math_bits_TrailingZeros = some a_math_bits_TrailingZeros := rfl
theorem t_internal_bytealg_hashStr_string : T f_internal_bytealg_hashStr_string = some a_internal_bytealg_hashStr_string := rfl
end Go.Proofs.YtdohjcodjjogbaaDoor.Slim
