/-
  DERIVED: THE SHELF's CONTRACTS AT THIS DUMP, IN PLAIN WORDS (tools/lay-plain.mjs out of 'TrydShelf.lean', which tools/lay-shelf.mjs wrote): THE SAME DECLARATIONS UNDER THE SAME NAMES: 'import', 'namespace', 'open', 'def', 'theorem' AND NOTHING ELSE: no command of the shelf's: FOR A HAND-IN. Each laying: the table of numbers ('.._ren') and one theorem, a field a fact of the dump's own or the kernel's comparison; each contract: ONE APPLICATION.
-/
import Derived.Test.YtemcdiajejekoaaDoorSlimZ9
import Derived.Shelf.Strconv.Itoa0
import Derived.Shelf.Strconv.Itoa1
import Derived.Shelf.LaysM
import Derived.Shelf.Strconv.Itoa2
import Derived.Shelf.Strconv.Itoa3
import Derived.Shelf.Strings.Search1
import Derived.Shelf.Strings.Search2
import Derived.Shelf.Strings.Search3
import Derived.Shelf.Strings.Cut
import Derived.Shelf.Strings.Shaped
import Derived.Shelf.Slices.Turned
import Derived.Test.YtemcdiajejekoaaDoorProg
/-
  DERIVED: THE SHELF's CONTRACTS AT THIS DUMP, IN PLAIN WORDS (tools/lay-plain.mjs out of 'TrydShelf.lean', which tools/lay-shelf.mjs wrote): THE SAME DECLARATIONS UNDER THE SAME NAMES: 'import', 'namespace', 'open', 'def', 'theorem' AND NOTHING ELSE: no command of the shelf's: FOR A HAND-IN. Each laying: the table of numbers ('.._ren') and one theorem, a field a fact of the dump's own or the kernel's comparison; each contract: ONE APPLICATION.
-/
namespace Go.Proofs.YtemcdiajejekoaaDoor
open Go.Shelf
def Tryd.lays129_ren : Go.Shelf.Ren := ⟨fun | 129 => 88 | n => n, fun | 53 => 119 | 3 => 3 | 4 => 4 | 46 => 109 | 5 => 5 | 9 => 9 | n => n, fun | n => n⟩
theorem Tryd.lays129 : Go.Proofs.Lays.n129 Tryd.prog Tryd.lays129_ren := {
  mixed := by kernel_rfl
  f129 := Tryd.func88.trans (congrArg some (by kernel_rfl))
  t3 := Tryd.underlying3
  a3 := Tryd.isAgg3
  z3 := Tryd.sizeOf3
  v3 := Tryd.zeroValue3
  t4 := Tryd.underlying4
  a4 := Tryd.isAgg4
  z4 := Tryd.sizeOf4
  v4 := Tryd.zeroValue4
  t5 := Tryd.underlying5
  a5 := Tryd.isAgg5
  z5 := Tryd.sizeOf5
  v5 := Tryd.zeroValue5
  t9 := Tryd.underlying9
  a9 := Tryd.isAgg9
  z9 := Tryd.sizeOf9
  v9 := Tryd.zeroValue9
  t46 := Tryd.underlying109
  a46 := Tryd.isAgg109
  z46 := Tryd.sizeOf109
  v46 := Tryd.zeroValue109
  t53 := Tryd.underlying119
  a53 := Tryd.isAgg119
  z53 := Tryd.sizeOf119
  v53 := Tryd.zeroValue119 }
/-- bits.Len64: "Len64 returns the minimum number of bits required to represent x; the result is 0 for x == 0.": IT RETURNS 'Lib.bitLen x'; the world is as it was. ('h0', 'h1': x is a uint64.) (LAID: no walk: one application.) -/
theorem Tryd.bits_Len64 (x : Int) (w : World) (h0 : 0 ≤ x) (h1 : x ≤ 18446744073709551615) :
    Calls Tryd.prog 88 #[.int .u64 x] w fun e w' => e = .returned (.int .i64 (Lib.bitLen x.toNat)) ∧ w' = w := Any.bits_Len64 Tryd.lays129 x w h0 h1
def Tryd.lays317_ren : Go.Shelf.Ren := ⟨fun | 317 => 87 | n => n, fun | 3 => 3 | 46 => 109 | n => n, fun | n => n⟩
theorem Tryd.lays317 : Go.Proofs.Lays.n317 Tryd.prog Tryd.lays317_ren := {
  mixed := by kernel_rfl
  f317 := Tryd.func87.trans (congrArg some (by kernel_rfl))
  t3 := Tryd.underlying3
  a3 := Tryd.isAgg3
  z3 := Tryd.sizeOf3
  v3 := Tryd.zeroValue3
  t46 := Tryd.underlying109
  a46 := Tryd.isAgg109
  z46 := Tryd.sizeOf109
  v46 := Tryd.zeroValue109 }
open Go.Lib in
/-- internal/strconv.log10Pow2: "log10Pow2(x) returns ⌊log₁₀ 2**x⌋ = ⌊x * log₁₀ 2⌋.": '(x * 78913) >> 18', at an x up to 64 (a length in bits). The world is as it was. (LAID: no walk: one application.) -/
theorem Tryd.internal_strconv_log10Pow2 (x : Nat) (h : x ≤ 64) (w : World) :
    Calls Tryd.prog 87 #[.int .i64 x] w fun e w' => e = .returned (.int .i64 (Lib.l10 x)) ∧ w' = w := Any.internal_strconv_log10Pow2 Tryd.lays317 x h w
def Tryd.lays318_ren : Go.Shelf.Ren := ⟨fun | 318 => 89 | n => n, fun | 3 => 3 | 4 => 4 | n => n, fun | n => n⟩
theorem Tryd.lays318 : Go.Proofs.Lays.n318 Tryd.prog Tryd.lays318_ren := {
  mixed := by kernel_rfl
  f318 := Tryd.func89.trans (congrArg some (by kernel_rfl))
  t3 := Tryd.underlying3
  a3 := Tryd.isAgg3
  z3 := Tryd.sizeOf3
  v3 := Tryd.zeroValue3
  t4 := Tryd.underlying4
  a4 := Tryd.isAgg4
  z4 := Tryd.sizeOf4
  v4 := Tryd.zeroValue4 }
open Go.Lib in
/-- internal/strconv.bool2: "bool2 converts b to an integer: 1 for true, 0 for false." The world is as it was. (LAID: no walk: one application.) -/
theorem Tryd.internal_strconv_bool2_int (b : Bool) (w : World) :
    Calls Tryd.prog 89 #[.bool b] w fun e w' => e = .returned (.int .i64 (if b then 1 else 0)) ∧ w' = w := Any.internal_strconv_bool2_int Tryd.lays318 b w
def Tryd.lays283_ren : Go.Shelf.Ren := ⟨fun | 283 => 83 | n => n, fun | 3 => 3 | 9 => 9 | 4 => 4 | n => n, fun | n => n⟩
theorem Tryd.lays283 : Go.Proofs.Lays.n283 Tryd.prog Tryd.lays283_ren := {
  mixed := by kernel_rfl
  f283 := Tryd.func83.trans (congrArg some (by kernel_rfl))
  t3 := Tryd.underlying3
  a3 := Tryd.isAgg3
  z3 := Tryd.sizeOf3
  v3 := Tryd.zeroValue3
  t4 := Tryd.underlying4
  a4 := Tryd.isAgg4
  z4 := Tryd.sizeOf4
  v4 := Tryd.zeroValue4
  t9 := Tryd.underlying9
  a9 := Tryd.isAgg9
  z9 := Tryd.sizeOf9
  v9 := Tryd.zeroValue9 }
open Go.Lib in
/-- internal/strconv.small: "small returns the string for an i with 0 <= i < nSmalls.": i's decimal numeral. The world is as it was. (LAID: no walk: one application.) -/
theorem Tryd.internal_strconv_small (i : Nat) (h : i < 100) (w : World) :
    Calls Tryd.prog 83 #[.int .i64 i] w fun e w' => e = .returned (.string ⟨(Lib.decDigits i).toArray⟩) ∧ w' = w := Any.internal_strconv_small Tryd.lays283 i h w
def Tryd.laysM284_ren : Go.Shelf.Ren := ⟨fun | 284 => 84 | 129 => 88 | 317 => 87 | 318 => 89 | n => n, fun | 53 => 119 | 3 => 3 | 212 => 126 | 0 => 0 | 4 => 4 | 46 => 109 | 5 => 5 | 9 => 9 | n => n, fun | 17 => 1 | n => n⟩
theorem Tryd.laysM284 : Go.Proofs.LaysM.n284 Tryd.prog Tryd.laysM284_ren := {
  mixed := by kernel_rfl
  f129 := Tryd.func88.trans (congrArg some (by kernel_rfl))
  f284 := Tryd.func84.trans (congrArg some (by kernel_rfl))
  f317 := Tryd.func87.trans (congrArg some (by kernel_rfl))
  f318 := Tryd.func89.trans (congrArg some (by kernel_rfl))
  t0 := Tryd.underlying0
  a0 := Tryd.isAgg0
  z0 := Tryd.sizeOf0
  v0 := Tryd.zeroValue0
  t3 := Tryd.underlying3
  a3 := Tryd.isAgg3
  z3 := Tryd.sizeOf3
  v3 := Tryd.zeroValue3
  t4 := Tryd.underlying4
  a4 := Tryd.isAgg4
  z4 := Tryd.sizeOf4
  v4 := Tryd.zeroValue4
  t5 := Tryd.underlying5
  a5 := Tryd.isAgg5
  z5 := Tryd.sizeOf5
  v5 := Tryd.zeroValue5
  t9 := Tryd.underlying9
  a9 := Tryd.isAgg9
  z9 := Tryd.sizeOf9
  v9 := Tryd.zeroValue9
  t46 := Tryd.underlying109
  a46 := Tryd.isAgg109
  z46 := Tryd.sizeOf109
  v46 := Tryd.zeroValue109
  t53 := Tryd.underlying119
  a53 := Tryd.isAgg119
  z53 := Tryd.sizeOf119
  v53 := Tryd.zeroValue119
  t212 := Tryd.underlying126
  a212 := Tryd.isAgg126
  z212 := Tryd.sizeOf126
  v212 := Tryd.zeroValue126
  g17 := by kernel_rfl
  i0 := by kernel_rfl
  i3 := by kernel_rfl
  i4 := by kernel_rfl
  i5 := by kernel_rfl
  i9 := by kernel_rfl
  i46 := by kernel_rfl
  i53 := by kernel_rfl
  i212 := by kernel_rfl
  m17 := by kernel_rfl }
open Go.Lib in
/-- internal/strconv.numDigits, at a d that is not 0: THE NUMBER OF d's DECIMAL DIGITS. The world is as it was. (LAID: no walk: one application.) -/
theorem Tryd.internal_strconv_numDigits (u : Nat) (h1 : 1 ≤ u) (h2 : u < 18446744073709551616) (w : World) (htab : Lib.TabIs Tryd.prog w "internal/strconv.uint64pow10" .u64 Lib.pow10Tab) :
    Calls Tryd.prog 84 #[.int .u64 u] w fun e w' => e = .returned (.int .i64 (Lib.nDigits u)) ∧ w' = w := Any.internal_strconv_numDigits Tryd.laysM284 u h1 h2 w htab
def Tryd.lays285_ren : Go.Shelf.Ren := ⟨fun | 285 => 85 | n => n, fun | 37 => 122 | 53 => 119 | 3 => 3 | 4 => 4 | 51 => 114 | 9 => 9 | 5 => 5 | 0 => 0 | n => n, fun | n => n⟩
theorem Tryd.lays285 : Go.Proofs.Lays.n285 Tryd.prog Tryd.lays285_ren := {
  mixed := by kernel_rfl
  f285 := Tryd.func85.trans (congrArg some (by kernel_rfl))
  t0 := Tryd.underlying0
  a0 := Tryd.isAgg0
  z0 := Tryd.sizeOf0
  v0 := Tryd.zeroValue0
  t3 := Tryd.underlying3
  a3 := Tryd.isAgg3
  z3 := Tryd.sizeOf3
  v3 := Tryd.zeroValue3
  t4 := Tryd.underlying4
  a4 := Tryd.isAgg4
  z4 := Tryd.sizeOf4
  v4 := Tryd.zeroValue4
  t5 := Tryd.underlying5
  a5 := Tryd.isAgg5
  z5 := Tryd.sizeOf5
  v5 := Tryd.zeroValue5
  t9 := Tryd.underlying9
  a9 := Tryd.isAgg9
  z9 := Tryd.sizeOf9
  v9 := Tryd.zeroValue9
  t37 := Tryd.underlying122
  a37 := Tryd.isAgg122
  z37 := Tryd.sizeOf122
  v37 := Tryd.zeroValue122
  t51 := Tryd.underlying114
  a51 := Tryd.isAgg114
  z51 := Tryd.sizeOf114
  v51 := Tryd.zeroValue114
  t53 := Tryd.underlying119
  a53 := Tryd.isAgg119
  z53 := Tryd.sizeOf119
  v53 := Tryd.zeroValue119 }
open Go.RowKit Go.Sort Go.Lib in
/-- internal/strconv.formatBase10: "formatBase10 formats the decimal representation of u into a. The caller is responsible for ensuring that a is big enough to hold u. If a is too big, leading zeros will be filled in as needed.": THE ROW HOLDS u's DIGITS ('FmtInv .. 0 ..': every place t holds 'dg u (len - 1 - t)'); all else is as it was but for the count of draws. (LAID: no walk: one application.) -/
theorem Tryd.internal_strconv_formatBase10 (blk off cap : Nat) (u : Nat) (d : Array UInt8) (w : World) (hH : Holds (fun (b : UInt8) => Value.int .u8 (b.toNat : Int)) w blk off d) (hu : u < 10 ^ d.size) (hu64 : u < 18446744073709551616) (hsz : d.size < 4611686018427387904) :
    Calls Tryd.prog 85 #[.slice (some ⟨blk, off, none⟩) d.size cap, .int .u64 u] w fun e w' =>
      e = .returned (.tuple #[]) ∧ ∃ (n v' : Nat) (dk : Array UInt8), w' = (putRow (fun (b : UInt8) => Value.int .u8 (b.toNat : Int)) w blk off dk).drewN n ∧ FmtInv d.size u 0 v' dk := Any.internal_strconv_formatBase10 Tryd.lays285 blk off cap u d w hH hu hu64 hsz
def Tryd.laysM246_ren : Go.Shelf.Ren := ⟨fun | 246 => 82 | 283 => 83 | 284 => 84 | 285 => 85 | 286 => 86 | 129 => 88 | 317 => 87 | 318 => 89 | 319 => 90 | 320 => 91 | 337 => 92 | 338 => 93 | n => n, fun | 2 => 2 | 3 => 3 | 9 => 9 | 4 => 4 | 171 => 118 | 0 => 0 | 53 => 119 | 37 => 122 | 5 => 5 | 173 => 123 | 212 => 126 | 51 => 114 | 20 => 20 | 213 => 127 | 46 => 109 | 232 => 130 | 233 => 131 | n => n, fun | 17 => 1 | 18 => 2 | 19 => 3 | n => n⟩
theorem Tryd.laysM246 : Go.Proofs.LaysM.n246 Tryd.prog Tryd.laysM246_ren := {
  mixed := by kernel_rfl
  f129 := Tryd.func88.trans (congrArg some (by kernel_rfl))
  f246 := Tryd.func82.trans (congrArg some (by kernel_rfl))
  f283 := Tryd.func83.trans (congrArg some (by kernel_rfl))
  f284 := Tryd.func84.trans (congrArg some (by kernel_rfl))
  f285 := Tryd.func85.trans (congrArg some (by kernel_rfl))
  f286 := Tryd.func86.trans (congrArg some (by kernel_rfl))
  f317 := Tryd.func87.trans (congrArg some (by kernel_rfl))
  f318 := Tryd.func89.trans (congrArg some (by kernel_rfl))
  f319 := Tryd.func90.trans (congrArg some (by kernel_rfl))
  f320 := Tryd.func91.trans (congrArg some (by kernel_rfl))
  f337 := Tryd.func92.trans (congrArg some (by kernel_rfl))
  f338 := Tryd.func93.trans (congrArg some (by kernel_rfl))
  t0 := Tryd.underlying0
  a0 := Tryd.isAgg0
  z0 := Tryd.sizeOf0
  v0 := Tryd.zeroValue0
  t2 := Tryd.underlying2
  a2 := Tryd.isAgg2
  z2 := Tryd.sizeOf2
  v2 := Tryd.zeroValue2
  t3 := Tryd.underlying3
  a3 := Tryd.isAgg3
  z3 := Tryd.sizeOf3
  v3 := Tryd.zeroValue3
  t4 := Tryd.underlying4
  a4 := Tryd.isAgg4
  z4 := Tryd.sizeOf4
  v4 := Tryd.zeroValue4
  t5 := Tryd.underlying5
  a5 := Tryd.isAgg5
  z5 := Tryd.sizeOf5
  v5 := Tryd.zeroValue5
  t9 := Tryd.underlying9
  a9 := Tryd.isAgg9
  z9 := Tryd.sizeOf9
  v9 := Tryd.zeroValue9
  t20 := Tryd.underlying20
  a20 := Tryd.isAgg20
  z20 := Tryd.sizeOf20
  v20 := Tryd.zeroValue20
  t37 := Tryd.underlying122
  a37 := Tryd.isAgg122
  z37 := Tryd.sizeOf122
  v37 := Tryd.zeroValue122
  t46 := Tryd.underlying109
  a46 := Tryd.isAgg109
  z46 := Tryd.sizeOf109
  v46 := Tryd.zeroValue109
  t51 := Tryd.underlying114
  a51 := Tryd.isAgg114
  z51 := Tryd.sizeOf114
  v51 := Tryd.zeroValue114
  t53 := Tryd.underlying119
  a53 := Tryd.isAgg119
  z53 := Tryd.sizeOf119
  v53 := Tryd.zeroValue119
  t171 := Tryd.underlying118
  a171 := Tryd.isAgg118
  z171 := Tryd.sizeOf118
  v171 := Tryd.zeroValue118
  t173 := Tryd.underlying123
  a173 := Tryd.isAgg123
  z173 := Tryd.sizeOf123
  v173 := Tryd.zeroValue123
  t212 := Tryd.underlying126
  a212 := Tryd.isAgg126
  z212 := Tryd.sizeOf126
  v212 := Tryd.zeroValue126
  t213 := Tryd.underlying127
  a213 := Tryd.isAgg127
  z213 := Tryd.sizeOf127
  t232 := Tryd.underlying130
  a232 := Tryd.isAgg130
  z232 := Tryd.sizeOf130
  v232 := Tryd.zeroValue130
  t233 := Tryd.underlying131
  a233 := Tryd.isAgg131
  z233 := Tryd.sizeOf131
  v233 := Tryd.zeroValue131
  g17 := by kernel_rfl
  g18 := by kernel_rfl
  g19 := by kernel_rfl
  i0 := by kernel_rfl
  i2 := by kernel_rfl
  i3 := by kernel_rfl
  i4 := by kernel_rfl
  i5 := by kernel_rfl
  i9 := by kernel_rfl
  i20 := by kernel_rfl
  i37 := by kernel_rfl
  i46 := by kernel_rfl
  i51 := by kernel_rfl
  i53 := by kernel_rfl
  i171 := by kernel_rfl
  i173 := by kernel_rfl
  i212 := by kernel_rfl
  i232 := by kernel_rfl
  i233 := by kernel_rfl
  m17 := by kernel_rfl
  m18 := by kernel_rfl
  m19 := by kernel_rfl }
open Go.RowKit Go.Sort Go.Lib in
/-- internal/strconv.FormatInt: "FormatInt returns the string representation of i in the given base": AT BASE 10: i's decimal numeral, for every int64. The world behind the call: the world before it, new blocks behind the heap, draws. (LAID: no walk: one application.) -/
theorem Tryd.internal_strconv_FormatInt_10 (n : Int) (h0 : -9223372036854775808 ≤ n) (h1 : n ≤ 9223372036854775807) (w : World) (htab : Lib.TabIs Tryd.prog w "internal/strconv.uint64pow10" .u64 Lib.pow10Tab) :
    Calls Tryd.prog 82 #[.int .i64 n, .int .i64 10] w fun e w' => e = .returned (.string ⟨(Lib.itoa n).toArray⟩) ∧ ∃ k os, w' = grow (w.drewN k) os := Any.internal_strconv_FormatInt_10 Tryd.laysM246 n h0 h1 w htab
def Tryd.lays246_ren : Go.Shelf.Ren := ⟨fun | 246 => 82 | 283 => 83 | 284 => 84 | 285 => 85 | 286 => 86 | 129 => 88 | 317 => 87 | 318 => 89 | 319 => 90 | 320 => 91 | 337 => 92 | 338 => 93 | n => n, fun | 2 => 2 | 3 => 3 | 9 => 9 | 4 => 4 | 171 => 118 | 0 => 0 | 53 => 119 | 37 => 122 | 5 => 5 | 173 => 123 | 212 => 126 | 51 => 114 | 20 => 20 | 213 => 127 | 46 => 109 | 232 => 130 | 233 => 131 | n => n, fun | 17 => 1 | 18 => 2 | 19 => 3 | n => n⟩
theorem Tryd.lays246 : Go.Proofs.Lays.n246 Tryd.prog Tryd.lays246_ren := {
  mixed := by kernel_rfl
  f129 := Tryd.func88.trans (congrArg some (by kernel_rfl))
  f246 := Tryd.func82.trans (congrArg some (by kernel_rfl))
  f283 := Tryd.func83.trans (congrArg some (by kernel_rfl))
  f284 := Tryd.func84.trans (congrArg some (by kernel_rfl))
  f285 := Tryd.func85.trans (congrArg some (by kernel_rfl))
  f286 := Tryd.func86.trans (congrArg some (by kernel_rfl))
  f317 := Tryd.func87.trans (congrArg some (by kernel_rfl))
  f318 := Tryd.func89.trans (congrArg some (by kernel_rfl))
  f319 := Tryd.func90.trans (congrArg some (by kernel_rfl))
  f320 := Tryd.func91.trans (congrArg some (by kernel_rfl))
  f337 := Tryd.func92.trans (congrArg some (by kernel_rfl))
  f338 := Tryd.func93.trans (congrArg some (by kernel_rfl))
  t0 := Tryd.underlying0
  a0 := Tryd.isAgg0
  z0 := Tryd.sizeOf0
  v0 := Tryd.zeroValue0
  t2 := Tryd.underlying2
  a2 := Tryd.isAgg2
  z2 := Tryd.sizeOf2
  v2 := Tryd.zeroValue2
  t3 := Tryd.underlying3
  a3 := Tryd.isAgg3
  z3 := Tryd.sizeOf3
  v3 := Tryd.zeroValue3
  t4 := Tryd.underlying4
  a4 := Tryd.isAgg4
  z4 := Tryd.sizeOf4
  v4 := Tryd.zeroValue4
  t5 := Tryd.underlying5
  a5 := Tryd.isAgg5
  z5 := Tryd.sizeOf5
  v5 := Tryd.zeroValue5
  t9 := Tryd.underlying9
  a9 := Tryd.isAgg9
  z9 := Tryd.sizeOf9
  v9 := Tryd.zeroValue9
  t20 := Tryd.underlying20
  a20 := Tryd.isAgg20
  z20 := Tryd.sizeOf20
  v20 := Tryd.zeroValue20
  t37 := Tryd.underlying122
  a37 := Tryd.isAgg122
  z37 := Tryd.sizeOf122
  v37 := Tryd.zeroValue122
  t46 := Tryd.underlying109
  a46 := Tryd.isAgg109
  z46 := Tryd.sizeOf109
  v46 := Tryd.zeroValue109
  t51 := Tryd.underlying114
  a51 := Tryd.isAgg114
  z51 := Tryd.sizeOf114
  v51 := Tryd.zeroValue114
  t53 := Tryd.underlying119
  a53 := Tryd.isAgg119
  z53 := Tryd.sizeOf119
  v53 := Tryd.zeroValue119
  t171 := Tryd.underlying118
  a171 := Tryd.isAgg118
  z171 := Tryd.sizeOf118
  v171 := Tryd.zeroValue118
  t173 := Tryd.underlying123
  a173 := Tryd.isAgg123
  z173 := Tryd.sizeOf123
  v173 := Tryd.zeroValue123
  t212 := Tryd.underlying126
  a212 := Tryd.isAgg126
  z212 := Tryd.sizeOf126
  v212 := Tryd.zeroValue126
  t213 := Tryd.underlying127
  a213 := Tryd.isAgg127
  z213 := Tryd.sizeOf127
  t232 := Tryd.underlying130
  a232 := Tryd.isAgg130
  z232 := Tryd.sizeOf130
  v232 := Tryd.zeroValue130
  t233 := Tryd.underlying131
  a233 := Tryd.isAgg131
  z233 := Tryd.sizeOf131
  v233 := Tryd.zeroValue131
  g17 := by kernel_rfl
  g18 := by kernel_rfl
  g19 := by kernel_rfl }
open Go.RowKit Go.Sort Go.Lib in
/-- THE ROAD WITHOUT THE TABLE: 0 <= i < 100: two constants are read, nothing is laid: no premise on the world, and the world is as it was. (LAID: no walk: one application.) -/
theorem Tryd.internal_strconv_FormatInt_10_small (i : Nat) (hi : i < 100) (w : World) :
    Calls Tryd.prog 82 #[.int .i64 i, .int .i64 10] w fun e w' => e = .returned (.string ⟨(Lib.decDigits i).toArray⟩) ∧ w' = w := Any.internal_strconv_FormatInt_10_small Tryd.lays246 i hi w
def Tryd.laysM243_ren : Go.Shelf.Ren := ⟨fun | 243 => 78 | 246 => 82 | 283 => 83 | 284 => 84 | 285 => 85 | 286 => 86 | 129 => 88 | 317 => 87 | 318 => 89 | 319 => 90 | 320 => 91 | 337 => 92 | 338 => 93 | n => n, fun | 3 => 3 | 9 => 9 | 2 => 2 | 4 => 4 | 171 => 118 | 0 => 0 | 53 => 119 | 37 => 122 | 5 => 5 | 173 => 123 | 212 => 126 | 51 => 114 | 20 => 20 | 213 => 127 | 46 => 109 | 232 => 130 | 233 => 131 | n => n, fun | 17 => 1 | 18 => 2 | 19 => 3 | n => n⟩
theorem Tryd.laysM243 : Go.Proofs.LaysM.n243 Tryd.prog Tryd.laysM243_ren := {
  mixed := by kernel_rfl
  f129 := Tryd.func88.trans (congrArg some (by kernel_rfl))
  f243 := Tryd.func78.trans (congrArg some (by kernel_rfl))
  f246 := Tryd.func82.trans (congrArg some (by kernel_rfl))
  f283 := Tryd.func83.trans (congrArg some (by kernel_rfl))
  f284 := Tryd.func84.trans (congrArg some (by kernel_rfl))
  f285 := Tryd.func85.trans (congrArg some (by kernel_rfl))
  f286 := Tryd.func86.trans (congrArg some (by kernel_rfl))
  f317 := Tryd.func87.trans (congrArg some (by kernel_rfl))
  f318 := Tryd.func89.trans (congrArg some (by kernel_rfl))
  f319 := Tryd.func90.trans (congrArg some (by kernel_rfl))
  f320 := Tryd.func91.trans (congrArg some (by kernel_rfl))
  f337 := Tryd.func92.trans (congrArg some (by kernel_rfl))
  f338 := Tryd.func93.trans (congrArg some (by kernel_rfl))
  t0 := Tryd.underlying0
  a0 := Tryd.isAgg0
  z0 := Tryd.sizeOf0
  v0 := Tryd.zeroValue0
  t2 := Tryd.underlying2
  a2 := Tryd.isAgg2
  z2 := Tryd.sizeOf2
  v2 := Tryd.zeroValue2
  t3 := Tryd.underlying3
  a3 := Tryd.isAgg3
  z3 := Tryd.sizeOf3
  v3 := Tryd.zeroValue3
  t4 := Tryd.underlying4
  a4 := Tryd.isAgg4
  z4 := Tryd.sizeOf4
  v4 := Tryd.zeroValue4
  t5 := Tryd.underlying5
  a5 := Tryd.isAgg5
  z5 := Tryd.sizeOf5
  v5 := Tryd.zeroValue5
  t9 := Tryd.underlying9
  a9 := Tryd.isAgg9
  z9 := Tryd.sizeOf9
  v9 := Tryd.zeroValue9
  t20 := Tryd.underlying20
  a20 := Tryd.isAgg20
  z20 := Tryd.sizeOf20
  v20 := Tryd.zeroValue20
  t37 := Tryd.underlying122
  a37 := Tryd.isAgg122
  z37 := Tryd.sizeOf122
  v37 := Tryd.zeroValue122
  t46 := Tryd.underlying109
  a46 := Tryd.isAgg109
  z46 := Tryd.sizeOf109
  v46 := Tryd.zeroValue109
  t51 := Tryd.underlying114
  a51 := Tryd.isAgg114
  z51 := Tryd.sizeOf114
  v51 := Tryd.zeroValue114
  t53 := Tryd.underlying119
  a53 := Tryd.isAgg119
  z53 := Tryd.sizeOf119
  v53 := Tryd.zeroValue119
  t171 := Tryd.underlying118
  a171 := Tryd.isAgg118
  z171 := Tryd.sizeOf118
  v171 := Tryd.zeroValue118
  t173 := Tryd.underlying123
  a173 := Tryd.isAgg123
  z173 := Tryd.sizeOf123
  v173 := Tryd.zeroValue123
  t212 := Tryd.underlying126
  a212 := Tryd.isAgg126
  z212 := Tryd.sizeOf126
  v212 := Tryd.zeroValue126
  t213 := Tryd.underlying127
  a213 := Tryd.isAgg127
  z213 := Tryd.sizeOf127
  t232 := Tryd.underlying130
  a232 := Tryd.isAgg130
  z232 := Tryd.sizeOf130
  v232 := Tryd.zeroValue130
  t233 := Tryd.underlying131
  a233 := Tryd.isAgg131
  z233 := Tryd.sizeOf131
  v233 := Tryd.zeroValue131
  g17 := by kernel_rfl
  g18 := by kernel_rfl
  g19 := by kernel_rfl
  i0 := by kernel_rfl
  i2 := by kernel_rfl
  i3 := by kernel_rfl
  i4 := by kernel_rfl
  i5 := by kernel_rfl
  i9 := by kernel_rfl
  i20 := by kernel_rfl
  i37 := by kernel_rfl
  i46 := by kernel_rfl
  i51 := by kernel_rfl
  i53 := by kernel_rfl
  i171 := by kernel_rfl
  i173 := by kernel_rfl
  i212 := by kernel_rfl
  i232 := by kernel_rfl
  i233 := by kernel_rfl
  m17 := by kernel_rfl
  m18 := by kernel_rfl
  m19 := by kernel_rfl }
open Go.RowKit Go.Sort Go.Lib in
/-- internal/strconv.Itoa: "Itoa is equivalent to FormatInt(int64(i), 10).": i's decimal numeral, for every int. (LAID: no walk: one application.) -/
theorem Tryd.internal_strconv_Itoa (n : Int) (h0 : -9223372036854775808 ≤ n) (h1 : n ≤ 9223372036854775807) (w : World) (htab : Lib.TabIs Tryd.prog w "internal/strconv.uint64pow10" .u64 Lib.pow10Tab) :
    Calls Tryd.prog 78 #[.int .i64 n] w fun e w' => e = .returned (.string ⟨(Lib.itoa n).toArray⟩) ∧ ∃ k os, w' = grow (w.drewN k) os := Any.internal_strconv_Itoa Tryd.laysM243 n h0 h1 w htab
def Tryd.lays243_ren : Go.Shelf.Ren := ⟨fun | 243 => 78 | 246 => 82 | 283 => 83 | 284 => 84 | 285 => 85 | 286 => 86 | 129 => 88 | 317 => 87 | 318 => 89 | 319 => 90 | 320 => 91 | 337 => 92 | 338 => 93 | n => n, fun | 3 => 3 | 9 => 9 | 2 => 2 | 4 => 4 | 171 => 118 | 0 => 0 | 53 => 119 | 37 => 122 | 5 => 5 | 173 => 123 | 212 => 126 | 51 => 114 | 20 => 20 | 213 => 127 | 46 => 109 | 232 => 130 | 233 => 131 | n => n, fun | 17 => 1 | 18 => 2 | 19 => 3 | n => n⟩
theorem Tryd.lays243 : Go.Proofs.Lays.n243 Tryd.prog Tryd.lays243_ren := {
  mixed := by kernel_rfl
  f129 := Tryd.func88.trans (congrArg some (by kernel_rfl))
  f243 := Tryd.func78.trans (congrArg some (by kernel_rfl))
  f246 := Tryd.func82.trans (congrArg some (by kernel_rfl))
  f283 := Tryd.func83.trans (congrArg some (by kernel_rfl))
  f284 := Tryd.func84.trans (congrArg some (by kernel_rfl))
  f285 := Tryd.func85.trans (congrArg some (by kernel_rfl))
  f286 := Tryd.func86.trans (congrArg some (by kernel_rfl))
  f317 := Tryd.func87.trans (congrArg some (by kernel_rfl))
  f318 := Tryd.func89.trans (congrArg some (by kernel_rfl))
  f319 := Tryd.func90.trans (congrArg some (by kernel_rfl))
  f320 := Tryd.func91.trans (congrArg some (by kernel_rfl))
  f337 := Tryd.func92.trans (congrArg some (by kernel_rfl))
  f338 := Tryd.func93.trans (congrArg some (by kernel_rfl))
  t0 := Tryd.underlying0
  a0 := Tryd.isAgg0
  z0 := Tryd.sizeOf0
  v0 := Tryd.zeroValue0
  t2 := Tryd.underlying2
  a2 := Tryd.isAgg2
  z2 := Tryd.sizeOf2
  v2 := Tryd.zeroValue2
  t3 := Tryd.underlying3
  a3 := Tryd.isAgg3
  z3 := Tryd.sizeOf3
  v3 := Tryd.zeroValue3
  t4 := Tryd.underlying4
  a4 := Tryd.isAgg4
  z4 := Tryd.sizeOf4
  v4 := Tryd.zeroValue4
  t5 := Tryd.underlying5
  a5 := Tryd.isAgg5
  z5 := Tryd.sizeOf5
  v5 := Tryd.zeroValue5
  t9 := Tryd.underlying9
  a9 := Tryd.isAgg9
  z9 := Tryd.sizeOf9
  v9 := Tryd.zeroValue9
  t20 := Tryd.underlying20
  a20 := Tryd.isAgg20
  z20 := Tryd.sizeOf20
  v20 := Tryd.zeroValue20
  t37 := Tryd.underlying122
  a37 := Tryd.isAgg122
  z37 := Tryd.sizeOf122
  v37 := Tryd.zeroValue122
  t46 := Tryd.underlying109
  a46 := Tryd.isAgg109
  z46 := Tryd.sizeOf109
  v46 := Tryd.zeroValue109
  t51 := Tryd.underlying114
  a51 := Tryd.isAgg114
  z51 := Tryd.sizeOf114
  v51 := Tryd.zeroValue114
  t53 := Tryd.underlying119
  a53 := Tryd.isAgg119
  z53 := Tryd.sizeOf119
  v53 := Tryd.zeroValue119
  t171 := Tryd.underlying118
  a171 := Tryd.isAgg118
  z171 := Tryd.sizeOf118
  v171 := Tryd.zeroValue118
  t173 := Tryd.underlying123
  a173 := Tryd.isAgg123
  z173 := Tryd.sizeOf123
  v173 := Tryd.zeroValue123
  t212 := Tryd.underlying126
  a212 := Tryd.isAgg126
  z212 := Tryd.sizeOf126
  v212 := Tryd.zeroValue126
  t213 := Tryd.underlying127
  a213 := Tryd.isAgg127
  z213 := Tryd.sizeOf127
  t232 := Tryd.underlying130
  a232 := Tryd.isAgg130
  z232 := Tryd.sizeOf130
  v232 := Tryd.zeroValue130
  t233 := Tryd.underlying131
  a233 := Tryd.isAgg131
  z233 := Tryd.sizeOf131
  v233 := Tryd.zeroValue131
  g17 := by kernel_rfl
  g18 := by kernel_rfl
  g19 := by kernel_rfl }
open Go.RowKit Go.Sort Go.Lib in
/-- THE ROAD WITHOUT THE TABLE: 0 <= i < 100. (LAID: no walk: one application.) -/
theorem Tryd.internal_strconv_Itoa_small (i : Nat) (hi : i < 100) (w : World) :
    Calls Tryd.prog 78 #[.int .i64 i] w fun e w' => e = .returned (.string ⟨(Lib.decDigits i).toArray⟩) ∧ w' = w := Any.internal_strconv_Itoa_small Tryd.lays243 i hi w
def Tryd.laysM171_ren : Go.Shelf.Ren := ⟨fun | 171 => 70 | 243 => 78 | 246 => 82 | 283 => 83 | 284 => 84 | 285 => 85 | 286 => 86 | 129 => 88 | 317 => 87 | 318 => 89 | 319 => 90 | 320 => 91 | 337 => 92 | 338 => 93 | n => n, fun | 3 => 3 | 9 => 9 | 2 => 2 | 4 => 4 | 171 => 118 | 0 => 0 | 53 => 119 | 37 => 122 | 5 => 5 | 173 => 123 | 212 => 126 | 51 => 114 | 20 => 20 | 213 => 127 | 46 => 109 | 232 => 130 | 233 => 131 | n => n, fun | 17 => 1 | 18 => 2 | 19 => 3 | n => n⟩
theorem Tryd.laysM171 : Go.Proofs.LaysM.n171 Tryd.prog Tryd.laysM171_ren := {
  mixed := by kernel_rfl
  f129 := Tryd.func88.trans (congrArg some (by kernel_rfl))
  f171 := Tryd.func70.trans (congrArg some (by kernel_rfl))
  f243 := Tryd.func78.trans (congrArg some (by kernel_rfl))
  f246 := Tryd.func82.trans (congrArg some (by kernel_rfl))
  f283 := Tryd.func83.trans (congrArg some (by kernel_rfl))
  f284 := Tryd.func84.trans (congrArg some (by kernel_rfl))
  f285 := Tryd.func85.trans (congrArg some (by kernel_rfl))
  f286 := Tryd.func86.trans (congrArg some (by kernel_rfl))
  f317 := Tryd.func87.trans (congrArg some (by kernel_rfl))
  f318 := Tryd.func89.trans (congrArg some (by kernel_rfl))
  f319 := Tryd.func90.trans (congrArg some (by kernel_rfl))
  f320 := Tryd.func91.trans (congrArg some (by kernel_rfl))
  f337 := Tryd.func92.trans (congrArg some (by kernel_rfl))
  f338 := Tryd.func93.trans (congrArg some (by kernel_rfl))
  t0 := Tryd.underlying0
  a0 := Tryd.isAgg0
  z0 := Tryd.sizeOf0
  v0 := Tryd.zeroValue0
  t2 := Tryd.underlying2
  a2 := Tryd.isAgg2
  z2 := Tryd.sizeOf2
  v2 := Tryd.zeroValue2
  t3 := Tryd.underlying3
  a3 := Tryd.isAgg3
  z3 := Tryd.sizeOf3
  v3 := Tryd.zeroValue3
  t4 := Tryd.underlying4
  a4 := Tryd.isAgg4
  z4 := Tryd.sizeOf4
  v4 := Tryd.zeroValue4
  t5 := Tryd.underlying5
  a5 := Tryd.isAgg5
  z5 := Tryd.sizeOf5
  v5 := Tryd.zeroValue5
  t9 := Tryd.underlying9
  a9 := Tryd.isAgg9
  z9 := Tryd.sizeOf9
  v9 := Tryd.zeroValue9
  t20 := Tryd.underlying20
  a20 := Tryd.isAgg20
  z20 := Tryd.sizeOf20
  v20 := Tryd.zeroValue20
  t37 := Tryd.underlying122
  a37 := Tryd.isAgg122
  z37 := Tryd.sizeOf122
  v37 := Tryd.zeroValue122
  t46 := Tryd.underlying109
  a46 := Tryd.isAgg109
  z46 := Tryd.sizeOf109
  v46 := Tryd.zeroValue109
  t51 := Tryd.underlying114
  a51 := Tryd.isAgg114
  z51 := Tryd.sizeOf114
  v51 := Tryd.zeroValue114
  t53 := Tryd.underlying119
  a53 := Tryd.isAgg119
  z53 := Tryd.sizeOf119
  v53 := Tryd.zeroValue119
  t171 := Tryd.underlying118
  a171 := Tryd.isAgg118
  z171 := Tryd.sizeOf118
  v171 := Tryd.zeroValue118
  t173 := Tryd.underlying123
  a173 := Tryd.isAgg123
  z173 := Tryd.sizeOf123
  v173 := Tryd.zeroValue123
  t212 := Tryd.underlying126
  a212 := Tryd.isAgg126
  z212 := Tryd.sizeOf126
  v212 := Tryd.zeroValue126
  t213 := Tryd.underlying127
  a213 := Tryd.isAgg127
  z213 := Tryd.sizeOf127
  t232 := Tryd.underlying130
  a232 := Tryd.isAgg130
  z232 := Tryd.sizeOf130
  v232 := Tryd.zeroValue130
  t233 := Tryd.underlying131
  a233 := Tryd.isAgg131
  z233 := Tryd.sizeOf131
  v233 := Tryd.zeroValue131
  g17 := by kernel_rfl
  g18 := by kernel_rfl
  g19 := by kernel_rfl
  i0 := by kernel_rfl
  i2 := by kernel_rfl
  i3 := by kernel_rfl
  i4 := by kernel_rfl
  i5 := by kernel_rfl
  i9 := by kernel_rfl
  i20 := by kernel_rfl
  i37 := by kernel_rfl
  i46 := by kernel_rfl
  i51 := by kernel_rfl
  i53 := by kernel_rfl
  i171 := by kernel_rfl
  i173 := by kernel_rfl
  i212 := by kernel_rfl
  i232 := by kernel_rfl
  i233 := by kernel_rfl
  m17 := by kernel_rfl
  m18 := by kernel_rfl
  m19 := by kernel_rfl }
open Go.RowKit Go.Sort Go.Lib in
/-- strconv.Itoa: "Itoa is equivalent to FormatInt(int64(i), 10).": i's DECIMAL NUMERAL ('Lib.itoa': a '-' where i is negative, then the digits), FOR EVERY int. The world behind the call: the world before it, new blocks behind the heap (the library's 'var a [24]byte'), draws. (LAID: no walk: one application.) -/
theorem Tryd.strconv_Itoa (n : Int) (h0 : -9223372036854775808 ≤ n) (h1 : n ≤ 9223372036854775807) (w : World) (htab : Lib.TabIs Tryd.prog w "internal/strconv.uint64pow10" .u64 Lib.pow10Tab) :
    Calls Tryd.prog 70 #[.int .i64 n] w fun e w' => e = .returned (.string ⟨(Lib.itoa n).toArray⟩) ∧ ∃ k os, w' = grow (w.drewN k) os := Any.strconv_Itoa Tryd.laysM171 n h0 h1 w htab
def Tryd.lays171_ren : Go.Shelf.Ren := ⟨fun | 171 => 70 | 243 => 78 | 246 => 82 | 283 => 83 | 284 => 84 | 285 => 85 | 286 => 86 | 129 => 88 | 317 => 87 | 318 => 89 | 319 => 90 | 320 => 91 | 337 => 92 | 338 => 93 | n => n, fun | 3 => 3 | 9 => 9 | 2 => 2 | 4 => 4 | 171 => 118 | 0 => 0 | 53 => 119 | 37 => 122 | 5 => 5 | 173 => 123 | 212 => 126 | 51 => 114 | 20 => 20 | 213 => 127 | 46 => 109 | 232 => 130 | 233 => 131 | n => n, fun | 17 => 1 | 18 => 2 | 19 => 3 | n => n⟩
theorem Tryd.lays171 : Go.Proofs.Lays.n171 Tryd.prog Tryd.lays171_ren := {
  mixed := by kernel_rfl
  f129 := Tryd.func88.trans (congrArg some (by kernel_rfl))
  f171 := Tryd.func70.trans (congrArg some (by kernel_rfl))
  f243 := Tryd.func78.trans (congrArg some (by kernel_rfl))
  f246 := Tryd.func82.trans (congrArg some (by kernel_rfl))
  f283 := Tryd.func83.trans (congrArg some (by kernel_rfl))
  f284 := Tryd.func84.trans (congrArg some (by kernel_rfl))
  f285 := Tryd.func85.trans (congrArg some (by kernel_rfl))
  f286 := Tryd.func86.trans (congrArg some (by kernel_rfl))
  f317 := Tryd.func87.trans (congrArg some (by kernel_rfl))
  f318 := Tryd.func89.trans (congrArg some (by kernel_rfl))
  f319 := Tryd.func90.trans (congrArg some (by kernel_rfl))
  f320 := Tryd.func91.trans (congrArg some (by kernel_rfl))
  f337 := Tryd.func92.trans (congrArg some (by kernel_rfl))
  f338 := Tryd.func93.trans (congrArg some (by kernel_rfl))
  t0 := Tryd.underlying0
  a0 := Tryd.isAgg0
  z0 := Tryd.sizeOf0
  v0 := Tryd.zeroValue0
  t2 := Tryd.underlying2
  a2 := Tryd.isAgg2
  z2 := Tryd.sizeOf2
  v2 := Tryd.zeroValue2
  t3 := Tryd.underlying3
  a3 := Tryd.isAgg3
  z3 := Tryd.sizeOf3
  v3 := Tryd.zeroValue3
  t4 := Tryd.underlying4
  a4 := Tryd.isAgg4
  z4 := Tryd.sizeOf4
  v4 := Tryd.zeroValue4
  t5 := Tryd.underlying5
  a5 := Tryd.isAgg5
  z5 := Tryd.sizeOf5
  v5 := Tryd.zeroValue5
  t9 := Tryd.underlying9
  a9 := Tryd.isAgg9
  z9 := Tryd.sizeOf9
  v9 := Tryd.zeroValue9
  t20 := Tryd.underlying20
  a20 := Tryd.isAgg20
  z20 := Tryd.sizeOf20
  v20 := Tryd.zeroValue20
  t37 := Tryd.underlying122
  a37 := Tryd.isAgg122
  z37 := Tryd.sizeOf122
  v37 := Tryd.zeroValue122
  t46 := Tryd.underlying109
  a46 := Tryd.isAgg109
  z46 := Tryd.sizeOf109
  v46 := Tryd.zeroValue109
  t51 := Tryd.underlying114
  a51 := Tryd.isAgg114
  z51 := Tryd.sizeOf114
  v51 := Tryd.zeroValue114
  t53 := Tryd.underlying119
  a53 := Tryd.isAgg119
  z53 := Tryd.sizeOf119
  v53 := Tryd.zeroValue119
  t171 := Tryd.underlying118
  a171 := Tryd.isAgg118
  z171 := Tryd.sizeOf118
  v171 := Tryd.zeroValue118
  t173 := Tryd.underlying123
  a173 := Tryd.isAgg123
  z173 := Tryd.sizeOf123
  v173 := Tryd.zeroValue123
  t212 := Tryd.underlying126
  a212 := Tryd.isAgg126
  z212 := Tryd.sizeOf126
  v212 := Tryd.zeroValue126
  t213 := Tryd.underlying127
  a213 := Tryd.isAgg127
  z213 := Tryd.sizeOf127
  t232 := Tryd.underlying130
  a232 := Tryd.isAgg130
  z232 := Tryd.sizeOf130
  v232 := Tryd.zeroValue130
  t233 := Tryd.underlying131
  a233 := Tryd.isAgg131
  z233 := Tryd.sizeOf131
  v233 := Tryd.zeroValue131
  g17 := by kernel_rfl
  g18 := by kernel_rfl
  g19 := by kernel_rfl }
open Go.RowKit Go.Sort Go.Lib in
/-- THE ROAD WITHOUT THE TABLE: 0 <= i < 100: NO PREMISE ON THE WORLD, AND THE WORLD IS AS IT WAS: a row that keeps its argument in that range need list no table ('laid = []'). (LAID: no walk: one application.) -/
theorem Tryd.strconv_Itoa_small (i : Nat) (hi : i < 100) (w : World) :
    Calls Tryd.prog 70 #[.int .i64 i] w fun e w' => e = .returned (.string ⟨(Lib.decDigits i).toArray⟩) ∧ w' = w := Any.strconv_Itoa_small Tryd.lays171 i hi w
def Tryd.lays217_ren : Go.Shelf.Ren := ⟨fun | 217 => 71 | 266 => 79 | n => n, fun | 9 => 9 | 5 => 5 | 3 => 3 | n => n, fun | n => n⟩
theorem Tryd.lays217 : Go.Proofs.Lays.n217 Tryd.prog Tryd.lays217_ren := {
  mixed := by kernel_rfl
  f217 := Tryd.func71.trans (congrArg some (by kernel_rfl))
  f266 := Tryd.func79.trans (congrArg some (by kernel_rfl))
  t3 := Tryd.underlying3
  a3 := Tryd.isAgg3
  z3 := Tryd.sizeOf3
  v3 := Tryd.zeroValue3
  t5 := Tryd.underlying5
  a5 := Tryd.isAgg5
  z5 := Tryd.sizeOf5
  v5 := Tryd.zeroValue5
  t9 := Tryd.underlying9
  a9 := Tryd.isAgg9
  z9 := Tryd.sizeOf9
  v9 := Tryd.zeroValue9 }
open Go.RowKit Go.Lib in
/-- internal/stringslite.IndexByte (what strings.IndexByte calls): IT RETURNS 'Lib.indexByte s c'; the world is as it was. (LAID: no walk: one application.) -/
theorem Tryd.stringslite_IndexByte (s : ByteArray) (c : Int) (w : World) :
    Calls Tryd.prog 71 #[.string s, .int .u8 c] w fun e w' => e = .returned (.int .i64 (Lib.indexByte s.data.toList c.toNat.toUInt8)) ∧ w' = w := Any.stringslite_IndexByte Tryd.lays217 s c w
def Tryd.lays224_ren : Go.Shelf.Ren := ⟨fun | 224 => 73 | n => n, fun | 3 => 3 | n => n, fun | n => n⟩
theorem Tryd.lays224 : Go.Proofs.Lays.n224 Tryd.prog Tryd.lays224_ren := {
  mixed := by kernel_rfl
  f224 := Tryd.func73.trans (congrArg some (by kernel_rfl))
  t3 := Tryd.underlying3
  a3 := Tryd.isAgg3
  z3 := Tryd.sizeOf3
  v3 := Tryd.zeroValue3 }
open Go.RowKit Go.Lib in
/-- internal/bytealg.Cutover: "Cutover reports the number of failures of IndexByte we should tolerate before switching over to Index. n is the number of bytes processed so far.": on amd64: (n + 16) / 8. (LAID: no walk: one application.) -/
theorem Tryd.bytealg_Cutover (n : Int) (h0 : 0 ≤ n) (h1 : n < 4611686018427387904) (w : World) :
    Calls Tryd.prog 73 #[.int .i64 n] w fun e w' => e = .returned (.int .i64 ((n + 16) / 8)) ∧ w' = w := Any.bytealg_Cutover Tryd.lays224 n h0 h1 w
def Tryd.lays314_ren : Go.Shelf.Ren := ⟨fun | 314 => 80 | n => n, fun | 9 => 9 | 51 => 114 | 3 => 3 | 4 => 4 | 5 => 5 | 46 => 109 | n => n, fun | n => n⟩
theorem Tryd.lays314 : Go.Proofs.Lays.n314 Tryd.prog Tryd.lays314_ren := {
  mixed := by kernel_rfl
  f314 := Tryd.func80.trans (congrArg some (by kernel_rfl))
  t3 := Tryd.underlying3
  a3 := Tryd.isAgg3
  z3 := Tryd.sizeOf3
  v3 := Tryd.zeroValue3
  t4 := Tryd.underlying4
  a4 := Tryd.isAgg4
  z4 := Tryd.sizeOf4
  v4 := Tryd.zeroValue4
  t5 := Tryd.underlying5
  a5 := Tryd.isAgg5
  z5 := Tryd.sizeOf5
  v5 := Tryd.zeroValue5
  t9 := Tryd.underlying9
  a9 := Tryd.isAgg9
  z9 := Tryd.sizeOf9
  v9 := Tryd.zeroValue9
  t46 := Tryd.underlying109
  a46 := Tryd.isAgg109
  z46 := Tryd.sizeOf109
  v46 := Tryd.zeroValue109
  t51 := Tryd.underlying114
  a51 := Tryd.isAgg114
  z51 := Tryd.sizeOf114
  v51 := Tryd.zeroValue114 }
open Go.RowKit Go.Lib in
/-- hashStr: "returns the hash and the appropriate multiplicative factor for use in Rabin-Karp algorithm": THE HASH OF ALL OF sep, AND 16777619 ^ len(sep), both in uint32. (LAID: no walk: one application.) -/
theorem Tryd.bytealg_hashStr (sep : ByteArray) (hs : sep.size < 4294967281) (w : World) :
    Calls Tryd.prog 80 #[.string sep] w fun e w' => e = .returned (.tuple #[.int .u32 (RK.H sep.data.toList % 4294967296), .int .u32 (16777619 ^ sep.size % 4294967296)]) ∧ w' = w := Any.bytealg_hashStr Tryd.lays314 sep hs w
def Tryd.lays267_ren : Go.Shelf.Ren := ⟨fun | 267 => 74 | 314 => 80 | n => n, fun | 9 => 9 | 3 => 3 | 146 => 115 | 51 => 114 | 4 => 4 | 5 => 5 | 46 => 109 | n => n, fun | n => n⟩
theorem Tryd.lays267 : Go.Proofs.Lays.n267 Tryd.prog Tryd.lays267_ren := {
  mixed := by kernel_rfl
  f267 := Tryd.func74.trans (congrArg some (by kernel_rfl))
  f314 := Tryd.func80.trans (congrArg some (by kernel_rfl))
  t3 := Tryd.underlying3
  a3 := Tryd.isAgg3
  z3 := Tryd.sizeOf3
  v3 := Tryd.zeroValue3
  t4 := Tryd.underlying4
  a4 := Tryd.isAgg4
  z4 := Tryd.sizeOf4
  v4 := Tryd.zeroValue4
  t5 := Tryd.underlying5
  a5 := Tryd.isAgg5
  z5 := Tryd.sizeOf5
  v5 := Tryd.zeroValue5
  t9 := Tryd.underlying9
  a9 := Tryd.isAgg9
  z9 := Tryd.sizeOf9
  v9 := Tryd.zeroValue9
  t46 := Tryd.underlying109
  a46 := Tryd.isAgg109
  z46 := Tryd.sizeOf109
  v46 := Tryd.zeroValue109
  t51 := Tryd.underlying114
  a51 := Tryd.isAgg114
  z51 := Tryd.sizeOf114
  v51 := Tryd.zeroValue114
  t146 := Tryd.underlying115
  a146 := Tryd.isAgg115
  z146 := Tryd.sizeOf115
  v146 := Tryd.zeroValue115 }
open Go.RowKit Go.Lib in
theorem Tryd.bytealg_IndexRabinKarp (s sep : ByteArray) (h1 : 1 ≤ sep.size) (h2 : sep.size ≤ s.size) (hs : s.size < 4294967281) (w : World) :
    Calls Tryd.prog 74 #[.string s, .string sep] w fun e w' => e = .returned (.int .i64 (Lib.index s.data.toList sep.data.toList)) ∧ w' = w := Any.bytealg_IndexRabinKarp Tryd.lays267 s sep h1 h2 hs w
def Tryd.lays219_ren : Go.Shelf.Ren := ⟨fun | 219 => 67 | 217 => 71 | 225 => 72 | 224 => 73 | 267 => 74 | 266 => 79 | 314 => 80 | n => n, fun | 9 => 9 | 3 => 3 | 4 => 4 | 5 => 5 | 46 => 109 | 146 => 115 | 51 => 114 | n => n, fun | 1 => 0 | n => n⟩
theorem Tryd.lays219 : Go.Proofs.Lays.n219 Tryd.prog Tryd.lays219_ren := {
  mixed := by kernel_rfl
  f217 := Tryd.func71.trans (congrArg some (by kernel_rfl))
  f219 := Tryd.func67.trans (congrArg some (by kernel_rfl))
  f224 := Tryd.func73.trans (congrArg some (by kernel_rfl))
  f225 := Tryd.func72.trans (congrArg some (by kernel_rfl))
  f266 := Tryd.func79.trans (congrArg some (by kernel_rfl))
  f267 := Tryd.func74.trans (congrArg some (by kernel_rfl))
  f314 := Tryd.func80.trans (congrArg some (by kernel_rfl))
  t3 := Tryd.underlying3
  a3 := Tryd.isAgg3
  z3 := Tryd.sizeOf3
  v3 := Tryd.zeroValue3
  t4 := Tryd.underlying4
  a4 := Tryd.isAgg4
  z4 := Tryd.sizeOf4
  v4 := Tryd.zeroValue4
  t5 := Tryd.underlying5
  a5 := Tryd.isAgg5
  z5 := Tryd.sizeOf5
  v5 := Tryd.zeroValue5
  t9 := Tryd.underlying9
  a9 := Tryd.isAgg9
  z9 := Tryd.sizeOf9
  v9 := Tryd.zeroValue9
  t46 := Tryd.underlying109
  a46 := Tryd.isAgg109
  z46 := Tryd.sizeOf109
  v46 := Tryd.zeroValue109
  t51 := Tryd.underlying114
  a51 := Tryd.isAgg114
  z51 := Tryd.sizeOf114
  v51 := Tryd.zeroValue114
  t146 := Tryd.underlying115
  a146 := Tryd.isAgg115
  z146 := Tryd.sizeOf115
  v146 := Tryd.zeroValue115
  g1 := by kernel_rfl }
open Go.RowKit Go.Lib in
/-- internal/stringslite.Index (what strings.Index calls) AT A substr OF ONE BYTE c: IT RETURNS 'Lib.indexByte s c'; the world is as it was. (LAID: no walk: one application.) -/
theorem Tryd.stringslite_Index_one (s : ByteArray) (c : UInt8) (w : World) :
    Calls Tryd.prog 67 #[.string s, .string ⟨#[c]⟩] w fun e w' => e = .returned (.int .i64 (Lib.indexByte s.data.toList c)) ∧ w' = w := Any.stringslite_Index_one Tryd.lays219 s c w
open Go.RowKit Go.Lib in
/-- internal/stringslite.Index (what strings.Index calls) AT A substr OF WHATEVER LENGTH: IT RETURNS 'Lib.index s substr'; the world is as it was. 'm': what internal/bytealg.MaxLen holds: whatever. (LAID: no walk: one application.) -/
theorem Tryd.stringslite_Index (s sub : ByteArray) (m : Int) (w : World) (hs : s.size < 4294967281) (hm : w.cell? ⟨0, 0, none⟩ = some (.int .i64 m)) :
    Calls Tryd.prog 67 #[.string s, .string sub] w fun e w' => e = .returned (.int .i64 (Lib.index s.data.toList sub.data.toList)) ∧ w' = w := Any.stringslite_Index Tryd.lays219 s sub m w hs hm
def Tryd.lays143_ren : Go.Shelf.Ren := ⟨fun | 143 => 81 | 219 => 67 | 217 => 71 | 225 => 72 | 224 => 73 | 267 => 74 | 266 => 79 | 314 => 80 | n => n, fun | 9 => 9 | 3 => 3 | 4 => 4 | 5 => 5 | 46 => 109 | 146 => 115 | 51 => 114 | n => n, fun | 1 => 0 | n => n⟩
theorem Tryd.lays143 : Go.Proofs.Lays.n143 Tryd.prog Tryd.lays143_ren := {
  mixed := by kernel_rfl
  f143 := Tryd.func81.trans (congrArg some (by kernel_rfl))
  f217 := Tryd.func71.trans (congrArg some (by kernel_rfl))
  f219 := Tryd.func67.trans (congrArg some (by kernel_rfl))
  f224 := Tryd.func73.trans (congrArg some (by kernel_rfl))
  f225 := Tryd.func72.trans (congrArg some (by kernel_rfl))
  f266 := Tryd.func79.trans (congrArg some (by kernel_rfl))
  f267 := Tryd.func74.trans (congrArg some (by kernel_rfl))
  f314 := Tryd.func80.trans (congrArg some (by kernel_rfl))
  t3 := Tryd.underlying3
  a3 := Tryd.isAgg3
  z3 := Tryd.sizeOf3
  v3 := Tryd.zeroValue3
  t4 := Tryd.underlying4
  a4 := Tryd.isAgg4
  z4 := Tryd.sizeOf4
  v4 := Tryd.zeroValue4
  t5 := Tryd.underlying5
  a5 := Tryd.isAgg5
  z5 := Tryd.sizeOf5
  v5 := Tryd.zeroValue5
  t9 := Tryd.underlying9
  a9 := Tryd.isAgg9
  z9 := Tryd.sizeOf9
  v9 := Tryd.zeroValue9
  t46 := Tryd.underlying109
  a46 := Tryd.isAgg109
  z46 := Tryd.sizeOf109
  v46 := Tryd.zeroValue109
  t51 := Tryd.underlying114
  a51 := Tryd.isAgg114
  z51 := Tryd.sizeOf114
  v51 := Tryd.zeroValue114
  t146 := Tryd.underlying115
  a146 := Tryd.isAgg115
  z146 := Tryd.sizeOf115
  v146 := Tryd.zeroValue115
  g1 := by kernel_rfl }
open Go.RowKit Go.Lib in
/-- strings.Index: "Index returns the index of the first instance of substr in s, or -1 if substr is not present in s.": AT A substr OF ONE BYTE c: IT RETURNS 'Lib.indexByte s c'; the world is as it was. (LAID: no walk: one application.) -/
theorem Tryd.strings_Index_one (s : ByteArray) (c : UInt8) (w : World) :
    Calls Tryd.prog 81 #[.string s, .string ⟨#[c]⟩] w fun e w' => e = .returned (.int .i64 (Lib.indexByte s.data.toList c)) ∧ w' = w := Any.strings_Index_one Tryd.lays143 s c w
open Go.RowKit Go.Lib in
/-- strings.Index: "Index returns the index of the first instance of substr in s, or -1 if substr is not present in s.": IT RETURNS 'Lib.index s substr'; the world is as it was. (LAID: no walk: one application.) -/
theorem Tryd.strings_Index (s sub : ByteArray) (m : Int) (w : World) (hs : s.size < 4294967281) (hm : w.cell? ⟨0, 0, none⟩ = some (.int .i64 m)) :
    Calls Tryd.prog 81 #[.string s, .string sub] w fun e w' => e = .returned (.int .i64 (Lib.index s.data.toList sub.data.toList)) ∧ w' = w := Any.strings_Index Tryd.lays143 s sub m w hs hm
def Tryd.lays144_ren : Go.Shelf.Ren := ⟨fun | 144 => 76 | 143 => 81 | 219 => 67 | 217 => 71 | 225 => 72 | 224 => 73 | 267 => 74 | 266 => 79 | 314 => 80 | n => n, fun | 9 => 9 | 4 => 4 | 3 => 3 | 5 => 5 | 46 => 109 | 146 => 115 | 51 => 114 | n => n, fun | 1 => 0 | n => n⟩
theorem Tryd.lays144 : Go.Proofs.Lays.n144 Tryd.prog Tryd.lays144_ren := {
  mixed := by kernel_rfl
  f143 := Tryd.func81.trans (congrArg some (by kernel_rfl))
  f144 := Tryd.func76.trans (congrArg some (by kernel_rfl))
  f217 := Tryd.func71.trans (congrArg some (by kernel_rfl))
  f219 := Tryd.func67.trans (congrArg some (by kernel_rfl))
  f224 := Tryd.func73.trans (congrArg some (by kernel_rfl))
  f225 := Tryd.func72.trans (congrArg some (by kernel_rfl))
  f266 := Tryd.func79.trans (congrArg some (by kernel_rfl))
  f267 := Tryd.func74.trans (congrArg some (by kernel_rfl))
  f314 := Tryd.func80.trans (congrArg some (by kernel_rfl))
  t3 := Tryd.underlying3
  a3 := Tryd.isAgg3
  z3 := Tryd.sizeOf3
  v3 := Tryd.zeroValue3
  t4 := Tryd.underlying4
  a4 := Tryd.isAgg4
  z4 := Tryd.sizeOf4
  v4 := Tryd.zeroValue4
  t5 := Tryd.underlying5
  a5 := Tryd.isAgg5
  z5 := Tryd.sizeOf5
  v5 := Tryd.zeroValue5
  t9 := Tryd.underlying9
  a9 := Tryd.isAgg9
  z9 := Tryd.sizeOf9
  v9 := Tryd.zeroValue9
  t46 := Tryd.underlying109
  a46 := Tryd.isAgg109
  z46 := Tryd.sizeOf109
  v46 := Tryd.zeroValue109
  t51 := Tryd.underlying114
  a51 := Tryd.isAgg114
  z51 := Tryd.sizeOf114
  v51 := Tryd.zeroValue114
  t146 := Tryd.underlying115
  a146 := Tryd.isAgg115
  z146 := Tryd.sizeOf115
  v146 := Tryd.zeroValue115
  g1 := by kernel_rfl }
open Go.RowKit Go.Lib in
/-- strings.Contains: "Contains reports whether substr is within s.": AT A substr OF ONE BYTE c: IT RETURNS 'decide (0 ≤ Lib.indexByte s c)'; the world is as it was. (LAID: no walk: one application.) -/
theorem Tryd.strings_Contains_one (s : ByteArray) (c : UInt8) (w : World) :
    Calls Tryd.prog 76 #[.string s, .string ⟨#[c]⟩] w fun e w' => e = .returned (.bool (decide (0 ≤ Lib.indexByte s.data.toList c))) ∧ w' = w := Any.strings_Contains_one Tryd.lays144 s c w
open Go.RowKit Go.Lib in
/-- strings.Contains: "Contains reports whether substr is within s.": IT RETURNS 'Lib.contains s substr'; the world is as it was. (LAID: no walk: one application.) -/
theorem Tryd.strings_Contains (s sub : ByteArray) (m : Int) (w : World) (hs : s.size < 4294967281) (hm : w.cell? ⟨0, 0, none⟩ = some (.int .i64 m)) :
    Calls Tryd.prog 76 #[.string s, .string sub] w fun e w' => e = .returned (.bool (Lib.contains s.data.toList sub.data.toList)) ∧ w' = w := Any.strings_Contains Tryd.lays144 s sub m w hs hm
def Tryd.lays220_ren : Go.Shelf.Ren := ⟨fun | 220 => 63 | 219 => 67 | 217 => 71 | 225 => 72 | 224 => 73 | 267 => 74 | 266 => 79 | 314 => 80 | n => n, fun | 9 => 9 | 4 => 4 | 3 => 3 | 5 => 5 | 46 => 109 | 146 => 115 | 51 => 114 | n => n, fun | 1 => 0 | n => n⟩
theorem Tryd.lays220 : Go.Proofs.Lays.n220 Tryd.prog Tryd.lays220_ren := {
  mixed := by kernel_rfl
  f217 := Tryd.func71.trans (congrArg some (by kernel_rfl))
  f219 := Tryd.func67.trans (congrArg some (by kernel_rfl))
  f220 := Tryd.func63.trans (congrArg some (by kernel_rfl))
  f224 := Tryd.func73.trans (congrArg some (by kernel_rfl))
  f225 := Tryd.func72.trans (congrArg some (by kernel_rfl))
  f266 := Tryd.func79.trans (congrArg some (by kernel_rfl))
  f267 := Tryd.func74.trans (congrArg some (by kernel_rfl))
  f314 := Tryd.func80.trans (congrArg some (by kernel_rfl))
  t3 := Tryd.underlying3
  a3 := Tryd.isAgg3
  z3 := Tryd.sizeOf3
  v3 := Tryd.zeroValue3
  t4 := Tryd.underlying4
  a4 := Tryd.isAgg4
  z4 := Tryd.sizeOf4
  v4 := Tryd.zeroValue4
  t5 := Tryd.underlying5
  a5 := Tryd.isAgg5
  z5 := Tryd.sizeOf5
  v5 := Tryd.zeroValue5
  t9 := Tryd.underlying9
  a9 := Tryd.isAgg9
  z9 := Tryd.sizeOf9
  v9 := Tryd.zeroValue9
  t46 := Tryd.underlying109
  a46 := Tryd.isAgg109
  z46 := Tryd.sizeOf109
  v46 := Tryd.zeroValue109
  t51 := Tryd.underlying114
  a51 := Tryd.isAgg114
  z51 := Tryd.sizeOf114
  v51 := Tryd.zeroValue114
  t146 := Tryd.underlying115
  a146 := Tryd.isAgg115
  z146 := Tryd.sizeOf115
  v146 := Tryd.zeroValue115
  g1 := by kernel_rfl }
open Go.RowKit Go.Lib in
/-- internal/stringslite.Cut (what strings.Cut calls): IT RETURNS 'Lib.cut s sep'; the world is as it was but for the count of draws. (LAID: no walk: one application.) -/
theorem Tryd.stringslite_Cut (s sep : ByteArray) (m : Int) (w : World) (hs : s.size < 4294967281) (hm : w.cell? ⟨0, 0, none⟩ = some (.int .i64 m)) :
    Calls Tryd.prog 63 #[.string s, .string sep] w fun e w' => e = .returned (.tuple #[.string ⟨(Lib.cut s.data.toList sep.data.toList).1.toArray⟩, .string ⟨(Lib.cut s.data.toList sep.data.toList).2.1.toArray⟩, .bool (Lib.cut s.data.toList sep.data.toList).2.2]) ∧ ∃ n, w' = w.drewN n := Any.stringslite_Cut Tryd.lays220 s sep m w hs hm
def Tryd.lays145_ren : Go.Shelf.Ren := ⟨fun | 145 => 57 | 220 => 63 | 219 => 67 | 217 => 71 | 225 => 72 | 224 => 73 | 267 => 74 | 266 => 79 | 314 => 80 | n => n, fun | 9 => 9 | 4 => 4 | 59 => 95 | 3 => 3 | 5 => 5 | 46 => 109 | 146 => 115 | 51 => 114 | n => n, fun | 1 => 0 | n => n⟩
theorem Tryd.lays145 : Go.Proofs.Lays.n145 Tryd.prog Tryd.lays145_ren := {
  mixed := by kernel_rfl
  f145 := Tryd.func57.trans (congrArg some (by kernel_rfl))
  f217 := Tryd.func71.trans (congrArg some (by kernel_rfl))
  f219 := Tryd.func67.trans (congrArg some (by kernel_rfl))
  f220 := Tryd.func63.trans (congrArg some (by kernel_rfl))
  f224 := Tryd.func73.trans (congrArg some (by kernel_rfl))
  f225 := Tryd.func72.trans (congrArg some (by kernel_rfl))
  f266 := Tryd.func79.trans (congrArg some (by kernel_rfl))
  f267 := Tryd.func74.trans (congrArg some (by kernel_rfl))
  f314 := Tryd.func80.trans (congrArg some (by kernel_rfl))
  t3 := Tryd.underlying3
  a3 := Tryd.isAgg3
  z3 := Tryd.sizeOf3
  v3 := Tryd.zeroValue3
  t4 := Tryd.underlying4
  a4 := Tryd.isAgg4
  z4 := Tryd.sizeOf4
  v4 := Tryd.zeroValue4
  t5 := Tryd.underlying5
  a5 := Tryd.isAgg5
  z5 := Tryd.sizeOf5
  v5 := Tryd.zeroValue5
  t9 := Tryd.underlying9
  a9 := Tryd.isAgg9
  z9 := Tryd.sizeOf9
  v9 := Tryd.zeroValue9
  t46 := Tryd.underlying109
  a46 := Tryd.isAgg109
  z46 := Tryd.sizeOf109
  v46 := Tryd.zeroValue109
  t51 := Tryd.underlying114
  a51 := Tryd.isAgg114
  z51 := Tryd.sizeOf114
  v51 := Tryd.zeroValue114
  t59 := Tryd.underlying95
  a59 := Tryd.isAgg95
  z59 := Tryd.sizeOf95
  v59 := Tryd.zeroValue95
  t146 := Tryd.underlying115
  a146 := Tryd.isAgg115
  z146 := Tryd.sizeOf115
  v146 := Tryd.zeroValue115
  g1 := by kernel_rfl }
open Go.RowKit Go.Lib in
/-- strings.Cut: "Cut slices s around the first instance of sep, returning the text before and after sep. The found result reports whether sep appears in s. If sep does not appear in s, cut returns s, "", false.": IT RETURNS 'Lib.cut s sep'; the world is as it was but for the count of draws. (LAID: no walk: one application.) -/
theorem Tryd.strings_Cut (s sep : ByteArray) (m : Int) (w : World) (hs : s.size < 4294967281) (hm : w.cell? ⟨0, 0, none⟩ = some (.int .i64 m)) :
    Calls Tryd.prog 57 #[.string s, .string sep] w fun e w' => e = .returned (.tuple #[.string ⟨(Lib.cut s.data.toList sep.data.toList).1.toArray⟩, .string ⟨(Lib.cut s.data.toList sep.data.toList).2.1.toArray⟩, .bool (Lib.cut s.data.toList sep.data.toList).2.2]) ∧ ∃ n, w' = w.drewN n := Any.strings_Cut Tryd.lays145 s sep m w hs hm
def Tryd.laysM219_ren : Go.Shelf.Ren := ⟨fun | 219 => 67 | 217 => 71 | 225 => 72 | 224 => 73 | 267 => 74 | 266 => 79 | 314 => 80 | n => n, fun | 9 => 9 | 3 => 3 | 4 => 4 | 5 => 5 | 46 => 109 | 146 => 115 | 51 => 114 | n => n, fun | 1 => 0 | n => n⟩
theorem Tryd.laysM219 : Go.Proofs.LaysM.n219 Tryd.prog Tryd.laysM219_ren := {
  mixed := by kernel_rfl
  f217 := Tryd.func71.trans (congrArg some (by kernel_rfl))
  f219 := Tryd.func67.trans (congrArg some (by kernel_rfl))
  f224 := Tryd.func73.trans (congrArg some (by kernel_rfl))
  f225 := Tryd.func72.trans (congrArg some (by kernel_rfl))
  f266 := Tryd.func79.trans (congrArg some (by kernel_rfl))
  f267 := Tryd.func74.trans (congrArg some (by kernel_rfl))
  f314 := Tryd.func80.trans (congrArg some (by kernel_rfl))
  t3 := Tryd.underlying3
  a3 := Tryd.isAgg3
  z3 := Tryd.sizeOf3
  v3 := Tryd.zeroValue3
  t4 := Tryd.underlying4
  a4 := Tryd.isAgg4
  z4 := Tryd.sizeOf4
  v4 := Tryd.zeroValue4
  t5 := Tryd.underlying5
  a5 := Tryd.isAgg5
  z5 := Tryd.sizeOf5
  v5 := Tryd.zeroValue5
  t9 := Tryd.underlying9
  a9 := Tryd.isAgg9
  z9 := Tryd.sizeOf9
  v9 := Tryd.zeroValue9
  t46 := Tryd.underlying109
  a46 := Tryd.isAgg109
  z46 := Tryd.sizeOf109
  v46 := Tryd.zeroValue109
  t51 := Tryd.underlying114
  a51 := Tryd.isAgg114
  z51 := Tryd.sizeOf114
  v51 := Tryd.zeroValue114
  t146 := Tryd.underlying115
  a146 := Tryd.isAgg115
  z146 := Tryd.sizeOf115
  v146 := Tryd.zeroValue115
  g1 := by kernel_rfl
  i3 := by kernel_rfl
  i4 := by kernel_rfl
  i5 := by kernel_rfl
  i9 := by kernel_rfl
  i46 := by kernel_rfl
  i51 := by kernel_rfl
  i146 := by kernel_rfl
  m1 := by kernel_rfl
  s1_3 := fun w h => Go.Proofs.cell_of_shapedOpen_int (zero := #[.int .i64 0]) (t := 3) h (of_decide_eq_true (by kernel_rfl)) (by kernel_rfl) rfl (by kernel_rfl) (by kernel_rfl) Tryd.underlying3 }
open Go.RowKit Go.Lib in
theorem Tryd.stringslite_Index_shaped (s sub : ByteArray) (w : World) (h : w.ShapedOpen Tryd.prog) (hs : s.size < 4294967281) :
    Calls Tryd.prog 67 #[.string s, .string sub] w fun e w' => e = .returned (.int .i64 (Lib.index s.data.toList sub.data.toList)) ∧ w' = w := Any.stringslite_Index_shaped Tryd.laysM219 s sub w h hs
def Tryd.laysM143_ren : Go.Shelf.Ren := ⟨fun | 143 => 81 | 219 => 67 | 217 => 71 | 225 => 72 | 224 => 73 | 267 => 74 | 266 => 79 | 314 => 80 | n => n, fun | 9 => 9 | 3 => 3 | 4 => 4 | 5 => 5 | 46 => 109 | 146 => 115 | 51 => 114 | n => n, fun | 1 => 0 | n => n⟩
theorem Tryd.laysM143 : Go.Proofs.LaysM.n143 Tryd.prog Tryd.laysM143_ren := {
  mixed := by kernel_rfl
  f143 := Tryd.func81.trans (congrArg some (by kernel_rfl))
  f217 := Tryd.func71.trans (congrArg some (by kernel_rfl))
  f219 := Tryd.func67.trans (congrArg some (by kernel_rfl))
  f224 := Tryd.func73.trans (congrArg some (by kernel_rfl))
  f225 := Tryd.func72.trans (congrArg some (by kernel_rfl))
  f266 := Tryd.func79.trans (congrArg some (by kernel_rfl))
  f267 := Tryd.func74.trans (congrArg some (by kernel_rfl))
  f314 := Tryd.func80.trans (congrArg some (by kernel_rfl))
  t3 := Tryd.underlying3
  a3 := Tryd.isAgg3
  z3 := Tryd.sizeOf3
  v3 := Tryd.zeroValue3
  t4 := Tryd.underlying4
  a4 := Tryd.isAgg4
  z4 := Tryd.sizeOf4
  v4 := Tryd.zeroValue4
  t5 := Tryd.underlying5
  a5 := Tryd.isAgg5
  z5 := Tryd.sizeOf5
  v5 := Tryd.zeroValue5
  t9 := Tryd.underlying9
  a9 := Tryd.isAgg9
  z9 := Tryd.sizeOf9
  v9 := Tryd.zeroValue9
  t46 := Tryd.underlying109
  a46 := Tryd.isAgg109
  z46 := Tryd.sizeOf109
  v46 := Tryd.zeroValue109
  t51 := Tryd.underlying114
  a51 := Tryd.isAgg114
  z51 := Tryd.sizeOf114
  v51 := Tryd.zeroValue114
  t146 := Tryd.underlying115
  a146 := Tryd.isAgg115
  z146 := Tryd.sizeOf115
  v146 := Tryd.zeroValue115
  g1 := by kernel_rfl
  i3 := by kernel_rfl
  i4 := by kernel_rfl
  i5 := by kernel_rfl
  i9 := by kernel_rfl
  i46 := by kernel_rfl
  i51 := by kernel_rfl
  i146 := by kernel_rfl
  m1 := by kernel_rfl
  s1_3 := fun w h => Go.Proofs.cell_of_shapedOpen_int (zero := #[.int .i64 0]) (t := 3) h (of_decide_eq_true (by kernel_rfl)) (by kernel_rfl) rfl (by kernel_rfl) (by kernel_rfl) Tryd.underlying3 }
open Go.RowKit Go.Lib in
theorem Tryd.strings_Index_shaped (s sub : ByteArray) (w : World) (h : w.ShapedOpen Tryd.prog) (hs : s.size < 4294967281) :
    Calls Tryd.prog 81 #[.string s, .string sub] w fun e w' => e = .returned (.int .i64 (Lib.index s.data.toList sub.data.toList)) ∧ w' = w := Any.strings_Index_shaped Tryd.laysM143 s sub w h hs
def Tryd.laysM144_ren : Go.Shelf.Ren := ⟨fun | 144 => 76 | 143 => 81 | 219 => 67 | 217 => 71 | 225 => 72 | 224 => 73 | 267 => 74 | 266 => 79 | 314 => 80 | n => n, fun | 9 => 9 | 4 => 4 | 3 => 3 | 5 => 5 | 46 => 109 | 146 => 115 | 51 => 114 | n => n, fun | 1 => 0 | n => n⟩
theorem Tryd.laysM144 : Go.Proofs.LaysM.n144 Tryd.prog Tryd.laysM144_ren := {
  mixed := by kernel_rfl
  f143 := Tryd.func81.trans (congrArg some (by kernel_rfl))
  f144 := Tryd.func76.trans (congrArg some (by kernel_rfl))
  f217 := Tryd.func71.trans (congrArg some (by kernel_rfl))
  f219 := Tryd.func67.trans (congrArg some (by kernel_rfl))
  f224 := Tryd.func73.trans (congrArg some (by kernel_rfl))
  f225 := Tryd.func72.trans (congrArg some (by kernel_rfl))
  f266 := Tryd.func79.trans (congrArg some (by kernel_rfl))
  f267 := Tryd.func74.trans (congrArg some (by kernel_rfl))
  f314 := Tryd.func80.trans (congrArg some (by kernel_rfl))
  t3 := Tryd.underlying3
  a3 := Tryd.isAgg3
  z3 := Tryd.sizeOf3
  v3 := Tryd.zeroValue3
  t4 := Tryd.underlying4
  a4 := Tryd.isAgg4
  z4 := Tryd.sizeOf4
  v4 := Tryd.zeroValue4
  t5 := Tryd.underlying5
  a5 := Tryd.isAgg5
  z5 := Tryd.sizeOf5
  v5 := Tryd.zeroValue5
  t9 := Tryd.underlying9
  a9 := Tryd.isAgg9
  z9 := Tryd.sizeOf9
  v9 := Tryd.zeroValue9
  t46 := Tryd.underlying109
  a46 := Tryd.isAgg109
  z46 := Tryd.sizeOf109
  v46 := Tryd.zeroValue109
  t51 := Tryd.underlying114
  a51 := Tryd.isAgg114
  z51 := Tryd.sizeOf114
  v51 := Tryd.zeroValue114
  t146 := Tryd.underlying115
  a146 := Tryd.isAgg115
  z146 := Tryd.sizeOf115
  v146 := Tryd.zeroValue115
  g1 := by kernel_rfl
  i3 := by kernel_rfl
  i4 := by kernel_rfl
  i5 := by kernel_rfl
  i9 := by kernel_rfl
  i46 := by kernel_rfl
  i51 := by kernel_rfl
  i146 := by kernel_rfl
  m1 := by kernel_rfl
  s1_3 := fun w h => Go.Proofs.cell_of_shapedOpen_int (zero := #[.int .i64 0]) (t := 3) h (of_decide_eq_true (by kernel_rfl)) (by kernel_rfl) rfl (by kernel_rfl) (by kernel_rfl) Tryd.underlying3 }
open Go.RowKit Go.Lib in
theorem Tryd.strings_Contains_shaped (s sub : ByteArray) (w : World) (h : w.ShapedOpen Tryd.prog) (hs : s.size < 4294967281) :
    Calls Tryd.prog 76 #[.string s, .string sub] w fun e w' => e = .returned (.bool (Lib.contains s.data.toList sub.data.toList)) ∧ w' = w := Any.strings_Contains_shaped Tryd.laysM144 s sub w h hs
def Tryd.laysM220_ren : Go.Shelf.Ren := ⟨fun | 220 => 63 | 219 => 67 | 217 => 71 | 225 => 72 | 224 => 73 | 267 => 74 | 266 => 79 | 314 => 80 | n => n, fun | 9 => 9 | 4 => 4 | 3 => 3 | 5 => 5 | 46 => 109 | 146 => 115 | 51 => 114 | n => n, fun | 1 => 0 | n => n⟩
theorem Tryd.laysM220 : Go.Proofs.LaysM.n220 Tryd.prog Tryd.laysM220_ren := {
  mixed := by kernel_rfl
  f217 := Tryd.func71.trans (congrArg some (by kernel_rfl))
  f219 := Tryd.func67.trans (congrArg some (by kernel_rfl))
  f220 := Tryd.func63.trans (congrArg some (by kernel_rfl))
  f224 := Tryd.func73.trans (congrArg some (by kernel_rfl))
  f225 := Tryd.func72.trans (congrArg some (by kernel_rfl))
  f266 := Tryd.func79.trans (congrArg some (by kernel_rfl))
  f267 := Tryd.func74.trans (congrArg some (by kernel_rfl))
  f314 := Tryd.func80.trans (congrArg some (by kernel_rfl))
  t3 := Tryd.underlying3
  a3 := Tryd.isAgg3
  z3 := Tryd.sizeOf3
  v3 := Tryd.zeroValue3
  t4 := Tryd.underlying4
  a4 := Tryd.isAgg4
  z4 := Tryd.sizeOf4
  v4 := Tryd.zeroValue4
  t5 := Tryd.underlying5
  a5 := Tryd.isAgg5
  z5 := Tryd.sizeOf5
  v5 := Tryd.zeroValue5
  t9 := Tryd.underlying9
  a9 := Tryd.isAgg9
  z9 := Tryd.sizeOf9
  v9 := Tryd.zeroValue9
  t46 := Tryd.underlying109
  a46 := Tryd.isAgg109
  z46 := Tryd.sizeOf109
  v46 := Tryd.zeroValue109
  t51 := Tryd.underlying114
  a51 := Tryd.isAgg114
  z51 := Tryd.sizeOf114
  v51 := Tryd.zeroValue114
  t146 := Tryd.underlying115
  a146 := Tryd.isAgg115
  z146 := Tryd.sizeOf115
  v146 := Tryd.zeroValue115
  g1 := by kernel_rfl
  i3 := by kernel_rfl
  i4 := by kernel_rfl
  i5 := by kernel_rfl
  i9 := by kernel_rfl
  i46 := by kernel_rfl
  i51 := by kernel_rfl
  i146 := by kernel_rfl
  m1 := by kernel_rfl
  s1_3 := fun w h => Go.Proofs.cell_of_shapedOpen_int (zero := #[.int .i64 0]) (t := 3) h (of_decide_eq_true (by kernel_rfl)) (by kernel_rfl) rfl (by kernel_rfl) (by kernel_rfl) Tryd.underlying3 }
open Go.RowKit Go.Lib in
theorem Tryd.stringslite_Cut_shaped (s sep : ByteArray) (w : World) (h : w.ShapedOpen Tryd.prog) (hs : s.size < 4294967281) :
    Calls Tryd.prog 63 #[.string s, .string sep] w fun e w' => e = .returned (.tuple #[.string ⟨(Lib.cut s.data.toList sep.data.toList).1.toArray⟩, .string ⟨(Lib.cut s.data.toList sep.data.toList).2.1.toArray⟩, .bool (Lib.cut s.data.toList sep.data.toList).2.2]) ∧ ∃ n, w' = w.drewN n := Any.stringslite_Cut_shaped Tryd.laysM220 s sep w h hs
def Tryd.laysM145_ren : Go.Shelf.Ren := ⟨fun | 145 => 57 | 220 => 63 | 219 => 67 | 217 => 71 | 225 => 72 | 224 => 73 | 267 => 74 | 266 => 79 | 314 => 80 | n => n, fun | 9 => 9 | 4 => 4 | 59 => 95 | 3 => 3 | 5 => 5 | 46 => 109 | 146 => 115 | 51 => 114 | n => n, fun | 1 => 0 | n => n⟩
theorem Tryd.laysM145 : Go.Proofs.LaysM.n145 Tryd.prog Tryd.laysM145_ren := {
  mixed := by kernel_rfl
  f145 := Tryd.func57.trans (congrArg some (by kernel_rfl))
  f217 := Tryd.func71.trans (congrArg some (by kernel_rfl))
  f219 := Tryd.func67.trans (congrArg some (by kernel_rfl))
  f220 := Tryd.func63.trans (congrArg some (by kernel_rfl))
  f224 := Tryd.func73.trans (congrArg some (by kernel_rfl))
  f225 := Tryd.func72.trans (congrArg some (by kernel_rfl))
  f266 := Tryd.func79.trans (congrArg some (by kernel_rfl))
  f267 := Tryd.func74.trans (congrArg some (by kernel_rfl))
  f314 := Tryd.func80.trans (congrArg some (by kernel_rfl))
  t3 := Tryd.underlying3
  a3 := Tryd.isAgg3
  z3 := Tryd.sizeOf3
  v3 := Tryd.zeroValue3
  t4 := Tryd.underlying4
  a4 := Tryd.isAgg4
  z4 := Tryd.sizeOf4
  v4 := Tryd.zeroValue4
  t5 := Tryd.underlying5
  a5 := Tryd.isAgg5
  z5 := Tryd.sizeOf5
  v5 := Tryd.zeroValue5
  t9 := Tryd.underlying9
  a9 := Tryd.isAgg9
  z9 := Tryd.sizeOf9
  v9 := Tryd.zeroValue9
  t46 := Tryd.underlying109
  a46 := Tryd.isAgg109
  z46 := Tryd.sizeOf109
  v46 := Tryd.zeroValue109
  t51 := Tryd.underlying114
  a51 := Tryd.isAgg114
  z51 := Tryd.sizeOf114
  v51 := Tryd.zeroValue114
  t59 := Tryd.underlying95
  a59 := Tryd.isAgg95
  z59 := Tryd.sizeOf95
  v59 := Tryd.zeroValue95
  t146 := Tryd.underlying115
  a146 := Tryd.isAgg115
  z146 := Tryd.sizeOf115
  v146 := Tryd.zeroValue115
  g1 := by kernel_rfl
  i3 := by kernel_rfl
  i4 := by kernel_rfl
  i5 := by kernel_rfl
  i9 := by kernel_rfl
  i46 := by kernel_rfl
  i51 := by kernel_rfl
  i59 := by kernel_rfl
  i146 := by kernel_rfl
  m1 := by kernel_rfl
  s1_3 := fun w h => Go.Proofs.cell_of_shapedOpen_int (zero := #[.int .i64 0]) (t := 3) h (of_decide_eq_true (by kernel_rfl)) (by kernel_rfl) rfl (by kernel_rfl) (by kernel_rfl) Tryd.underlying3 }
open Go.RowKit Go.Lib in
theorem Tryd.strings_Cut_shaped (s sep : ByteArray) (w : World) (h : w.ShapedOpen Tryd.prog) (hs : s.size < 4294967281) :
    Calls Tryd.prog 57 #[.string s, .string sep] w fun e w' => e = .returned (.tuple #[.string ⟨(Lib.cut s.data.toList sep.data.toList).1.toArray⟩, .string ⟨(Lib.cut s.data.toList sep.data.toList).2.1.toArray⟩, .bool (Lib.cut s.data.toList sep.data.toList).2.2]) ∧ ∃ n, w' = w.drewN n := Any.strings_Cut_shaped Tryd.laysM145 s sep w h hs
def Tryd.lays108_ren : Go.Shelf.Ren := ⟨fun | 108 => 59 | n => n, fun | 28 => 85 | 3 => 3 | 0 => 0 | 4 => 4 | n => n, fun | n => n⟩
theorem Tryd.lays108 : Go.Proofs.Lays.n108 Tryd.prog Tryd.lays108_ren := {
  mixed := by kernel_rfl
  f108 := Tryd.func59.trans (congrArg some (by kernel_rfl))
  t0 := Tryd.underlying0
  a0 := Tryd.isAgg0
  z0 := Tryd.sizeOf0
  v0 := Tryd.zeroValue0
  t3 := Tryd.underlying3
  a3 := Tryd.isAgg3
  z3 := Tryd.sizeOf3
  v3 := Tryd.zeroValue3
  t4 := Tryd.underlying4
  a4 := Tryd.isAgg4
  z4 := Tryd.sizeOf4
  v4 := Tryd.zeroValue4
  t28 := Tryd.underlying85
  a28 := Tryd.isAgg85
  z28 := Tryd.sizeOf85
  v28 := Tryd.zeroValue85 }
open Go.Lib in
/-- slices.Index at []int: "Index returns the index of the first occurrence of v in s, or -1 if not present.": IT RETURNS 'Lib.idxOf (the elements) v'; the world is as it was. 'zs': what the cells behind the slice's address hold (its spare capacity too, if you have it); 'zs.take n': its elements. (LAID: no walk: one application.) -/
theorem Tryd.slices_Index_int (b off n c : Nat) (zs : List Int) (x : Int) (w : World) (hz : n ≤ zs.length) (hbig : n ≤ 9223372036854775807) (hc : ∀ j, j < zs.length → w.cell? ⟨b, off + j, none⟩ = some (.int .i64 (zs.getD j 0))) :
    Calls Tryd.prog 59 #[.slice (some ⟨b, off, none⟩) n c, .int .i64 x] w fun e w' => e = .returned (.int .i64 (Lib.idxOf (zs.take n) x)) ∧ w' = w := Any.slices_Index_int Tryd.lays108 b off n c zs x w hz hbig hc
open Go.Lib in
/-- The same at a slice of length 0, a nil one too: no cell is known, none is asked for. (LAID: no walk: one application.) -/
theorem Tryd.slices_Index_int_empty (a : Option Addr) (c : Nat) (x : Int) (w : World) :
    Calls Tryd.prog 59 #[.slice a 0 c, .int .i64 x] w fun e w' => e = .returned (.int .i64 (Lib.idxOf [] x)) ∧ w' = w := Any.slices_Index_int_empty Tryd.lays108 a c x w
def Tryd.lays107_ren : Go.Shelf.Ren := ⟨fun | 107 => 47 | 108 => 59 | n => n, fun | 28 => 85 | 3 => 3 | 4 => 4 | 0 => 0 | n => n, fun | n => n⟩
theorem Tryd.lays107 : Go.Proofs.Lays.n107 Tryd.prog Tryd.lays107_ren := {
  mixed := by kernel_rfl
  f107 := Tryd.func47.trans (congrArg some (by kernel_rfl))
  f108 := Tryd.func59.trans (congrArg some (by kernel_rfl))
  t0 := Tryd.underlying0
  a0 := Tryd.isAgg0
  z0 := Tryd.sizeOf0
  v0 := Tryd.zeroValue0
  t3 := Tryd.underlying3
  a3 := Tryd.isAgg3
  z3 := Tryd.sizeOf3
  v3 := Tryd.zeroValue3
  t4 := Tryd.underlying4
  a4 := Tryd.isAgg4
  z4 := Tryd.sizeOf4
  v4 := Tryd.zeroValue4
  t28 := Tryd.underlying85
  a28 := Tryd.isAgg85
  z28 := Tryd.sizeOf85
  v28 := Tryd.zeroValue85 }
open Go.Lib in
/-- slices.Contains at []int: "Contains reports whether v is present in s.": IT RETURNS 'elements.contains v'; the world is as it was. ITS CALLEE slices.Index IS MET BY ITS OWN CONTRACT OFF THE SHELF (lay that first): no loop is walked here. (LAID: no walk: one application.) -/
theorem Tryd.slices_Contains_int (b off n c : Nat) (zs : List Int) (x : Int) (w : World) (hz : n ≤ zs.length) (hbig : n ≤ 9223372036854775807) (hc : ∀ j, j < zs.length → w.cell? ⟨b, off + j, none⟩ = some (.int .i64 (zs.getD j 0))) :
    Calls Tryd.prog 47 #[.slice (some ⟨b, off, none⟩) n c, .int .i64 x] w fun e w' => e = .returned (.bool ((zs.take n).contains x)) ∧ w' = w := Any.slices_Contains_int Tryd.lays107 b off n c zs x w hz hbig hc
open Go.Lib in
/-- The same at a slice of length 0, a nil one too. (LAID: no walk: one application.) -/
theorem Tryd.slices_Contains_int_empty (a : Option Addr) (c : Nat) (x : Int) (w : World) :
    Calls Tryd.prog 47 #[.slice a 0 c, .int .i64 x] w fun e w' => e = .returned (.bool false) ∧ w' = w := Any.slices_Contains_int_empty Tryd.lays107 a c x w
end Go.Proofs.YtemcdiajejekoaaDoor

/- The slim functions of this seat (printed by a program; each is checked against the program by the kernel in SlimOk). -/
namespace Go.Proofs.YtemcdiajejekoaaDoor.Slim
open Go
abbrev f_main_main : FuncId := 0
abbrev f_gosem_cut : FuncId := 1
abbrev f_gosem_cut_init : FuncId := 2
abbrev f_l_FnExactIsValidConsole : FuncId := 3
abbrev f_l_szConsole : FuncId := 4
abbrev f_s_IsValidConsole : FuncId := 5
abbrev f_l_toConsole : FuncId := 6
abbrev f_i_IsValidConsole : FuncId := 7
abbrev f_l_eqConsole : FuncId := 8
abbrev f_l_szStand : FuncId := 9
abbrev f_l_szLog : FuncId := 10
abbrev f_s_l12Good : FuncId := 11
abbrev f_s_l12Valid : FuncId := 12
abbrev f_l_toStand : FuncId := 13
abbrev f_l_toLog : FuncId := 14
abbrev f_i_IsStand : FuncId := 15
abbrev f_i_IsValidLog : FuncId := 16
abbrev f_l_eqStand : FuncId := 17
abbrev f_l_eqLog : FuncId := 18
abbrev f_l_szLoadS : FuncId := 19
abbrev f_l_szStageS : FuncId := 20
abbrev f_s_l2On : FuncId := 21
abbrev f_s_l7Stages : FuncId := 22
abbrev f_s_l1In : FuncId := 23
abbrev f_s_l12Open : FuncId := 24
abbrev f_l_toLoadS : FuncId := 25
abbrev f_l_toStageS : FuncId := 26
abbrev f_i_IsRow : FuncId := 27
abbrev f_i_isBase : FuncId := 28
abbrev f_i_isChain : FuncId := 29
abbrev f_i_within : FuncId := 30
abbrev f_i_logRecords : FuncId := 31
abbrev f_l_eqLoadS : FuncId := 32
abbrev f_l_eqStageS : FuncId := 33
abbrev f_s_l2Row : FuncId := 34
abbrev f_s_l2Base : FuncId := 35
abbrev f_s_l7Stage : FuncId := 36
abbrev f_s_l1Split : FuncId := 37
abbrev f_s_l12Decode : FuncId := 38
abbrev f_l_toLoad : FuncId := 39
abbrev f_l_toStage : FuncId := 40
abbrev f_slices_ContainsFunc_Si_Load_i_Load : FuncId := 41
abbrev f_i_IsRow_1 : FuncId := 42
abbrev f_i_isPlace : FuncId := 43
abbrev f_i_isWeight : FuncId := 44
abbrev f_i_IsStage : FuncId := 45
abbrev f_i_recoverRecords : FuncId := 46
abbrev f_slices_Contains_Sint_int : FuncId := 47
abbrev f_l_eqLoad : FuncId := 48
abbrev f_l_eqStage : FuncId := 49
abbrev f_s_l2In : FuncId := 50
abbrev f_s_l7Two : FuncId := 51
abbrev f_s_l1Num : FuncId := 52
abbrev f_s_l12Record : FuncId := 53
abbrev f_s_l12Line : FuncId := 54
abbrev f_slices_IndexFunc_Si_Load_i_Load : FuncId := 55
abbrev f_i_isRatio : FuncId := 56
abbrev f_strings_Cut : FuncId := 57
abbrev f_i_decode : FuncId := 58
abbrev f_slices_Index_Sint_int : FuncId := 59
abbrev f_s_l12Bytes : FuncId := 60
abbrev f_s_l1Stands : FuncId := 61
abbrev f_s_l1Seal : FuncId := 62
abbrev f_internal_stringslite_Cut : FuncId := 63
abbrev f_i_VerifyChecksum : FuncId := 64
abbrev f_i_EncodeRecord : FuncId := 65
abbrev f_s_l1Sum : FuncId := 66
abbrev f_internal_stringslite_Index : FuncId := 67
abbrev f_i_AppendChecksum : FuncId := 68
abbrev f_i_IsValidRecord : FuncId := 69
abbrev f_strconv_Itoa : FuncId := 70
abbrev f_internal_stringslite_IndexByte : FuncId := 71
abbrev f_internal_bytealg_IndexString : FuncId := 72
abbrev f_internal_bytealg_Cutover : FuncId := 73
abbrev f_internal_bytealg_IndexRabinKarp_string : FuncId := 74
abbrev f_i_Checksum : FuncId := 75
abbrev f_strings_Contains : FuncId := 76
abbrev f_i_isText : FuncId := 77
abbrev f_internal_strconv_Itoa : FuncId := 78
abbrev f_internal_bytealg_IndexByteString : FuncId := 79
abbrev f_internal_bytealg_hashStr_string : FuncId := 80
abbrev f_strings_Index : FuncId := 81
abbrev f_internal_strconv_FormatInt : FuncId := 82
abbrev f_internal_strconv_small : FuncId := 83
abbrev f_internal_strconv_numDigits : FuncId := 84
abbrev f_internal_strconv_formatBase10 : FuncId := 85
abbrev f_internal_strconv_formatBits : FuncId := 86
abbrev f_internal_strconv_log10Pow2 : FuncId := 87
abbrev f_math_bits_Len64 : FuncId := 88
abbrev f_internal_strconv_bool2_int : FuncId := 89
abbrev f_internal_strconv_isPowerOfTwo : FuncId := 90
abbrev f_math_bits_TrailingZeros : FuncId := 91
abbrev f_math_bits_TrailingZeros32 : FuncId := 92
abbrev f_math_bits_TrailingZeros64 : FuncId := 93
abbrev f_runtime_boundsError_Error : FuncId := 94
abbrev f_runtime_boundsError_RuntimeError : FuncId := 95
abbrev f_runtime_errorString_Error : FuncId := 96
abbrev f_runtime_errorString_RuntimeError : FuncId := 97
abbrev f_runtime_plainError_Error : FuncId := 98
abbrev f_runtime_plainError_RuntimeError : FuncId := 99
abbrev f_runtime_errorAddressString_Error : FuncId := 100
abbrev f_runtime_errorAddressString_RuntimeError : FuncId := 101
abbrev f_runtime_TypeAssertionError_Error : FuncId := 102
abbrev f_runtime_TypeAssertionError_RuntimeError : FuncId := 103
abbrev f_runtime_PanicNilError_Error : FuncId := 104
abbrev f_runtime_PanicNilError_RuntimeError : FuncId := 105
abbrev f_internal_abi_Type_Align : FuncId := 106
abbrev f_internal_runtime_maps_unhashableTypeError_Error : FuncId := 107
abbrev f_internal_runtime_maps_unhashableTypeError_RuntimeError : FuncId := 108
abbrev f_internal_abi_Kind_String : FuncId := 109
abbrev f_var_s_door__gosem_cut_vars_holds_initialisers_alone__see_the_manifest_s_row_cutvarsword_look_11__test_files_too : FuncId := 110
abbrev f_var_s_door__internal_strconv_uint64pow10_is_laid_by_its_own_initialiser__plain_data_look_11 : FuncId := 111
abbrev f_var_s_door__math_bits_deBruijn32tab_is_laid_by_its_own_initialiser__plain_data_look_11 : FuncId := 112
abbrev f_var_s_door__math_bits_deBruijn64tab_is_laid_by_its_own_initialiser__plain_data_look_11 : FuncId := 113
abbrev f_var_s_door__the_look_of_gosem_cut_vars_went_over_the_folder_that_the_caller_named_as_the_repository_s_root_look_11 : FuncId := 114
abbrev f_gosem_cut_vars : FuncId := 115
def c_gosem_cut_init : ACode :=
 (.region [⟨.call (.c (.fn f_gosem_cut [] [])) [], none⟩] [])
def a_gosem_cut_init : AFun := ⟨[], 1, c_gosem_cut_init, [], 1⟩
def c_l_FnExactIsValidConsole : ACode :=
 (.seq (.region [⟨.box (.t 0), none⟩, ⟨.mv (.c (.bool false)), none⟩] [(1, 0), (2, 1)])
 (.seq (.region [⟨.mv (.c (.int .i64 (1048576))), none⟩] [(3, 0)])
 (.seq (.region [⟨.load true 9 (.t 1), none⟩, ⟨.mv (.t 3), none⟩, ⟨.call (.c (.fn f_l_szConsole [] [])) [(.l 0), (.l 1)], none⟩, ⟨.mv (.l 2), none⟩] [(3, 3)])
 (.seq (.seq (.region [⟨.mv (.t 3), none⟩, ⟨.bin 0 .lss (.l 0) (.c (.int .i64 (0))), none⟩] [(7, 1)])
 (.cond (.t 7) (.seq (.region [⟨.mv (.c (.bool true)), none⟩] [(2, 0)])
 .ret) .skip))
 (.seq (.region [⟨.load true 9 (.t 1), none⟩, ⟨.call (.c (.fn f_l_toConsole [] [])) [(.l 0)], none⟩, ⟨.call (.c (.fn f_s_IsValidConsole [] [])) [(.l 1)], none⟩, ⟨.mv (.l 2), none⟩] [(4, 3)])
 (.seq (.region [⟨.load true 9 (.t 1), none⟩, ⟨.call (.c (.fn f_l_toConsole [] [])) [(.l 0)], none⟩, ⟨.alloc [.slice none 0 0 none, .int .i64 (0), .int .i64 (0), .slice none 0 0 none, .int .i64 (0), .int .i64 (0), .str ⟨#[]⟩, .str ⟨#[]⟩, .int .i64 (0)], none⟩, ⟨.store 9 (.l 2) (.l 1), none⟩] [(5, 2)])
 (.seq (.region [⟨.load true 9 (.t 5), none⟩, ⟨.call (.c (.fn f_i_IsValidConsole [] [])) [(.l 0)], none⟩, ⟨.mv (.l 1), none⟩] [(6, 2)])
 (.seq (.seq (.region [⟨.mv (.t 6), none⟩, ⟨.mv (.t 4), none⟩, ⟨.bin 2 .neq (.l 0) (.l 1), none⟩] [(8, 2)])
 (.cond (.t 8) (.seq (.region [⟨.mv (.c (.bool false)), none⟩] [(2, 0)])
 .ret) .skip))
 (.seq (.seq (.draw [⟨.load true 9 (.t 5), none, []⟩, ⟨.load true 9 (.t 1), none, []⟩, ⟨.call (.c (.fn f_l_toConsole [] [])) [(.l 1)], none, [(0, ⟨.load true 9 (.t 5), none⟩)]⟩, ⟨.call (.c (.fn f_l_eqConsole [] [])) [(.l 0), (.l 2)], none, []⟩, ⟨.un .not (.l 3), none, []⟩] [(9, 4)])
 (.cond (.t 9) (.seq (.region [⟨.mv (.c (.bool false)), none⟩] [(2, 0)])
 .ret) .skip))
 (.seq (.region [⟨.mv (.c (.bool true)), none⟩] [(2, 0)])
 .ret))))))))))
def a_l_FnExactIsValidConsole : AFun := ⟨[0, 1, 2, 3, 4, 5, 6, 11, 21, 26], 27, c_l_FnExactIsValidConsole, [.tmp 2], 1⟩
def c_l_szConsole : ACode :=
 (.seq (.region [⟨.box (.t 0), none⟩, ⟨.mv (.c (.int .i64 (0))), none⟩] [(2, 0), (3, 1)])
 (.seq (.region [⟨.fieldAddr 0 (.t 2), none⟩, ⟨.load true 6 (.l 0), none⟩, ⟨.mv (.t 1), none⟩, ⟨.call (.c (.fn f_l_szStand [] [])) [(.l 1), (.l 2)], none⟩, ⟨.mv (.l 3), none⟩] [(1, 4)])
 (.seq (.seq (.region [⟨.mv (.t 1), none⟩, ⟨.bin 0 .lss (.l 0) (.c (.int .i64 (0))), none⟩] [(4, 1)])
 (.cond (.t 4) (.seq (.region [⟨.mv (.c (.int .i64 (-1))), none⟩] [(3, 0)])
 .ret) .skip))
 (.seq (.region [⟨.fieldAddr 6 (.t 2), none⟩, ⟨.load true 3 (.l 0), none⟩, ⟨.mv (.t 1), none⟩, ⟨.call (.c (.fn f_l_szLog [] [])) [(.l 1), (.l 2)], none⟩, ⟨.mv (.l 3), none⟩] [(1, 4)])
 (.seq (.seq (.region [⟨.mv (.t 1), none⟩, ⟨.bin 0 .lss (.l 0) (.c (.int .i64 (0))), none⟩] [(5, 1)])
 (.cond (.t 5) (.seq (.region [⟨.mv (.c (.int .i64 (-1))), none⟩] [(3, 0)])
 .ret) .skip))
 (.seq (.region [⟨.mv (.t 1), none⟩, ⟨.mv (.l 0), none⟩] [(3, 1)])
 .ret))))))
def a_l_szConsole : AFun := ⟨[0, 1, 2, 4, 10, 16], 18, c_l_szConsole, [.tmp 3], 1⟩
def c_s_IsValidConsole : ACode :=
 (.seq (.region [⟨.box (.t 0), none⟩, ⟨.mv (.c (.bool false)), none⟩] [(1, 0), (2, 1)])
 (.seq (.region [⟨.fieldAddr 0 (.t 1), none⟩, ⟨.load true 6 (.l 0), none⟩, ⟨.call (.c (.fn f_s_l12Good [] [])) [(.l 1)], none⟩, ⟨.mv (.l 2), none⟩, ⟨.fieldAddr 6 (.t 1), some ((.l 3), true)⟩, ⟨.load true 3 (.l 4), some ((.l 3), true)⟩, ⟨.call (.c (.fn f_s_l12Valid [] [])) [(.l 5)], some ((.l 3), true)⟩, ⟨.pick (.l 3) (.l 6) (.c (.bool false)), none⟩, ⟨.mv (.l 7), none⟩] [(2, 8)])
 .ret))
def a_s_IsValidConsole : AFun := ⟨[0, 1, 2], 11, c_s_IsValidConsole, [.tmp 2], 1⟩
def c_l_toConsole : ACode :=
 (.seq (.region [⟨.box (.t 0), none⟩, ⟨.alloc [.slice none 0 0 none, .int .i64 (0), .int .i64 (0), .slice none 0 0 none, .int .i64 (0), .int .i64 (0), .str ⟨#[]⟩, .str ⟨#[]⟩, .int .i64 (0)], none⟩] [(1, 0), (2, 1)])
 (.seq (.region [⟨.alloc [.slice none 0 0 none, .int .i64 (0), .int .i64 (0), .slice none 0 0 none, .int .i64 (0), .int .i64 (0), .str ⟨#[]⟩, .str ⟨#[]⟩, .int .i64 (0)], none⟩] [(3, 0)])
 (.seq (.region [⟨.fieldAddr 0 (.t 1), none⟩, ⟨.load true 6 (.l 0), none⟩, ⟨.call (.c (.fn f_l_toStand [] [])) [(.l 1)], none⟩, ⟨.fieldAddr 0 (.t 3), none⟩, ⟨.store 6 (.l 3) (.l 2), none⟩] [])
 (.seq (.region [⟨.fieldAddr 6 (.t 1), none⟩, ⟨.load true 3 (.l 0), none⟩, ⟨.call (.c (.fn f_l_toLog [] [])) [(.l 1)], none⟩, ⟨.fieldAddr 6 (.t 3), none⟩, ⟨.store 3 (.l 3) (.l 2), none⟩] [])
 (.seq (.region [⟨.load true 9 (.t 3), none⟩, ⟨.store 9 (.t 2) (.l 0), none⟩] [])
 .ret)))))
def a_l_toConsole : AFun := ⟨[0, 1, 2, 3], 13, c_l_toConsole, [.cell 2 true 9], 2⟩
def c_i_IsValidConsole : ACode :=
 (.seq (.region [⟨.box (.t 0), none⟩, ⟨.mv (.c (.bool false)), none⟩] [(1, 0), (2, 1)])
 (.seq (.region [⟨.fieldAddr 0 (.t 1), none⟩, ⟨.load true 6 (.l 0), none⟩, ⟨.call (.c (.fn f_i_IsStand [] [])) [(.l 1)], none⟩, ⟨.mv (.l 2), none⟩, ⟨.fieldAddr 6 (.t 1), some ((.l 3), true)⟩, ⟨.load true 3 (.l 4), some ((.l 3), true)⟩, ⟨.call (.c (.fn f_i_IsValidLog [] [])) [(.l 5)], some ((.l 3), true)⟩, ⟨.pick (.l 3) (.l 6) (.c (.bool false)), none⟩, ⟨.mv (.l 7), none⟩] [(2, 8)])
 .ret))
def a_i_IsValidConsole : AFun := ⟨[0, 1, 2], 11, c_i_IsValidConsole, [.tmp 2], 1⟩
def c_l_eqConsole : ACode :=
 (.seq (.region [⟨.box (.t 0), none⟩, ⟨.box (.t 1), none⟩, ⟨.mv (.c (.bool false)), none⟩] [(2, 0), (3, 1), (4, 2)])
 (.seq (.seq (.region [⟨.fieldAddr 0 (.t 2), none⟩, ⟨.load true 6 (.l 0), none⟩, ⟨.fieldAddr 0 (.t 3), none⟩, ⟨.load true 6 (.l 2), none⟩, ⟨.call (.c (.fn f_l_eqStand [] [])) [(.l 1), (.l 3)], none⟩, ⟨.un .not (.l 4), none⟩] [(5, 5)])
 (.cond (.t 5) (.seq (.region [⟨.mv (.c (.bool false)), none⟩] [(4, 0)])
 .ret) .skip))
 (.seq (.seq (.region [⟨.fieldAddr 6 (.t 2), none⟩, ⟨.load true 3 (.l 0), none⟩, ⟨.fieldAddr 6 (.t 3), none⟩, ⟨.load true 3 (.l 2), none⟩, ⟨.call (.c (.fn f_l_eqLog [] [])) [(.l 1), (.l 3)], none⟩, ⟨.un .not (.l 4), none⟩] [(6, 5)])
 (.cond (.t 6) (.seq (.region [⟨.mv (.c (.bool false)), none⟩] [(4, 0)])
 .ret) .skip))
 (.seq (.region [⟨.mv (.c (.bool true)), none⟩] [(4, 0)])
 .ret))))
def a_l_eqConsole : AFun := ⟨[0, 1, 2, 3, 4, 10, 16], 17, c_l_eqConsole, [.tmp 4], 1⟩
def c_l_szStand : ACode :=
 (.seq (.region [⟨.box (.t 0), none⟩, ⟨.mv (.c (.int .i64 (0))), none⟩] [(2, 0), (3, 1)])
 (.seq (.region [⟨.fieldAddr 0 (.t 2), none⟩, ⟨.load false 1 (.l 0), none⟩, ⟨.mv (.t 1), none⟩, ⟨.call (.c (.fn f_l_szLoadS [] [])) [(.l 1), (.l 2)], none⟩, ⟨.mv (.l 3), none⟩] [(1, 4)])
 (.seq (.seq (.region [⟨.mv (.t 1), none⟩, ⟨.bin 0 .lss (.l 0) (.c (.int .i64 (0))), none⟩] [(4, 1)])
 (.cond (.t 4) (.seq (.region [⟨.mv (.c (.int .i64 (-1))), none⟩] [(3, 0)])
 .ret) .skip))
 (.seq (.region [⟨.fieldAddr 3 (.t 2), none⟩, ⟨.load false 1 (.l 0), none⟩, ⟨.mv (.t 1), none⟩, ⟨.call (.c (.fn f_l_szStageS [] [])) [(.l 1), (.l 2)], none⟩, ⟨.mv (.l 3), none⟩] [(1, 4)])
 (.seq (.seq (.region [⟨.mv (.t 1), none⟩, ⟨.bin 0 .lss (.l 0) (.c (.int .i64 (0))), none⟩] [(5, 1)])
 (.cond (.t 5) (.seq (.region [⟨.mv (.c (.int .i64 (-1))), none⟩] [(3, 0)])
 .ret) .skip))
 (.seq (.region [⟨.mv (.t 1), none⟩, ⟨.mv (.l 0), none⟩] [(3, 1)])
 .ret))))))
def a_l_szStand : AFun := ⟨[0, 1, 2, 4, 10, 16], 18, c_l_szStand, [.tmp 3], 1⟩
def c_l_szLog : ACode :=
 (.seq (.region [⟨.box (.t 0), none⟩, ⟨.mv (.c (.int .i64 (0))), none⟩] [(2, 0), (3, 1)])
 (.seq (.region [⟨.mv (.t 1), none⟩, ⟨.fieldAddr 0 (.t 2), none⟩, ⟨.load false 1 (.l 1), none⟩, ⟨.lenStr (.l 2), none⟩, ⟨.bin 0 .sub (.l 0) (.l 3), none⟩, ⟨.mv (.l 4), none⟩] [(1, 5)])
 (.seq (.seq (.region [⟨.mv (.t 1), none⟩, ⟨.bin 0 .lss (.l 0) (.c (.int .i64 (0))), none⟩] [(4, 1)])
 (.cond (.t 4) (.seq (.region [⟨.mv (.c (.int .i64 (-1))), none⟩] [(3, 0)])
 .ret) .skip))
 (.seq (.region [⟨.mv (.t 1), none⟩, ⟨.fieldAddr 1 (.t 2), none⟩, ⟨.load false 1 (.l 1), none⟩, ⟨.lenStr (.l 2), none⟩, ⟨.bin 0 .sub (.l 0) (.l 3), none⟩, ⟨.mv (.l 4), none⟩] [(1, 5)])
 (.seq (.seq (.region [⟨.mv (.t 1), none⟩, ⟨.bin 0 .lss (.l 0) (.c (.int .i64 (0))), none⟩] [(5, 1)])
 (.cond (.t 5) (.seq (.region [⟨.mv (.c (.int .i64 (-1))), none⟩] [(3, 0)])
 .ret) .skip))
 (.seq (.region [⟨.mv (.t 1), none⟩, ⟨.mv (.l 0), none⟩] [(3, 1)])
 .ret))))))
def a_l_szLog : AFun := ⟨[0, 1, 2, 4, 11, 18], 20, c_l_szLog, [.tmp 3], 1⟩
def c_s_l12Good : ACode :=
 (.seq (.region [⟨.box (.t 0), none⟩, ⟨.mv (.c (.bool false)), none⟩] [(1, 0), (2, 1)])
 (.seq (.seq (.region [⟨.fieldAddr 0 (.t 1), none⟩, ⟨.load false 1 (.l 0), none⟩, ⟨.fieldAddr 1 (.t 1), none⟩, ⟨.load false 1 (.l 2), none⟩, ⟨.fieldAddr 2 (.t 1), none⟩, ⟨.load false 1 (.l 4), none⟩, ⟨.call (.c (.fn f_s_l2On [] [])) [(.l 1), (.l 3), (.l 5)], none⟩, ⟨.un .not (.l 6), none⟩, ⟨.mv (.l 7), none⟩, ⟨.fieldAddr 3 (.t 1), some ((.l 8), false)⟩, ⟨.load false 1 (.l 9), some ((.l 8), false)⟩, ⟨.call (.c (.fn f_s_l7Stages [] [])) [(.l 10), (.c (.int .i64 (5)))], some ((.l 8), false)⟩, ⟨.un .not (.l 11), some ((.l 8), false)⟩, ⟨.pick (.l 8) (.c (.bool true)) (.l 12), none⟩] [(3, 13)])
 (.cond (.t 3) (.seq (.region [⟨.mv (.c (.bool false)), none⟩] [(2, 0)])
 .ret) .skip))
 (.seq (.region [⟨.fieldAddr 5 (.t 1), none⟩, ⟨.load false 1 (.l 0), none⟩, ⟨.call (.c (.fn f_s_l1In [] [])) [(.l 1), (.c (.int .i64 (0))), (.c (.int .i64 (1000)))], none⟩, ⟨.mv (.l 2), none⟩, ⟨.fieldAddr 4 (.t 1), some ((.l 3), true)⟩, ⟨.load false 1 (.l 4), some ((.l 3), true)⟩, ⟨.fieldAddr 5 (.t 1), some ((.l 3), true)⟩, ⟨.load false 1 (.l 6), some ((.l 3), true)⟩, ⟨.call (.c (.fn f_s_l1In [] [])) [(.l 5), (.c (.int .i64 (0))), (.l 7)], some ((.l 3), true)⟩, ⟨.pick (.l 3) (.l 8) (.c (.bool false)), none⟩, ⟨.mv (.l 9), none⟩] [(2, 10)])
 .ret)))
def a_s_l12Good : AFun := ⟨[0, 1, 2, 16], 27, c_s_l12Good, [.tmp 2], 1⟩
def c_s_l12Valid : ACode :=
 (.seq (.region [⟨.box (.t 0), none⟩, ⟨.mv (.c (.bool false)), none⟩] [(1, 0), (2, 1)])
 (.seq (.seq (.region [⟨.fieldAddr 0 (.t 1), none⟩, ⟨.load false 1 (.l 0), none⟩, ⟨.lenStr (.l 1), none⟩, ⟨.fieldAddr 1 (.t 1), none⟩, ⟨.load false 1 (.l 3), none⟩, ⟨.lenStr (.l 4), none⟩, ⟨.bin 0 .add (.l 2) (.l 5), none⟩, ⟨.bin 0 .gtr (.l 6) (.c (.int .i64 (30000))), none⟩] [(6, 7)])
 (.cond (.t 6) (.seq (.region [⟨.mv (.c (.bool false)), none⟩] [(2, 0)])
 .ret) .skip))
 (.seq (.region [⟨.fieldAddr 0 (.t 1), none⟩, ⟨.load false 1 (.l 0), none⟩, ⟨.fieldAddr 1 (.t 1), none⟩, ⟨.load false 1 (.l 2), none⟩, ⟨.bin 1 .add (.l 1) (.l 3), none⟩, ⟨.call (.c (.fn f_s_l12Open [] [])) [(.l 4)], none⟩, ⟨.mv (.l 5), none⟩, ⟨.extract 0 (.l 6), none⟩, ⟨.extract 1 (.l 6), none⟩, ⟨.mv (.l 7), none⟩, ⟨.mv (.l 8), none⟩] [(3, 9), (4, 10)])
 (.seq (.region [⟨.fieldAddr 0 (.t 1), none⟩, ⟨.load false 1 (.l 0), none⟩, ⟨.call (.c (.fn f_s_l12Open [] [])) [(.l 1)], none⟩, ⟨.mv (.l 2), none⟩, ⟨.extract 0 (.l 3), none⟩, ⟨.extract 1 (.l 3), none⟩, ⟨.mv (.l 4), none⟩, ⟨.mv (.l 5), none⟩] [(5, 7)])
 (.seq (.region [⟨.mv (.t 4), none⟩, ⟨.fieldAddr 0 (.t 1), none⟩, ⟨.load false 1 (.l 1), none⟩, ⟨.lenStr (.l 2), none⟩, ⟨.fieldAddr 1 (.t 1), none⟩, ⟨.load false 1 (.l 4), none⟩, ⟨.lenStr (.l 5), none⟩, ⟨.bin 0 .add (.l 3) (.l 6), none⟩, ⟨.bin 0 .eql (.l 0) (.l 7), none⟩, ⟨.mv (.l 8), none⟩, ⟨.mv (.t 5), some ((.l 9), true)⟩, ⟨.fieldAddr 0 (.t 1), some ((.l 9), true)⟩, ⟨.load false 1 (.l 11), some ((.l 9), true)⟩, ⟨.lenStr (.l 12), some ((.l 9), true)⟩, ⟨.bin 0 .eql (.l 10) (.l 13), some ((.l 9), true)⟩, ⟨.pick (.l 9) (.l 14) (.c (.bool false)), none⟩, ⟨.mv (.l 15), none⟩, ⟨.mv (.t 3), some ((.l 16), true)⟩, ⟨.len (.l 17), some ((.l 16), true)⟩, ⟨.fieldAddr 2 (.t 1), some ((.l 16), true)⟩, ⟨.load false 1 (.l 19), some ((.l 16), true)⟩, ⟨.bin 0 .eql (.l 18) (.l 20), some ((.l 16), true)⟩, ⟨.pick (.l 16) (.l 21) (.c (.bool false)), none⟩, ⟨.mv (.l 22), none⟩] [(2, 23)])
 .ret)))))
def a_s_l12Valid : AFun := ⟨[0, 1, 2, 3, 4, 6, 14], 53, c_s_l12Valid, [.tmp 2], 1⟩
def c_l_toStand : ACode :=
 (.seq (.region [⟨.box (.t 0), none⟩, ⟨.alloc [.slice none 0 0 none, .int .i64 (0), .int .i64 (0), .slice none 0 0 none, .int .i64 (0), .int .i64 (0)], none⟩] [(1, 0), (2, 1)])
 (.seq (.region [⟨.alloc [.slice none 0 0 none, .int .i64 (0), .int .i64 (0), .slice none 0 0 none, .int .i64 (0), .int .i64 (0)], none⟩] [(3, 0)])
 (.seq (.region [⟨.fieldAddr 0 (.t 1), none⟩, ⟨.load false 1 (.l 0), none⟩, ⟨.call (.c (.fn f_l_toLoadS [] [])) [(.l 1)], none⟩, ⟨.fieldAddr 0 (.t 3), none⟩, ⟨.store 1 (.l 3) (.l 2), none⟩] [])
 (.seq (.region [⟨.fieldAddr 1 (.t 1), none⟩, ⟨.load false 1 (.l 0), none⟩, ⟨.fieldAddr 1 (.t 3), none⟩, ⟨.store 1 (.l 2) (.l 1), none⟩] [])
 (.seq (.region [⟨.fieldAddr 2 (.t 1), none⟩, ⟨.load false 1 (.l 0), none⟩, ⟨.fieldAddr 2 (.t 3), none⟩, ⟨.store 1 (.l 2) (.l 1), none⟩] [])
 (.seq (.region [⟨.fieldAddr 3 (.t 1), none⟩, ⟨.load false 1 (.l 0), none⟩, ⟨.call (.c (.fn f_l_toStageS [] [])) [(.l 1)], none⟩, ⟨.fieldAddr 3 (.t 3), none⟩, ⟨.store 1 (.l 3) (.l 2), none⟩] [])
 (.seq (.region [⟨.fieldAddr 4 (.t 1), none⟩, ⟨.load false 1 (.l 0), none⟩, ⟨.fieldAddr 4 (.t 3), none⟩, ⟨.store 1 (.l 2) (.l 1), none⟩] [])
 (.seq (.region [⟨.fieldAddr 5 (.t 1), none⟩, ⟨.load false 1 (.l 0), none⟩, ⟨.fieldAddr 5 (.t 3), none⟩, ⟨.store 1 (.l 2) (.l 1), none⟩] [])
 (.seq (.region [⟨.load true 6 (.t 3), none⟩, ⟨.store 6 (.t 2) (.l 0), none⟩] [])
 .ret)))))))))
def a_l_toStand : AFun := ⟨[0, 1, 2, 3], 25, c_l_toStand, [.cell 2 true 6], 2⟩
def c_l_toLog : ACode :=
 (.seq (.region [⟨.box (.t 0), none⟩, ⟨.alloc [.str ⟨#[]⟩, .str ⟨#[]⟩, .int .i64 (0)], none⟩] [(1, 0), (2, 1)])
 (.seq (.region [⟨.alloc [.str ⟨#[]⟩, .str ⟨#[]⟩, .int .i64 (0)], none⟩] [(3, 0)])
 (.seq (.region [⟨.fieldAddr 0 (.t 1), none⟩, ⟨.load false 1 (.l 0), none⟩, ⟨.fieldAddr 0 (.t 3), none⟩, ⟨.store 1 (.l 2) (.l 1), none⟩] [])
 (.seq (.region [⟨.fieldAddr 1 (.t 1), none⟩, ⟨.load false 1 (.l 0), none⟩, ⟨.fieldAddr 1 (.t 3), none⟩, ⟨.store 1 (.l 2) (.l 1), none⟩] [])
 (.seq (.region [⟨.fieldAddr 2 (.t 1), none⟩, ⟨.load false 1 (.l 0), none⟩, ⟨.fieldAddr 2 (.t 3), none⟩, ⟨.store 1 (.l 2) (.l 1), none⟩] [])
 (.seq (.region [⟨.load true 3 (.t 3), none⟩, ⟨.store 3 (.t 2) (.l 0), none⟩] [])
 .ret))))))
def a_l_toLog : AFun := ⟨[0, 1, 2, 3], 14, c_l_toLog, [.cell 2 true 3], 1⟩
def c_i_IsStand : ACode :=
 (.seq (.region [⟨.box (.t 0), none⟩, ⟨.mv (.c (.bool false)), none⟩] [(1, 0), (2, 1)])
 (.seq (.region [⟨.fieldAddr 0 (.t 1), none⟩, ⟨.load false 1 (.l 0), none⟩, ⟨.call (.c (.fn f_i_IsRow [] [])) [(.l 1)], none⟩, ⟨.mv (.l 2), none⟩, ⟨.fieldAddr 1 (.t 1), some ((.l 3), true)⟩, ⟨.load false 1 (.l 4), some ((.l 3), true)⟩, ⟨.fieldAddr 2 (.t 1), some ((.l 3), true)⟩, ⟨.load false 1 (.l 6), some ((.l 3), true)⟩, ⟨.call (.c (.fn f_i_isBase [] [])) [(.l 5), (.l 7)], some ((.l 3), true)⟩, ⟨.pick (.l 3) (.l 8) (.c (.bool false)), none⟩, ⟨.mv (.l 9), none⟩, ⟨.fieldAddr 3 (.t 1), some ((.l 10), true)⟩, ⟨.load false 1 (.l 11), some ((.l 10), true)⟩, ⟨.call (.c (.fn f_i_isChain [] [])) [(.l 12)], some ((.l 10), true)⟩, ⟨.pick (.l 10) (.l 13) (.c (.bool false)), none⟩, ⟨.mv (.l 14), none⟩, ⟨.fieldAddr 5 (.t 1), some ((.l 15), true)⟩, ⟨.load false 1 (.l 16), some ((.l 15), true)⟩, ⟨.call (.c (.fn f_i_within [] [])) [(.l 17), (.c (.int .i64 (0))), (.c (.int .i64 (1000)))], some ((.l 15), true)⟩, ⟨.pick (.l 15) (.l 18) (.c (.bool false)), none⟩, ⟨.mv (.l 19), none⟩, ⟨.fieldAddr 4 (.t 1), some ((.l 20), true)⟩, ⟨.load false 1 (.l 21), some ((.l 20), true)⟩, ⟨.fieldAddr 5 (.t 1), some ((.l 20), true)⟩, ⟨.load false 1 (.l 23), some ((.l 20), true)⟩, ⟨.call (.c (.fn f_i_within [] [])) [(.l 22), (.c (.int .i64 (0))), (.l 24)], some ((.l 20), true)⟩, ⟨.pick (.l 20) (.l 25) (.c (.bool false)), none⟩, ⟨.mv (.l 26), none⟩] [(2, 27)])
 .ret))
def a_i_IsStand : AFun := ⟨[0, 1, 2], 30, c_i_IsStand, [.tmp 2], 1⟩
def c_i_IsValidLog : ACode :=
 (.seq (.region [⟨.box (.t 0), none⟩, ⟨.mv (.c (.bool false)), none⟩] [(1, 0), (2, 1)])
 (.seq (.region [⟨.load true 3 (.t 1), none⟩, ⟨.call (.c (.fn f_i_logRecords [] [])) [(.l 0)], none⟩, ⟨.mv (.l 1), none⟩, ⟨.extract 0 (.l 2), none⟩, ⟨.extract 1 (.l 2), none⟩, ⟨.mv (.l 3), none⟩, ⟨.mv (.l 4), none⟩] [(3, 6)])
 (.seq (.region [⟨.mv (.t 3), none⟩, ⟨.mv (.l 0), none⟩] [(2, 1)])
 .ret)))
def a_i_IsValidLog : AFun := ⟨[0, 1, 2, 4], 11, c_i_IsValidLog, [.tmp 2], 1⟩
def c_l_eqStand : ACode :=
 (.seq (.region [⟨.box (.t 0), none⟩, ⟨.box (.t 1), none⟩, ⟨.mv (.c (.bool false)), none⟩] [(2, 0), (3, 1), (4, 2)])
 (.seq (.seq (.region [⟨.fieldAddr 0 (.t 2), none⟩, ⟨.load false 1 (.l 0), none⟩, ⟨.fieldAddr 0 (.t 3), none⟩, ⟨.load false 1 (.l 2), none⟩, ⟨.call (.c (.fn f_l_eqLoadS [] [])) [(.l 1), (.l 3)], none⟩, ⟨.un .not (.l 4), none⟩] [(5, 5)])
 (.cond (.t 5) (.seq (.region [⟨.mv (.c (.bool false)), none⟩] [(4, 0)])
 .ret) .skip))
 (.seq (.seq (.region [⟨.fieldAddr 1 (.t 2), none⟩, ⟨.load false 1 (.l 0), none⟩, ⟨.fieldAddr 1 (.t 3), none⟩, ⟨.load false 1 (.l 2), none⟩, ⟨.bin 0 .neq (.l 1) (.l 3), none⟩] [(6, 4)])
 (.cond (.t 6) (.seq (.region [⟨.mv (.c (.bool false)), none⟩] [(4, 0)])
 .ret) .skip))
 (.seq (.seq (.region [⟨.fieldAddr 2 (.t 2), none⟩, ⟨.load false 1 (.l 0), none⟩, ⟨.fieldAddr 2 (.t 3), none⟩, ⟨.load false 1 (.l 2), none⟩, ⟨.bin 0 .neq (.l 1) (.l 3), none⟩] [(7, 4)])
 (.cond (.t 7) (.seq (.region [⟨.mv (.c (.bool false)), none⟩] [(4, 0)])
 .ret) .skip))
 (.seq (.seq (.region [⟨.fieldAddr 3 (.t 2), none⟩, ⟨.load false 1 (.l 0), none⟩, ⟨.fieldAddr 3 (.t 3), none⟩, ⟨.load false 1 (.l 2), none⟩, ⟨.call (.c (.fn f_l_eqStageS [] [])) [(.l 1), (.l 3)], none⟩, ⟨.un .not (.l 4), none⟩] [(8, 5)])
 (.cond (.t 8) (.seq (.region [⟨.mv (.c (.bool false)), none⟩] [(4, 0)])
 .ret) .skip))
 (.seq (.seq (.region [⟨.fieldAddr 4 (.t 2), none⟩, ⟨.load false 1 (.l 0), none⟩, ⟨.fieldAddr 4 (.t 3), none⟩, ⟨.load false 1 (.l 2), none⟩, ⟨.bin 0 .neq (.l 1) (.l 3), none⟩] [(9, 4)])
 (.cond (.t 9) (.seq (.region [⟨.mv (.c (.bool false)), none⟩] [(4, 0)])
 .ret) .skip))
 (.seq (.seq (.region [⟨.fieldAddr 5 (.t 2), none⟩, ⟨.load false 1 (.l 0), none⟩, ⟨.fieldAddr 5 (.t 3), none⟩, ⟨.load false 1 (.l 2), none⟩, ⟨.bin 0 .neq (.l 1) (.l 3), none⟩] [(10, 4)])
 (.cond (.t 10) (.seq (.region [⟨.mv (.c (.bool false)), none⟩] [(4, 0)])
 .ret) .skip))
 (.seq (.region [⟨.mv (.c (.bool true)), none⟩] [(4, 0)])
 .ret))))))))
def a_l_eqStand : AFun := ⟨[0, 1, 2, 3, 4, 10, 15, 20, 26, 31, 36], 37, c_l_eqStand, [.tmp 4], 1⟩
def c_l_eqLog : ACode :=
 (.seq (.region [⟨.box (.t 0), none⟩, ⟨.box (.t 1), none⟩, ⟨.mv (.c (.bool false)), none⟩] [(2, 0), (3, 1), (4, 2)])
 (.seq (.seq (.region [⟨.fieldAddr 0 (.t 2), none⟩, ⟨.load false 1 (.l 0), none⟩, ⟨.fieldAddr 0 (.t 3), none⟩, ⟨.load false 1 (.l 2), none⟩, ⟨.bin 1 .neq (.l 1) (.l 3), none⟩] [(5, 4)])
 (.cond (.t 5) (.seq (.region [⟨.mv (.c (.bool false)), none⟩] [(4, 0)])
 .ret) .skip))
 (.seq (.seq (.region [⟨.fieldAddr 1 (.t 2), none⟩, ⟨.load false 1 (.l 0), none⟩, ⟨.fieldAddr 1 (.t 3), none⟩, ⟨.load false 1 (.l 2), none⟩, ⟨.bin 1 .neq (.l 1) (.l 3), none⟩] [(6, 4)])
 (.cond (.t 6) (.seq (.region [⟨.mv (.c (.bool false)), none⟩] [(4, 0)])
 .ret) .skip))
 (.seq (.seq (.region [⟨.fieldAddr 2 (.t 2), none⟩, ⟨.load false 1 (.l 0), none⟩, ⟨.fieldAddr 2 (.t 3), none⟩, ⟨.load false 1 (.l 2), none⟩, ⟨.bin 0 .neq (.l 1) (.l 3), none⟩] [(7, 4)])
 (.cond (.t 7) (.seq (.region [⟨.mv (.c (.bool false)), none⟩] [(4, 0)])
 .ret) .skip))
 (.seq (.region [⟨.mv (.c (.bool true)), none⟩] [(4, 0)])
 .ret)))))
def a_l_eqLog : AFun := ⟨[0, 1, 2, 3, 4, 9, 14, 19], 20, c_l_eqLog, [.tmp 4], 1⟩
def c_l_szLoadS : ACode :=
 (.seq (.region [⟨.mv (.c (.int .i64 (0))), none⟩] [(2, 0)])
 (.seq (.region [⟨.mv (.t 1), none⟩, ⟨.mv (.t 0), none⟩, ⟨.len (.l 1), none⟩, ⟨.bin 0 .sub (.l 0) (.l 2), none⟩, ⟨.mv (.l 3), none⟩] [(1, 4)])
 (.seq (.seq (.region [⟨.mv (.t 1), none⟩, ⟨.bin 0 .lss (.l 0) (.c (.int .i64 (0))), none⟩] [(3, 1)])
 (.cond (.t 3) (.seq (.region [⟨.mv (.c (.int .i64 (-1))), none⟩] [(2, 0)])
 .ret) .skip))
 (.seq (.region [⟨.mv (.t 1), none⟩, ⟨.mv (.l 0), none⟩] [(2, 1)])
 .ret))))
def a_l_szLoadS : AFun := ⟨[0, 1, 4, 10], 12, c_l_szLoadS, [.tmp 2], 1⟩
def c_l_szStageS : ACode :=
 (.seq (.region [⟨.mv (.c (.int .i64 (0))), none⟩] [(2, 0)])
 (.seq (.region [⟨.mv (.t 1), none⟩, ⟨.mv (.t 0), none⟩, ⟨.len (.l 1), none⟩, ⟨.bin 0 .sub (.l 0) (.l 2), none⟩, ⟨.mv (.l 3), none⟩] [(1, 4)])
 (.seq (.seq (.region [⟨.mv (.t 1), none⟩, ⟨.bin 0 .lss (.l 0) (.c (.int .i64 (0))), none⟩] [(3, 1)])
 (.cond (.t 3) (.seq (.region [⟨.mv (.c (.int .i64 (-1))), none⟩] [(2, 0)])
 .ret) .skip))
 (.seq (.region [⟨.mv (.t 1), none⟩, ⟨.mv (.l 0), none⟩] [(2, 1)])
 .ret))))
def a_l_szStageS : AFun := ⟨[0, 1, 4, 10], 12, c_l_szStageS, [.tmp 2], 1⟩
def c_s_l2On : ACode :=
 (.seq (.region [⟨.mv (.c (.bool false)), none⟩] [(3, 0)])
 (.seq (.region [⟨.mv (.t 0), none⟩, ⟨.call (.c (.fn f_s_l2Row [] [])) [(.l 0)], none⟩, ⟨.mv (.l 1), none⟩, ⟨.mv (.t 1), some ((.l 2), true)⟩, ⟨.mv (.t 2), some ((.l 2), true)⟩, ⟨.call (.c (.fn f_s_l2Base [] [])) [(.l 3), (.l 4)], some ((.l 2), true)⟩, ⟨.pick (.l 2) (.l 5) (.c (.bool false)), none⟩, ⟨.mv (.l 6), none⟩] [(3, 7)])
 .ret))
def a_s_l2On : AFun := ⟨[0, 1, 2, 6], 14, c_s_l2On, [.tmp 3], 1⟩
def w_s_l7Stages_1 : ACode :=
 (.seq (.seq (.region [⟨.mv (.t 3), none⟩, ⟨.mv (.t 0), none⟩, ⟨.len (.l 1), none⟩, ⟨.bin 0 .lss (.l 0) (.l 2), none⟩] [(4, 3)])
 (.cond (.t 4) .skip (.exit 0)))
 (.seq (.block 1 (.seq (.region [⟨.mv (.t 0), none⟩, ⟨.mv (.t 3), none⟩, ⟨.indexAddrS 3 (.l 0) (.l 1), none⟩, ⟨.load true 3 (.l 2), none⟩, ⟨.call (.c (.fn f_s_l7Stage [] [])) [(.l 3)], none⟩, ⟨.un .not (.l 4), none⟩] [(5, 5)])
 (.cond (.t 5) (.seq (.region [⟨.mv (.c (.bool false)), none⟩] [(2, 0)])
 .ret) .skip)))
 (.region [⟨.mv (.t 3), none⟩, ⟨.bin 0 .add (.l 0) (.c (.int .i64 (1))), none⟩, ⟨.mv (.l 1), none⟩] [(3, 2)])))
def c_s_l7Stages : ACode :=
 (.seq (.region [⟨.mv (.c (.bool false)), none⟩] [(2, 0)])
 (.seq (.seq (.region [⟨.mv (.c (.int .i64 (0))), none⟩] [(3, 0)])
 (.block 0 (.loop w_s_l7Stages_1)))
 (.seq (.region [⟨.mv (.t 0), none⟩, ⟨.len (.l 0), none⟩, ⟨.mv (.t 1), none⟩, ⟨.bin 0 .leq (.l 1) (.l 2), none⟩, ⟨.mv (.l 3), none⟩] [(2, 4)])
 .ret)))
def a_s_l7Stages : AFun := ⟨[0, 1, 4, 5, 9, 17], 22, c_s_l7Stages, [.tmp 2], 1⟩
def c_s_l1In : ACode :=
 (.seq (.region [⟨.mv (.c (.bool false)), none⟩] [(3, 0)])
 (.seq (.region [⟨.mv (.t 0), none⟩, ⟨.mv (.t 1), none⟩, ⟨.bin 0 .geq (.l 0) (.l 1), none⟩, ⟨.mv (.l 2), none⟩, ⟨.mv (.t 0), some ((.l 3), true)⟩, ⟨.mv (.t 2), some ((.l 3), true)⟩, ⟨.bin 0 .leq (.l 4) (.l 5), some ((.l 3), true)⟩, ⟨.pick (.l 3) (.l 6) (.c (.bool false)), none⟩, ⟨.mv (.l 7), none⟩] [(3, 8)])
 .ret))
def a_s_l1In : AFun := ⟨[0, 1, 2, 6], 15, c_s_l1In, [.tmp 3], 1⟩
def w_s_l12Open_1 : ACode :=
 (.seq (.seq (.region [⟨.mv (.t 4), none⟩, ⟨.mv (.t 0), none⟩, ⟨.lenStr (.l 1), none⟩, ⟨.bin 0 .lss (.l 0) (.l 2), none⟩, ⟨.mv (.l 3), none⟩, ⟨.mv (.t 3), some ((.l 4), true)⟩, ⟨.len (.l 5), some ((.l 4), true)⟩, ⟨.bin 0 .lss (.l 6) (.c (.int .i64 (60))), some ((.l 4), true)⟩, ⟨.pick (.l 4) (.l 7) (.c (.bool false)), none⟩] [(8, 8)])
 (.cond (.t 8) .skip (.exit 0)))
 (.block 1 (.seq (.region [⟨.mv (.t 0), none⟩, ⟨.mv (.t 4), none⟩, ⟨.sliceStr (.l 0) (some (.l 1)) none, none⟩, ⟨.call (.c (.fn f_s_l1Split [] [])) [(.l 2), (.c (.int .u8 (10)))], none⟩, ⟨.mv (.l 3), none⟩] [(5, 4)])
 (.seq (.region [⟨.mv (.t 5), none⟩, ⟨.indexAddrS 1 (.l 0) (.c (.int .i64 (0))), none⟩, ⟨.load false 1 (.l 1), none⟩, ⟨.mv (.t 3), none⟩, ⟨.len (.l 3), none⟩, ⟨.call (.c (.fn f_s_l12Decode [] [])) [(.l 2), (.l 4)], none⟩, ⟨.mv (.l 5), none⟩, ⟨.extract 0 (.l 6), none⟩, ⟨.extract 1 (.l 6), none⟩, ⟨.alloc [.str ⟨#[]⟩, .str ⟨#[]⟩], none⟩, ⟨.store 2 (.l 9) (.l 7), none⟩, ⟨.mv (.l 8), none⟩] [(6, 9), (7, 11)])
 (.seq (.seq (.region [⟨.mv (.t 5), none⟩, ⟨.len (.l 0), none⟩, ⟨.bin 0 .lss (.l 1) (.c (.int .i64 (2))), none⟩, ⟨.mv (.l 2), none⟩, ⟨.mv (.t 7), some ((.l 3), false)⟩, ⟨.un .not (.l 4), some ((.l 3), false)⟩, ⟨.pick (.l 3) (.c (.bool true)) (.l 5), none⟩] [(9, 6)])
 (.cond (.t 9) (.exit 0) .skip))
 (.seq (.region [⟨.mv (.t 3), none⟩, ⟨.load true 2 (.t 6), none⟩, ⟨.buildSlice 2 1 [.str ⟨#[]⟩, .str ⟨#[]⟩] [(0, 2, (.l 1))], none⟩, ⟨.append false 2 32 (.l 0) (.l 2), none⟩, ⟨.mv (.l 3), none⟩] [(3, 4)])
 (.region [⟨.mv (.t 4), none⟩, ⟨.mv (.t 5), none⟩, ⟨.indexAddrS 1 (.l 1) (.c (.int .i64 (0))), none⟩, ⟨.load false 1 (.l 2), none⟩, ⟨.lenStr (.l 3), none⟩, ⟨.bin 0 .add (.l 0) (.l 4), none⟩, ⟨.bin 0 .add (.l 5) (.c (.int .i64 (1))), none⟩, ⟨.mv (.l 6), none⟩] [(4, 7)])))))))
def c_s_l12Open : ACode :=
 (.seq (.region [⟨.mv (.c (.slice none 0 0 none)), none⟩, ⟨.mv (.c (.int .i64 (0))), none⟩] [(1, 0), (2, 1)])
 (.seq (.region [⟨.buildSlice 2 0 [] [], none⟩, ⟨.mv (.l 0), none⟩] [(3, 1)])
 (.seq (.region [⟨.mv (.c (.int .i64 (0))), none⟩] [(4, 0)])
 (.seq (.block 0 (.loop w_s_l12Open_1))
 (.seq (.region [⟨.mv (.t 3), none⟩, ⟨.mv (.t 4), none⟩, ⟨.mv (.l 0), none⟩, ⟨.mv (.l 1), none⟩] [(1, 2), (2, 3)])
 .ret)))))
def a_s_l12Open : AFun := ⟨[0, 2, 3, 4, 5, 6, 7, 8, 18, 38], 52, c_s_l12Open, [.tmp 1, .tmp 2], 2⟩
def w_l_toLoadS_1 : ACode :=
 (.seq (.seq (.region [⟨.mv (.t 3), none⟩, ⟨.mv (.t 0), none⟩, ⟨.len (.l 1), none⟩, ⟨.bin 0 .lss (.l 0) (.l 2), none⟩] [(4, 3)])
 (.cond (.t 4) .skip (.exit 0)))
 (.seq (.block 1 (.region [⟨.mv (.t 2), none⟩, ⟨.mv (.t 3), none⟩, ⟨.mv (.t 0), none⟩, ⟨.mv (.t 3), none⟩, ⟨.indexAddrS 2 (.l 2) (.l 3), none⟩, ⟨.load true 2 (.l 4), none⟩, ⟨.call (.c (.fn f_l_toLoad [] [])) [(.l 5)], none⟩, ⟨.indexAddrS 2 (.l 0) (.l 1), none⟩, ⟨.store 2 (.l 7) (.l 6), none⟩] []))
 (.region [⟨.mv (.t 3), none⟩, ⟨.bin 0 .add (.l 0) (.c (.int .i64 (1))), none⟩, ⟨.mv (.l 1), none⟩] [(3, 2)])))
def c_l_toLoadS : ACode :=
 (.seq (.region [⟨.mv (.c (.slice none 0 0 none)), none⟩] [(1, 0)])
 (.seq (.region [⟨.mv (.t 0), none⟩, ⟨.len (.l 0), none⟩, ⟨.makeSlice 2 16 [.int .i64 (0), .int .i64 (0)] (.l 1) (.l 1), none⟩, ⟨.mv (.l 2), none⟩] [(2, 3)])
 (.seq (.seq (.region [⟨.mv (.c (.int .i64 (0))), none⟩] [(3, 0)])
 (.block 0 (.loop w_l_toLoadS_1)))
 (.seq (.region [⟨.mv (.t 2), none⟩, ⟨.mv (.l 0), none⟩] [(1, 1)])
 .ret))))
def a_l_toLoadS : AFun := ⟨[0, 2, 3, 4, 11], 23, c_l_toLoadS, [.tmp 1], 2⟩
def w_l_toStageS_1 : ACode :=
 (.seq (.seq (.region [⟨.mv (.t 3), none⟩, ⟨.mv (.t 0), none⟩, ⟨.len (.l 1), none⟩, ⟨.bin 0 .lss (.l 0) (.l 2), none⟩] [(4, 3)])
 (.cond (.t 4) .skip (.exit 0)))
 (.seq (.block 1 (.region [⟨.mv (.t 2), none⟩, ⟨.mv (.t 3), none⟩, ⟨.mv (.t 0), none⟩, ⟨.mv (.t 3), none⟩, ⟨.indexAddrS 3 (.l 2) (.l 3), none⟩, ⟨.load true 3 (.l 4), none⟩, ⟨.call (.c (.fn f_l_toStage [] [])) [(.l 5)], none⟩, ⟨.indexAddrS 3 (.l 0) (.l 1), none⟩, ⟨.store 3 (.l 7) (.l 6), none⟩] []))
 (.region [⟨.mv (.t 3), none⟩, ⟨.bin 0 .add (.l 0) (.c (.int .i64 (1))), none⟩, ⟨.mv (.l 1), none⟩] [(3, 2)])))
def c_l_toStageS : ACode :=
 (.seq (.region [⟨.mv (.c (.slice none 0 0 none)), none⟩] [(1, 0)])
 (.seq (.region [⟨.mv (.t 0), none⟩, ⟨.len (.l 0), none⟩, ⟨.makeSlice 3 24 [.int .i64 (0), .int .i64 (0), .int .i64 (0)] (.l 1) (.l 1), none⟩, ⟨.mv (.l 2), none⟩] [(2, 3)])
 (.seq (.seq (.region [⟨.mv (.c (.int .i64 (0))), none⟩] [(3, 0)])
 (.block 0 (.loop w_l_toStageS_1)))
 (.seq (.region [⟨.mv (.t 2), none⟩, ⟨.mv (.l 0), none⟩] [(1, 1)])
 .ret))))
def a_l_toStageS : AFun := ⟨[0, 2, 3, 4, 11], 23, c_l_toStageS, [.tmp 1], 2⟩
def c_i_IsRow : ACode :=
 (.seq (.region [⟨.mv (.c (.bool false)), none⟩] [(1, 0)])
 (.seq (.seq (.region [⟨.mv (.t 0), none⟩, ⟨.len (.l 0), none⟩, ⟨.bin 0 .gtr (.l 1) (.c (.int .i64 (12))), none⟩] [(2, 2)])
 (.cond (.t 2) (.seq (.region [⟨.mv (.c (.bool false)), none⟩] [(1, 0)])
 .ret) .skip))
 (.seq (.region [⟨.mv (.t 0), none⟩, ⟨.call (.c (.fn f_slices_ContainsFunc_Si_Load_i_Load [] [])) [(.l 0), (.c (.fn f_i_IsRow_1 [] []))], none⟩, ⟨.un .not (.l 1), none⟩, ⟨.mv (.l 2), none⟩] [(1, 3)])
 .ret)))
def a_i_IsRow : AFun := ⟨[0, 2, 5], 9, c_i_IsRow, [.tmp 1], 1⟩
def c_i_isBase : ACode :=
 (.seq (.region [⟨.mv (.c (.bool false)), none⟩] [(2, 0)])
 (.seq (.region [⟨.mv (.t 0), none⟩, ⟨.call (.c (.fn f_i_isPlace [] [])) [(.l 0)], none⟩, ⟨.mv (.l 1), none⟩, ⟨.mv (.t 1), some ((.l 2), true)⟩, ⟨.call (.c (.fn f_i_isPlace [] [])) [(.l 3)], some ((.l 2), true)⟩, ⟨.pick (.l 2) (.l 4) (.c (.bool false)), none⟩, ⟨.mv (.l 5), none⟩, ⟨.mv (.t 0), some ((.l 6), true)⟩, ⟨.mv (.t 1), some ((.l 6), true)⟩, ⟨.bin 0 .leq (.l 7) (.l 8), some ((.l 6), true)⟩, ⟨.pick (.l 6) (.l 9) (.c (.bool false)), none⟩, ⟨.mv (.l 10), none⟩] [(2, 11)])
 .ret))
def a_i_isBase : AFun := ⟨[0, 1, 4], 16, c_i_isBase, [.tmp 2], 1⟩
def w_i_isChain_1 : ACode :=
 (.seq (.region [⟨.bin 0 .lss (.t 5) (.t 4), none⟩] [(6, 0)])
 (.seq (.cond (.t 6) .skip (.exit 0))
 (.seq (.block 1 (.seq (.region [⟨.indexAddrS 3 (.t 3) (.t 5), none⟩, ⟨.load true 3 (.l 0), none⟩, ⟨.alloc [.int .i64 (0), .int .i64 (0), .int .i64 (0)], none⟩, ⟨.store 3 (.l 2) (.l 1), none⟩] [(2, 2)])
 (.seq (.region [⟨.load true 3 (.t 2), none⟩, ⟨.call (.c (.fn f_i_IsStage [] [])) [(.l 0)], none⟩, ⟨.un .not (.l 1), none⟩] [(7, 2)])
 (.cond (.t 7) (.seq (.region [⟨.mv (.c (.bool false)), none⟩] [(1, 0)])
 .ret) .skip))))
 (.region [⟨.bin 0 .add (.t 5) (.c (.int .i64 (1))), none⟩, ⟨.mv (.l 0), none⟩] [(5, 1)]))))
def c_i_isChain : ACode :=
 (.seq (.region [⟨.mv (.c (.bool false)), none⟩] [(1, 0)])
 (.seq (.seq (.region [⟨.mv (.t 0), none⟩, ⟨.len (.l 0), none⟩, ⟨.mv (.c (.int .i64 (0))), none⟩] [(3, 0), (4, 1), (5, 2)])
 (.block 0 (.loop w_i_isChain_1)))
 (.seq (.region [⟨.mv (.t 0), none⟩, ⟨.len (.l 0), none⟩, ⟨.bin 0 .leq (.l 1) (.c (.int .i64 (5))), none⟩, ⟨.mv (.l 2), none⟩] [(1, 3)])
 .ret)))
def a_i_isChain : AFun := ⟨[0, 2, 4, 5, 6, 7, 8, 13], 18, c_i_isChain, [.tmp 1], 1⟩
def c_i_within : ACode :=
 (.seq (.region [⟨.mv (.c (.bool false)), none⟩] [(3, 0)])
 (.seq (.region [⟨.mv (.t 0), none⟩, ⟨.mv (.t 1), none⟩, ⟨.bin 0 .geq (.l 0) (.l 1), none⟩, ⟨.mv (.l 2), none⟩, ⟨.mv (.t 0), some ((.l 3), true)⟩, ⟨.mv (.t 2), some ((.l 3), true)⟩, ⟨.bin 0 .leq (.l 4) (.l 5), some ((.l 3), true)⟩, ⟨.pick (.l 3) (.l 6) (.c (.bool false)), none⟩, ⟨.mv (.l 7), none⟩] [(3, 8)])
 .ret))
def a_i_within : AFun := ⟨[0, 1, 2, 6], 15, c_i_within, [.tmp 3], 1⟩
def c_i_logRecords : ACode :=
 (.seq (.region [⟨.box (.t 0), none⟩, ⟨.mv (.c (.slice none 0 0 none)), none⟩, ⟨.mv (.c (.bool false)), none⟩] [(1, 0), (2, 1), (3, 2)])
 (.seq (.region [⟨.fieldAddr 0 (.t 1), none⟩, ⟨.load false 1 (.l 0), none⟩, ⟨.fieldAddr 1 (.t 1), none⟩, ⟨.load false 1 (.l 2), none⟩, ⟨.bin 1 .add (.l 1) (.l 3), none⟩, ⟨.mv (.l 4), none⟩] [(4, 5)])
 (.seq (.seq (.region [⟨.mv (.t 4), none⟩, ⟨.lenStr (.l 0), none⟩, ⟨.bin 0 .gtr (.l 1) (.c (.int .i64 (30000))), none⟩] [(7, 2)])
 (.cond (.t 7) (.seq (.region [⟨.mv (.c (.slice none 0 0 none)), none⟩, ⟨.mv (.c (.bool false)), none⟩] [(2, 0), (3, 1)])
 .ret) .skip))
 (.seq (.region [⟨.mv (.t 4), none⟩, ⟨.call (.c (.fn f_i_recoverRecords [] [])) [(.l 0)], none⟩, ⟨.mv (.l 1), none⟩, ⟨.extract 0 (.l 2), none⟩, ⟨.extract 1 (.l 2), none⟩, ⟨.mv (.l 3), none⟩, ⟨.mv (.l 4), none⟩] [(5, 5), (6, 6)])
 (.seq (.region [⟨.buildSlice 1 1 [.int .i64 (0)] [(0, 1, (.c (.int .i64 (0))))], none⟩, ⟨.mv (.t 6), none⟩, ⟨.append false 1 8 (.l 0) (.l 1), none⟩, ⟨.mv (.l 2), none⟩] [(6, 3)])
 (.seq (.draw [⟨.mv (.t 5), none, []⟩, ⟨.mv (.t 6), none, []⟩, ⟨.mv (.t 6), none, []⟩, ⟨.len (.l 2), none, []⟩, ⟨.bin 0 .sub (.l 3) (.c (.int .i64 (1))), none, []⟩, ⟨.indexAddrS 1 (.l 1) (.l 4), none, []⟩, ⟨.load false 1 (.l 5), none, []⟩, ⟨.mv (.t 4), none, []⟩, ⟨.lenStr (.l 7), none, []⟩, ⟨.bin 0 .eql (.l 6) (.l 8), none, []⟩, ⟨.mv (.l 9), none, []⟩, ⟨.mv (.t 6), some ((.l 10), true), []⟩, ⟨.fieldAddr 0 (.t 1), some ((.l 10), true), []⟩, ⟨.load false 1 (.l 12), some ((.l 10), true), []⟩, ⟨.lenStr (.l 13), some ((.l 10), true), []⟩, ⟨.call (.c (.fn f_slices_Contains_Sint_int [] [])) [(.l 11), (.l 14)], some ((.l 10), true), []⟩, ⟨.pick (.l 10) (.l 15) (.c (.bool false)), none, []⟩, ⟨.mv (.l 16), none, []⟩, ⟨.fieldAddr 2 (.t 1), some ((.l 17), true), []⟩, ⟨.load false 1 (.l 18), some ((.l 17), true), []⟩, ⟨.mv (.t 5), some ((.l 17), true), []⟩, ⟨.len (.l 20), some ((.l 17), true), []⟩, ⟨.bin 0 .eql (.l 19) (.l 21), some ((.l 17), true), []⟩, ⟨.pick (.l 17) (.l 22) (.c (.bool false)), none, []⟩, ⟨.mv (.l 0), none, []⟩, ⟨.mv (.l 23), none, []⟩] [(2, 24), (3, 25)])
 .ret))))))
def a_i_logRecords : AFun := ⟨[0, 1, 2, 3, 4, 5, 6, 14], 47, c_i_logRecords, [.tmp 2, .tmp 3], 2⟩
def w_l_eqLoadS_1 : ACode :=
 (.seq (.seq (.region [⟨.mv (.t 3), none⟩, ⟨.mv (.t 0), none⟩, ⟨.len (.l 1), none⟩, ⟨.bin 0 .lss (.l 0) (.l 2), none⟩] [(5, 3)])
 (.cond (.t 5) .skip (.exit 0)))
 (.seq (.block 1 (.seq (.draw [⟨.mv (.t 0), none, []⟩, ⟨.mv (.t 3), none, []⟩, ⟨.indexAddrS 2 (.l 0) (.l 1), none, []⟩, ⟨.load true 2 (.l 2), none, []⟩, ⟨.mv (.t 1), none, []⟩, ⟨.mv (.t 3), none, []⟩, ⟨.indexAddrS 2 (.l 4) (.l 5), none, []⟩, ⟨.load true 2 (.l 6), none, []⟩, ⟨.call (.c (.fn f_l_eqLoad [] [])) [(.l 3), (.l 7)], none, []⟩, ⟨.un .not (.l 8), none, []⟩] [(6, 9)])
 (.cond (.t 6) (.seq (.region [⟨.mv (.c (.bool false)), none⟩] [(2, 0)])
 .ret) .skip)))
 (.region [⟨.mv (.t 3), none⟩, ⟨.bin 0 .add (.l 0) (.c (.int .i64 (1))), none⟩, ⟨.mv (.l 1), none⟩] [(3, 2)])))
def c_l_eqLoadS : ACode :=
 (.seq (.region [⟨.mv (.c (.bool false)), none⟩] [(2, 0)])
 (.seq (.seq (.region [⟨.mv (.t 0), none⟩, ⟨.len (.l 0), none⟩, ⟨.mv (.t 1), none⟩, ⟨.len (.l 2), none⟩, ⟨.bin 0 .neq (.l 1) (.l 3), none⟩] [(4, 4)])
 (.cond (.t 4) (.seq (.region [⟨.mv (.c (.bool false)), none⟩] [(2, 0)])
 .ret) .skip))
 (.seq (.seq (.region [⟨.mv (.c (.int .i64 (0))), none⟩] [(3, 0)])
 (.block 0 (.loop w_l_eqLoadS_1)))
 (.seq (.region [⟨.mv (.c (.bool true)), none⟩] [(2, 0)])
 .ret))))
def a_l_eqLoadS : AFun := ⟨[0, 1, 4, 5, 10, 14, 26], 27, c_l_eqLoadS, [.tmp 2], 1⟩
def w_l_eqStageS_1 : ACode :=
 (.seq (.seq (.region [⟨.mv (.t 3), none⟩, ⟨.mv (.t 0), none⟩, ⟨.len (.l 1), none⟩, ⟨.bin 0 .lss (.l 0) (.l 2), none⟩] [(5, 3)])
 (.cond (.t 5) .skip (.exit 0)))
 (.seq (.block 1 (.seq (.draw [⟨.mv (.t 0), none, []⟩, ⟨.mv (.t 3), none, []⟩, ⟨.indexAddrS 3 (.l 0) (.l 1), none, []⟩, ⟨.load true 3 (.l 2), none, []⟩, ⟨.mv (.t 1), none, []⟩, ⟨.mv (.t 3), none, []⟩, ⟨.indexAddrS 3 (.l 4) (.l 5), none, []⟩, ⟨.load true 3 (.l 6), none, []⟩, ⟨.call (.c (.fn f_l_eqStage [] [])) [(.l 3), (.l 7)], none, []⟩, ⟨.un .not (.l 8), none, []⟩] [(6, 9)])
 (.cond (.t 6) (.seq (.region [⟨.mv (.c (.bool false)), none⟩] [(2, 0)])
 .ret) .skip)))
 (.region [⟨.mv (.t 3), none⟩, ⟨.bin 0 .add (.l 0) (.c (.int .i64 (1))), none⟩, ⟨.mv (.l 1), none⟩] [(3, 2)])))
def c_l_eqStageS : ACode :=
 (.seq (.region [⟨.mv (.c (.bool false)), none⟩] [(2, 0)])
 (.seq (.seq (.region [⟨.mv (.t 0), none⟩, ⟨.len (.l 0), none⟩, ⟨.mv (.t 1), none⟩, ⟨.len (.l 2), none⟩, ⟨.bin 0 .neq (.l 1) (.l 3), none⟩] [(4, 4)])
 (.cond (.t 4) (.seq (.region [⟨.mv (.c (.bool false)), none⟩] [(2, 0)])
 .ret) .skip))
 (.seq (.seq (.region [⟨.mv (.c (.int .i64 (0))), none⟩] [(3, 0)])
 (.block 0 (.loop w_l_eqStageS_1)))
 (.seq (.region [⟨.mv (.c (.bool true)), none⟩] [(2, 0)])
 .ret))))
def a_l_eqStageS : AFun := ⟨[0, 1, 4, 5, 10, 14, 26], 27, c_l_eqStageS, [.tmp 2], 1⟩
def w_s_l2Row_1 : ACode :=
 (.seq (.seq (.region [⟨.mv (.t 2), none⟩, ⟨.mv (.t 0), none⟩, ⟨.len (.l 1), none⟩, ⟨.bin 0 .lss (.l 0) (.l 2), none⟩, ⟨.mv (.l 3), none⟩, ⟨.mv (.t 2), some ((.l 4), true)⟩, ⟨.bin 0 .leq (.l 5) (.c (.int .i64 (12))), some ((.l 4), true)⟩, ⟨.pick (.l 4) (.l 6) (.c (.bool false)), none⟩] [(3, 7)])
 (.cond (.t 3) .skip (.exit 0)))
 (.seq (.block 1 (.seq (.region [⟨.mv (.t 0), none⟩, ⟨.mv (.t 2), none⟩, ⟨.indexAddrS 2 (.l 0) (.l 1), none⟩, ⟨.fieldAddr 0 (.l 2), none⟩, ⟨.load false 1 (.l 3), none⟩, ⟨.call (.c (.fn f_s_l2In [] [])) [(.l 4)], none⟩, ⟨.un .not (.l 5), none⟩, ⟨.mv (.l 6), none⟩, ⟨.mv (.t 0), some ((.l 7), false)⟩, ⟨.mv (.t 2), some ((.l 7), false)⟩, ⟨.indexAddrS 2 (.l 8) (.l 9), some ((.l 7), false)⟩, ⟨.fieldAddr 1 (.l 10), some ((.l 7), false)⟩, ⟨.load false 1 (.l 11), some ((.l 7), false)⟩, ⟨.call (.c (.fn f_s_l1In [] [])) [(.l 12), (.c (.int .i64 (1))), (.c (.int .i64 (99)))], some ((.l 7), false)⟩, ⟨.un .not (.l 13), some ((.l 7), false)⟩, ⟨.pick (.l 7) (.c (.bool true)) (.l 14), none⟩] [(4, 15)])
 (.cond (.t 4) (.seq (.region [⟨.mv (.c (.bool false)), none⟩] [(1, 0)])
 .ret) .skip)))
 (.region [⟨.mv (.t 2), none⟩, ⟨.bin 0 .add (.l 0) (.c (.int .i64 (1))), none⟩, ⟨.mv (.l 1), none⟩] [(2, 2)])))
def c_s_l2Row : ACode :=
 (.seq (.region [⟨.mv (.c (.bool false)), none⟩] [(1, 0)])
 (.seq (.seq (.region [⟨.mv (.c (.int .i64 (0))), none⟩] [(2, 0)])
 (.block 0 (.loop w_s_l2Row_1)))
 (.seq (.region [⟨.mv (.t 0), none⟩, ⟨.len (.l 0), none⟩, ⟨.bin 0 .leq (.l 1) (.c (.int .i64 (12))), none⟩, ⟨.mv (.l 2), none⟩] [(1, 3)])
 .ret)))
def a_s_l2Row : AFun := ⟨[0, 2, 3, 11, 29], 33, c_s_l2Row, [.tmp 1], 1⟩
def c_s_l2Base : ACode :=
 (.seq (.region [⟨.mv (.c (.bool false)), none⟩] [(2, 0)])
 (.seq (.region [⟨.mv (.t 0), none⟩, ⟨.call (.c (.fn f_s_l2In [] [])) [(.l 0)], none⟩, ⟨.mv (.l 1), none⟩, ⟨.mv (.t 1), some ((.l 2), true)⟩, ⟨.call (.c (.fn f_s_l2In [] [])) [(.l 3)], some ((.l 2), true)⟩, ⟨.pick (.l 2) (.l 4) (.c (.bool false)), none⟩, ⟨.mv (.l 5), none⟩, ⟨.mv (.t 0), some ((.l 6), true)⟩, ⟨.mv (.t 1), some ((.l 6), true)⟩, ⟨.bin 0 .leq (.l 7) (.l 8), some ((.l 6), true)⟩, ⟨.pick (.l 6) (.l 9) (.c (.bool false)), none⟩, ⟨.mv (.l 10), none⟩] [(2, 11)])
 .ret))
def a_s_l2Base : AFun := ⟨[0, 1, 4], 16, c_s_l2Base, [.tmp 2], 1⟩
def c_s_l7Stage : ACode :=
 (.seq (.region [⟨.box (.t 0), none⟩, ⟨.mv (.c (.bool false)), none⟩] [(1, 0), (2, 1)])
 (.seq (.seq (.region [⟨.fieldAddr 0 (.t 1), none⟩, ⟨.load false 1 (.l 0), none⟩] [(3, 1)])
 (.block 0 (.seq (.seq (.region [⟨.bin 0 .eql (.t 3) (.c (.int .i64 (1))), none⟩, ⟨.mv (.l 0), none⟩] [(4, 1)])
 (.cond (.t 4) .skip (.region [⟨.bin 0 .eql (.t 3) (.c (.int .i64 (3))), none⟩, ⟨.mv (.l 0), none⟩] [(4, 1)])))
 (.cond (.t 4) (.seq (.region [⟨.fieldAddr 1 (.t 1), none⟩, ⟨.load false 1 (.l 0), none⟩, ⟨.fieldAddr 2 (.t 1), none⟩, ⟨.load false 1 (.l 2), none⟩, ⟨.call (.c (.fn f_s_l7Two [] [])) [(.l 1), (.l 3)], none⟩, ⟨.mv (.l 4), none⟩] [(2, 5)])
 .ret) (.seq (.region [⟨.bin 0 .eql (.t 3) (.c (.int .i64 (2))), none⟩, ⟨.mv (.l 0), none⟩] [(5, 1)])
 (.cond (.t 5) (.seq (.region [⟨.fieldAddr 1 (.t 1), none⟩, ⟨.load false 1 (.l 0), none⟩, ⟨.call (.c (.fn f_s_l1In [] [])) [(.l 1), (.c (.int .i64 (1))), (.c (.int .i64 (24)))], none⟩, ⟨.mv (.l 2), none⟩, ⟨.fieldAddr 2 (.t 1), some ((.l 3), true)⟩, ⟨.load false 1 (.l 4), some ((.l 3), true)⟩, ⟨.bin 0 .eql (.l 5) (.c (.int .i64 (0))), some ((.l 3), true)⟩, ⟨.pick (.l 3) (.l 6) (.c (.bool false)), none⟩, ⟨.mv (.l 7), none⟩] [(2, 8)])
 .ret) (.seq (.region [⟨.bin 0 .eql (.t 3) (.c (.int .i64 (4))), none⟩, ⟨.mv (.l 0), none⟩] [(6, 1)])
 (.cond (.t 6) (.seq (.region [⟨.fieldAddr 1 (.t 1), none⟩, ⟨.load false 1 (.l 0), none⟩, ⟨.fieldAddr 2 (.t 1), none⟩, ⟨.load false 1 (.l 2), none⟩, ⟨.call (.c (.fn f_s_l7Two [] [])) [(.l 1), (.l 3)], none⟩, ⟨.mv (.l 4), none⟩, ⟨.fieldAddr 1 (.t 1), some ((.l 5), true)⟩, ⟨.load false 1 (.l 6), some ((.l 5), true)⟩, ⟨.fieldAddr 2 (.t 1), some ((.l 5), true)⟩, ⟨.load false 1 (.l 8), some ((.l 5), true)⟩, ⟨.bin 0 .geq (.l 7) (.l 9), some ((.l 5), true)⟩, ⟨.pick (.l 5) (.l 10) (.c (.bool false)), none⟩, ⟨.mv (.l 11), none⟩] [(2, 12)])
 .ret) (.seq (.region [⟨.bin 0 .eql (.t 3) (.c (.int .i64 (5))), none⟩, ⟨.mv (.l 0), none⟩] [(7, 1)])
 (.cond (.t 7) (.seq (.region [⟨.fieldAddr 1 (.t 1), none⟩, ⟨.load false 1 (.l 0), none⟩, ⟨.fieldAddr 2 (.t 1), none⟩, ⟨.load false 1 (.l 2), none⟩, ⟨.call (.c (.fn f_s_l7Two [] [])) [(.l 1), (.l 3)], none⟩, ⟨.mv (.l 4), none⟩, ⟨.fieldAddr 1 (.t 1), some ((.l 5), true)⟩, ⟨.load false 1 (.l 6), some ((.l 5), true)⟩, ⟨.fieldAddr 2 (.t 1), some ((.l 5), true)⟩, ⟨.load false 1 (.l 8), some ((.l 5), true)⟩, ⟨.bin 0 .gtr (.l 7) (.l 9), some ((.l 5), true)⟩, ⟨.pick (.l 5) (.l 10) (.c (.bool false)), none⟩, ⟨.mv (.l 11), none⟩] [(2, 12)])
 .ret) .skip))))))))))
 (.seq (.region [⟨.mv (.c (.bool false)), none⟩] [(2, 0)])
 .ret)))
def a_s_l7Stage : AFun := ⟨[0, 1, 2, 4, 5, 13, 23, 37], 51, c_s_l7Stage, [.tmp 2], 1⟩
def w_s_l1Split_1 : ACode :=
 (.seq (.seq (.region [⟨.mv (.t 5), none⟩, ⟨.mv (.t 0), none⟩, ⟨.lenStr (.l 1), none⟩, ⟨.bin 0 .lss (.l 0) (.l 2), none⟩] [(6, 3)])
 (.cond (.t 6) .skip (.exit 0)))
 (.seq (.block 1 (.seq (.region [⟨.mv (.t 0), none⟩, ⟨.mv (.t 5), none⟩, ⟨.indexS (.l 0) (.l 1), none⟩, ⟨.mv (.t 1), none⟩, ⟨.bin 0 .eql (.l 2) (.l 3), none⟩] [(7, 4)])
 (.cond (.t 7) (.seq (.region [⟨.mv (.t 3), none⟩, ⟨.mv (.t 0), none⟩, ⟨.mv (.t 4), none⟩, ⟨.mv (.t 5), none⟩, ⟨.sliceStr (.l 1) (some (.l 2)) (some (.l 3)), none⟩, ⟨.buildSlice 1 1 [.str ⟨#[]⟩] [(0, 1, (.l 4))], none⟩, ⟨.append false 1 16 (.l 0) (.l 5), none⟩, ⟨.mv (.l 6), none⟩] [(3, 7)])
 (.region [⟨.mv (.t 5), none⟩, ⟨.bin 0 .add (.l 0) (.c (.int .i64 (1))), none⟩, ⟨.mv (.l 1), none⟩] [(4, 2)])) .skip)))
 (.region [⟨.mv (.t 5), none⟩, ⟨.bin 0 .add (.l 0) (.c (.int .i64 (1))), none⟩, ⟨.mv (.l 1), none⟩] [(5, 2)])))
def c_s_l1Split : ACode :=
 (.seq (.region [⟨.mv (.c (.slice none 0 0 none)), none⟩] [(2, 0)])
 (.seq (.region [⟨.buildSlice 1 0 [] [], none⟩, ⟨.mv (.l 0), none⟩] [(3, 1)])
 (.seq (.region [⟨.mv (.c (.int .i64 (0))), none⟩] [(4, 0)])
 (.seq (.seq (.region [⟨.mv (.c (.int .i64 (0))), none⟩] [(5, 0)])
 (.block 0 (.loop w_s_l1Split_1)))
 (.seq (.region [⟨.mv (.t 3), none⟩, ⟨.mv (.t 0), none⟩, ⟨.mv (.t 4), none⟩, ⟨.sliceStr (.l 1) (some (.l 2)) none, none⟩, ⟨.buildSlice 1 1 [.str ⟨#[]⟩] [(0, 1, (.l 3))], none⟩, ⟨.append false 1 16 (.l 0) (.l 4), none⟩, ⟨.mv (.l 5), none⟩] [(2, 6)])
 .ret)))))
def a_s_l1Split : AFun := ⟨[0, 1, 4, 5, 6, 7, 12, 19], 35, c_s_l1Split, [.tmp 2], 2⟩
def c_s_l12Decode : ACode :=
 (.seq (.region [⟨.alloc [.str ⟨#[]⟩, .str ⟨#[]⟩], none⟩, ⟨.mv (.c (.bool false)), none⟩] [(2, 0), (3, 1)])
 (.seq (.region [⟨.mv (.t 1), none⟩, ⟨.call (.c (.fn f_s_l1Num [] [])) [(.l 0)], none⟩, ⟨.bin 1 .add (.l 1) (.c (.str ⟨#[32]⟩)), none⟩, ⟨.mv (.l 2), none⟩] [(4, 3)])
 (.seq (.region [⟨.mv (.t 0), none⟩, ⟨.call (.c (.fn f_s_l1Split [] [])) [(.l 0), (.c (.int .u8 (35)))], none⟩, ⟨.indexAddrS 1 (.l 1) (.c (.int .i64 (0))), none⟩, ⟨.load false 1 (.l 2), none⟩, ⟨.mv (.l 3), none⟩] [(5, 4)])
 (.seq (.seq (.region [⟨.mv (.t 5), none⟩, ⟨.lenStr (.l 0), none⟩, ⟨.mv (.t 4), none⟩, ⟨.lenStr (.l 2), none⟩, ⟨.bin 0 .lss (.l 1) (.l 3), none⟩, ⟨.mv (.l 4), none⟩, ⟨.mv (.t 5), some ((.l 5), false)⟩, ⟨.mv (.t 4), some ((.l 5), false)⟩, ⟨.lenStr (.l 7), some ((.l 5), false)⟩, ⟨.sliceStr (.l 6) none (some (.l 8)), some ((.l 5), false)⟩, ⟨.mv (.t 4), some ((.l 5), false)⟩, ⟨.bin 1 .neq (.l 9) (.l 10), some ((.l 5), false)⟩, ⟨.pick (.l 5) (.c (.bool true)) (.l 11), none⟩] [(9, 12)])
 (.cond (.t 9) (.seq (.region [⟨.build [.str ⟨#[]⟩, .str ⟨#[]⟩] [], none⟩, ⟨.store 2 (.t 2) (.l 0), none⟩, ⟨.mv (.c (.bool false)), none⟩] [(3, 2)])
 .ret) .skip))
 (.seq (.region [⟨.mv (.t 5), none⟩, ⟨.mv (.t 4), none⟩, ⟨.lenStr (.l 1), none⟩, ⟨.sliceStr (.l 0) (some (.l 2)) none, none⟩, ⟨.mv (.l 3), none⟩] [(6, 4)])
 (.seq (.region [⟨.mv (.t 6), none⟩, ⟨.call (.c (.fn f_s_l1Split [] [])) [(.l 0), (.c (.int .u8 (64)))], none⟩, ⟨.indexAddrS 1 (.l 1) (.c (.int .i64 (0))), none⟩, ⟨.load false 1 (.l 2), none⟩, ⟨.mv (.l 3), none⟩] [(7, 4)])
 (.seq (.seq (.region [⟨.mv (.t 7), none⟩, ⟨.lenStr (.l 0), none⟩, ⟨.mv (.t 6), none⟩, ⟨.lenStr (.l 2), none⟩, ⟨.bin 0 .eql (.l 1) (.l 3), none⟩] [(10, 4)])
 (.cond (.t 10) (.seq (.region [⟨.build [.str ⟨#[]⟩, .str ⟨#[]⟩] [], none⟩, ⟨.store 2 (.t 2) (.l 0), none⟩, ⟨.mv (.c (.bool false)), none⟩] [(3, 2)])
 .ret) .skip))
 (.seq (.region [⟨.mv (.t 7), none⟩, ⟨.mv (.t 6), none⟩, ⟨.mv (.t 7), none⟩, ⟨.lenStr (.l 2), none⟩, ⟨.bin 0 .add (.l 3) (.c (.int .i64 (1))), none⟩, ⟨.sliceStr (.l 1) (some (.l 4)) none, none⟩, ⟨.build [.str ⟨#[]⟩, .str ⟨#[]⟩] [(0, 1, (.l 0)), (1, 1, (.l 5))], none⟩, ⟨.alloc [.str ⟨#[]⟩, .str ⟨#[]⟩], none⟩, ⟨.store 2 (.l 7) (.l 6), none⟩] [(8, 7)])
 (.seq (.draw [⟨.load true 2 (.t 8), none, []⟩, ⟨.load true 2 (.t 8), none, []⟩, ⟨.call (.c (.fn f_s_l12Record [] [])) [(.l 1)], none, [(0, ⟨.load true 2 (.t 8), none⟩)]⟩, ⟨.mv (.l 2), none, []⟩, ⟨.mv (.t 1), some ((.l 3), true), []⟩, ⟨.load true 2 (.t 8), some ((.l 3), true), []⟩, ⟨.mv (.t 0), some ((.l 3), true), []⟩, ⟨.bin 1 .add (.l 6) (.c (.str ⟨#[10]⟩)), some ((.l 3), true), []⟩, ⟨.call (.c (.fn f_s_l12Line [] [])) [(.l 4), (.l 5)], some ((.l 3), true), [(0, ⟨.load true 2 (.t 8), none⟩)]⟩, ⟨.bin 1 .eql (.l 8) (.l 7), some ((.l 3), true), []⟩, ⟨.pick (.l 3) (.l 9) (.c (.bool false)), none, []⟩, ⟨.store 2 (.t 2) (.l 0), none, []⟩, ⟨.mv (.l 10), none, []⟩] [(3, 12)])
 .ret)))))))))
def a_s_l12Decode : AFun := ⟨[0, 1, 4, 5, 6, 7, 8, 9, 10, 30, 44], 64, c_s_l12Decode, [.cell 2 true 2, .tmp 3], 1⟩
def c_l_toLoad : ACode :=
 (.seq (.region [⟨.box (.t 0), none⟩, ⟨.alloc [.int .i64 (0), .int .i64 (0)], none⟩] [(1, 0), (2, 1)])
 (.seq (.region [⟨.alloc [.int .i64 (0), .int .i64 (0)], none⟩] [(3, 0)])
 (.seq (.region [⟨.fieldAddr 0 (.t 1), none⟩, ⟨.load false 1 (.l 0), none⟩, ⟨.fieldAddr 0 (.t 3), none⟩, ⟨.store 1 (.l 2) (.l 1), none⟩] [])
 (.seq (.region [⟨.fieldAddr 1 (.t 1), none⟩, ⟨.load false 1 (.l 0), none⟩, ⟨.fieldAddr 1 (.t 3), none⟩, ⟨.store 1 (.l 2) (.l 1), none⟩] [])
 (.seq (.region [⟨.load true 2 (.t 3), none⟩, ⟨.store 2 (.t 2) (.l 0), none⟩] [])
 .ret)))))
def a_l_toLoad : AFun := ⟨[0, 1, 2, 3], 11, c_l_toLoad, [.cell 2 true 2], 1⟩
def c_l_toStage : ACode :=
 (.seq (.region [⟨.box (.t 0), none⟩, ⟨.alloc [.int .i64 (0), .int .i64 (0), .int .i64 (0)], none⟩] [(1, 0), (2, 1)])
 (.seq (.region [⟨.alloc [.int .i64 (0), .int .i64 (0), .int .i64 (0)], none⟩] [(3, 0)])
 (.seq (.region [⟨.fieldAddr 0 (.t 1), none⟩, ⟨.load false 1 (.l 0), none⟩, ⟨.fieldAddr 0 (.t 3), none⟩, ⟨.store 1 (.l 2) (.l 1), none⟩] [])
 (.seq (.region [⟨.fieldAddr 1 (.t 1), none⟩, ⟨.load false 1 (.l 0), none⟩, ⟨.fieldAddr 1 (.t 3), none⟩, ⟨.store 1 (.l 2) (.l 1), none⟩] [])
 (.seq (.region [⟨.fieldAddr 2 (.t 1), none⟩, ⟨.load false 1 (.l 0), none⟩, ⟨.fieldAddr 2 (.t 3), none⟩, ⟨.store 1 (.l 2) (.l 1), none⟩] [])
 (.seq (.region [⟨.load true 3 (.t 3), none⟩, ⟨.store 3 (.t 2) (.l 0), none⟩] [])
 .ret))))))
def a_l_toStage : AFun := ⟨[0, 1, 2, 3], 14, c_l_toStage, [.cell 2 true 3], 1⟩
def c_slices_ContainsFunc_Si_Load_i_Load : ACode :=
 (.seq (.region [⟨.mv (.c (.bool false)), none⟩] [(2, 0)])
 (.seq (.region [⟨.mv (.t 0), none⟩, ⟨.mv (.t 1), none⟩, ⟨.call (.c (.fn f_slices_IndexFunc_Si_Load_i_Load [] [])) [(.l 0), (.l 1)], none⟩, ⟨.bin 0 .geq (.l 2) (.c (.int .i64 (0))), none⟩, ⟨.mv (.l 3), none⟩] [(2, 4)])
 .ret))
def a_slices_ContainsFunc_Si_Load_i_Load : AFun := ⟨[0, 1, 4], 9, c_slices_ContainsFunc_Si_Load_i_Load, [.tmp 2], 1⟩
def c_i_IsRow_1 : ACode :=
 (.seq (.region [⟨.box (.t 0), none⟩, ⟨.mv (.c (.bool false)), none⟩] [(1, 0), (2, 1)])
 (.seq (.region [⟨.fieldAddr 0 (.t 1), none⟩, ⟨.load false 1 (.l 0), none⟩, ⟨.call (.c (.fn f_i_isPlace [] [])) [(.l 1)], none⟩, ⟨.un .not (.l 2), none⟩, ⟨.mv (.l 3), none⟩, ⟨.fieldAddr 1 (.t 1), some ((.l 4), false)⟩, ⟨.load false 1 (.l 5), some ((.l 4), false)⟩, ⟨.call (.c (.fn f_i_isWeight [] [])) [(.l 6)], some ((.l 4), false)⟩, ⟨.un .not (.l 7), some ((.l 4), false)⟩, ⟨.pick (.l 4) (.c (.bool true)) (.l 8), none⟩, ⟨.mv (.l 9), none⟩] [(2, 10)])
 .ret))
def a_i_IsRow_1 : AFun := ⟨[0, 1, 2], 13, c_i_IsRow_1, [.tmp 2], 1⟩
def c_i_isPlace : ACode :=
 (.seq (.region [⟨.mv (.c (.bool false)), none⟩] [(1, 0)])
 (.seq (.region [⟨.mv (.t 0), none⟩, ⟨.call (.c (.fn f_i_within [] [])) [(.l 0), (.c (.int .i64 (0))), (.c (.int .i64 (60)))], none⟩, ⟨.mv (.l 1), none⟩] [(1, 2)])
 .ret))
def a_i_isPlace : AFun := ⟨[0, 2], 5, c_i_isPlace, [.tmp 1], 1⟩
def c_i_isWeight : ACode :=
 (.seq (.region [⟨.mv (.c (.bool false)), none⟩] [(1, 0)])
 (.seq (.region [⟨.mv (.t 0), none⟩, ⟨.call (.c (.fn f_i_within [] [])) [(.l 0), (.c (.int .i64 (1))), (.c (.int .i64 (99)))], none⟩, ⟨.mv (.l 1), none⟩] [(1, 2)])
 .ret))
def a_i_isWeight : AFun := ⟨[0, 2], 5, c_i_isWeight, [.tmp 1], 1⟩
def c_i_IsStage : ACode :=
 (.seq (.region [⟨.box (.t 0), none⟩, ⟨.mv (.c (.bool false)), none⟩] [(1, 0), (2, 1)])
 (.seq (.seq (.region [⟨.fieldAddr 0 (.t 1), none⟩, ⟨.load false 1 (.l 0), none⟩] [(3, 1)])
 (.block 0 (.seq (.seq (.region [⟨.bin 0 .eql (.t 3) (.c (.int .i64 (1))), none⟩, ⟨.mv (.l 0), none⟩] [(4, 1)])
 (.cond (.t 4) .skip (.region [⟨.bin 0 .eql (.t 3) (.c (.int .i64 (3))), none⟩, ⟨.mv (.l 0), none⟩] [(4, 1)])))
 (.cond (.t 4) (.seq (.region [⟨.fieldAddr 1 (.t 1), none⟩, ⟨.load false 1 (.l 0), none⟩, ⟨.call (.c (.fn f_i_isRatio [] [])) [(.l 1)], none⟩, ⟨.mv (.l 2), none⟩, ⟨.fieldAddr 2 (.t 1), some ((.l 3), true)⟩, ⟨.load false 1 (.l 4), some ((.l 3), true)⟩, ⟨.call (.c (.fn f_i_isRatio [] [])) [(.l 5)], some ((.l 3), true)⟩, ⟨.pick (.l 3) (.l 6) (.c (.bool false)), none⟩, ⟨.mv (.l 7), none⟩] [(2, 8)])
 .ret) (.seq (.region [⟨.bin 0 .eql (.t 3) (.c (.int .i64 (2))), none⟩, ⟨.mv (.l 0), none⟩] [(5, 1)])
 (.cond (.t 5) (.seq (.region [⟨.fieldAddr 1 (.t 1), none⟩, ⟨.load false 1 (.l 0), none⟩, ⟨.call (.c (.fn f_i_isRatio [] [])) [(.l 1)], none⟩, ⟨.mv (.l 2), none⟩, ⟨.fieldAddr 2 (.t 1), some ((.l 3), true)⟩, ⟨.load false 1 (.l 4), some ((.l 3), true)⟩, ⟨.bin 0 .eql (.l 5) (.c (.int .i64 (0))), some ((.l 3), true)⟩, ⟨.pick (.l 3) (.l 6) (.c (.bool false)), none⟩, ⟨.mv (.l 7), none⟩] [(2, 8)])
 .ret) (.seq (.region [⟨.bin 0 .eql (.t 3) (.c (.int .i64 (4))), none⟩, ⟨.mv (.l 0), none⟩] [(6, 1)])
 (.cond (.t 6) (.seq (.region [⟨.fieldAddr 1 (.t 1), none⟩, ⟨.load false 1 (.l 0), none⟩, ⟨.call (.c (.fn f_i_isRatio [] [])) [(.l 1)], none⟩, ⟨.mv (.l 2), none⟩, ⟨.fieldAddr 2 (.t 1), some ((.l 3), true)⟩, ⟨.load false 1 (.l 4), some ((.l 3), true)⟩, ⟨.call (.c (.fn f_i_isRatio [] [])) [(.l 5)], some ((.l 3), true)⟩, ⟨.pick (.l 3) (.l 6) (.c (.bool false)), none⟩, ⟨.mv (.l 7), none⟩, ⟨.fieldAddr 1 (.t 1), some ((.l 8), true)⟩, ⟨.load false 1 (.l 9), some ((.l 8), true)⟩, ⟨.fieldAddr 2 (.t 1), some ((.l 8), true)⟩, ⟨.load false 1 (.l 11), some ((.l 8), true)⟩, ⟨.bin 0 .geq (.l 10) (.l 12), some ((.l 8), true)⟩, ⟨.pick (.l 8) (.l 13) (.c (.bool false)), none⟩, ⟨.mv (.l 14), none⟩] [(2, 15)])
 .ret) (.seq (.region [⟨.bin 0 .eql (.t 3) (.c (.int .i64 (5))), none⟩, ⟨.mv (.l 0), none⟩] [(7, 1)])
 (.cond (.t 7) (.seq (.region [⟨.fieldAddr 1 (.t 1), none⟩, ⟨.load false 1 (.l 0), none⟩, ⟨.call (.c (.fn f_i_isRatio [] [])) [(.l 1)], none⟩, ⟨.mv (.l 2), none⟩, ⟨.fieldAddr 2 (.t 1), some ((.l 3), true)⟩, ⟨.load false 1 (.l 4), some ((.l 3), true)⟩, ⟨.call (.c (.fn f_i_isRatio [] [])) [(.l 5)], some ((.l 3), true)⟩, ⟨.pick (.l 3) (.l 6) (.c (.bool false)), none⟩, ⟨.mv (.l 7), none⟩, ⟨.fieldAddr 1 (.t 1), some ((.l 8), true)⟩, ⟨.load false 1 (.l 9), some ((.l 8), true)⟩, ⟨.fieldAddr 2 (.t 1), some ((.l 8), true)⟩, ⟨.load false 1 (.l 11), some ((.l 8), true)⟩, ⟨.bin 0 .gtr (.l 10) (.l 12), some ((.l 8), true)⟩, ⟨.pick (.l 8) (.l 13) (.c (.bool false)), none⟩, ⟨.mv (.l 14), none⟩] [(2, 15)])
 .ret) .skip))))))))))
 (.seq (.region [⟨.mv (.c (.bool false)), none⟩] [(2, 0)])
 .ret)))
def a_i_IsStage : AFun := ⟨[0, 1, 2, 4, 5, 16, 26, 43], 60, c_i_IsStage, [.tmp 2], 1⟩
def w_i_recoverRecords_1 : ACode :=
 (.seq (.seq (.region [⟨.mv (.t 3), none⟩, ⟨.len (.l 0), none⟩, ⟨.bin 0 .lss (.l 1) (.c (.int .i64 (60))), none⟩] [(10, 2)])
 (.cond (.t 10) .skip (.exit 0)))
 (.block 1 (.seq (.region [⟨.mv (.t 0), none⟩, ⟨.mv (.t 5), none⟩, ⟨.sliceStr (.l 0) (some (.l 1)) none, none⟩, ⟨.call (.c (.fn f_strings_Cut [] [])) [(.l 2), (.c (.str ⟨#[10]⟩))], none⟩, ⟨.mv (.l 3), none⟩, ⟨.extract 0 (.l 4), none⟩, ⟨.extract 1 (.l 4), none⟩, ⟨.extract 2 (.l 4), none⟩, ⟨.mv (.l 5), none⟩, ⟨.mv (.l 6), none⟩, ⟨.mv (.l 7), none⟩] [(6, 8), (7, 10)])
 (.seq (.region [⟨.mv (.t 3), none⟩, ⟨.len (.l 0), none⟩, ⟨.mv (.t 6), none⟩, ⟨.call (.c (.fn f_i_decode [] [])) [(.l 1), (.l 2)], none⟩, ⟨.mv (.l 3), none⟩, ⟨.extract 0 (.l 4), none⟩, ⟨.extract 1 (.l 4), none⟩, ⟨.alloc [.str ⟨#[]⟩, .str ⟨#[]⟩], none⟩, ⟨.store 2 (.l 7) (.l 5), none⟩, ⟨.mv (.l 6), none⟩] [(8, 7), (9, 9)])
 (.seq (.seq (.region [⟨.mv (.t 7), none⟩, ⟨.un .not (.l 0), none⟩, ⟨.mv (.l 1), none⟩, ⟨.mv (.t 9), some ((.l 2), false)⟩, ⟨.un .not (.l 3), some ((.l 2), false)⟩, ⟨.pick (.l 2) (.c (.bool true)) (.l 4), none⟩] [(11, 5)])
 (.cond (.t 11) (.exit 0) .skip))
 (.seq (.region [⟨.mv (.t 5), none⟩, ⟨.mv (.t 6), none⟩, ⟨.lenStr (.l 1), none⟩, ⟨.bin 0 .add (.l 2) (.c (.int .i64 (1))), none⟩, ⟨.bin 0 .add (.l 0) (.l 3), none⟩, ⟨.mv (.l 4), none⟩] [(5, 5)])
 (.region [⟨.mv (.t 3), none⟩, ⟨.load true 2 (.t 8), none⟩, ⟨.buildSlice 2 1 [.str ⟨#[]⟩, .str ⟨#[]⟩] [(0, 2, (.l 1))], none⟩, ⟨.append false 2 32 (.l 0) (.l 2), none⟩, ⟨.mv (.t 4), none⟩, ⟨.mv (.t 5), none⟩, ⟨.buildSlice 1 1 [.int .i64 (0)] [(0, 1, (.l 5))], none⟩, ⟨.append false 1 8 (.l 4) (.l 6), none⟩, ⟨.mv (.l 3), none⟩, ⟨.mv (.l 7), none⟩] [(3, 8), (4, 9)])))))))
def c_i_recoverRecords : ACode :=
 (.seq (.region [⟨.mv (.c (.slice none 0 0 none)), none⟩, ⟨.mv (.c (.slice none 0 0 none)), none⟩] [(1, 0), (2, 1)])
 (.seq (.region [⟨.buildSlice 2 0 [] [], none⟩, ⟨.buildSlice 1 0 [] [], none⟩, ⟨.mv (.l 0), none⟩, ⟨.mv (.l 1), none⟩, ⟨.mv (.c (.int .i64 (0))), none⟩] [(3, 2), (4, 3), (5, 4)])
 (.seq (.block 0 (.loop w_i_recoverRecords_1))
 (.seq (.region [⟨.mv (.t 3), none⟩, ⟨.mv (.t 4), none⟩, ⟨.mv (.l 0), none⟩, ⟨.mv (.l 1), none⟩] [(1, 2), (2, 3)])
 .ret))))
def a_i_recoverRecords : AFun := ⟨[0, 2, 3, 4, 5, 6, 7, 9, 10, 11, 16, 37], 53, c_i_recoverRecords, [.tmp 1, .tmp 2], 2⟩
def c_slices_Contains_Sint_int : ACode :=
 (.seq (.region [⟨.mv (.c (.bool false)), none⟩] [(2, 0)])
 (.seq (.region [⟨.mv (.t 0), none⟩, ⟨.mv (.t 1), none⟩, ⟨.call (.c (.fn f_slices_Index_Sint_int [] [])) [(.l 0), (.l 1)], none⟩, ⟨.bin 0 .geq (.l 2) (.c (.int .i64 (0))), none⟩, ⟨.mv (.l 3), none⟩] [(2, 4)])
 .ret))
def a_slices_Contains_Sint_int : AFun := ⟨[0, 1, 4], 9, c_slices_Contains_Sint_int, [.tmp 2], 1⟩
def c_l_eqLoad : ACode :=
 (.seq (.region [⟨.box (.t 0), none⟩, ⟨.box (.t 1), none⟩, ⟨.mv (.c (.bool false)), none⟩] [(2, 0), (3, 1), (4, 2)])
 (.seq (.seq (.region [⟨.fieldAddr 0 (.t 2), none⟩, ⟨.load false 1 (.l 0), none⟩, ⟨.fieldAddr 0 (.t 3), none⟩, ⟨.load false 1 (.l 2), none⟩, ⟨.bin 0 .neq (.l 1) (.l 3), none⟩] [(5, 4)])
 (.cond (.t 5) (.seq (.region [⟨.mv (.c (.bool false)), none⟩] [(4, 0)])
 .ret) .skip))
 (.seq (.seq (.region [⟨.fieldAddr 1 (.t 2), none⟩, ⟨.load false 1 (.l 0), none⟩, ⟨.fieldAddr 1 (.t 3), none⟩, ⟨.load false 1 (.l 2), none⟩, ⟨.bin 0 .neq (.l 1) (.l 3), none⟩] [(6, 4)])
 (.cond (.t 6) (.seq (.region [⟨.mv (.c (.bool false)), none⟩] [(4, 0)])
 .ret) .skip))
 (.seq (.region [⟨.mv (.c (.bool true)), none⟩] [(4, 0)])
 .ret))))
def a_l_eqLoad : AFun := ⟨[0, 1, 2, 3, 4, 9, 14], 15, c_l_eqLoad, [.tmp 4], 1⟩
def c_l_eqStage : ACode :=
 (.seq (.region [⟨.box (.t 0), none⟩, ⟨.box (.t 1), none⟩, ⟨.mv (.c (.bool false)), none⟩] [(2, 0), (3, 1), (4, 2)])
 (.seq (.seq (.region [⟨.fieldAddr 0 (.t 2), none⟩, ⟨.load false 1 (.l 0), none⟩, ⟨.fieldAddr 0 (.t 3), none⟩, ⟨.load false 1 (.l 2), none⟩, ⟨.bin 0 .neq (.l 1) (.l 3), none⟩] [(5, 4)])
 (.cond (.t 5) (.seq (.region [⟨.mv (.c (.bool false)), none⟩] [(4, 0)])
 .ret) .skip))
 (.seq (.seq (.region [⟨.fieldAddr 1 (.t 2), none⟩, ⟨.load false 1 (.l 0), none⟩, ⟨.fieldAddr 1 (.t 3), none⟩, ⟨.load false 1 (.l 2), none⟩, ⟨.bin 0 .neq (.l 1) (.l 3), none⟩] [(6, 4)])
 (.cond (.t 6) (.seq (.region [⟨.mv (.c (.bool false)), none⟩] [(4, 0)])
 .ret) .skip))
 (.seq (.seq (.region [⟨.fieldAddr 2 (.t 2), none⟩, ⟨.load false 1 (.l 0), none⟩, ⟨.fieldAddr 2 (.t 3), none⟩, ⟨.load false 1 (.l 2), none⟩, ⟨.bin 0 .neq (.l 1) (.l 3), none⟩] [(7, 4)])
 (.cond (.t 7) (.seq (.region [⟨.mv (.c (.bool false)), none⟩] [(4, 0)])
 .ret) .skip))
 (.seq (.region [⟨.mv (.c (.bool true)), none⟩] [(4, 0)])
 .ret)))))
def a_l_eqStage : AFun := ⟨[0, 1, 2, 3, 4, 9, 14, 19], 20, c_l_eqStage, [.tmp 4], 1⟩
def c_s_l2In : ACode :=
 (.seq (.region [⟨.mv (.c (.bool false)), none⟩] [(1, 0)])
 (.seq (.region [⟨.mv (.t 0), none⟩, ⟨.call (.c (.fn f_s_l1In [] [])) [(.l 0), (.c (.int .i64 (0))), (.c (.int .i64 (60)))], none⟩, ⟨.mv (.l 1), none⟩] [(1, 2)])
 .ret))
def a_s_l2In : AFun := ⟨[0, 2], 5, c_s_l2In, [.tmp 1], 1⟩
def c_s_l7Two : ACode :=
 (.seq (.region [⟨.mv (.c (.bool false)), none⟩] [(2, 0)])
 (.seq (.region [⟨.mv (.t 0), none⟩, ⟨.call (.c (.fn f_s_l1In [] [])) [(.l 0), (.c (.int .i64 (1))), (.c (.int .i64 (24)))], none⟩, ⟨.mv (.l 1), none⟩, ⟨.mv (.t 1), some ((.l 2), true)⟩, ⟨.call (.c (.fn f_s_l1In [] [])) [(.l 3), (.c (.int .i64 (1))), (.c (.int .i64 (24)))], some ((.l 2), true)⟩, ⟨.pick (.l 2) (.l 4) (.c (.bool false)), none⟩, ⟨.mv (.l 5), none⟩] [(2, 6)])
 .ret))
def a_s_l7Two : AFun := ⟨[0, 1, 4], 11, c_s_l7Two, [.tmp 2], 1⟩
def c_s_l1Num : ACode :=
 (.seq (.region [⟨.mv (.c (.str ⟨#[]⟩)), none⟩] [(1, 0)])
 (.seq (.seq (.region [⟨.mv (.t 0), none⟩, ⟨.bin 0 .lss (.l 0) (.c (.int .i64 (0))), none⟩] [(2, 1)])
 (.cond (.t 2) (.seq (.region [⟨.mv (.t 0), none⟩, ⟨.un .neg (.l 0), none⟩, ⟨.call (.c (.fn f_s_l1Num [] [])) [(.l 1)], none⟩, ⟨.bin 1 .add (.c (.str ⟨#[45]⟩)) (.l 2), none⟩, ⟨.mv (.l 3), none⟩] [(1, 4)])
 .ret) .skip))
 (.seq (.seq (.region [⟨.mv (.t 0), none⟩, ⟨.bin 0 .lss (.l 0) (.c (.int .i64 (10))), none⟩] [(3, 1)])
 (.cond (.t 3) (.seq (.region [⟨.mv (.t 0), none⟩, ⟨.mv (.t 0), none⟩, ⟨.bin 0 .add (.l 1) (.c (.int .i64 (1))), none⟩, ⟨.sliceStr (.c (.str ⟨#[48, 49, 50, 51, 52, 53, 54, 55, 56, 57]⟩)) (some (.l 0)) (some (.l 2)), none⟩, ⟨.mv (.l 3), none⟩] [(1, 4)])
 .ret) .skip))
 (.seq (.draw [⟨.mv (.t 0), none, []⟩, ⟨.bin 0 .quo (.l 0) (.c (.int .i64 (10))), none, []⟩, ⟨.mv (.t 0), none, []⟩, ⟨.bin 0 .rem (.l 2) (.c (.int .i64 (10))), none, []⟩, ⟨.mv (.t 0), none, []⟩, ⟨.bin 0 .rem (.l 4) (.c (.int .i64 (10))), none, []⟩, ⟨.bin 0 .add (.l 5) (.c (.int .i64 (1))), none, []⟩, ⟨.sliceStr (.c (.str ⟨#[48, 49, 50, 51, 52, 53, 54, 55, 56, 57]⟩)) (some (.l 3)) (some (.l 6)), none, []⟩, ⟨.call (.c (.fn f_s_l1Num [] [])) [(.l 1)], none, []⟩, ⟨.bin 1 .add (.l 8) (.l 7), none, []⟩, ⟨.mv (.l 9), none, []⟩] [(1, 10)])
 .ret))))
def a_s_l1Num : AFun := ⟨[0, 2, 4, 10], 25, c_s_l1Num, [.tmp 1], 1⟩
def c_s_l12Record : ACode :=
 (.seq (.region [⟨.box (.t 0), none⟩, ⟨.mv (.c (.bool false)), none⟩] [(1, 0), (2, 1)])
 (.seq (.region [⟨.fieldAddr 0 (.t 1), none⟩, ⟨.load false 1 (.l 0), none⟩, ⟨.bin 1 .neq (.l 1) (.c (.str ⟨#[]⟩)), none⟩, ⟨.mv (.l 2), none⟩, ⟨.fieldAddr 0 (.t 1), some ((.l 3), true)⟩, ⟨.load false 1 (.l 4), some ((.l 3), true)⟩, ⟨.call (.c (.fn f_s_l12Bytes [] [])) [(.l 5), (.c (.int .i64 (160)))], some ((.l 3), true)⟩, ⟨.pick (.l 3) (.l 6) (.c (.bool false)), none⟩, ⟨.mv (.l 7), none⟩, ⟨.fieldAddr 0 (.t 1), some ((.l 8), true)⟩, ⟨.load false 1 (.l 9), some ((.l 8), true)⟩, ⟨.call (.c (.fn f_s_l1Stands [] [])) [(.l 10), (.c (.int .u8 (64)))], some ((.l 8), true)⟩, ⟨.un .not (.l 11), some ((.l 8), true)⟩, ⟨.pick (.l 8) (.l 12) (.c (.bool false)), none⟩, ⟨.mv (.l 13), none⟩, ⟨.fieldAddr 1 (.t 1), some ((.l 14), true)⟩, ⟨.load false 1 (.l 15), some ((.l 14), true)⟩, ⟨.call (.c (.fn f_s_l12Bytes [] [])) [(.l 16), (.c (.int .i64 (250)))], some ((.l 14), true)⟩, ⟨.pick (.l 14) (.l 17) (.c (.bool false)), none⟩, ⟨.mv (.l 18), none⟩] [(2, 19)])
 .ret))
def a_s_l12Record : AFun := ⟨[0, 1, 2], 22, c_s_l12Record, [.tmp 2], 1⟩
def c_s_l12Line : ACode :=
 (.seq (.region [⟨.box (.t 1), none⟩, ⟨.mv (.c (.str ⟨#[]⟩)), none⟩] [(2, 0), (3, 1)])
 (.seq (.draw [⟨.mv (.t 0), none, []⟩, ⟨.fieldAddr 0 (.t 2), none, []⟩, ⟨.load false 1 (.l 1), none, []⟩, ⟨.fieldAddr 1 (.t 2), none, []⟩, ⟨.load false 1 (.l 3), none, []⟩, ⟨.call (.c (.fn f_s_l1Num [] [])) [(.l 0)], none, [(2, ⟨.load false 1 (.l 1), none⟩), (4, ⟨.load false 1 (.l 3), none⟩)]⟩, ⟨.bin 1 .add (.l 5) (.c (.str ⟨#[32]⟩)), none, []⟩, ⟨.bin 1 .add (.l 6) (.l 2), none, []⟩, ⟨.bin 1 .add (.l 7) (.c (.str ⟨#[64]⟩)), none, []⟩, ⟨.bin 1 .add (.l 8) (.l 4), none, []⟩, ⟨.call (.c (.fn f_s_l1Seal [] [])) [(.l 9)], none, []⟩, ⟨.bin 1 .add (.l 10) (.c (.str ⟨#[10]⟩)), none, []⟩, ⟨.mv (.l 11), none, []⟩] [(3, 12)])
 .ret))
def a_s_l12Line : AFun := ⟨[0, 1, 3, 4], 17, c_s_l12Line, [.tmp 3], 1⟩
def w_slices_IndexFunc_Si_Load_i_Load_1 : ACode :=
 (.seq (.region [⟨.bin 0 .lss (.t 5) (.t 4), none⟩] [(6, 0)])
 (.seq (.cond (.t 6) .skip (.exit 0))
 (.seq (.block 1 (.seq (.region [⟨.mv (.t 5), none⟩, ⟨.mv (.l 0), none⟩] [(3, 1)])
 (.seq (.region [⟨.mv (.t 1), none⟩, ⟨.mv (.t 0), none⟩, ⟨.mv (.t 3), none⟩, ⟨.indexAddrS 2 (.l 1) (.l 2), none⟩, ⟨.load true 2 (.l 3), none⟩, ⟨.call (.l 0) [(.l 4)], none⟩] [(7, 5)])
 (.cond (.t 7) (.seq (.region [⟨.mv (.t 3), none⟩, ⟨.mv (.l 0), none⟩] [(2, 1)])
 .ret) .skip))))
 (.region [⟨.bin 0 .add (.t 5) (.c (.int .i64 (1))), none⟩, ⟨.mv (.l 0), none⟩] [(5, 1)]))))
def c_slices_IndexFunc_Si_Load_i_Load : ACode :=
 (.seq (.region [⟨.mv (.c (.int .i64 (0))), none⟩] [(2, 0)])
 (.seq (.seq (.region [⟨.mv (.t 0), none⟩, ⟨.len (.l 0), none⟩, ⟨.mv (.c (.int .i64 (0))), none⟩] [(4, 1), (5, 2)])
 (.block 0 (.loop w_slices_IndexFunc_Si_Load_i_Load_1)))
 (.seq (.region [⟨.mv (.c (.int .i64 (-1))), none⟩] [(2, 0)])
 .ret)))
def a_slices_IndexFunc_Si_Load_i_Load : AFun := ⟨[0, 1, 4, 5, 7, 8, 9, 16], 19, c_slices_IndexFunc_Si_Load_i_Load, [.tmp 2], 1⟩
def c_i_isRatio : ACode :=
 (.seq (.region [⟨.mv (.c (.bool false)), none⟩] [(1, 0)])
 (.seq (.region [⟨.mv (.t 0), none⟩, ⟨.call (.c (.fn f_i_within [] [])) [(.l 0), (.c (.int .i64 (1))), (.c (.int .i64 (24)))], none⟩, ⟨.mv (.l 1), none⟩] [(1, 2)])
 .ret))
def a_i_isRatio : AFun := ⟨[0, 2], 5, c_i_isRatio, [.tmp 1], 1⟩
def c_strings_Cut : ACode :=
 (.seq (.region [⟨.mv (.c (.str ⟨#[]⟩)), none⟩, ⟨.mv (.c (.str ⟨#[]⟩)), none⟩, ⟨.mv (.c (.bool false)), none⟩] [(2, 0), (3, 1), (4, 2)])
 (.seq (.region [⟨.mv (.t 0), none⟩, ⟨.mv (.t 1), none⟩, ⟨.call (.c (.fn f_internal_stringslite_Cut [] [])) [(.l 0), (.l 1)], none⟩, ⟨.extract 0 (.l 2), none⟩, ⟨.extract 1 (.l 2), none⟩, ⟨.extract 2 (.l 2), none⟩, ⟨.mv (.l 3), none⟩, ⟨.mv (.l 4), none⟩, ⟨.mv (.l 5), none⟩] [(2, 6), (3, 7), (4, 8)])
 .ret))
def a_strings_Cut : AFun := ⟨[0, 1, 4, 5, 6], 13, c_strings_Cut, [.tmp 2, .tmp 3, .tmp 4], 1⟩
def c_i_decode : ACode :=
 (.seq (.region [⟨.alloc [.str ⟨#[]⟩, .str ⟨#[]⟩], none⟩, ⟨.mv (.c (.bool false)), none⟩] [(2, 0), (3, 1)])
 (.seq (.region [⟨.mv (.t 1), none⟩, ⟨.call (.c (.fn f_i_VerifyChecksum [] [])) [(.l 0)], none⟩, ⟨.mv (.l 1), none⟩, ⟨.extract 0 (.l 2), none⟩, ⟨.extract 1 (.l 2), none⟩, ⟨.mv (.l 3), none⟩, ⟨.mv (.l 4), none⟩] [(4, 5), (5, 6)])
 (.seq (.region [⟨.mv (.t 4), none⟩, ⟨.call (.c (.fn f_strings_Cut [] [])) [(.l 0), (.c (.str ⟨#[32]⟩))], none⟩, ⟨.mv (.l 1), none⟩, ⟨.extract 0 (.l 2), none⟩, ⟨.extract 1 (.l 2), none⟩, ⟨.extract 2 (.l 2), none⟩, ⟨.mv (.l 3), none⟩, ⟨.mv (.l 4), none⟩, ⟨.mv (.l 5), none⟩] [(6, 7)])
 (.seq (.region [⟨.mv (.t 6), none⟩, ⟨.call (.c (.fn f_strings_Cut [] [])) [(.l 0), (.c (.str ⟨#[64]⟩))], none⟩, ⟨.mv (.l 1), none⟩, ⟨.extract 0 (.l 2), none⟩, ⟨.extract 1 (.l 2), none⟩, ⟨.extract 2 (.l 2), none⟩, ⟨.mv (.l 3), none⟩, ⟨.mv (.l 4), none⟩, ⟨.mv (.l 5), none⟩] [(7, 6), (8, 7)])
 (.seq (.region [⟨.mv (.t 7), none⟩, ⟨.mv (.t 8), none⟩, ⟨.build [.str ⟨#[]⟩, .str ⟨#[]⟩] [(0, 1, (.l 0)), (1, 1, (.l 1))], none⟩, ⟨.alloc [.str ⟨#[]⟩, .str ⟨#[]⟩], none⟩, ⟨.store 2 (.l 3) (.l 2), none⟩] [(9, 3)])
 (.seq (.region [⟨.mv (.t 0), none⟩, ⟨.load true 2 (.t 9), none⟩, ⟨.call (.c (.fn f_i_EncodeRecord [] [])) [(.l 0), (.l 1)], none⟩, ⟨.mv (.l 2), none⟩, ⟨.extract 0 (.l 3), none⟩, ⟨.extract 1 (.l 3), none⟩, ⟨.mv (.l 4), none⟩, ⟨.mv (.l 5), none⟩] [(10, 6), (11, 7)])
 (.seq (.region [⟨.load true 2 (.t 9), none⟩, ⟨.mv (.t 5), none⟩, ⟨.mv (.l 1), none⟩, ⟨.mv (.t 11), some ((.l 2), true)⟩, ⟨.pick (.l 2) (.l 3) (.c (.bool false)), none⟩, ⟨.mv (.l 4), none⟩, ⟨.mv (.t 10), some ((.l 5), true)⟩, ⟨.mv (.t 1), some ((.l 5), true)⟩, ⟨.bin 1 .add (.l 7) (.c (.str ⟨#[10]⟩)), some ((.l 5), true)⟩, ⟨.bin 1 .eql (.l 6) (.l 8), some ((.l 5), true)⟩, ⟨.pick (.l 5) (.l 9) (.c (.bool false)), none⟩, ⟨.store 2 (.t 2) (.l 0), none⟩, ⟨.mv (.l 10), none⟩] [(3, 12)])
 .ret)))))))
def a_i_decode : AFun := ⟨[0, 1, 4, 5, 6, 7, 9, 11, 12, 14, 15, 16], 54, c_i_decode, [.cell 2 true 2, .tmp 3], 1⟩
def w_slices_Index_Sint_int_1 : ACode :=
 (.seq (.region [⟨.bin 0 .lss (.t 5) (.t 4), none⟩] [(6, 0)])
 (.seq (.cond (.t 6) .skip (.exit 0))
 (.seq (.block 1 (.seq (.region [⟨.mv (.t 5), none⟩, ⟨.mv (.l 0), none⟩] [(3, 1)])
 (.seq (.region [⟨.mv (.t 1), none⟩, ⟨.mv (.t 0), none⟩, ⟨.mv (.t 3), none⟩, ⟨.indexAddrS 1 (.l 1) (.l 2), none⟩, ⟨.load false 1 (.l 3), none⟩, ⟨.bin 0 .eql (.l 0) (.l 4), none⟩] [(7, 5)])
 (.cond (.t 7) (.seq (.region [⟨.mv (.t 3), none⟩, ⟨.mv (.l 0), none⟩] [(2, 1)])
 .ret) .skip))))
 (.region [⟨.bin 0 .add (.t 5) (.c (.int .i64 (1))), none⟩, ⟨.mv (.l 0), none⟩] [(5, 1)]))))
def c_slices_Index_Sint_int : ACode :=
 (.seq (.region [⟨.mv (.c (.int .i64 (0))), none⟩] [(2, 0)])
 (.seq (.seq (.region [⟨.mv (.t 0), none⟩, ⟨.len (.l 0), none⟩, ⟨.mv (.c (.int .i64 (0))), none⟩] [(4, 1), (5, 2)])
 (.block 0 (.loop w_slices_Index_Sint_int_1)))
 (.seq (.region [⟨.mv (.c (.int .i64 (-1))), none⟩] [(2, 0)])
 .ret)))
def a_slices_Index_Sint_int : AFun := ⟨[0, 1, 4, 5, 7, 8, 9, 16], 19, c_slices_Index_Sint_int, [.tmp 2], 1⟩
def w_s_l12Bytes_1 : ACode :=
 (.seq (.seq (.region [⟨.mv (.t 3), none⟩, ⟨.mv (.t 0), none⟩, ⟨.lenStr (.l 1), none⟩, ⟨.bin 0 .lss (.l 0) (.l 2), none⟩] [(4, 3)])
 (.cond (.t 4) .skip (.exit 0)))
 (.seq (.block 1 (.seq (.region [⟨.mv (.t 0), none⟩, ⟨.mv (.t 3), none⟩, ⟨.indexS (.l 0) (.l 1), none⟩, ⟨.conv .i64 (.l 2), none⟩, ⟨.call (.c (.fn f_s_l1In [] [])) [(.l 3), (.c (.int .i64 (32))), (.c (.int .i64 (126)))], none⟩, ⟨.un .not (.l 4), none⟩, ⟨.mv (.l 5), none⟩, ⟨.mv (.t 0), some ((.l 6), false)⟩, ⟨.mv (.t 3), some ((.l 6), false)⟩, ⟨.indexS (.l 7) (.l 8), some ((.l 6), false)⟩, ⟨.bin 0 .eql (.l 9) (.c (.int .u8 (35))), some ((.l 6), false)⟩, ⟨.pick (.l 6) (.c (.bool true)) (.l 10), none⟩] [(5, 11)])
 (.cond (.t 5) (.seq (.region [⟨.mv (.c (.bool false)), none⟩] [(2, 0)])
 .ret) .skip)))
 (.region [⟨.mv (.t 3), none⟩, ⟨.bin 0 .add (.l 0) (.c (.int .i64 (1))), none⟩, ⟨.mv (.l 1), none⟩] [(3, 2)])))
def c_s_l12Bytes : ACode :=
 (.seq (.region [⟨.mv (.c (.bool false)), none⟩] [(2, 0)])
 (.seq (.seq (.region [⟨.mv (.c (.int .i64 (0))), none⟩] [(3, 0)])
 (.block 0 (.loop w_s_l12Bytes_1)))
 (.seq (.region [⟨.mv (.t 0), none⟩, ⟨.lenStr (.l 0), none⟩, ⟨.mv (.t 1), none⟩, ⟨.bin 0 .leq (.l 1) (.l 2), none⟩, ⟨.mv (.l 3), none⟩] [(2, 4)])
 .ret)))
def a_s_l12Bytes : AFun := ⟨[0, 1, 4, 5, 9, 23], 28, c_s_l12Bytes, [.tmp 2], 1⟩
def w_s_l1Stands_1 : ACode :=
 (.seq (.seq (.region [⟨.mv (.t 3), none⟩, ⟨.mv (.t 0), none⟩, ⟨.lenStr (.l 1), none⟩, ⟨.bin 0 .lss (.l 0) (.l 2), none⟩] [(4, 3)])
 (.cond (.t 4) .skip (.exit 0)))
 (.seq (.block 1 (.seq (.region [⟨.mv (.t 0), none⟩, ⟨.mv (.t 3), none⟩, ⟨.indexS (.l 0) (.l 1), none⟩, ⟨.mv (.t 1), none⟩, ⟨.bin 0 .eql (.l 2) (.l 3), none⟩] [(5, 4)])
 (.cond (.t 5) (.seq (.region [⟨.mv (.c (.bool true)), none⟩] [(2, 0)])
 .ret) .skip)))
 (.region [⟨.mv (.t 3), none⟩, ⟨.bin 0 .add (.l 0) (.c (.int .i64 (1))), none⟩, ⟨.mv (.l 1), none⟩] [(3, 2)])))
def c_s_l1Stands : ACode :=
 (.seq (.region [⟨.mv (.c (.bool false)), none⟩] [(2, 0)])
 (.seq (.seq (.region [⟨.mv (.c (.int .i64 (0))), none⟩] [(3, 0)])
 (.block 0 (.loop w_s_l1Stands_1)))
 (.seq (.region [⟨.mv (.c (.bool false)), none⟩] [(2, 0)])
 .ret)))
def a_s_l1Stands : AFun := ⟨[0, 1, 4, 5, 9, 16], 17, c_s_l1Stands, [.tmp 2], 1⟩
def c_s_l1Seal : ACode :=
 (.seq (.region [⟨.mv (.c (.str ⟨#[]⟩)), none⟩] [(1, 0)])
 (.seq (.region [⟨.mv (.t 0), none⟩, ⟨.bin 1 .add (.l 0) (.c (.str ⟨#[35]⟩)), none⟩, ⟨.mv (.t 0), none⟩, ⟨.call (.c (.fn f_s_l1Sum [] [])) [(.l 2)], none⟩, ⟨.call (.c (.fn f_s_l1Num [] [])) [(.l 3)], none⟩, ⟨.bin 1 .add (.l 1) (.l 4), none⟩, ⟨.mv (.l 5), none⟩] [(1, 6)])
 .ret))
def a_s_l1Seal : AFun := ⟨[0, 2], 9, c_s_l1Seal, [.tmp 1], 1⟩
def c_internal_stringslite_Cut : ACode :=
 (.seq (.region [⟨.mv (.c (.str ⟨#[]⟩)), none⟩, ⟨.mv (.c (.str ⟨#[]⟩)), none⟩, ⟨.mv (.c (.bool false)), none⟩] [(2, 0), (3, 1), (4, 2)])
 (.seq (.seq (.region [⟨.mv (.t 0), none⟩, ⟨.mv (.t 1), none⟩, ⟨.call (.c (.fn f_internal_stringslite_Index [] [])) [(.l 0), (.l 1)], none⟩, ⟨.mv (.l 2), none⟩] [(5, 3)])
 (.seq (.region [⟨.mv (.t 5), none⟩, ⟨.bin 0 .geq (.l 0) (.c (.int .i64 (0))), none⟩] [(6, 1)])
 (.cond (.t 6) (.seq (.draw [⟨.mv (.t 0), none, []⟩, ⟨.mv (.t 5), none, []⟩, ⟨.sliceStr (.l 0) none (some (.l 1)), none, []⟩, ⟨.mv (.t 0), none, []⟩, ⟨.mv (.t 5), none, []⟩, ⟨.mv (.t 1), none, []⟩, ⟨.lenStr (.l 5), none, []⟩, ⟨.bin 0 .add (.l 4) (.l 6), none, []⟩, ⟨.sliceStr (.l 3) (some (.l 7)) none, none, []⟩, ⟨.mv (.l 2), none, []⟩, ⟨.mv (.l 8), none, []⟩, ⟨.mv (.c (.bool true)), none, []⟩] [(2, 9), (3, 10), (4, 11)])
 .ret) .skip)))
 (.seq (.region [⟨.mv (.t 0), none⟩, ⟨.mv (.l 0), none⟩, ⟨.mv (.c (.str ⟨#[]⟩)), none⟩, ⟨.mv (.c (.bool false)), none⟩] [(2, 1), (3, 2), (4, 3)])
 .ret)))
def a_internal_stringslite_Cut : AFun := ⟨[0, 1, 4, 5, 6, 7, 12], 23, c_internal_stringslite_Cut, [.tmp 2, .tmp 3, .tmp 4], 1⟩
def c_i_VerifyChecksum : ACode :=
 (.seq (.region [⟨.mv (.c (.str ⟨#[]⟩)), none⟩, ⟨.mv (.c (.bool false)), none⟩] [(1, 0), (2, 1)])
 (.seq (.region [⟨.mv (.t 0), none⟩, ⟨.call (.c (.fn f_strings_Cut [] [])) [(.l 0), (.c (.str ⟨#[35]⟩))], none⟩, ⟨.mv (.l 1), none⟩, ⟨.extract 0 (.l 2), none⟩, ⟨.extract 1 (.l 2), none⟩, ⟨.extract 2 (.l 2), none⟩, ⟨.mv (.l 3), none⟩, ⟨.mv (.l 4), none⟩, ⟨.mv (.l 5), none⟩] [(3, 6)])
 (.seq (.seq (.region [⟨.mv (.t 3), none⟩, ⟨.call (.c (.fn f_i_AppendChecksum [] [])) [(.l 0)], none⟩, ⟨.mv (.l 1), none⟩, ⟨.extract 0 (.l 2), none⟩, ⟨.extract 1 (.l 2), none⟩, ⟨.mv (.l 3), none⟩, ⟨.mv (.l 4), none⟩] [(4, 5), (5, 6)])
 (.seq (.region [⟨.mv (.t 5), none⟩, ⟨.un .not (.l 0), none⟩, ⟨.mv (.l 1), none⟩, ⟨.mv (.t 4), some ((.l 2), false)⟩, ⟨.mv (.t 0), some ((.l 2), false)⟩, ⟨.bin 1 .neq (.l 3) (.l 4), some ((.l 2), false)⟩, ⟨.pick (.l 2) (.c (.bool true)) (.l 5), none⟩] [(6, 6)])
 (.cond (.t 6) (.seq (.region [⟨.mv (.c (.str ⟨#[]⟩)), none⟩, ⟨.mv (.c (.bool false)), none⟩] [(1, 0), (2, 1)])
 .ret) .skip)))
 (.seq (.region [⟨.mv (.t 3), none⟩, ⟨.mv (.l 0), none⟩, ⟨.mv (.c (.bool true)), none⟩] [(1, 1), (2, 2)])
 .ret))))
def a_i_VerifyChecksum : AFun := ⟨[0, 2, 3, 4, 7, 8, 26], 28, c_i_VerifyChecksum, [.tmp 1, .tmp 2], 1⟩
def c_i_EncodeRecord : ACode :=
 (.seq (.region [⟨.box (.t 1), none⟩, ⟨.mv (.c (.str ⟨#[]⟩)), none⟩, ⟨.mv (.c (.bool false)), none⟩] [(2, 0), (3, 1), (4, 2)])
 (.seq (.seq (.region [⟨.mv (.t 0), none⟩, ⟨.call (.c (.fn f_i_within [] [])) [(.l 0), (.c (.int .i64 (0))), (.c (.int .i64 (59)))], none⟩, ⟨.un .not (.l 1), none⟩, ⟨.mv (.l 2), none⟩, ⟨.load true 2 (.t 2), some ((.l 3), false)⟩, ⟨.call (.c (.fn f_i_IsValidRecord [] [])) [(.l 4)], some ((.l 3), false)⟩, ⟨.un .not (.l 5), some ((.l 3), false)⟩, ⟨.pick (.l 3) (.c (.bool true)) (.l 6), none⟩] [(7, 7)])
 (.cond (.t 7) (.seq (.region [⟨.mv (.c (.str ⟨#[]⟩)), none⟩, ⟨.mv (.c (.bool false)), none⟩] [(3, 0), (4, 1)])
 .ret) .skip))
 (.seq (.draw [⟨.mv (.t 0), none, []⟩, ⟨.fieldAddr 0 (.t 2), none, []⟩, ⟨.load false 1 (.l 1), none, []⟩, ⟨.fieldAddr 1 (.t 2), none, []⟩, ⟨.load false 1 (.l 3), none, []⟩, ⟨.call (.c (.fn f_strconv_Itoa [] [])) [(.l 0)], none, [(2, ⟨.load false 1 (.l 1), none⟩), (4, ⟨.load false 1 (.l 3), none⟩)]⟩, ⟨.bin 1 .add (.l 5) (.c (.str ⟨#[32]⟩)), none, []⟩, ⟨.bin 1 .add (.l 6) (.l 2), none, []⟩, ⟨.bin 1 .add (.l 7) (.c (.str ⟨#[64]⟩)), none, []⟩, ⟨.bin 1 .add (.l 8) (.l 4), none, []⟩, ⟨.call (.c (.fn f_i_AppendChecksum [] [])) [(.l 9)], none, []⟩, ⟨.mv (.l 10), none, []⟩, ⟨.extract 0 (.l 11), none, []⟩, ⟨.extract 1 (.l 11), none, []⟩, ⟨.mv (.l 12), none, []⟩, ⟨.mv (.l 13), none, []⟩] [(5, 14), (6, 15)])
 (.seq (.region [⟨.mv (.t 5), none⟩, ⟨.bin 1 .add (.l 0) (.c (.str ⟨#[10]⟩)), none⟩, ⟨.mv (.t 6), none⟩, ⟨.mv (.l 1), none⟩, ⟨.mv (.l 2), none⟩] [(3, 3), (4, 4)])
 .ret))))
def a_i_EncodeRecord : AFun := ⟨[0, 1, 3, 4, 5, 6, 7, 15], 33, c_i_EncodeRecord, [.tmp 3, .tmp 4], 1⟩
def w_s_l1Sum_1 : ACode :=
 (.seq (.seq (.region [⟨.mv (.t 3), none⟩, ⟨.mv (.t 0), none⟩, ⟨.lenStr (.l 1), none⟩, ⟨.bin 0 .lss (.l 0) (.l 2), none⟩] [(4, 3)])
 (.cond (.t 4) .skip (.exit 0)))
 (.seq (.block 1 (.region [⟨.mv (.t 2), none⟩, ⟨.bin 0 .mul (.c (.int .i64 (41))) (.l 0), none⟩, ⟨.mv (.t 0), none⟩, ⟨.mv (.t 3), none⟩, ⟨.indexS (.l 2) (.l 3), none⟩, ⟨.conv .i64 (.l 4), none⟩, ⟨.bin 0 .add (.l 1) (.l 5), none⟩, ⟨.bin 0 .add (.l 6) (.c (.int .i64 (1))), none⟩, ⟨.bin 0 .rem (.l 7) (.c (.int .i64 (999979))), none⟩, ⟨.mv (.l 8), none⟩] [(2, 9)]))
 (.region [⟨.mv (.t 3), none⟩, ⟨.bin 0 .add (.l 0) (.c (.int .i64 (1))), none⟩, ⟨.mv (.l 1), none⟩] [(3, 2)])))
def c_s_l1Sum : ACode :=
 (.seq (.region [⟨.mv (.c (.int .i64 (0))), none⟩] [(1, 0)])
 (.seq (.region [⟨.mv (.c (.int .i64 (7))), none⟩] [(2, 0)])
 (.seq (.seq (.region [⟨.mv (.c (.int .i64 (0))), none⟩] [(3, 0)])
 (.block 0 (.loop w_s_l1Sum_1)))
 (.seq (.region [⟨.mv (.t 2), none⟩, ⟨.mv (.l 0), none⟩] [(1, 1)])
 .ret))))
def a_s_l1Sum : AFun := ⟨[0, 2, 3, 4, 8], 21, c_s_l1Sum, [.tmp 1], 1⟩
-- internal_stringslite_Index: by contract
def c_i_AppendChecksum : ACode :=
 (.seq (.region [⟨.mv (.c (.str ⟨#[]⟩)), none⟩, ⟨.mv (.c (.bool false)), none⟩] [(1, 0), (2, 1)])
 (.seq (.region [⟨.mv (.t 0), none⟩, ⟨.call (.c (.fn f_i_Checksum [] [])) [(.l 0)], none⟩, ⟨.mv (.l 1), none⟩, ⟨.extract 0 (.l 2), none⟩, ⟨.extract 1 (.l 2), none⟩, ⟨.mv (.l 3), none⟩, ⟨.mv (.l 4), none⟩] [(3, 5), (4, 6)])
 (.seq (.region [⟨.mv (.t 0), none⟩, ⟨.bin 1 .add (.l 0) (.c (.str ⟨#[35]⟩)), none⟩, ⟨.mv (.t 3), none⟩, ⟨.call (.c (.fn f_strconv_Itoa [] [])) [(.l 2)], none⟩, ⟨.bin 1 .add (.l 1) (.l 3), none⟩, ⟨.mv (.l 4), none⟩] [(5, 5)])
 (.seq (.seq (.region [⟨.mv (.t 4), none⟩, ⟨.un .not (.l 0), none⟩, ⟨.mv (.l 1), none⟩, ⟨.mv (.t 0), some ((.l 2), false)⟩, ⟨.call (.c (.fn f_strings_Contains [] [])) [(.l 3), (.c (.str ⟨#[35]⟩))], some ((.l 2), false)⟩, ⟨.pick (.l 2) (.c (.bool true)) (.l 4), none⟩, ⟨.mv (.l 5), none⟩, ⟨.mv (.t 5), some ((.l 6), false)⟩, ⟨.lenStr (.l 7), some ((.l 6), false)⟩, ⟨.bin 0 .gtr (.l 8) (.c (.int .i64 (4000))), some ((.l 6), false)⟩, ⟨.pick (.l 6) (.c (.bool true)) (.l 9), none⟩] [(6, 10)])
 (.cond (.t 6) (.seq (.region [⟨.mv (.c (.str ⟨#[]⟩)), none⟩, ⟨.mv (.c (.bool false)), none⟩] [(1, 0), (2, 1)])
 .ret) .skip))
 (.seq (.region [⟨.mv (.t 5), none⟩, ⟨.mv (.l 0), none⟩, ⟨.mv (.c (.bool true)), none⟩] [(1, 1), (2, 2)])
 .ret)))))
def a_i_AppendChecksum : AFun := ⟨[0, 2, 3, 4, 5, 6, 27], 29, c_i_AppendChecksum, [.tmp 1, .tmp 2], 1⟩
def c_i_IsValidRecord : ACode :=
 (.seq (.region [⟨.box (.t 0), none⟩, ⟨.mv (.c (.bool false)), none⟩] [(1, 0), (2, 1)])
 (.seq (.region [⟨.fieldAddr 0 (.t 1), none⟩, ⟨.load false 1 (.l 0), none⟩, ⟨.lenStr (.l 1), none⟩, ⟨.call (.c (.fn f_i_within [] [])) [(.l 2), (.c (.int .i64 (1))), (.c (.int .i64 (160)))], none⟩, ⟨.mv (.l 3), none⟩, ⟨.fieldAddr 1 (.t 1), some ((.l 4), true)⟩, ⟨.load false 1 (.l 5), some ((.l 4), true)⟩, ⟨.lenStr (.l 6), some ((.l 4), true)⟩, ⟨.bin 0 .leq (.l 7) (.c (.int .i64 (250))), some ((.l 4), true)⟩, ⟨.pick (.l 4) (.l 8) (.c (.bool false)), none⟩, ⟨.mv (.l 9), none⟩, ⟨.fieldAddr 0 (.t 1), some ((.l 10), true)⟩, ⟨.load false 1 (.l 11), some ((.l 10), true)⟩, ⟨.call (.c (.fn f_i_isText [] [])) [(.l 12)], some ((.l 10), true)⟩, ⟨.pick (.l 10) (.l 13) (.c (.bool false)), none⟩, ⟨.mv (.l 14), none⟩, ⟨.fieldAddr 1 (.t 1), some ((.l 15), true)⟩, ⟨.load false 1 (.l 16), some ((.l 15), true)⟩, ⟨.call (.c (.fn f_i_isText [] [])) [(.l 17)], some ((.l 15), true)⟩, ⟨.pick (.l 15) (.l 18) (.c (.bool false)), none⟩, ⟨.mv (.l 19), none⟩, ⟨.fieldAddr 0 (.t 1), some ((.l 20), true)⟩, ⟨.load false 1 (.l 21), some ((.l 20), true)⟩, ⟨.call (.c (.fn f_strings_Contains [] [])) [(.l 22), (.c (.str ⟨#[64]⟩))], some ((.l 20), true)⟩, ⟨.un .not (.l 23), some ((.l 20), true)⟩, ⟨.pick (.l 20) (.l 24) (.c (.bool false)), none⟩, ⟨.mv (.l 25), none⟩] [(2, 26)])
 .ret))
def a_i_IsValidRecord : AFun := ⟨[0, 1, 2], 29, c_i_IsValidRecord, [.tmp 2], 1⟩
-- strconv_Itoa: by contract
def c_internal_stringslite_IndexByte : ACode :=
 (.seq (.region [⟨.mv (.c (.int .i64 (0))), none⟩] [(2, 0)])
 (.seq (.region [⟨.mv (.t 0), none⟩, ⟨.mv (.t 1), none⟩, ⟨.call (.c (.fn f_internal_bytealg_IndexByteString [] [])) [(.l 0), (.l 1)], none⟩, ⟨.mv (.l 2), none⟩] [(2, 3)])
 .ret))
def a_internal_stringslite_IndexByte : AFun := ⟨[0, 1, 4], 8, c_internal_stringslite_IndexByte, [.tmp 2], 1⟩
def c_internal_bytealg_Cutover : ACode :=
 (.seq (.region [⟨.mv (.c (.int .i64 (0))), none⟩] [(1, 0)])
 (.seq (.region [⟨.mv (.t 0), none⟩, ⟨.bin 0 .add (.l 0) (.c (.int .i64 (16))), none⟩, ⟨.bin 0 .quo (.l 1) (.c (.int .i64 (8))), none⟩, ⟨.mv (.l 2), none⟩] [(1, 3)])
 .ret))
def a_internal_bytealg_Cutover : AFun := ⟨[0, 2], 6, c_internal_bytealg_Cutover, [.tmp 1], 1⟩
def w_internal_bytealg_IndexRabinKarp_string_1 : ACode :=
 (.seq (.seq (.region [⟨.mv (.t 7), none⟩, ⟨.mv (.t 5), none⟩, ⟨.bin 0 .lss (.l 0) (.l 1), none⟩] [(9, 2)])
 (.cond (.t 9) .skip (.exit 0)))
 (.seq (.block 1 (.region [⟨.mv (.t 6), none⟩, ⟨.bin 0 .mul (.l 0) (.c (.int .u32 (16777619))), none⟩, ⟨.mv (.t 0), none⟩, ⟨.mv (.t 7), none⟩, ⟨.indexS (.l 2) (.l 3), none⟩, ⟨.conv .u32 (.l 4), none⟩, ⟨.bin 0 .add (.l 1) (.l 5), none⟩, ⟨.mv (.l 6), none⟩] [(6, 7)]))
 (.region [⟨.mv (.t 7), none⟩, ⟨.bin 0 .add (.l 0) (.c (.int .i64 (1))), none⟩, ⟨.mv (.l 1), none⟩] [(7, 2)])))
def w_internal_bytealg_IndexRabinKarp_string_2 : ACode :=
 (.seq (.seq (.region [⟨.mv (.t 8), none⟩, ⟨.mv (.t 0), none⟩, ⟨.lenStr (.l 1), none⟩, ⟨.bin 0 .lss (.l 0) (.l 2), none⟩] [(11, 3)])
 (.cond (.t 11) .skip (.exit 2)))
 (.block 3 (.seq (.region [⟨.mv (.t 6), none⟩, ⟨.bin 0 .mul (.l 0) (.c (.int .u32 (16777619))), none⟩, ⟨.mv (.l 1), none⟩] [(6, 2)])
 (.seq (.region [⟨.mv (.t 6), none⟩, ⟨.mv (.t 0), none⟩, ⟨.mv (.t 8), none⟩, ⟨.indexS (.l 1) (.l 2), none⟩, ⟨.conv .u32 (.l 3), none⟩, ⟨.bin 0 .add (.l 0) (.l 4), none⟩, ⟨.mv (.l 5), none⟩] [(6, 6)])
 (.seq (.region [⟨.mv (.t 6), none⟩, ⟨.mv (.t 4), none⟩, ⟨.mv (.t 0), none⟩, ⟨.mv (.t 8), none⟩, ⟨.mv (.t 5), none⟩, ⟨.bin 0 .sub (.l 3) (.l 4), none⟩, ⟨.indexS (.l 2) (.l 5), none⟩, ⟨.conv .u32 (.l 6), none⟩, ⟨.bin 0 .mul (.l 1) (.l 7), none⟩, ⟨.bin 0 .sub (.l 0) (.l 8), none⟩, ⟨.mv (.l 9), none⟩] [(6, 10)])
 (.seq (.region [⟨.mv (.t 8), none⟩, ⟨.bin 0 .add (.l 0) (.c (.int .i64 (1))), none⟩, ⟨.mv (.l 1), none⟩] [(8, 2)])
 (.seq (.region [⟨.mv (.t 6), none⟩, ⟨.mv (.t 3), none⟩, ⟨.bin 0 .eql (.l 0) (.l 1), none⟩, ⟨.mv (.l 2), none⟩, ⟨.mv (.t 0), some ((.l 3), true)⟩, ⟨.mv (.t 8), some ((.l 3), true)⟩, ⟨.mv (.t 5), some ((.l 3), true)⟩, ⟨.bin 0 .sub (.l 5) (.l 6), some ((.l 3), true)⟩, ⟨.mv (.t 8), some ((.l 3), true)⟩, ⟨.sliceStr (.l 4) (some (.l 7)) (some (.l 8)), some ((.l 3), true)⟩, ⟨.mv (.t 1), some ((.l 3), true)⟩, ⟨.bin 1 .eql (.l 9) (.l 10), some ((.l 3), true)⟩, ⟨.pick (.l 3) (.l 11) (.c (.bool false)), none⟩] [(12, 12)])
 (.cond (.t 12) (.seq (.region [⟨.mv (.t 8), none⟩, ⟨.mv (.t 5), none⟩, ⟨.bin 0 .sub (.l 0) (.l 1), none⟩, ⟨.mv (.l 2), none⟩] [(2, 3)])
 .ret) .skip))))))))
def c_internal_bytealg_IndexRabinKarp_string : ACode :=
 (.seq (.region [⟨.mv (.c (.int .i64 (0))), none⟩] [(2, 0)])
 (.seq (.region [⟨.mv (.t 1), none⟩, ⟨.call (.c (.fn f_internal_bytealg_hashStr_string [] [])) [(.l 0)], none⟩, ⟨.mv (.l 1), none⟩, ⟨.extract 0 (.l 2), none⟩, ⟨.extract 1 (.l 2), none⟩, ⟨.mv (.l 3), none⟩, ⟨.mv (.l 4), none⟩] [(3, 5), (4, 6)])
 (.seq (.region [⟨.mv (.t 1), none⟩, ⟨.lenStr (.l 0), none⟩, ⟨.mv (.l 1), none⟩] [(5, 2)])
 (.seq (.region [⟨.mv (.c (.int .u32 (0))), none⟩] [(6, 0)])
 (.seq (.seq (.region [⟨.mv (.c (.int .i64 (0))), none⟩] [(7, 0)])
 (.block 0 (.loop w_internal_bytealg_IndexRabinKarp_string_1)))
 (.seq (.seq (.region [⟨.mv (.t 6), none⟩, ⟨.mv (.t 3), none⟩, ⟨.bin 0 .eql (.l 0) (.l 1), none⟩, ⟨.mv (.l 2), none⟩, ⟨.mv (.t 0), some ((.l 3), true)⟩, ⟨.mv (.t 5), some ((.l 3), true)⟩, ⟨.sliceStr (.l 4) none (some (.l 5)), some ((.l 3), true)⟩, ⟨.mv (.t 1), some ((.l 3), true)⟩, ⟨.bin 1 .eql (.l 6) (.l 7), some ((.l 3), true)⟩, ⟨.pick (.l 3) (.l 8) (.c (.bool false)), none⟩] [(10, 9)])
 (.cond (.t 10) (.seq (.region [⟨.mv (.c (.int .i64 (0))), none⟩] [(2, 0)])
 .ret) .skip))
 (.seq (.seq (.region [⟨.mv (.t 5), none⟩, ⟨.mv (.l 0), none⟩] [(8, 1)])
 (.block 2 (.loop w_internal_bytealg_IndexRabinKarp_string_2)))
 (.seq (.region [⟨.mv (.c (.int .i64 (-1))), none⟩] [(2, 0)])
 .ret))))))))
def a_internal_bytealg_IndexRabinKarp_string : AFun := ⟨[0, 1, 4, 5, 6, 7, 8, 9, 10, 20, 39, 44, 77], 81, c_internal_bytealg_IndexRabinKarp_string, [.tmp 2], 1⟩
def w_i_Checksum_1 : ACode :=
 (.seq (.region [⟨.bin 0 .lss (.t 7) (.t 6), none⟩] [(8, 0)])
 (.seq (.cond (.t 8) .skip (.exit 0))
 (.seq (.block 1 (.seq (.region [⟨.mv (.t 7), none⟩, ⟨.mv (.l 0), none⟩] [(4, 1)])
 (.region [⟨.mv (.t 3), none⟩, ⟨.bin 0 .mul (.c (.int .i64 (41))) (.l 0), none⟩, ⟨.mv (.t 0), none⟩, ⟨.mv (.t 4), none⟩, ⟨.indexS (.l 2) (.l 3), none⟩, ⟨.conv .i64 (.l 4), none⟩, ⟨.bin 0 .add (.l 1) (.l 5), none⟩, ⟨.bin 0 .add (.l 6) (.c (.int .i64 (1))), none⟩, ⟨.bin 0 .rem (.l 7) (.c (.int .i64 (999979))), none⟩, ⟨.mv (.l 8), none⟩] [(3, 9)])))
 (.region [⟨.bin 0 .add (.t 7) (.c (.int .i64 (1))), none⟩, ⟨.mv (.l 0), none⟩] [(7, 1)]))))
def c_i_Checksum : ACode :=
 (.seq (.region [⟨.mv (.c (.int .i64 (0))), none⟩, ⟨.mv (.c (.bool false)), none⟩] [(1, 0), (2, 1)])
 (.seq (.seq (.region [⟨.mv (.t 0), none⟩, ⟨.lenStr (.l 0), none⟩, ⟨.bin 0 .gtr (.l 1) (.c (.int .i64 (4000))), none⟩] [(5, 2)])
 (.cond (.t 5) (.seq (.region [⟨.mv (.c (.int .i64 (0))), none⟩, ⟨.mv (.c (.bool false)), none⟩] [(1, 0), (2, 1)])
 .ret) .skip))
 (.seq (.region [⟨.mv (.c (.int .i64 (7))), none⟩] [(3, 0)])
 (.seq (.seq (.region [⟨.mv (.t 0), none⟩, ⟨.lenStr (.l 0), none⟩, ⟨.mv (.c (.int .i64 (0))), none⟩] [(6, 1), (7, 2)])
 (.block 0 (.loop w_i_Checksum_1)))
 (.seq (.region [⟨.mv (.t 3), none⟩, ⟨.mv (.l 0), none⟩, ⟨.mv (.c (.bool true)), none⟩] [(1, 1), (2, 2)])
 .ret)))))
def a_i_Checksum : AFun := ⟨[0, 2, 3, 4, 5, 8, 10, 11, 12], 25, c_i_Checksum, [.tmp 1, .tmp 2], 1⟩
-- strings_Contains: by contract
def w_i_isText_1 : ACode :=
 (.seq (.region [⟨.bin 0 .lss (.t 4) (.t 3), none⟩] [(5, 0)])
 (.seq (.cond (.t 5) .skip (.exit 0))
 (.seq (.block 1 (.seq (.region [⟨.mv (.t 4), none⟩, ⟨.mv (.l 0), none⟩] [(2, 1)])
 (.seq (.region [⟨.mv (.t 0), none⟩, ⟨.mv (.t 2), none⟩, ⟨.indexS (.l 0) (.l 1), none⟩, ⟨.bin 0 .lss (.l 2) (.c (.int .u8 (32))), none⟩, ⟨.mv (.l 3), none⟩, ⟨.mv (.t 0), some ((.l 4), false)⟩, ⟨.mv (.t 2), some ((.l 4), false)⟩, ⟨.indexS (.l 5) (.l 6), some ((.l 4), false)⟩, ⟨.bin 0 .gtr (.l 7) (.c (.int .u8 (126))), some ((.l 4), false)⟩, ⟨.pick (.l 4) (.c (.bool true)) (.l 8), none⟩, ⟨.mv (.l 9), none⟩, ⟨.mv (.t 0), some ((.l 10), false)⟩, ⟨.mv (.t 2), some ((.l 10), false)⟩, ⟨.indexS (.l 11) (.l 12), some ((.l 10), false)⟩, ⟨.bin 0 .eql (.l 13) (.c (.int .u8 (35))), some ((.l 10), false)⟩, ⟨.pick (.l 10) (.c (.bool true)) (.l 14), none⟩] [(6, 15)])
 (.cond (.t 6) (.seq (.region [⟨.mv (.c (.bool false)), none⟩] [(1, 0)])
 .ret) .skip))))
 (.region [⟨.bin 0 .add (.t 4) (.c (.int .i64 (1))), none⟩, ⟨.mv (.l 0), none⟩] [(4, 1)]))))
def c_i_isText : ACode :=
 (.seq (.region [⟨.mv (.c (.bool false)), none⟩] [(1, 0)])
 (.seq (.seq (.region [⟨.mv (.t 0), none⟩, ⟨.lenStr (.l 0), none⟩, ⟨.mv (.c (.int .i64 (0))), none⟩] [(3, 1), (4, 2)])
 (.block 0 (.loop w_i_isText_1)))
 (.seq (.region [⟨.mv (.c (.bool true)), none⟩] [(1, 0)])
 .ret)))
def a_i_isText : AFun := ⟨[0, 2, 3, 5, 6, 7, 24], 26, c_i_isText, [.tmp 1], 1⟩
def c_internal_strconv_Itoa : ACode :=
 (.seq (.region [⟨.mv (.c (.str ⟨#[]⟩)), none⟩] [(1, 0)])
 (.seq (.region [⟨.mv (.t 0), none⟩, ⟨.call (.c (.fn f_internal_strconv_FormatInt [] [])) [(.l 0), (.c (.int .i64 (10)))], none⟩, ⟨.mv (.l 1), none⟩] [(1, 2)])
 .ret))
def a_internal_strconv_Itoa : AFun := ⟨[0, 2], 5, c_internal_strconv_Itoa, [.tmp 1], 1⟩
def w_internal_bytealg_hashStr_string_1 : ACode :=
 (.seq (.seq (.region [⟨.mv (.t 4), none⟩, ⟨.mv (.t 0), none⟩, ⟨.lenStr (.l 1), none⟩, ⟨.bin 0 .lss (.l 0) (.l 2), none⟩] [(8, 3)])
 (.cond (.t 8) .skip (.exit 0)))
 (.seq (.block 1 (.region [⟨.mv (.t 3), none⟩, ⟨.bin 0 .mul (.l 0) (.c (.int .u32 (16777619))), none⟩, ⟨.mv (.t 0), none⟩, ⟨.mv (.t 4), none⟩, ⟨.indexS (.l 2) (.l 3), none⟩, ⟨.conv .u32 (.l 4), none⟩, ⟨.bin 0 .add (.l 1) (.l 5), none⟩, ⟨.mv (.l 6), none⟩] [(3, 7)]))
 (.region [⟨.mv (.t 4), none⟩, ⟨.bin 0 .add (.l 0) (.c (.int .i64 (1))), none⟩, ⟨.mv (.l 1), none⟩] [(4, 2)])))
def w_internal_bytealg_hashStr_string_2 : ACode :=
 (.seq (.seq (.region [⟨.mv (.t 7), none⟩, ⟨.bin 0 .gtr (.l 0) (.c (.int .i64 (0))), none⟩] [(9, 1)])
 (.cond (.t 9) .skip (.exit 2)))
 (.seq (.block 3 (.seq (.seq (.region [⟨.mv (.t 7), none⟩, ⟨.bin 0 .and (.l 0) (.c (.int .i64 (1))), none⟩, ⟨.bin 0 .neq (.l 1) (.c (.int .i64 (0))), none⟩] [(10, 2)])
 (.cond (.t 10) (.region [⟨.mv (.t 5), none⟩, ⟨.mv (.t 6), none⟩, ⟨.bin 0 .mul (.l 0) (.l 1), none⟩, ⟨.mv (.l 2), none⟩] [(5, 3)]) .skip))
 (.region [⟨.mv (.t 6), none⟩, ⟨.mv (.t 6), none⟩, ⟨.bin 0 .mul (.l 0) (.l 1), none⟩, ⟨.mv (.l 2), none⟩] [(6, 3)])))
 (.region [⟨.mv (.t 7), none⟩, ⟨.bin 0 .shr (.l 0) (.c (.int .u64 (1))), none⟩, ⟨.mv (.l 1), none⟩] [(7, 2)])))
def c_internal_bytealg_hashStr_string : ACode :=
 (.seq (.region [⟨.mv (.c (.int .u32 (0))), none⟩, ⟨.mv (.c (.int .u32 (0))), none⟩] [(1, 0), (2, 1)])
 (.seq (.region [⟨.mv (.c (.int .u32 (0))), none⟩] [(3, 0)])
 (.seq (.seq (.region [⟨.mv (.c (.int .i64 (0))), none⟩] [(4, 0)])
 (.block 0 (.loop w_internal_bytealg_hashStr_string_1)))
 (.seq (.region [⟨.mv (.c (.int .u32 (1))), none⟩, ⟨.mv (.c (.int .u32 (16777619))), none⟩] [(5, 0), (6, 1)])
 (.seq (.seq (.region [⟨.mv (.t 0), none⟩, ⟨.lenStr (.l 0), none⟩, ⟨.mv (.l 1), none⟩] [(7, 2)])
 (.block 2 (.loop w_internal_bytealg_hashStr_string_2)))
 (.seq (.region [⟨.mv (.t 3), none⟩, ⟨.mv (.t 5), none⟩, ⟨.mv (.l 0), none⟩, ⟨.mv (.l 1), none⟩] [(1, 2), (2, 3)])
 .ret))))))
def a_internal_bytealg_hashStr_string : AFun := ⟨[0, 2, 3, 4, 5, 6, 7, 8, 12, 25, 30], 39, c_internal_bytealg_hashStr_string, [.tmp 1, .tmp 2], 1⟩
def c_strings_Index : ACode :=
 (.seq (.region [⟨.mv (.c (.int .i64 (0))), none⟩] [(2, 0)])
 (.seq (.region [⟨.mv (.t 0), none⟩, ⟨.mv (.t 1), none⟩, ⟨.call (.c (.fn f_internal_stringslite_Index [] [])) [(.l 0), (.l 1)], none⟩, ⟨.mv (.l 2), none⟩] [(2, 3)])
 .ret))
def a_strings_Index : AFun := ⟨[0, 1, 4], 8, c_strings_Index, [.tmp 2], 1⟩
def c_internal_strconv_FormatInt : ACode :=
 (.seq (.region [⟨.mv (.c (.str ⟨#[]⟩)), none⟩] [(2, 0)])
 (.seq (.seq (.region [⟨.mv (.t 1), none⟩, ⟨.bin 0 .eql (.l 0) (.c (.int .i64 (10))), none⟩] [(7, 1)])
 (.cond (.t 7) (.seq (.seq (.region [⟨.mv (.t 0), none⟩, ⟨.bin 0 .leq (.c (.int .i64 (0))) (.l 0), none⟩, ⟨.mv (.l 1), none⟩, ⟨.mv (.t 0), some ((.l 2), true)⟩, ⟨.bin 0 .lss (.l 3) (.c (.int .i64 (100))), some ((.l 2), true)⟩, ⟨.pick (.l 2) (.l 4) (.c (.bool false)), none⟩] [(8, 5)])
 (.cond (.t 8) (.seq (.region [⟨.mv (.t 0), none⟩, ⟨.call (.c (.fn f_internal_strconv_small [] [])) [(.l 0)], none⟩, ⟨.mv (.l 1), none⟩] [(2, 2)])
 .ret) .skip))
 (.seq (.region [⟨.alloc [.int .u8 (0), .int .u8 (0), .int .u8 (0), .int .u8 (0), .int .u8 (0), .int .u8 (0), .int .u8 (0), .int .u8 (0), .int .u8 (0), .int .u8 (0), .int .u8 (0), .int .u8 (0), .int .u8 (0), .int .u8 (0), .int .u8 (0), .int .u8 (0), .int .u8 (0), .int .u8 (0), .int .u8 (0), .int .u8 (0), .int .u8 (0), .int .u8 (0), .int .u8 (0), .int .u8 (0)], none⟩] [(3, 0)])
 (.seq (.region [⟨.mv (.t 0), none⟩, ⟨.conv .u64 (.l 0), none⟩, ⟨.mv (.l 1), none⟩] [(4, 2)])
 (.seq (.seq (.region [⟨.mv (.t 0), none⟩, ⟨.bin 0 .lss (.l 0) (.c (.int .i64 (0))), none⟩] [(9, 1)])
 (.cond (.t 9) (.region [⟨.mv (.t 4), none⟩, ⟨.un .neg (.l 0), none⟩, ⟨.mv (.l 1), none⟩] [(4, 2)]) .skip))
 (.seq (.region [⟨.mv (.t 4), none⟩, ⟨.call (.c (.fn f_internal_strconv_numDigits [] [])) [(.l 0)], none⟩, ⟨.mv (.l 1), none⟩] [(5, 2)])
 (.seq (.region [⟨.mv (.t 5), none⟩, ⟨.bin 0 .add (.c (.int .i64 (1))) (.l 0), none⟩, ⟨.sliceArr 24 1 (.t 3) (some (.c (.int .i64 (1)))) (some (.l 1)) none, none⟩, ⟨.mv (.t 4), none⟩, ⟨.call (.c (.fn f_internal_strconv_formatBase10 [] [])) [(.l 2), (.l 3)], none⟩] [])
 (.seq (.seq (.region [⟨.mv (.t 0), none⟩, ⟨.bin 0 .lss (.l 0) (.c (.int .i64 (0))), none⟩] [(10, 1)])
 (.cond (.t 10) (.seq (.region [⟨.indexAddrA 24 1 (.t 3) (.c (.int .i64 (0))), none⟩, ⟨.store 1 (.l 0) (.c (.int .u8 (45))), none⟩] [])
 (.seq (.region [⟨.mv (.t 5), none⟩, ⟨.bin 0 .add (.c (.int .i64 (1))) (.l 0), none⟩, ⟨.sliceArr 24 1 (.t 3) none (some (.l 1)) none, none⟩, ⟨.ofBytes (.l 2), none⟩, ⟨.mv (.l 3), none⟩] [(2, 4)])
 .ret)) .skip))
 (.seq (.region [⟨.mv (.t 5), none⟩, ⟨.bin 0 .add (.c (.int .i64 (1))) (.l 0), none⟩, ⟨.sliceArr 24 1 (.t 3) (some (.c (.int .i64 (1)))) (some (.l 1)) none, none⟩, ⟨.ofBytes (.l 2), none⟩, ⟨.mv (.l 3), none⟩] [(2, 4)])
 .ret)))))))) .skip))
 (.seq (.region [⟨.mv (.t 0), none⟩, ⟨.conv .u64 (.l 0), none⟩, ⟨.mv (.t 1), none⟩, ⟨.mv (.t 0), none⟩, ⟨.bin 0 .lss (.l 3) (.c (.int .i64 (0))), none⟩, ⟨.call (.c (.fn f_internal_strconv_formatBits [] [])) [(.c (.slice none 0 0 none)), (.l 1), (.l 2), (.l 4), (.c (.bool false))], none⟩, ⟨.mv (.l 5), none⟩, ⟨.extract 0 (.l 6), none⟩, ⟨.extract 1 (.l 6), none⟩, ⟨.mv (.l 7), none⟩, ⟨.mv (.l 8), none⟩] [(6, 10)])
 (.seq (.region [⟨.mv (.t 6), none⟩, ⟨.mv (.l 0), none⟩] [(2, 1)])
 .ret))))
def a_internal_strconv_FormatInt : AFun := ⟨[0, 1, 4, 5, 6, 7, 9, 11, 17, 23, 34], 54, c_internal_strconv_FormatInt, [.tmp 2], 1⟩
def c_internal_strconv_small : ACode :=
 (.seq (.region [⟨.mv (.c (.str ⟨#[]⟩)), none⟩] [(1, 0)])
 (.seq (.seq (.region [⟨.mv (.t 0), none⟩, ⟨.bin 0 .lss (.l 0) (.c (.int .i64 (10))), none⟩] [(2, 1)])
 (.cond (.t 2) (.seq (.region [⟨.mv (.t 0), none⟩, ⟨.mv (.t 0), none⟩, ⟨.bin 0 .add (.l 1) (.c (.int .i64 (1))), none⟩, ⟨.sliceStr (.c (.str ⟨#[48, 49, 50, 51, 52, 53, 54, 55, 56, 57, 97, 98, 99, 100, 101, 102, 103, 104, 105, 106, 107, 108, 109, 110, 111, 112, 113, 114, 115, 116, 117, 118, 119, 120, 121, 122]⟩)) (some (.l 0)) (some (.l 2)), none⟩, ⟨.mv (.l 3), none⟩] [(1, 4)])
 .ret) .skip))
 (.seq (.region [⟨.mv (.t 0), none⟩, ⟨.bin 0 .mul (.l 0) (.c (.int .i64 (2))), none⟩, ⟨.mv (.t 0), none⟩, ⟨.bin 0 .mul (.l 2) (.c (.int .i64 (2))), none⟩, ⟨.bin 0 .add (.l 3) (.c (.int .i64 (2))), none⟩, ⟨.sliceStr (.c (.str ⟨#[48, 48, 48, 49, 48, 50, 48, 51, 48, 52, 48, 53, 48, 54, 48, 55, 48, 56, 48, 57, 49, 48, 49, 49, 49, 50, 49, 51, 49, 52, 49, 53, 49, 54, 49, 55, 49, 56, 49, 57, 50, 48, 50, 49, 50, 50, 50, 51, 50, 52, 50, 53, 50, 54, 50, 55, 50, 56, 50, 57, 51, 48, 51, 49, 51, 50, 51, 51, 51, 52, 51, 53, 51, 54, 51, 55, 51, 56, 51, 57, 52, 48, 52, 49, 52, 50, 52, 51, 52, 52, 52, 53, 52, 54, 52, 55, 52, 56, 52, 57, 53, 48, 53, 49, 53, 50, 53, 51, 53, 52, 53, 53, 53, 54, 53, 55, 53, 56, 53, 57, 54, 48, 54, 49, 54, 50, 54, 51, 54, 52, 54, 53, 54, 54, 54, 55, 54, 56, 54, 57, 55, 48, 55, 49, 55, 50, 55, 51, 55, 52, 55, 53, 55, 54, 55, 55, 55, 56, 55, 57, 56, 48, 56, 49, 56, 50, 56, 51, 56, 52, 56, 53, 56, 54, 56, 55, 56, 56, 56, 57, 57, 48, 57, 49, 57, 50, 57, 51, 57, 52, 57, 53, 57, 54, 57, 55, 57, 56, 57, 57]⟩)) (some (.l 1)) (some (.l 4)), none⟩, ⟨.mv (.l 5), none⟩] [(1, 6)])
 .ret)))
def a_internal_strconv_small : AFun := ⟨[0, 2, 4], 15, c_internal_strconv_small, [.tmp 1], 1⟩
-- internal_strconv_numDigits: not taken
def w_internal_strconv_formatBase10_1 : ACode :=
 (.seq (.seq (.region [⟨.mv (.t 2), none⟩, ⟨.bin 0 .geq (.l 0) (.c (.int .i64 (8))), none⟩] [(15, 1)])
 (.cond (.t 15) .skip (.exit 0)))
 (.block 1 (.seq (.region [⟨.mv (.t 1), none⟩, ⟨.bin 0 .rem (.l 0) (.c (.int .u64 (100000000))), none⟩, ⟨.conv .u32 (.l 1), none⟩, ⟨.mv (.l 2), none⟩] [(3, 3)])
 (.seq (.region [⟨.mv (.t 1), none⟩, ⟨.bin 0 .quo (.l 0) (.c (.int .u64 (100000000))), none⟩, ⟨.mv (.l 1), none⟩] [(1, 2)])
 (.seq (.region [⟨.mv (.t 3), none⟩, ⟨.bin 0 .quo (.l 0) (.c (.int .u32 (10000))), none⟩, ⟨.mv (.t 3), none⟩, ⟨.bin 0 .rem (.l 2) (.c (.int .u32 (10000))), none⟩, ⟨.mv (.l 1), none⟩, ⟨.mv (.l 3), none⟩] [(4, 4), (5, 5)])
 (.seq (.region [⟨.mv (.t 5), none⟩, ⟨.bin 0 .quo (.l 0) (.c (.int .u32 (100))), none⟩, ⟨.bin 0 .mul (.l 1) (.c (.int .u32 (2))), none⟩, ⟨.mv (.t 5), none⟩, ⟨.bin 0 .rem (.l 3) (.c (.int .u32 (100))), none⟩, ⟨.bin 0 .mul (.l 4) (.c (.int .u32 (2))), none⟩, ⟨.mv (.l 2), none⟩, ⟨.mv (.l 5), none⟩] [(6, 6), (7, 7)])
 (.seq (.region [⟨.mv (.t 4), none⟩, ⟨.bin 0 .quo (.l 0) (.c (.int .u32 (100))), none⟩, ⟨.bin 0 .mul (.l 1) (.c (.int .u32 (2))), none⟩, ⟨.mv (.t 4), none⟩, ⟨.bin 0 .rem (.l 3) (.c (.int .u32 (100))), none⟩, ⟨.bin 0 .mul (.l 4) (.c (.int .u32 (2))), none⟩, ⟨.mv (.l 2), none⟩, ⟨.mv (.l 5), none⟩] [(8, 6), (9, 7)])
 (.seq (.draw [⟨.mv (.t 0), none, []⟩, ⟨.mv (.t 2), none, []⟩, ⟨.bin 0 .sub (.l 1) (.c (.int .i64 (1))), none, []⟩, ⟨.mv (.t 0), none, []⟩, ⟨.mv (.t 2), none, []⟩, ⟨.bin 0 .sub (.l 4) (.c (.int .i64 (2))), none, []⟩, ⟨.mv (.t 7), none, []⟩, ⟨.bin 0 .add (.l 6) (.c (.int .u32 (1))), none, []⟩, ⟨.indexS (.c (.str ⟨#[48, 48, 48, 49, 48, 50, 48, 51, 48, 52, 48, 53, 48, 54, 48, 55, 48, 56, 48, 57, 49, 48, 49, 49, 49, 50, 49, 51, 49, 52, 49, 53, 49, 54, 49, 55, 49, 56, 49, 57, 50, 48, 50, 49, 50, 50, 50, 51, 50, 52, 50, 53, 50, 54, 50, 55, 50, 56, 50, 57, 51, 48, 51, 49, 51, 50, 51, 51, 51, 52, 51, 53, 51, 54, 51, 55, 51, 56, 51, 57, 52, 48, 52, 49, 52, 50, 52, 51, 52, 52, 52, 53, 52, 54, 52, 55, 52, 56, 52, 57, 53, 48, 53, 49, 53, 50, 53, 51, 53, 52, 53, 53, 53, 54, 53, 55, 53, 56, 53, 57, 54, 48, 54, 49, 54, 50, 54, 51, 54, 52, 54, 53, 54, 54, 54, 55, 54, 56, 54, 57, 55, 48, 55, 49, 55, 50, 55, 51, 55, 52, 55, 53, 55, 54, 55, 55, 55, 56, 55, 57, 56, 48, 56, 49, 56, 50, 56, 51, 56, 52, 56, 53, 56, 54, 56, 55, 56, 56, 56, 57, 57, 48, 57, 49, 57, 50, 57, 51, 57, 52, 57, 53, 57, 54, 57, 55, 57, 56, 57, 57]⟩)) (.l 7), none, []⟩, ⟨.mv (.t 7), none, []⟩, ⟨.indexS (.c (.str ⟨#[48, 48, 48, 49, 48, 50, 48, 51, 48, 52, 48, 53, 48, 54, 48, 55, 48, 56, 48, 57, 49, 48, 49, 49, 49, 50, 49, 51, 49, 52, 49, 53, 49, 54, 49, 55, 49, 56, 49, 57, 50, 48, 50, 49, 50, 50, 50, 51, 50, 52, 50, 53, 50, 54, 50, 55, 50, 56, 50, 57, 51, 48, 51, 49, 51, 50, 51, 51, 51, 52, 51, 53, 51, 54, 51, 55, 51, 56, 51, 57, 52, 48, 52, 49, 52, 50, 52, 51, 52, 52, 52, 53, 52, 54, 52, 55, 52, 56, 52, 57, 53, 48, 53, 49, 53, 50, 53, 51, 53, 52, 53, 53, 53, 54, 53, 55, 53, 56, 53, 57, 54, 48, 54, 49, 54, 50, 54, 51, 54, 52, 54, 53, 54, 54, 54, 55, 54, 56, 54, 57, 55, 48, 55, 49, 55, 50, 55, 51, 55, 52, 55, 53, 55, 54, 55, 55, 55, 56, 55, 57, 56, 48, 56, 49, 56, 50, 56, 51, 56, 52, 56, 53, 56, 54, 56, 55, 56, 56, 56, 57, 57, 48, 57, 49, 57, 50, 57, 51, 57, 52, 57, 53, 57, 54, 57, 55, 57, 56, 57, 57]⟩)) (.l 9), none, []⟩, ⟨.indexAddrS 1 (.l 0) (.l 2), none, []⟩, ⟨.store 1 (.l 11) (.l 8), none, []⟩, ⟨.indexAddrS 1 (.l 3) (.l 5), none, []⟩, ⟨.store 1 (.l 13) (.l 10), none, []⟩] [])
 (.seq (.draw [⟨.mv (.t 0), none, []⟩, ⟨.mv (.t 2), none, []⟩, ⟨.bin 0 .sub (.l 1) (.c (.int .i64 (3))), none, []⟩, ⟨.mv (.t 0), none, []⟩, ⟨.mv (.t 2), none, []⟩, ⟨.bin 0 .sub (.l 4) (.c (.int .i64 (4))), none, []⟩, ⟨.mv (.t 6), none, []⟩, ⟨.bin 0 .add (.l 6) (.c (.int .u32 (1))), none, []⟩, ⟨.indexS (.c (.str ⟨#[48, 48, 48, 49, 48, 50, 48, 51, 48, 52, 48, 53, 48, 54, 48, 55, 48, 56, 48, 57, 49, 48, 49, 49, 49, 50, 49, 51, 49, 52, 49, 53, 49, 54, 49, 55, 49, 56, 49, 57, 50, 48, 50, 49, 50, 50, 50, 51, 50, 52, 50, 53, 50, 54, 50, 55, 50, 56, 50, 57, 51, 48, 51, 49, 51, 50, 51, 51, 51, 52, 51, 53, 51, 54, 51, 55, 51, 56, 51, 57, 52, 48, 52, 49, 52, 50, 52, 51, 52, 52, 52, 53, 52, 54, 52, 55, 52, 56, 52, 57, 53, 48, 53, 49, 53, 50, 53, 51, 53, 52, 53, 53, 53, 54, 53, 55, 53, 56, 53, 57, 54, 48, 54, 49, 54, 50, 54, 51, 54, 52, 54, 53, 54, 54, 54, 55, 54, 56, 54, 57, 55, 48, 55, 49, 55, 50, 55, 51, 55, 52, 55, 53, 55, 54, 55, 55, 55, 56, 55, 57, 56, 48, 56, 49, 56, 50, 56, 51, 56, 52, 56, 53, 56, 54, 56, 55, 56, 56, 56, 57, 57, 48, 57, 49, 57, 50, 57, 51, 57, 52, 57, 53, 57, 54, 57, 55, 57, 56, 57, 57]⟩)) (.l 7), none, []⟩, ⟨.mv (.t 6), none, []⟩, ⟨.indexS (.c (.str ⟨#[48, 48, 48, 49, 48, 50, 48, 51, 48, 52, 48, 53, 48, 54, 48, 55, 48, 56, 48, 57, 49, 48, 49, 49, 49, 50, 49, 51, 49, 52, 49, 53, 49, 54, 49, 55, 49, 56, 49, 57, 50, 48, 50, 49, 50, 50, 50, 51, 50, 52, 50, 53, 50, 54, 50, 55, 50, 56, 50, 57, 51, 48, 51, 49, 51, 50, 51, 51, 51, 52, 51, 53, 51, 54, 51, 55, 51, 56, 51, 57, 52, 48, 52, 49, 52, 50, 52, 51, 52, 52, 52, 53, 52, 54, 52, 55, 52, 56, 52, 57, 53, 48, 53, 49, 53, 50, 53, 51, 53, 52, 53, 53, 53, 54, 53, 55, 53, 56, 53, 57, 54, 48, 54, 49, 54, 50, 54, 51, 54, 52, 54, 53, 54, 54, 54, 55, 54, 56, 54, 57, 55, 48, 55, 49, 55, 50, 55, 51, 55, 52, 55, 53, 55, 54, 55, 55, 55, 56, 55, 57, 56, 48, 56, 49, 56, 50, 56, 51, 56, 52, 56, 53, 56, 54, 56, 55, 56, 56, 56, 57, 57, 48, 57, 49, 57, 50, 57, 51, 57, 52, 57, 53, 57, 54, 57, 55, 57, 56, 57, 57]⟩)) (.l 9), none, []⟩, ⟨.indexAddrS 1 (.l 0) (.l 2), none, []⟩, ⟨.store 1 (.l 11) (.l 8), none, []⟩, ⟨.indexAddrS 1 (.l 3) (.l 5), none, []⟩, ⟨.store 1 (.l 13) (.l 10), none, []⟩] [])
 (.seq (.draw [⟨.mv (.t 0), none, []⟩, ⟨.mv (.t 2), none, []⟩, ⟨.bin 0 .sub (.l 1) (.c (.int .i64 (5))), none, []⟩, ⟨.mv (.t 0), none, []⟩, ⟨.mv (.t 2), none, []⟩, ⟨.bin 0 .sub (.l 4) (.c (.int .i64 (6))), none, []⟩, ⟨.mv (.t 9), none, []⟩, ⟨.bin 0 .add (.l 6) (.c (.int .u32 (1))), none, []⟩, ⟨.indexS (.c (.str ⟨#[48, 48, 48, 49, 48, 50, 48, 51, 48, 52, 48, 53, 48, 54, 48, 55, 48, 56, 48, 57, 49, 48, 49, 49, 49, 50, 49, 51, 49, 52, 49, 53, 49, 54, 49, 55, 49, 56, 49, 57, 50, 48, 50, 49, 50, 50, 50, 51, 50, 52, 50, 53, 50, 54, 50, 55, 50, 56, 50, 57, 51, 48, 51, 49, 51, 50, 51, 51, 51, 52, 51, 53, 51, 54, 51, 55, 51, 56, 51, 57, 52, 48, 52, 49, 52, 50, 52, 51, 52, 52, 52, 53, 52, 54, 52, 55, 52, 56, 52, 57, 53, 48, 53, 49, 53, 50, 53, 51, 53, 52, 53, 53, 53, 54, 53, 55, 53, 56, 53, 57, 54, 48, 54, 49, 54, 50, 54, 51, 54, 52, 54, 53, 54, 54, 54, 55, 54, 56, 54, 57, 55, 48, 55, 49, 55, 50, 55, 51, 55, 52, 55, 53, 55, 54, 55, 55, 55, 56, 55, 57, 56, 48, 56, 49, 56, 50, 56, 51, 56, 52, 56, 53, 56, 54, 56, 55, 56, 56, 56, 57, 57, 48, 57, 49, 57, 50, 57, 51, 57, 52, 57, 53, 57, 54, 57, 55, 57, 56, 57, 57]⟩)) (.l 7), none, []⟩, ⟨.mv (.t 9), none, []⟩, ⟨.indexS (.c (.str ⟨#[48, 48, 48, 49, 48, 50, 48, 51, 48, 52, 48, 53, 48, 54, 48, 55, 48, 56, 48, 57, 49, 48, 49, 49, 49, 50, 49, 51, 49, 52, 49, 53, 49, 54, 49, 55, 49, 56, 49, 57, 50, 48, 50, 49, 50, 50, 50, 51, 50, 52, 50, 53, 50, 54, 50, 55, 50, 56, 50, 57, 51, 48, 51, 49, 51, 50, 51, 51, 51, 52, 51, 53, 51, 54, 51, 55, 51, 56, 51, 57, 52, 48, 52, 49, 52, 50, 52, 51, 52, 52, 52, 53, 52, 54, 52, 55, 52, 56, 52, 57, 53, 48, 53, 49, 53, 50, 53, 51, 53, 52, 53, 53, 53, 54, 53, 55, 53, 56, 53, 57, 54, 48, 54, 49, 54, 50, 54, 51, 54, 52, 54, 53, 54, 54, 54, 55, 54, 56, 54, 57, 55, 48, 55, 49, 55, 50, 55, 51, 55, 52, 55, 53, 55, 54, 55, 55, 55, 56, 55, 57, 56, 48, 56, 49, 56, 50, 56, 51, 56, 52, 56, 53, 56, 54, 56, 55, 56, 56, 56, 57, 57, 48, 57, 49, 57, 50, 57, 51, 57, 52, 57, 53, 57, 54, 57, 55, 57, 56, 57, 57]⟩)) (.l 9), none, []⟩, ⟨.indexAddrS 1 (.l 0) (.l 2), none, []⟩, ⟨.store 1 (.l 11) (.l 8), none, []⟩, ⟨.indexAddrS 1 (.l 3) (.l 5), none, []⟩, ⟨.store 1 (.l 13) (.l 10), none, []⟩] [])
 (.seq (.draw [⟨.mv (.t 0), none, []⟩, ⟨.mv (.t 2), none, []⟩, ⟨.bin 0 .sub (.l 1) (.c (.int .i64 (7))), none, []⟩, ⟨.mv (.t 0), none, []⟩, ⟨.mv (.t 2), none, []⟩, ⟨.bin 0 .sub (.l 4) (.c (.int .i64 (8))), none, []⟩, ⟨.mv (.t 8), none, []⟩, ⟨.bin 0 .add (.l 6) (.c (.int .u32 (1))), none, []⟩, ⟨.indexS (.c (.str ⟨#[48, 48, 48, 49, 48, 50, 48, 51, 48, 52, 48, 53, 48, 54, 48, 55, 48, 56, 48, 57, 49, 48, 49, 49, 49, 50, 49, 51, 49, 52, 49, 53, 49, 54, 49, 55, 49, 56, 49, 57, 50, 48, 50, 49, 50, 50, 50, 51, 50, 52, 50, 53, 50, 54, 50, 55, 50, 56, 50, 57, 51, 48, 51, 49, 51, 50, 51, 51, 51, 52, 51, 53, 51, 54, 51, 55, 51, 56, 51, 57, 52, 48, 52, 49, 52, 50, 52, 51, 52, 52, 52, 53, 52, 54, 52, 55, 52, 56, 52, 57, 53, 48, 53, 49, 53, 50, 53, 51, 53, 52, 53, 53, 53, 54, 53, 55, 53, 56, 53, 57, 54, 48, 54, 49, 54, 50, 54, 51, 54, 52, 54, 53, 54, 54, 54, 55, 54, 56, 54, 57, 55, 48, 55, 49, 55, 50, 55, 51, 55, 52, 55, 53, 55, 54, 55, 55, 55, 56, 55, 57, 56, 48, 56, 49, 56, 50, 56, 51, 56, 52, 56, 53, 56, 54, 56, 55, 56, 56, 56, 57, 57, 48, 57, 49, 57, 50, 57, 51, 57, 52, 57, 53, 57, 54, 57, 55, 57, 56, 57, 57]⟩)) (.l 7), none, []⟩, ⟨.mv (.t 8), none, []⟩, ⟨.indexS (.c (.str ⟨#[48, 48, 48, 49, 48, 50, 48, 51, 48, 52, 48, 53, 48, 54, 48, 55, 48, 56, 48, 57, 49, 48, 49, 49, 49, 50, 49, 51, 49, 52, 49, 53, 49, 54, 49, 55, 49, 56, 49, 57, 50, 48, 50, 49, 50, 50, 50, 51, 50, 52, 50, 53, 50, 54, 50, 55, 50, 56, 50, 57, 51, 48, 51, 49, 51, 50, 51, 51, 51, 52, 51, 53, 51, 54, 51, 55, 51, 56, 51, 57, 52, 48, 52, 49, 52, 50, 52, 51, 52, 52, 52, 53, 52, 54, 52, 55, 52, 56, 52, 57, 53, 48, 53, 49, 53, 50, 53, 51, 53, 52, 53, 53, 53, 54, 53, 55, 53, 56, 53, 57, 54, 48, 54, 49, 54, 50, 54, 51, 54, 52, 54, 53, 54, 54, 54, 55, 54, 56, 54, 57, 55, 48, 55, 49, 55, 50, 55, 51, 55, 52, 55, 53, 55, 54, 55, 55, 55, 56, 55, 57, 56, 48, 56, 49, 56, 50, 56, 51, 56, 52, 56, 53, 56, 54, 56, 55, 56, 56, 56, 57, 57, 48, 57, 49, 57, 50, 57, 51, 57, 52, 57, 53, 57, 54, 57, 55, 57, 56, 57, 57]⟩)) (.l 9), none, []⟩, ⟨.indexAddrS 1 (.l 0) (.l 2), none, []⟩, ⟨.store 1 (.l 11) (.l 8), none, []⟩, ⟨.indexAddrS 1 (.l 3) (.l 5), none, []⟩, ⟨.store 1 (.l 13) (.l 10), none, []⟩] [])
 (.region [⟨.mv (.t 2), none⟩, ⟨.bin 0 .sub (.l 0) (.c (.int .i64 (8))), none⟩, ⟨.mv (.l 1), none⟩] [(2, 2)]))))))))))))
def c_internal_strconv_formatBase10 : ACode :=
 (.seq (.region [⟨.mv (.t 0), none⟩, ⟨.len (.l 0), none⟩, ⟨.mv (.l 1), none⟩] [(2, 2)])
 (.seq (.block 0 (.loop w_internal_strconv_formatBase10_1))
 (.seq (.region [⟨.mv (.t 1), none⟩, ⟨.conv .u32 (.l 0), none⟩, ⟨.mv (.l 1), none⟩] [(10, 2)])
 (.seq (.seq (.region [⟨.mv (.t 2), none⟩, ⟨.bin 0 .geq (.l 0) (.c (.int .i64 (4))), none⟩] [(16, 1)])
 (.cond (.t 16) (.seq (.region [⟨.mv (.t 10), none⟩, ⟨.bin 0 .rem (.l 0) (.c (.int .u32 (10000))), none⟩, ⟨.mv (.l 1), none⟩] [(11, 2)])
 (.seq (.region [⟨.mv (.t 10), none⟩, ⟨.bin 0 .quo (.l 0) (.c (.int .u32 (10000))), none⟩, ⟨.mv (.l 1), none⟩] [(10, 2)])
 (.seq (.region [⟨.mv (.t 11), none⟩, ⟨.bin 0 .quo (.l 0) (.c (.int .u32 (100))), none⟩, ⟨.bin 0 .mul (.l 1) (.c (.int .u32 (2))), none⟩, ⟨.mv (.t 11), none⟩, ⟨.bin 0 .rem (.l 3) (.c (.int .u32 (100))), none⟩, ⟨.bin 0 .mul (.l 4) (.c (.int .u32 (2))), none⟩, ⟨.mv (.l 2), none⟩, ⟨.mv (.l 5), none⟩] [(12, 6), (13, 7)])
 (.seq (.draw [⟨.mv (.t 0), none, []⟩, ⟨.mv (.t 2), none, []⟩, ⟨.bin 0 .sub (.l 1) (.c (.int .i64 (1))), none, []⟩, ⟨.mv (.t 0), none, []⟩, ⟨.mv (.t 2), none, []⟩, ⟨.bin 0 .sub (.l 4) (.c (.int .i64 (2))), none, []⟩, ⟨.mv (.t 13), none, []⟩, ⟨.bin 0 .add (.l 6) (.c (.int .u32 (1))), none, []⟩, ⟨.indexS (.c (.str ⟨#[48, 48, 48, 49, 48, 50, 48, 51, 48, 52, 48, 53, 48, 54, 48, 55, 48, 56, 48, 57, 49, 48, 49, 49, 49, 50, 49, 51, 49, 52, 49, 53, 49, 54, 49, 55, 49, 56, 49, 57, 50, 48, 50, 49, 50, 50, 50, 51, 50, 52, 50, 53, 50, 54, 50, 55, 50, 56, 50, 57, 51, 48, 51, 49, 51, 50, 51, 51, 51, 52, 51, 53, 51, 54, 51, 55, 51, 56, 51, 57, 52, 48, 52, 49, 52, 50, 52, 51, 52, 52, 52, 53, 52, 54, 52, 55, 52, 56, 52, 57, 53, 48, 53, 49, 53, 50, 53, 51, 53, 52, 53, 53, 53, 54, 53, 55, 53, 56, 53, 57, 54, 48, 54, 49, 54, 50, 54, 51, 54, 52, 54, 53, 54, 54, 54, 55, 54, 56, 54, 57, 55, 48, 55, 49, 55, 50, 55, 51, 55, 52, 55, 53, 55, 54, 55, 55, 55, 56, 55, 57, 56, 48, 56, 49, 56, 50, 56, 51, 56, 52, 56, 53, 56, 54, 56, 55, 56, 56, 56, 57, 57, 48, 57, 49, 57, 50, 57, 51, 57, 52, 57, 53, 57, 54, 57, 55, 57, 56, 57, 57]⟩)) (.l 7), none, []⟩, ⟨.mv (.t 13), none, []⟩, ⟨.indexS (.c (.str ⟨#[48, 48, 48, 49, 48, 50, 48, 51, 48, 52, 48, 53, 48, 54, 48, 55, 48, 56, 48, 57, 49, 48, 49, 49, 49, 50, 49, 51, 49, 52, 49, 53, 49, 54, 49, 55, 49, 56, 49, 57, 50, 48, 50, 49, 50, 50, 50, 51, 50, 52, 50, 53, 50, 54, 50, 55, 50, 56, 50, 57, 51, 48, 51, 49, 51, 50, 51, 51, 51, 52, 51, 53, 51, 54, 51, 55, 51, 56, 51, 57, 52, 48, 52, 49, 52, 50, 52, 51, 52, 52, 52, 53, 52, 54, 52, 55, 52, 56, 52, 57, 53, 48, 53, 49, 53, 50, 53, 51, 53, 52, 53, 53, 53, 54, 53, 55, 53, 56, 53, 57, 54, 48, 54, 49, 54, 50, 54, 51, 54, 52, 54, 53, 54, 54, 54, 55, 54, 56, 54, 57, 55, 48, 55, 49, 55, 50, 55, 51, 55, 52, 55, 53, 55, 54, 55, 55, 55, 56, 55, 57, 56, 48, 56, 49, 56, 50, 56, 51, 56, 52, 56, 53, 56, 54, 56, 55, 56, 56, 56, 57, 57, 48, 57, 49, 57, 50, 57, 51, 57, 52, 57, 53, 57, 54, 57, 55, 57, 56, 57, 57]⟩)) (.l 9), none, []⟩, ⟨.indexAddrS 1 (.l 0) (.l 2), none, []⟩, ⟨.store 1 (.l 11) (.l 8), none, []⟩, ⟨.indexAddrS 1 (.l 3) (.l 5), none, []⟩, ⟨.store 1 (.l 13) (.l 10), none, []⟩] [])
 (.seq (.draw [⟨.mv (.t 0), none, []⟩, ⟨.mv (.t 2), none, []⟩, ⟨.bin 0 .sub (.l 1) (.c (.int .i64 (3))), none, []⟩, ⟨.mv (.t 0), none, []⟩, ⟨.mv (.t 2), none, []⟩, ⟨.bin 0 .sub (.l 4) (.c (.int .i64 (4))), none, []⟩, ⟨.mv (.t 12), none, []⟩, ⟨.bin 0 .add (.l 6) (.c (.int .u32 (1))), none, []⟩, ⟨.indexS (.c (.str ⟨#[48, 48, 48, 49, 48, 50, 48, 51, 48, 52, 48, 53, 48, 54, 48, 55, 48, 56, 48, 57, 49, 48, 49, 49, 49, 50, 49, 51, 49, 52, 49, 53, 49, 54, 49, 55, 49, 56, 49, 57, 50, 48, 50, 49, 50, 50, 50, 51, 50, 52, 50, 53, 50, 54, 50, 55, 50, 56, 50, 57, 51, 48, 51, 49, 51, 50, 51, 51, 51, 52, 51, 53, 51, 54, 51, 55, 51, 56, 51, 57, 52, 48, 52, 49, 52, 50, 52, 51, 52, 52, 52, 53, 52, 54, 52, 55, 52, 56, 52, 57, 53, 48, 53, 49, 53, 50, 53, 51, 53, 52, 53, 53, 53, 54, 53, 55, 53, 56, 53, 57, 54, 48, 54, 49, 54, 50, 54, 51, 54, 52, 54, 53, 54, 54, 54, 55, 54, 56, 54, 57, 55, 48, 55, 49, 55, 50, 55, 51, 55, 52, 55, 53, 55, 54, 55, 55, 55, 56, 55, 57, 56, 48, 56, 49, 56, 50, 56, 51, 56, 52, 56, 53, 56, 54, 56, 55, 56, 56, 56, 57, 57, 48, 57, 49, 57, 50, 57, 51, 57, 52, 57, 53, 57, 54, 57, 55, 57, 56, 57, 57]⟩)) (.l 7), none, []⟩, ⟨.mv (.t 12), none, []⟩, ⟨.indexS (.c (.str ⟨#[48, 48, 48, 49, 48, 50, 48, 51, 48, 52, 48, 53, 48, 54, 48, 55, 48, 56, 48, 57, 49, 48, 49, 49, 49, 50, 49, 51, 49, 52, 49, 53, 49, 54, 49, 55, 49, 56, 49, 57, 50, 48, 50, 49, 50, 50, 50, 51, 50, 52, 50, 53, 50, 54, 50, 55, 50, 56, 50, 57, 51, 48, 51, 49, 51, 50, 51, 51, 51, 52, 51, 53, 51, 54, 51, 55, 51, 56, 51, 57, 52, 48, 52, 49, 52, 50, 52, 51, 52, 52, 52, 53, 52, 54, 52, 55, 52, 56, 52, 57, 53, 48, 53, 49, 53, 50, 53, 51, 53, 52, 53, 53, 53, 54, 53, 55, 53, 56, 53, 57, 54, 48, 54, 49, 54, 50, 54, 51, 54, 52, 54, 53, 54, 54, 54, 55, 54, 56, 54, 57, 55, 48, 55, 49, 55, 50, 55, 51, 55, 52, 55, 53, 55, 54, 55, 55, 55, 56, 55, 57, 56, 48, 56, 49, 56, 50, 56, 51, 56, 52, 56, 53, 56, 54, 56, 55, 56, 56, 56, 57, 57, 48, 57, 49, 57, 50, 57, 51, 57, 52, 57, 53, 57, 54, 57, 55, 57, 56, 57, 57]⟩)) (.l 9), none, []⟩, ⟨.indexAddrS 1 (.l 0) (.l 2), none, []⟩, ⟨.store 1 (.l 11) (.l 8), none, []⟩, ⟨.indexAddrS 1 (.l 3) (.l 5), none, []⟩, ⟨.store 1 (.l 13) (.l 10), none, []⟩] [])
 (.region [⟨.mv (.t 2), none⟩, ⟨.bin 0 .sub (.l 0) (.c (.int .i64 (4))), none⟩, ⟨.mv (.l 1), none⟩] [(2, 2)])))))) .skip))
 (.seq (.seq (.region [⟨.mv (.t 2), none⟩, ⟨.bin 0 .geq (.l 0) (.c (.int .i64 (2))), none⟩] [(17, 1)])
 (.cond (.t 17) (.seq (.region [⟨.mv (.t 10), none⟩, ⟨.bin 0 .rem (.l 0) (.c (.int .u32 (100))), none⟩, ⟨.bin 0 .mul (.l 1) (.c (.int .u32 (2))), none⟩, ⟨.mv (.l 2), none⟩] [(14, 3)])
 (.seq (.region [⟨.mv (.t 10), none⟩, ⟨.bin 0 .quo (.l 0) (.c (.int .u32 (100))), none⟩, ⟨.mv (.l 1), none⟩] [(10, 2)])
 (.seq (.draw [⟨.mv (.t 0), none, []⟩, ⟨.mv (.t 2), none, []⟩, ⟨.bin 0 .sub (.l 1) (.c (.int .i64 (1))), none, []⟩, ⟨.mv (.t 0), none, []⟩, ⟨.mv (.t 2), none, []⟩, ⟨.bin 0 .sub (.l 4) (.c (.int .i64 (2))), none, []⟩, ⟨.mv (.t 14), none, []⟩, ⟨.bin 0 .add (.l 6) (.c (.int .u32 (1))), none, []⟩, ⟨.indexS (.c (.str ⟨#[48, 48, 48, 49, 48, 50, 48, 51, 48, 52, 48, 53, 48, 54, 48, 55, 48, 56, 48, 57, 49, 48, 49, 49, 49, 50, 49, 51, 49, 52, 49, 53, 49, 54, 49, 55, 49, 56, 49, 57, 50, 48, 50, 49, 50, 50, 50, 51, 50, 52, 50, 53, 50, 54, 50, 55, 50, 56, 50, 57, 51, 48, 51, 49, 51, 50, 51, 51, 51, 52, 51, 53, 51, 54, 51, 55, 51, 56, 51, 57, 52, 48, 52, 49, 52, 50, 52, 51, 52, 52, 52, 53, 52, 54, 52, 55, 52, 56, 52, 57, 53, 48, 53, 49, 53, 50, 53, 51, 53, 52, 53, 53, 53, 54, 53, 55, 53, 56, 53, 57, 54, 48, 54, 49, 54, 50, 54, 51, 54, 52, 54, 53, 54, 54, 54, 55, 54, 56, 54, 57, 55, 48, 55, 49, 55, 50, 55, 51, 55, 52, 55, 53, 55, 54, 55, 55, 55, 56, 55, 57, 56, 48, 56, 49, 56, 50, 56, 51, 56, 52, 56, 53, 56, 54, 56, 55, 56, 56, 56, 57, 57, 48, 57, 49, 57, 50, 57, 51, 57, 52, 57, 53, 57, 54, 57, 55, 57, 56, 57, 57]⟩)) (.l 7), none, []⟩, ⟨.mv (.t 14), none, []⟩, ⟨.indexS (.c (.str ⟨#[48, 48, 48, 49, 48, 50, 48, 51, 48, 52, 48, 53, 48, 54, 48, 55, 48, 56, 48, 57, 49, 48, 49, 49, 49, 50, 49, 51, 49, 52, 49, 53, 49, 54, 49, 55, 49, 56, 49, 57, 50, 48, 50, 49, 50, 50, 50, 51, 50, 52, 50, 53, 50, 54, 50, 55, 50, 56, 50, 57, 51, 48, 51, 49, 51, 50, 51, 51, 51, 52, 51, 53, 51, 54, 51, 55, 51, 56, 51, 57, 52, 48, 52, 49, 52, 50, 52, 51, 52, 52, 52, 53, 52, 54, 52, 55, 52, 56, 52, 57, 53, 48, 53, 49, 53, 50, 53, 51, 53, 52, 53, 53, 53, 54, 53, 55, 53, 56, 53, 57, 54, 48, 54, 49, 54, 50, 54, 51, 54, 52, 54, 53, 54, 54, 54, 55, 54, 56, 54, 57, 55, 48, 55, 49, 55, 50, 55, 51, 55, 52, 55, 53, 55, 54, 55, 55, 55, 56, 55, 57, 56, 48, 56, 49, 56, 50, 56, 51, 56, 52, 56, 53, 56, 54, 56, 55, 56, 56, 56, 57, 57, 48, 57, 49, 57, 50, 57, 51, 57, 52, 57, 53, 57, 54, 57, 55, 57, 56, 57, 57]⟩)) (.l 9), none, []⟩, ⟨.indexAddrS 1 (.l 0) (.l 2), none, []⟩, ⟨.store 1 (.l 11) (.l 8), none, []⟩, ⟨.indexAddrS 1 (.l 3) (.l 5), none, []⟩, ⟨.store 1 (.l 13) (.l 10), none, []⟩] [])
 (.region [⟨.mv (.t 2), none⟩, ⟨.bin 0 .sub (.l 0) (.c (.int .i64 (2))), none⟩, ⟨.mv (.l 1), none⟩] [(2, 2)])))) .skip))
 (.seq (.region [⟨.mv (.t 2), none⟩, ⟨.bin 0 .gtr (.l 0) (.c (.int .i64 (0))), none⟩] [(18, 1)])
 (.cond (.t 18) (.region [⟨.mv (.t 0), none⟩, ⟨.mv (.t 10), none⟩, ⟨.bin 0 .add (.c (.int .u32 (48))) (.l 1), none⟩, ⟨.conv .u8 (.l 2), none⟩, ⟨.indexAddrS 1 (.l 0) (.c (.int .i64 (0))), none⟩, ⟨.store 1 (.l 4) (.l 3), none⟩] []) .skip)))))))
def a_internal_strconv_formatBase10 : AFun := ⟨[0, 1, 4, 5, 6, 7, 8, 9, 10, 11, 12, 13, 14, 15, 16, 20, 99, 139, 161], 167, c_internal_strconv_formatBase10, [], 1⟩
-- internal_strconv_formatBits: not taken
def c_internal_strconv_log10Pow2 : ACode :=
 (.seq (.region [⟨.mv (.c (.int .i64 (0))), none⟩] [(1, 0)])
 (.seq (.region [⟨.mv (.t 0), none⟩, ⟨.bin 0 .mul (.l 0) (.c (.int .i64 (78913))), none⟩, ⟨.bin 0 .shr (.l 1) (.c (.int .u64 (18))), none⟩, ⟨.mv (.l 2), none⟩] [(1, 3)])
 .ret))
def a_internal_strconv_log10Pow2 : AFun := ⟨[0, 2], 6, c_internal_strconv_log10Pow2, [.tmp 1], 1⟩
def c_math_bits_Len64 : ACode :=
 (.seq (.region [⟨.mv (.c (.int .i64 (0))), none⟩] [(1, 0)])
 (.seq (.seq (.region [⟨.mv (.t 0), none⟩, ⟨.bin 0 .geq (.l 0) (.c (.int .u64 (4294967296))), none⟩] [(2, 1)])
 (.cond (.t 2) (.seq (.region [⟨.mv (.t 0), none⟩, ⟨.bin 0 .shr (.l 0) (.c (.int .u64 (32))), none⟩, ⟨.mv (.l 1), none⟩] [(0, 2)])
 (.region [⟨.mv (.c (.int .i64 (32))), none⟩] [(1, 0)])) .skip))
 (.seq (.seq (.region [⟨.mv (.t 0), none⟩, ⟨.bin 0 .geq (.l 0) (.c (.int .u64 (65536))), none⟩] [(3, 1)])
 (.cond (.t 3) (.seq (.region [⟨.mv (.t 0), none⟩, ⟨.bin 0 .shr (.l 0) (.c (.int .u64 (16))), none⟩, ⟨.mv (.l 1), none⟩] [(0, 2)])
 (.region [⟨.mv (.t 1), none⟩, ⟨.bin 0 .add (.l 0) (.c (.int .i64 (16))), none⟩, ⟨.mv (.l 1), none⟩] [(1, 2)])) .skip))
 (.seq (.seq (.region [⟨.mv (.t 0), none⟩, ⟨.bin 0 .geq (.l 0) (.c (.int .u64 (256))), none⟩] [(4, 1)])
 (.cond (.t 4) (.seq (.region [⟨.mv (.t 0), none⟩, ⟨.bin 0 .shr (.l 0) (.c (.int .u64 (8))), none⟩, ⟨.mv (.l 1), none⟩] [(0, 2)])
 (.region [⟨.mv (.t 1), none⟩, ⟨.bin 0 .add (.l 0) (.c (.int .i64 (8))), none⟩, ⟨.mv (.l 1), none⟩] [(1, 2)])) .skip))
 (.seq (.region [⟨.mv (.t 1), none⟩, ⟨.mv (.t 0), none⟩, ⟨.conv .u8 (.l 1), none⟩, ⟨.indexS (.c (.str ⟨#[0, 1, 2, 2, 3, 3, 3, 3, 4, 4, 4, 4, 4, 4, 4, 4, 5, 5, 5, 5, 5, 5, 5, 5, 5, 5, 5, 5, 5, 5, 5, 5, 6, 6, 6, 6, 6, 6, 6, 6, 6, 6, 6, 6, 6, 6, 6, 6, 6, 6, 6, 6, 6, 6, 6, 6, 6, 6, 6, 6, 6, 6, 6, 6, 7, 7, 7, 7, 7, 7, 7, 7, 7, 7, 7, 7, 7, 7, 7, 7, 7, 7, 7, 7, 7, 7, 7, 7, 7, 7, 7, 7, 7, 7, 7, 7, 7, 7, 7, 7, 7, 7, 7, 7, 7, 7, 7, 7, 7, 7, 7, 7, 7, 7, 7, 7, 7, 7, 7, 7, 7, 7, 7, 7, 7, 7, 7, 7, 8, 8, 8, 8, 8, 8, 8, 8, 8, 8, 8, 8, 8, 8, 8, 8, 8, 8, 8, 8, 8, 8, 8, 8, 8, 8, 8, 8, 8, 8, 8, 8, 8, 8, 8, 8, 8, 8, 8, 8, 8, 8, 8, 8, 8, 8, 8, 8, 8, 8, 8, 8, 8, 8, 8, 8, 8, 8, 8, 8, 8, 8, 8, 8, 8, 8, 8, 8, 8, 8, 8, 8, 8, 8, 8, 8, 8, 8, 8, 8, 8, 8, 8, 8, 8, 8, 8, 8, 8, 8, 8, 8, 8, 8, 8, 8, 8, 8, 8, 8, 8, 8, 8, 8, 8, 8, 8, 8, 8, 8, 8, 8, 8, 8, 8, 8, 8, 8, 8, 8, 8, 8, 8, 8, 8, 8, 8, 8]⟩)) (.l 2), none⟩, ⟨.conv .i64 (.l 3), none⟩, ⟨.bin 0 .add (.l 0) (.l 4), none⟩, ⟨.mv (.l 5), none⟩] [(1, 6)])
 .ret)))))
def a_math_bits_Len64 : AFun := ⟨[0, 2, 4, 8, 14], 25, c_math_bits_Len64, [.tmp 1], 1⟩
def c_internal_strconv_bool2_int : ACode :=
 (.seq (.region [⟨.mv (.c (.int .i64 (0))), none⟩] [(1, 0)])
 (.seq (.seq (.region [⟨.mv (.t 0), none⟩] [(2, 0)])
 (.cond (.t 2) (.seq (.region [⟨.mv (.c (.int .i64 (1))), none⟩] [(1, 0)])
 .ret) .skip))
 (.seq (.region [⟨.mv (.c (.int .i64 (0))), none⟩] [(1, 0)])
 .ret)))
def a_internal_strconv_bool2_int : AFun := ⟨[0, 2, 3], 4, c_internal_strconv_bool2_int, [.tmp 1], 1⟩
def c_internal_strconv_isPowerOfTwo : ACode :=
 (.seq (.region [⟨.mv (.c (.bool false)), none⟩] [(1, 0)])
 (.seq (.region [⟨.mv (.t 0), none⟩, ⟨.mv (.t 0), none⟩, ⟨.bin 0 .sub (.l 1) (.c (.int .i64 (1))), none⟩, ⟨.bin 0 .and (.l 0) (.l 2), none⟩, ⟨.bin 0 .eql (.l 3) (.c (.int .i64 (0))), none⟩, ⟨.mv (.l 4), none⟩] [(1, 5)])
 .ret))
def a_internal_strconv_isPowerOfTwo : AFun := ⟨[0, 2], 8, c_internal_strconv_isPowerOfTwo, [.tmp 1], 1⟩
def c_math_bits_TrailingZeros : ACode :=
 (.seq (.region [⟨.mv (.c (.int .i64 (0))), none⟩] [(1, 0)])
 (.seq (.cond (.c (.bool false)) (.seq (.region [⟨.mv (.t 0), none⟩, ⟨.conv .u32 (.l 0), none⟩, ⟨.call (.c (.fn f_math_bits_TrailingZeros32 [] [])) [(.l 1)], none⟩, ⟨.mv (.l 2), none⟩] [(1, 3)])
 .ret) .skip)
 (.seq (.region [⟨.mv (.t 0), none⟩, ⟨.call (.c (.fn f_math_bits_TrailingZeros64 [] [])) [(.l 0)], none⟩, ⟨.mv (.l 1), none⟩] [(1, 2)])
 .ret)))
def a_math_bits_TrailingZeros : AFun := ⟨[0, 2], 8, c_math_bits_TrailingZeros, [.tmp 1], 1⟩
-- math_bits_TrailingZeros32: not taken
-- math_bits_TrailingZeros64: not taken
-- gosem_cut_vars: not taken
def tab : List (FuncId × AFun) :=
 [(f_gosem_cut_init, a_gosem_cut_init), (f_l_FnExactIsValidConsole, a_l_FnExactIsValidConsole), (f_l_szConsole, a_l_szConsole), (f_s_IsValidConsole, a_s_IsValidConsole), (f_l_toConsole, a_l_toConsole), (f_i_IsValidConsole, a_i_IsValidConsole), (f_l_eqConsole, a_l_eqConsole), (f_l_szStand, a_l_szStand), (f_l_szLog, a_l_szLog), (f_s_l12Good, a_s_l12Good), (f_s_l12Valid, a_s_l12Valid), (f_l_toStand, a_l_toStand), (f_l_toLog, a_l_toLog), (f_i_IsStand, a_i_IsStand), (f_i_IsValidLog, a_i_IsValidLog), (f_l_eqStand, a_l_eqStand), (f_l_eqLog, a_l_eqLog), (f_l_szLoadS, a_l_szLoadS), (f_l_szStageS, a_l_szStageS), (f_s_l2On, a_s_l2On), (f_s_l7Stages, a_s_l7Stages), (f_s_l1In, a_s_l1In), (f_s_l12Open, a_s_l12Open), (f_l_toLoadS, a_l_toLoadS), (f_l_toStageS, a_l_toStageS), (f_i_IsRow, a_i_IsRow), (f_i_isBase, a_i_isBase), (f_i_isChain, a_i_isChain), (f_i_within, a_i_within), (f_i_logRecords, a_i_logRecords), (f_l_eqLoadS, a_l_eqLoadS), (f_l_eqStageS, a_l_eqStageS), (f_s_l2Row, a_s_l2Row), (f_s_l2Base, a_s_l2Base), (f_s_l7Stage, a_s_l7Stage), (f_s_l1Split, a_s_l1Split), (f_s_l12Decode, a_s_l12Decode), (f_l_toLoad, a_l_toLoad), (f_l_toStage, a_l_toStage), (f_slices_ContainsFunc_Si_Load_i_Load, a_slices_ContainsFunc_Si_Load_i_Load), (f_i_IsRow_1, a_i_IsRow_1), (f_i_isPlace, a_i_isPlace), (f_i_isWeight, a_i_isWeight), (f_i_IsStage, a_i_IsStage), (f_i_recoverRecords, a_i_recoverRecords), (f_slices_Contains_Sint_int, a_slices_Contains_Sint_int), (f_l_eqLoad, a_l_eqLoad), (f_l_eqStage, a_l_eqStage), (f_s_l2In, a_s_l2In), (f_s_l7Two, a_s_l7Two), (f_s_l1Num, a_s_l1Num), (f_s_l12Record, a_s_l12Record), (f_s_l12Line, a_s_l12Line), (f_slices_IndexFunc_Si_Load_i_Load, a_slices_IndexFunc_Si_Load_i_Load), (f_i_isRatio, a_i_isRatio), (f_strings_Cut, a_strings_Cut), (f_i_decode, a_i_decode), (f_slices_Index_Sint_int, a_slices_Index_Sint_int), (f_s_l12Bytes, a_s_l12Bytes), (f_s_l1Stands, a_s_l1Stands), (f_s_l1Seal, a_s_l1Seal), (f_internal_stringslite_Cut, a_internal_stringslite_Cut), (f_i_VerifyChecksum, a_i_VerifyChecksum), (f_i_EncodeRecord, a_i_EncodeRecord), (f_s_l1Sum, a_s_l1Sum), (f_i_AppendChecksum, a_i_AppendChecksum), (f_i_IsValidRecord, a_i_IsValidRecord), (f_internal_stringslite_IndexByte, a_internal_stringslite_IndexByte), (f_internal_bytealg_Cutover, a_internal_bytealg_Cutover), (f_internal_bytealg_IndexRabinKarp_string, a_internal_bytealg_IndexRabinKarp_string), (f_i_Checksum, a_i_Checksum), (f_i_isText, a_i_isText), (f_internal_strconv_Itoa, a_internal_strconv_Itoa), (f_internal_bytealg_hashStr_string, a_internal_bytealg_hashStr_string), (f_strings_Index, a_strings_Index), (f_internal_strconv_FormatInt, a_internal_strconv_FormatInt), (f_internal_strconv_small, a_internal_strconv_small), (f_internal_strconv_formatBase10, a_internal_strconv_formatBase10), (f_internal_strconv_log10Pow2, a_internal_strconv_log10Pow2), (f_math_bits_Len64, a_math_bits_Len64), (f_internal_strconv_bool2_int, a_internal_strconv_bool2_int), (f_internal_strconv_isPowerOfTwo, a_internal_strconv_isPowerOfTwo), (f_math_bits_TrailingZeros, a_math_bits_TrailingZeros)]
def T : Table := fun f => tab.lookup f
theorem t_gosem_cut_init : T f_gosem_cut_init = some a_gosem_cut_init := rfl
theorem t_l_FnExactIsValidConsole : T f_l_FnExactIsValidConsole = some a_l_FnExactIsValidConsole := rfl
theorem t_l_szConsole : T f_l_szConsole = some a_l_szConsole := rfl
theorem t_s_IsValidConsole : T f_s_IsValidConsole = some a_s_IsValidConsole := rfl
theorem t_l_toConsole : T f_l_toConsole = some a_l_toConsole := rfl
theorem t_i_IsValidConsole : T f_i_IsValidConsole = some a_i_IsValidConsole := rfl
theorem t_l_eqConsole : T f_l_eqConsole = some a_l_eqConsole := rfl
theorem t_l_szStand : T f_l_szStand = some a_l_szStand := rfl
theorem t_l_szLog : T f_l_szLog = some a_l_szLog := rfl
theorem t_s_l12Good : T f_s_l12Good = some a_s_l12Good := rfl
theorem t_s_l12Valid : T f_s_l12Valid = some a_s_l12Valid := rfl
theorem t_l_toStand : T f_l_toStand = some a_l_toStand := rfl
theorem t_l_toLog : T f_l_toLog = some a_l_toLog := rfl
theorem t_i_IsStand : T f_i_IsStand = some a_i_IsStand := rfl
theorem t_i_IsValidLog : T f_i_IsValidLog = some a_i_IsValidLog := rfl
theorem t_l_eqStand : T f_l_eqStand = some a_l_eqStand := rfl
theorem t_l_eqLog : T f_l_eqLog = some a_l_eqLog := rfl
theorem t_l_szLoadS : T f_l_szLoadS = some a_l_szLoadS := rfl
theorem t_l_szStageS : T f_l_szStageS = some a_l_szStageS := rfl
theorem t_s_l2On : T f_s_l2On = some a_s_l2On := rfl
theorem t_s_l7Stages : T f_s_l7Stages = some a_s_l7Stages := rfl
theorem t_s_l1In : T f_s_l1In = some a_s_l1In := rfl
theorem t_s_l12Open : T f_s_l12Open = some a_s_l12Open := rfl
theorem t_l_toLoadS : T f_l_toLoadS = some a_l_toLoadS := rfl
theorem t_l_toStageS : T f_l_toStageS = some a_l_toStageS := rfl
theorem t_i_IsRow : T f_i_IsRow = some a_i_IsRow := rfl
theorem t_i_isBase : T f_i_isBase = some a_i_isBase := rfl
theorem t_i_isChain : T f_i_isChain = some a_i_isChain := rfl
theorem t_i_within : T f_i_within = some a_i_within := rfl
theorem t_i_logRecords : T f_i_logRecords = some a_i_logRecords := rfl
theorem t_l_eqLoadS : T f_l_eqLoadS = some a_l_eqLoadS := rfl
theorem t_l_eqStageS : T f_l_eqStageS = some a_l_eqStageS := rfl
theorem t_s_l2Row : T f_s_l2Row = some a_s_l2Row := rfl
theorem t_s_l2Base : T f_s_l2Base = some a_s_l2Base := rfl
theorem t_s_l7Stage : T f_s_l7Stage = some a_s_l7Stage := rfl
theorem t_s_l1Split : T f_s_l1Split = some a_s_l1Split := rfl
theorem t_s_l12Decode : T f_s_l12Decode = some a_s_l12Decode := rfl
theorem t_l_toLoad : T f_l_toLoad = some a_l_toLoad := rfl
theorem t_l_toStage : T f_l_toStage = some a_l_toStage := rfl
theorem t_slices_ContainsFunc_Si_Load_i_Load : T f_slices_ContainsFunc_Si_Load_i_Load = some a_slices_ContainsFunc_Si_Load_i_Load := rfl
theorem t_i_IsRow_1 : T f_i_IsRow_1 = some a_i_IsRow_1 := rfl
theorem t_i_isPlace : T f_i_isPlace = some a_i_isPlace := rfl
theorem t_i_isWeight : T f_i_isWeight = some a_i_isWeight := rfl
theorem t_i_IsStage : T f_i_IsStage = some a_i_IsStage := rfl
theorem t_i_recoverRecords : T f_i_recoverRecords = some a_i_recoverRecords := rfl
theorem t_slices_Contains_Sint_int : T f_slices_Contains_Sint_int = some a_slices_Contains_Sint_int := rfl
theorem t_l_eqLoad : T f_l_eqLoad = some a_l_eqLoad := rfl
theorem t_l_eqStage : T f_l_eqStage = some a_l_eqStage := rfl
theorem t_s_l2In : T f_s_l2In = some a_s_l2In := rfl
theorem t_s_l7Two : T f_s_l7Two = some a_s_l7Two := rfl
theorem t_s_l1Num : T f_s_l1Num = some a_s_l1Num := rfl
theorem t_s_l12Record : T f_s_l12Record = some a_s_l12Record := rfl
theorem t_s_l12Line : T f_s_l12Line = some a_s_l12Line := rfl
theorem t_slices_IndexFunc_Si_Load_i_Load : T f_slices_IndexFunc_Si_Load_i_Load = some a_slices_IndexFunc_Si_Load_i_Load := rfl
theorem t_i_isRatio : T f_i_isRatio = some a_i_isRatio := rfl
theorem t_strings_Cut : T f_strings_Cut = some a_strings_Cut := rfl
theorem t_i_decode : T f_i_decode = some a_i_decode := rfl
theorem t_slices_Index_Sint_int : T f_slices_Index_Sint_int = some a_slices_Index_Sint_int := rfl
theorem t_s_l12Bytes : T f_s_l12Bytes = some a_s_l12Bytes := rfl
theorem t_s_l1Stands : T f_s_l1Stands = some a_s_l1Stands := rfl
theorem t_s_l1Seal : T f_s_l1Seal = some a_s_l1Seal := rfl
theorem t_internal_stringslite_Cut : T f_internal_stringslite_Cut = some a_internal_stringslite_Cut := rfl
theorem t_i_VerifyChecksum : T f_i_VerifyChecksum = some a_i_VerifyChecksum := rfl
theorem t_i_EncodeRecord : T f_i_EncodeRecord = some a_i_EncodeRecord := rfl
theorem t_s_l1Sum : T f_s_l1Sum = some a_s_l1Sum := rfl
theorem t_i_AppendChecksum : T f_i_AppendChecksum = some a_i_AppendChecksum := rfl
theorem t_i_IsValidRecord : T f_i_IsValidRecord = some a_i_IsValidRecord := rfl
theorem t_internal_stringslite_IndexByte : T f_internal_stringslite_IndexByte = some a_internal_stringslite_IndexByte := rfl
theorem t_internal_bytealg_Cutover : T f_internal_bytealg_Cutover = some a_internal_bytealg_Cutover := rfl
theorem t_internal_bytealg_IndexRabinKarp_string : T f_internal_bytealg_IndexRabinKarp_string = some a_internal_bytealg_IndexRabinKarp_string := rfl
theorem t_i_Checksum : T f_i_Checksum = some a_i_Checksum := rfl
theorem t_i_isText : T f_i_isText = some a_i_isText := rfl
theorem t_internal_strconv_Itoa : T f_internal_strconv_Itoa = some a_internal_strconv_Itoa := rfl
theorem t_internal_bytealg_hashStr_string : T f_internal_bytealg_hashStr_string = some a_internal_bytealg_hashStr_string := rfl
theorem t_strings_Index : T f_strings_Index = some a_strings_Index := rfl
theorem t_internal_strconv_FormatInt : T f_internal_strconv_FormatInt = some a_internal_strconv_FormatInt := rfl
theorem t_internal_strconv_small : T f_internal_strconv_small = some a_internal_strconv_small := rfl
theorem t_internal_strconv_formatBase10 : T f_internal_strconv_formatBase10 = some a_internal_strconv_formatBase10 := rfl
theorem t_internal_strconv_log10Pow2 : T f_internal_strconv_log10Pow2 = some a_internal_strconv_log10Pow2 := rfl
theorem t_math_bits_Len64 : T f_math_bits_Len64 = some a_math_bits_Len64 := rfl
theorem t_internal_strconv_bool2_int : T f_internal_strconv_bool2_int = some a_internal_strconv_bool2_int := rfl
theorem t_internal_strconv_isPowerOfTwo : T f_internal_strconv_isPowerOfTwo = some a_internal_strconv_isPowerOfTwo := rfl
theorem t_math_bits_TrailingZeros : T f_math_bits_TrailingZeros = some a_math_bits_TrailingZeros := rfl
end Go.Proofs.YtemcdiajejekoaaDoor.Slim
