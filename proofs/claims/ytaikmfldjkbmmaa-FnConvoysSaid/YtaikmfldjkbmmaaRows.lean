/-
  No cell of these rows narrows 'for every input' (looked for: loops, veiled, ifaces, maps, wideKeys, modest, calm, conditions, laid).
  DERIVED. THE GIVEN ROWS OF THIS SEAT. 4 by the template 'for every input the law returns true; each argument reads behind the call as it read before'; 0 by the template 'total and deterministic' (their statements: YtaikmfldjkbmmaaTotals.lean).
  GIVEN WITH THE SEED: the statements are not yours to turn. If you find one false, say at which input.
  Laid BY PROGRAM, IN A SANDBOX (cutbox-rows.mjs): the forced cells as the released guide's own fill.sh prints them over the translation 509fa021842e7083… (all of the seat's roots in one cut). By AI agents, Wed Nov 11 2026. No macro, syntax, notation, axiom, sorry.
-/
import Derived.Test.YtaikmfldjkbmmaaChecked
import GoSem.Claim
import GoSem.ClaimJoined
import GoSem.ClaimMapViews
import Derived.JoinedTies
import Derived.KernelRfl
namespace Go.Proofs.Ytaikmfldjkbmmaa
/- THE CELL 'sum', in the pinned program and in every row, IS THE sha256 OF THE DUMP (.gsa) THAT YtaikmfldjkbmmaaProg.lean LOADS. Nothing in Lean hashes anything: it is a label: what it is worth is what the hold of that sum in a sandbox is worth. -/
noncomputable def Try.pinned : Pinned := { name := "ytaikmfldjkbmmaa", sum := "509fa021842e70833cdebbd6ea5cade013b836791427f3eeb4204a29defb94d6", checked := Try.checked }
namespace Rows
def none {H : Type} : Left H := { results := [], args := [] }

/-- 'laws.FnExactRestsOn': WHATEVER THE INPUT: true; the input reads as it did. -/
def fnExactRestsOnSpec : ChangeSpec := { name := "fnExactRestsOn", fn := fun _ => fun
  | [d1, d2] => { results := [.lit (.bool true)], args := [d1, d2] }
  | _ => none }
def fnExactRestsOnRow : OpenClaim := { program := "ytaikmfldjkbmmaa", sum := "509fa021842e70833cdebbd6ea5cade013b836791427f3eeb4204a29defb94d6", func := "loop.example/g01159/laws.FnExactRestsOn", spec := "fnExactRestsOn", unfollowed := true, recurses := true, apart := false }
def FnExactRestsOnSaid : Prop := fnExactRestsOnRow.holds Try.pinned (OpenSpec.ofChange fnExactRestsOnSpec)

/-- ITS FALSE NEIGHBOUR: 'it returns false'. Refute it at one input. -/
def fnExactRestsOnWrong : ChangeSpec := { name := "fnExactRestsOn", fn := fun _ => fun
  | [d1, d2] => { results := [.lit (.bool false)], args := [d1, d2] }
  | _ => none }
def FnExactRestsOnWrongFalsely : Prop := fnExactRestsOnRow.holds Try.pinned (OpenSpec.ofChange fnExactRestsOnWrong)

/-- 'laws.FnExactCanCross': WHATEVER THE INPUT: true; the input reads as it did. -/
def fnExactCanCrossSpec : ChangeSpec := { name := "fnExactCanCross", fn := fun _ => fun
  | [d1, d2] => { results := [.lit (.bool true)], args := [d1, d2] }
  | _ => none }
def fnExactCanCrossRow : OpenClaim := { program := "ytaikmfldjkbmmaa", sum := "509fa021842e70833cdebbd6ea5cade013b836791427f3eeb4204a29defb94d6", func := "loop.example/g01159/laws.FnExactCanCross", spec := "fnExactCanCross", apart := false }
def FnExactCanCrossSaid : Prop := fnExactCanCrossRow.holds Try.pinned (OpenSpec.ofChange fnExactCanCrossSpec)

/-- ITS FALSE NEIGHBOUR: 'it returns false'. Refute it at one input. -/
def fnExactCanCrossWrong : ChangeSpec := { name := "fnExactCanCross", fn := fun _ => fun
  | [d1, d2] => { results := [.lit (.bool false)], args := [d1, d2] }
  | _ => none }
def FnExactCanCrossWrongFalsely : Prop := fnExactCanCrossRow.holds Try.pinned (OpenSpec.ofChange fnExactCanCrossWrong)

/-- 'laws.FnBeams': WHATEVER THE INPUT: true; the input reads as it did. -/
def fnBeamsSpec : ChangeSpec := { name := "fnBeams", fn := fun _ => fun
  | [d] => { results := [.lit (.bool true)], args := [d] }
  | _ => none }
def fnBeamsRow : OpenClaim := { program := "ytaikmfldjkbmmaa", sum := "509fa021842e70833cdebbd6ea5cade013b836791427f3eeb4204a29defb94d6", func := "loop.example/g01159/laws.FnBeams", spec := "fnBeams", unfollowed := true, recurses := true, apart := false }
def FnBeamsSaid : Prop := fnBeamsRow.holds Try.pinned (OpenSpec.ofChange fnBeamsSpec)

/-- ITS FALSE NEIGHBOUR: 'it returns false'. Refute it at one input. -/
def fnBeamsWrong : ChangeSpec := { name := "fnBeams", fn := fun _ => fun
  | [d] => { results := [.lit (.bool false)], args := [d] }
  | _ => none }
def FnBeamsWrongFalsely : Prop := fnBeamsRow.holds Try.pinned (OpenSpec.ofChange fnBeamsWrong)

/-- 'laws.FnConvoys': WHATEVER THE INPUT: true; the input reads as it did. -/
def fnConvoysSpec : ChangeSpec := { name := "fnConvoys", fn := fun _ => fun
  | [d] => { results := [.lit (.bool true)], args := [d] }
  | _ => none }
def fnConvoysRow : OpenClaim := { program := "ytaikmfldjkbmmaa", sum := "509fa021842e70833cdebbd6ea5cade013b836791427f3eeb4204a29defb94d6", func := "loop.example/g01159/laws.FnConvoys", spec := "fnConvoys", unfollowed := true, recurses := true, apart := false }
def FnConvoysSaid : Prop := fnConvoysRow.holds Try.pinned (OpenSpec.ofChange fnConvoysSpec)

/-- ITS FALSE NEIGHBOUR: 'it returns false'. Refute it at one input. -/
def fnConvoysWrong : ChangeSpec := { name := "fnConvoys", fn := fun _ => fun
  | [d] => { results := [.lit (.bool false)], args := [d] }
  | _ => none }
def FnConvoysWrongFalsely : Prop := fnConvoysRow.holds Try.pinned (OpenSpec.ofChange fnConvoysWrong)

/- THE SECOND FORM. 'bulk': how many values and letters a reading holds, each counted each time it is reached (what is shared counts as often as it is met; a slice's spare places count too). A statement '..UptoSaid' is the law's where the arguments, and the package variables that the reading takes, are together of bulk at most 1048576: NARROWER than '..Said'. Prove '..Said' where nothing that the law and all that it calls make is longer than what came in: it says more and counts as full. Else prove '..UptoSaid'. A law counts once. -/
mutual
def uptoBulk {H : Type} : DataW H → Nat
  | .lit (.string bytes) => bytes.length + 1
  | .lit _ => 1
  | .nil => 1
  | .ptr d => uptoBulk d + 1
  | .slice elems spare => uptoBulkAll elems + uptoBulkAll spare + 1
  | .agg parts => uptoBulkAll parts + 1
  | .iface _ d => uptoBulk d + 1
  | .map entries => uptoBulkEntries entries + 1
  | .held _ => 1
def uptoBulkAll {H : Type} : List (DataW H) → Nat
  | [] => 0
  | d :: r => uptoBulk d + uptoBulkAll r
def uptoBulkEntries {H : Type} : List (Lit × DataW H) → Nat
  | [] => 0
  | x :: r => uptoBulkEntry x + uptoBulkEntries r
def uptoBulkEntry {H : Type} : Lit × DataW H → Nat
  | (.string bytes, d) => bytes.length + uptoBulk d + 1
  | (_, d) => uptoBulk d + 1
 end
def uptoSmall : (H : Type) → List (DataW H) → Bool := fun _ ds => decide (uptoBulkAll ds ≤ 1048576)
def OpenSpec.upto (s : _root_.Go.ChangeSpec) : _root_.Go.OpenSpec := { _root_.Go.OpenSpec.ofChange s with cond := some uptoSmall }

/-- 'laws.FnExactRestsOn', WHERE WHAT IT READS IS OF BULK AT MOST 1048576: true; the input reads as it did. -/
def fnExactRestsOnUptoRow : OpenClaim := { program := "ytaikmfldjkbmmaa", sum := "509fa021842e70833cdebbd6ea5cade013b836791427f3eeb4204a29defb94d6", func := "loop.example/g01159/laws.FnExactRestsOn", spec := "fnExactRestsOn", unfollowed := true, recurses := true, apart := false, narrowed := true }
def FnExactRestsOnUptoSaid : Prop := fnExactRestsOnUptoRow.holds Try.pinned (OpenSpec.upto fnExactRestsOnSpec)

/-- 'laws.FnExactCanCross', WHERE WHAT IT READS IS OF BULK AT MOST 1048576: true; the input reads as it did. -/
def fnExactCanCrossUptoRow : OpenClaim := { program := "ytaikmfldjkbmmaa", sum := "509fa021842e70833cdebbd6ea5cade013b836791427f3eeb4204a29defb94d6", func := "loop.example/g01159/laws.FnExactCanCross", spec := "fnExactCanCross", apart := false, narrowed := true }
def FnExactCanCrossUptoSaid : Prop := fnExactCanCrossUptoRow.holds Try.pinned (OpenSpec.upto fnExactCanCrossSpec)

/-- 'laws.FnBeams', WHERE WHAT IT READS IS OF BULK AT MOST 1048576: true; the input reads as it did. -/
def fnBeamsUptoRow : OpenClaim := { program := "ytaikmfldjkbmmaa", sum := "509fa021842e70833cdebbd6ea5cade013b836791427f3eeb4204a29defb94d6", func := "loop.example/g01159/laws.FnBeams", spec := "fnBeams", unfollowed := true, recurses := true, apart := false, narrowed := true }
def FnBeamsUptoSaid : Prop := fnBeamsUptoRow.holds Try.pinned (OpenSpec.upto fnBeamsSpec)

/-- 'laws.FnConvoys', WHERE WHAT IT READS IS OF BULK AT MOST 1048576: true; the input reads as it did. -/
def fnConvoysUptoRow : OpenClaim := { program := "ytaikmfldjkbmmaa", sum := "509fa021842e70833cdebbd6ea5cade013b836791427f3eeb4204a29defb94d6", func := "loop.example/g01159/laws.FnConvoys", spec := "fnConvoys", unfollowed := true, recurses := true, apart := false, narrowed := true }
def FnConvoysUptoSaid : Prop := fnConvoysUptoRow.holds Try.pinned (OpenSpec.upto fnConvoysSpec)

end Rows
end Go.Proofs.Ytaikmfldjkbmmaa
