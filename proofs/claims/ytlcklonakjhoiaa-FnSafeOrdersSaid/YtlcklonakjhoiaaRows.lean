/-
  No cell of these rows narrows 'for every input' (looked for: loops, veiled, ifaces, maps, wideKeys, modest, calm, conditions, laid).
  DERIVED. THE GIVEN ROWS OF THIS SEAT. 7 by the template 'for every input the law returns true; each argument reads behind the call as it read before'; 0 by the template 'total and deterministic' (their statements: YtlcklonakjhoiaaTotals.lean).
  GIVEN WITH THE SEED: the statements are not yours to turn. If you find one false, say at which input.
  Laid BY PROGRAM, IN A SANDBOX (cutbox-rows.mjs): the forced cells as the released guide's own fill.sh prints them over the translation 2f8a46db15177944… (all of the seat's roots in one cut). By AI agents, Wed Nov 11 2026. No macro, syntax, notation, axiom, sorry.
-/
import Derived.Test.YtlcklonakjhoiaaChecked
import GoSem.Claim
import GoSem.ClaimJoined
import GoSem.ClaimMapViews
import Derived.JoinedTies
import Derived.KernelRfl
namespace Go.Proofs.Ytlcklonakjhoiaa
/- THE CELL 'sum', in the pinned program and in every row, IS THE sha256 OF THE DUMP (.gsa) THAT YtlcklonakjhoiaaProg.lean LOADS. Nothing in Lean hashes anything: it is a label: what it is worth is what the hold of that sum in a sandbox is worth. -/
noncomputable def Try.pinned : Pinned := { name := "ytlcklonakjhoiaa", sum := "2f8a46db15177944b561e8e65a4b600f8ec78c64a60ad3a4f20714946c712058", checked := Try.checked }
namespace Rows
def none {H : Type} : Left H := { results := [], args := [] }

/-- 'laws.FnExactFirstTip': WHATEVER THE INPUT: true; the input reads as it did. -/
def fnExactFirstTipSpec : ChangeSpec := { name := "fnExactFirstTip", fn := fun _ => fun
  | [d1, d2, d3] => { results := [.lit (.bool true)], args := [d1, d2, d3] }
  | _ => none }
def fnExactFirstTipRow : OpenClaim := { program := "ytlcklonakjhoiaa", sum := "2f8a46db15177944b561e8e65a4b600f8ec78c64a60ad3a4f20714946c712058", func := "loop.example/g01159/laws.FnExactFirstTip", spec := "fnExactFirstTip", unfollowed := true, recurses := true, apart := false }
def FnExactFirstTipSaid : Prop := fnExactFirstTipRow.holds Try.pinned (OpenSpec.ofChange fnExactFirstTipSpec)

/-- ITS FALSE NEIGHBOUR: 'it returns false'. Refute it at one input. -/
def fnExactFirstTipWrong : ChangeSpec := { name := "fnExactFirstTip", fn := fun _ => fun
  | [d1, d2, d3] => { results := [.lit (.bool false)], args := [d1, d2, d3] }
  | _ => none }
def FnExactFirstTipWrongFalsely : Prop := fnExactFirstTipRow.holds Try.pinned (OpenSpec.ofChange fnExactFirstTipWrong)

/-- 'laws.FnExactHardestItem': WHATEVER THE INPUT: true; the input reads as it did. -/
def fnExactHardestItemSpec : ChangeSpec := { name := "fnExactHardestItem", fn := fun _ => fun
  | [d1, d2] => { results := [.lit (.bool true)], args := [d1, d2] }
  | _ => none }
def fnExactHardestItemRow : OpenClaim := { program := "ytlcklonakjhoiaa", sum := "2f8a46db15177944b561e8e65a4b600f8ec78c64a60ad3a4f20714946c712058", func := "loop.example/g01159/laws.FnExactHardestItem", spec := "fnExactHardestItem", unfollowed := true, recurses := true, apart := false }
def FnExactHardestItemSaid : Prop := fnExactHardestItemRow.holds Try.pinned (OpenSpec.ofChange fnExactHardestItemSpec)

/-- ITS FALSE NEIGHBOUR: 'it returns false'. Refute it at one input. -/
def fnExactHardestItemWrong : ChangeSpec := { name := "fnExactHardestItem", fn := fun _ => fun
  | [d1, d2] => { results := [.lit (.bool false)], args := [d1, d2] }
  | _ => none }
def FnExactHardestItemWrongFalsely : Prop := fnExactHardestItemRow.holds Try.pinned (OpenSpec.ofChange fnExactHardestItemWrong)

/-- 'laws.FnExactUnloadOrder': WHATEVER THE INPUT: true; the input reads as it did. -/
def fnExactUnloadOrderSpec : ChangeSpec := { name := "fnExactUnloadOrder", fn := fun _ => fun
  | [d1, d2] => { results := [.lit (.bool true)], args := [d1, d2] }
  | _ => none }
def fnExactUnloadOrderRow : OpenClaim := { program := "ytlcklonakjhoiaa", sum := "2f8a46db15177944b561e8e65a4b600f8ec78c64a60ad3a4f20714946c712058", func := "loop.example/g01159/laws.FnExactUnloadOrder", spec := "fnExactUnloadOrder", unfollowed := true, recurses := true, apart := false }
def FnExactUnloadOrderSaid : Prop := fnExactUnloadOrderRow.holds Try.pinned (OpenSpec.ofChange fnExactUnloadOrderSpec)

/-- ITS FALSE NEIGHBOUR: 'it returns false'. Refute it at one input. -/
def fnExactUnloadOrderWrong : ChangeSpec := { name := "fnExactUnloadOrder", fn := fun _ => fun
  | [d1, d2] => { results := [.lit (.bool false)], args := [d1, d2] }
  | _ => none }
def FnExactUnloadOrderWrongFalsely : Prop := fnExactUnloadOrderRow.holds Try.pinned (OpenSpec.ofChange fnExactUnloadOrderWrong)

/-- 'laws.FnExactSafeOrder': WHATEVER THE INPUT: true; the input reads as it did. -/
def fnExactSafeOrderSpec : ChangeSpec := { name := "fnExactSafeOrder", fn := fun _ => fun
  | [d1, d2] => { results := [.lit (.bool true)], args := [d1, d2] }
  | _ => none }
def fnExactSafeOrderRow : OpenClaim := { program := "ytlcklonakjhoiaa", sum := "2f8a46db15177944b561e8e65a4b600f8ec78c64a60ad3a4f20714946c712058", func := "loop.example/g01159/laws.FnExactSafeOrder", spec := "fnExactSafeOrder", unfollowed := true, recurses := true, apart := false }
def FnExactSafeOrderSaid : Prop := fnExactSafeOrderRow.holds Try.pinned (OpenSpec.ofChange fnExactSafeOrderSpec)

/-- ITS FALSE NEIGHBOUR: 'it returns false'. Refute it at one input. -/
def fnExactSafeOrderWrong : ChangeSpec := { name := "fnExactSafeOrder", fn := fun _ => fun
  | [d1, d2] => { results := [.lit (.bool false)], args := [d1, d2] }
  | _ => none }
def FnExactSafeOrderWrongFalsely : Prop := fnExactSafeOrderRow.holds Try.pinned (OpenSpec.ofChange fnExactSafeOrderWrong)

/-- 'laws.FnExactSafeStep': WHATEVER THE INPUT: true; the input reads as it did. -/
def fnExactSafeStepSpec : ChangeSpec := { name := "fnExactSafeStep", fn := fun _ => fun
  | [d1, d2, d3] => { results := [.lit (.bool true)], args := [d1, d2, d3] }
  | _ => none }
def fnExactSafeStepRow : OpenClaim := { program := "ytlcklonakjhoiaa", sum := "2f8a46db15177944b561e8e65a4b600f8ec78c64a60ad3a4f20714946c712058", func := "loop.example/g01159/laws.FnExactSafeStep", spec := "fnExactSafeStep", unfollowed := true, recurses := true, apart := false }
def FnExactSafeStepSaid : Prop := fnExactSafeStepRow.holds Try.pinned (OpenSpec.ofChange fnExactSafeStepSpec)

/-- ITS FALSE NEIGHBOUR: 'it returns false'. Refute it at one input. -/
def fnExactSafeStepWrong : ChangeSpec := { name := "fnExactSafeStep", fn := fun _ => fun
  | [d1, d2, d3] => { results := [.lit (.bool false)], args := [d1, d2, d3] }
  | _ => none }
def FnExactSafeStepWrongFalsely : Prop := fnExactSafeStepRow.holds Try.pinned (OpenSpec.ofChange fnExactSafeStepWrong)

/-- 'laws.FnRafts': WHATEVER THE INPUT: true; the input reads as it did. -/
def fnRaftsSpec : ChangeSpec := { name := "fnRafts", fn := fun _ => fun
  | [d] => { results := [.lit (.bool true)], args := [d] }
  | _ => none }
def fnRaftsRow : OpenClaim := { program := "ytlcklonakjhoiaa", sum := "2f8a46db15177944b561e8e65a4b600f8ec78c64a60ad3a4f20714946c712058", func := "loop.example/g01159/laws.FnRafts", spec := "fnRafts", unfollowed := true, recurses := true, apart := false }
def FnRaftsSaid : Prop := fnRaftsRow.holds Try.pinned (OpenSpec.ofChange fnRaftsSpec)

/-- ITS FALSE NEIGHBOUR: 'it returns false'. Refute it at one input. -/
def fnRaftsWrong : ChangeSpec := { name := "fnRafts", fn := fun _ => fun
  | [d] => { results := [.lit (.bool false)], args := [d] }
  | _ => none }
def FnRaftsWrongFalsely : Prop := fnRaftsRow.holds Try.pinned (OpenSpec.ofChange fnRaftsWrong)

/-- 'laws.FnSafeOrders': WHATEVER THE INPUT: true; the input reads as it did. -/
def fnSafeOrdersSpec : ChangeSpec := { name := "fnSafeOrders", fn := fun _ => fun
  | [d] => { results := [.lit (.bool true)], args := [d] }
  | _ => none }
def fnSafeOrdersRow : OpenClaim := { program := "ytlcklonakjhoiaa", sum := "2f8a46db15177944b561e8e65a4b600f8ec78c64a60ad3a4f20714946c712058", func := "loop.example/g01159/laws.FnSafeOrders", spec := "fnSafeOrders", unfollowed := true, recurses := true, apart := false }
def FnSafeOrdersSaid : Prop := fnSafeOrdersRow.holds Try.pinned (OpenSpec.ofChange fnSafeOrdersSpec)

/-- ITS FALSE NEIGHBOUR: 'it returns false'. Refute it at one input. -/
def fnSafeOrdersWrong : ChangeSpec := { name := "fnSafeOrders", fn := fun _ => fun
  | [d] => { results := [.lit (.bool false)], args := [d] }
  | _ => none }
def FnSafeOrdersWrongFalsely : Prop := fnSafeOrdersRow.holds Try.pinned (OpenSpec.ofChange fnSafeOrdersWrong)

/- THE SECOND FORM. 'bulk': how many values and letters a reading holds, each counted each time it is reached (what is shared counts as often as it is met; a slice's spare places count too). A statement '..UptoSaid' is the law's where the arguments, and the package variables that the reading takes, are together of bulk at most 1048576: NARROWER than '..Said'. Prove '..Said' where nothing that the law and all that it calls make is longer than what came in: it says more and counts as full. Else prove '..UptoSaid'. A law counts once. -/
mutual
def uptoBulk {H : Type} : DataW H → Nat
  | .lit (.string bytes) => bytes.length + 1
  | .lit _ => 1
  | .nil => 1
  | .ptr d => uptoBulk d + 1
  | .slice elems spare => uptoBulkAll elems + uptoBulkAll spare + 1
  | .agg parts => uptoBulkAll parts + 1
  | .iface _ d => uptoBulk d + 1
  | .map entries => uptoBulkEntries entries + 1
  | .held _ => 1
def uptoBulkAll {H : Type} : List (DataW H) → Nat
  | [] => 0
  | d :: r => uptoBulk d + uptoBulkAll r
def uptoBulkEntries {H : Type} : List (Lit × DataW H) → Nat
  | [] => 0
  | x :: r => uptoBulkEntry x + uptoBulkEntries r
def uptoBulkEntry {H : Type} : Lit × DataW H → Nat
  | (.string bytes, d) => bytes.length + uptoBulk d + 1
  | (_, d) => uptoBulk d + 1
 end
def uptoSmall : (H : Type) → List (DataW H) → Bool := fun _ ds => decide (uptoBulkAll ds ≤ 1048576)
def OpenSpec.upto (s : _root_.Go.ChangeSpec) : _root_.Go.OpenSpec := { _root_.Go.OpenSpec.ofChange s with cond := some uptoSmall }

/-- 'laws.FnExactFirstTip', WHERE WHAT IT READS IS OF BULK AT MOST 1048576: true; the input reads as it did. -/
def fnExactFirstTipUptoRow : OpenClaim := { program := "ytlcklonakjhoiaa", sum := "2f8a46db15177944b561e8e65a4b600f8ec78c64a60ad3a4f20714946c712058", func := "loop.example/g01159/laws.FnExactFirstTip", spec := "fnExactFirstTip", unfollowed := true, recurses := true, apart := false, narrowed := true }
def FnExactFirstTipUptoSaid : Prop := fnExactFirstTipUptoRow.holds Try.pinned (OpenSpec.upto fnExactFirstTipSpec)

/-- 'laws.FnExactHardestItem', WHERE WHAT IT READS IS OF BULK AT MOST 1048576: true; the input reads as it did. -/
def fnExactHardestItemUptoRow : OpenClaim := { program := "ytlcklonakjhoiaa", sum := "2f8a46db15177944b561e8e65a4b600f8ec78c64a60ad3a4f20714946c712058", func := "loop.example/g01159/laws.FnExactHardestItem", spec := "fnExactHardestItem", unfollowed := true, recurses := true, apart := false, narrowed := true }
def FnExactHardestItemUptoSaid : Prop := fnExactHardestItemUptoRow.holds Try.pinned (OpenSpec.upto fnExactHardestItemSpec)

/-- 'laws.FnExactUnloadOrder', WHERE WHAT IT READS IS OF BULK AT MOST 1048576: true; the input reads as it did. -/
def fnExactUnloadOrderUptoRow : OpenClaim := { program := "ytlcklonakjhoiaa", sum := "2f8a46db15177944b561e8e65a4b600f8ec78c64a60ad3a4f20714946c712058", func := "loop.example/g01159/laws.FnExactUnloadOrder", spec := "fnExactUnloadOrder", unfollowed := true, recurses := true, apart := false, narrowed := true }
def FnExactUnloadOrderUptoSaid : Prop := fnExactUnloadOrderUptoRow.holds Try.pinned (OpenSpec.upto fnExactUnloadOrderSpec)

/-- 'laws.FnExactSafeOrder', WHERE WHAT IT READS IS OF BULK AT MOST 1048576: true; the input reads as it did. -/
def fnExactSafeOrderUptoRow : OpenClaim := { program := "ytlcklonakjhoiaa", sum := "2f8a46db15177944b561e8e65a4b600f8ec78c64a60ad3a4f20714946c712058", func := "loop.example/g01159/laws.FnExactSafeOrder", spec := "fnExactSafeOrder", unfollowed := true, recurses := true, apart := false, narrowed := true }
def FnExactSafeOrderUptoSaid : Prop := fnExactSafeOrderUptoRow.holds Try.pinned (OpenSpec.upto fnExactSafeOrderSpec)

/-- 'laws.FnExactSafeStep', WHERE WHAT IT READS IS OF BULK AT MOST 1048576: true; the input reads as it did. -/
def fnExactSafeStepUptoRow : OpenClaim := { program := "ytlcklonakjhoiaa", sum := "2f8a46db15177944b561e8e65a4b600f8ec78c64a60ad3a4f20714946c712058", func := "loop.example/g01159/laws.FnExactSafeStep", spec := "fnExactSafeStep", unfollowed := true, recurses := true, apart := false, narrowed := true }
def FnExactSafeStepUptoSaid : Prop := fnExactSafeStepUptoRow.holds Try.pinned (OpenSpec.upto fnExactSafeStepSpec)

/-- 'laws.FnRafts', WHERE WHAT IT READS IS OF BULK AT MOST 1048576: true; the input reads as it did. -/
def fnRaftsUptoRow : OpenClaim := { program := "ytlcklonakjhoiaa", sum := "2f8a46db15177944b561e8e65a4b600f8ec78c64a60ad3a4f20714946c712058", func := "loop.example/g01159/laws.FnRafts", spec := "fnRafts", unfollowed := true, recurses := true, apart := false, narrowed := true }
def FnRaftsUptoSaid : Prop := fnRaftsUptoRow.holds Try.pinned (OpenSpec.upto fnRaftsSpec)

/-- 'laws.FnSafeOrders', WHERE WHAT IT READS IS OF BULK AT MOST 1048576: true; the input reads as it did. -/
def fnSafeOrdersUptoRow : OpenClaim := { program := "ytlcklonakjhoiaa", sum := "2f8a46db15177944b561e8e65a4b600f8ec78c64a60ad3a4f20714946c712058", func := "loop.example/g01159/laws.FnSafeOrders", spec := "fnSafeOrders", unfollowed := true, recurses := true, apart := false, narrowed := true }
def FnSafeOrdersUptoSaid : Prop := fnSafeOrdersUptoRow.holds Try.pinned (OpenSpec.upto fnSafeOrdersSpec)

end Rows
end Go.Proofs.Ytlcklonakjhoiaa
