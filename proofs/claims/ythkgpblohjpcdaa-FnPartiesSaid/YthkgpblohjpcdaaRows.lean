/-
  No cell of these rows narrows 'for every input' (looked for: loops, veiled, ifaces, maps, wideKeys, modest, calm, conditions, laid).
  DERIVED. THE GIVEN ROWS OF THIS SEAT. 13 by the template 'for every input the law returns true; each argument reads behind the call as it read before'; 0 by the template 'total and deterministic' (their statements: YthkgpblohjpcdaaTotals.lean).
  GIVEN WITH THE SEED: the statements are not yours to turn. If you find one false, say at which input.
  Laid BY PROGRAM, IN A SANDBOX (cutbox-rows.mjs): the forced cells as the released guide's own fill.sh prints them over the translation 9b0bee1d884382f3… (all of the seat's roots in one cut). By AI agents, Wed Nov 11 2026. No macro, syntax, notation, axiom, sorry.
-/
import Derived.Test.YthkgpblohjpcdaaChecked
import GoSem.Claim
import GoSem.ClaimJoined
import GoSem.ClaimMapViews
import Derived.JoinedTies
import Derived.KernelRfl
namespace Go.Proofs.Ythkgpblohjpcdaa
/- THE CELL 'sum', in the pinned program and in every row, IS THE sha256 OF THE DUMP (.gsa) THAT YthkgpblohjpcdaaProg.lean LOADS. Nothing in Lean hashes anything: it is a label: what it is worth is what the hold of that sum in a sandbox is worth. -/
noncomputable def Try.pinned : Pinned := { name := "ythkgpblohjpcdaa", sum := "9b0bee1d884382f346840e211d443dbaede289b8528e60d4f3e4a4587e8e2daf", checked := Try.checked }
namespace Rows
def none {H : Type} : Left H := { results := [], args := [] }

/-- 'laws.FnExactIsParty': WHATEVER THE INPUT: true; the input reads as it did. -/
def fnExactIsPartySpec : ChangeSpec := { name := "fnExactIsParty", fn := fun _ => fun
  | [d] => { results := [.lit (.bool true)], args := [d] }
  | _ => none }
def fnExactIsPartyRow : OpenClaim := { program := "ythkgpblohjpcdaa", sum := "9b0bee1d884382f346840e211d443dbaede289b8528e60d4f3e4a4587e8e2daf", func := "loop.example/g01159/laws.FnExactIsParty", spec := "fnExactIsParty", unfollowed := true, recurses := true, plainKeys := false, apart := false }
def FnExactIsPartySaid : Prop := fnExactIsPartyRow.holds Try.pinned (OpenSpec.ofChange fnExactIsPartySpec)

/-- ITS FALSE NEIGHBOUR: 'it returns false'. Refute it at one input. -/
def fnExactIsPartyWrong : ChangeSpec := { name := "fnExactIsParty", fn := fun _ => fun
  | [d] => { results := [.lit (.bool false)], args := [d] }
  | _ => none }
def FnExactIsPartyWrongFalsely : Prop := fnExactIsPartyRow.holds Try.pinned (OpenSpec.ofChange fnExactIsPartyWrong)

/-- 'laws.FnExactRestingPlaces': WHATEVER THE INPUT: true; the input reads as it did. -/
def fnExactRestingPlacesSpec : ChangeSpec := { name := "fnExactRestingPlaces", fn := fun _ => fun
  | [d] => { results := [.lit (.bool true)], args := [d] }
  | _ => none }
def fnExactRestingPlacesRow : OpenClaim := { program := "ythkgpblohjpcdaa", sum := "9b0bee1d884382f346840e211d443dbaede289b8528e60d4f3e4a4587e8e2daf", func := "loop.example/g01159/laws.FnExactRestingPlaces", spec := "fnExactRestingPlaces", unfollowed := true, recurses := true, plainKeys := false, apart := false }
def FnExactRestingPlacesSaid : Prop := fnExactRestingPlacesRow.holds Try.pinned (OpenSpec.ofChange fnExactRestingPlacesSpec)

/-- ITS FALSE NEIGHBOUR: 'it returns false'. Refute it at one input. -/
def fnExactRestingPlacesWrong : ChangeSpec := { name := "fnExactRestingPlaces", fn := fun _ => fun
  | [d] => { results := [.lit (.bool false)], args := [d] }
  | _ => none }
def FnExactRestingPlacesWrongFalsely : Prop := fnExactRestingPlacesRow.holds Try.pinned (OpenSpec.ofChange fnExactRestingPlacesWrong)

/-- 'laws.FnExactSafeMoves': WHATEVER THE INPUT: true; the input reads as it did. -/
def fnExactSafeMovesSpec : ChangeSpec := { name := "fnExactSafeMoves", fn := fun _ => fun
  | [d] => { results := [.lit (.bool true)], args := [d] }
  | _ => none }
def fnExactSafeMovesRow : OpenClaim := { program := "ythkgpblohjpcdaa", sum := "9b0bee1d884382f346840e211d443dbaede289b8528e60d4f3e4a4587e8e2daf", func := "loop.example/g01159/laws.FnExactSafeMoves", spec := "fnExactSafeMoves", unfollowed := true, recurses := true, plainKeys := false, apart := false }
def FnExactSafeMovesSaid : Prop := fnExactSafeMovesRow.holds Try.pinned (OpenSpec.ofChange fnExactSafeMovesSpec)

/-- ITS FALSE NEIGHBOUR: 'it returns false'. Refute it at one input. -/
def fnExactSafeMovesWrong : ChangeSpec := { name := "fnExactSafeMoves", fn := fun _ => fun
  | [d] => { results := [.lit (.bool false)], args := [d] }
  | _ => none }
def FnExactSafeMovesWrongFalsely : Prop := fnExactSafeMovesRow.holds Try.pinned (OpenSpec.ofChange fnExactSafeMovesWrong)

/-- 'laws.FnExactMoveOne': WHATEVER THE INPUT: true; the input reads as it did. -/
def fnExactMoveOneSpec : ChangeSpec := { name := "fnExactMoveOne", fn := fun _ => fun
  | [d1, d2] => { results := [.lit (.bool true)], args := [d1, d2] }
  | _ => none }
def fnExactMoveOneRow : OpenClaim := { program := "ythkgpblohjpcdaa", sum := "9b0bee1d884382f346840e211d443dbaede289b8528e60d4f3e4a4587e8e2daf", func := "loop.example/g01159/laws.FnExactMoveOne", spec := "fnExactMoveOne", unfollowed := true, recurses := true, plainKeys := false, apart := false }
def FnExactMoveOneSaid : Prop := fnExactMoveOneRow.holds Try.pinned (OpenSpec.ofChange fnExactMoveOneSpec)

/-- ITS FALSE NEIGHBOUR: 'it returns false'. Refute it at one input. -/
def fnExactMoveOneWrong : ChangeSpec := { name := "fnExactMoveOne", fn := fun _ => fun
  | [d1, d2] => { results := [.lit (.bool false)], args := [d1, d2] }
  | _ => none }
def FnExactMoveOneWrongFalsely : Prop := fnExactMoveOneRow.holds Try.pinned (OpenSpec.ofChange fnExactMoveOneWrong)

/-- 'laws.FnExactCountPlaces': WHATEVER THE INPUT: true; the input reads as it did. -/
def fnExactCountPlacesSpec : ChangeSpec := { name := "fnExactCountPlaces", fn := fun _ => fun
  | [d] => { results := [.lit (.bool true)], args := [d] }
  | _ => none }
def fnExactCountPlacesRow : OpenClaim := { program := "ythkgpblohjpcdaa", sum := "9b0bee1d884382f346840e211d443dbaede289b8528e60d4f3e4a4587e8e2daf", func := "loop.example/g01159/laws.FnExactCountPlaces", spec := "fnExactCountPlaces", unfollowed := true, recurses := true, plainKeys := false, apart := false }
def FnExactCountPlacesSaid : Prop := fnExactCountPlacesRow.holds Try.pinned (OpenSpec.ofChange fnExactCountPlacesSpec)

/-- ITS FALSE NEIGHBOUR: 'it returns false'. Refute it at one input. -/
def fnExactCountPlacesWrong : ChangeSpec := { name := "fnExactCountPlaces", fn := fun _ => fun
  | [d] => { results := [.lit (.bool false)], args := [d] }
  | _ => none }
def FnExactCountPlacesWrongFalsely : Prop := fnExactCountPlacesRow.holds Try.pinned (OpenSpec.ofChange fnExactCountPlacesWrong)

/-- 'laws.FnExactIsWalkOn': WHATEVER THE INPUT: true; the input reads as it did. -/
def fnExactIsWalkOnSpec : ChangeSpec := { name := "fnExactIsWalkOn", fn := fun _ => fun
  | [d1, d2] => { results := [.lit (.bool true)], args := [d1, d2] }
  | _ => none }
def fnExactIsWalkOnRow : OpenClaim := { program := "ythkgpblohjpcdaa", sum := "9b0bee1d884382f346840e211d443dbaede289b8528e60d4f3e4a4587e8e2daf", func := "loop.example/g01159/laws.FnExactIsWalkOn", spec := "fnExactIsWalkOn", unfollowed := true, recurses := true, plainKeys := false, apart := false }
def FnExactIsWalkOnSaid : Prop := fnExactIsWalkOnRow.holds Try.pinned (OpenSpec.ofChange fnExactIsWalkOnSpec)

/-- ITS FALSE NEIGHBOUR: 'it returns false'. Refute it at one input. -/
def fnExactIsWalkOnWrong : ChangeSpec := { name := "fnExactIsWalkOn", fn := fun _ => fun
  | [d1, d2] => { results := [.lit (.bool false)], args := [d1, d2] }
  | _ => none }
def FnExactIsWalkOnWrongFalsely : Prop := fnExactIsWalkOnRow.holds Try.pinned (OpenSpec.ofChange fnExactIsWalkOnWrong)

/-- 'laws.FnExactFarthestOut': WHATEVER THE INPUT: true; the input reads as it did. -/
def fnExactFarthestOutSpec : ChangeSpec := { name := "fnExactFarthestOut", fn := fun _ => fun
  | [d1, d2] => { results := [.lit (.bool true)], args := [d1, d2] }
  | _ => none }
def fnExactFarthestOutRow : OpenClaim := { program := "ythkgpblohjpcdaa", sum := "9b0bee1d884382f346840e211d443dbaede289b8528e60d4f3e4a4587e8e2daf", func := "loop.example/g01159/laws.FnExactFarthestOut", spec := "fnExactFarthestOut", unfollowed := true, recurses := true, plainKeys := false, apart := false }
def FnExactFarthestOutSaid : Prop := fnExactFarthestOutRow.holds Try.pinned (OpenSpec.ofChange fnExactFarthestOutSpec)

/-- ITS FALSE NEIGHBOUR: 'it returns false'. Refute it at one input. -/
def fnExactFarthestOutWrong : ChangeSpec := { name := "fnExactFarthestOut", fn := fun _ => fun
  | [d1, d2] => { results := [.lit (.bool false)], args := [d1, d2] }
  | _ => none }
def FnExactFarthestOutWrongFalsely : Prop := fnExactFarthestOutRow.holds Try.pinned (OpenSpec.ofChange fnExactFarthestOutWrong)

/-- 'laws.FnExactMeetSteps': WHATEVER THE INPUT: true; the input reads as it did. -/
def fnExactMeetStepsSpec : ChangeSpec := { name := "fnExactMeetSteps", fn := fun _ => fun
  | [d] => { results := [.lit (.bool true)], args := [d] }
  | _ => none }
def fnExactMeetStepsRow : OpenClaim := { program := "ythkgpblohjpcdaa", sum := "9b0bee1d884382f346840e211d443dbaede289b8528e60d4f3e4a4587e8e2daf", func := "loop.example/g01159/laws.FnExactMeetSteps", spec := "fnExactMeetSteps", unfollowed := true, recurses := true, plainKeys := false, apart := false }
def FnExactMeetStepsSaid : Prop := fnExactMeetStepsRow.holds Try.pinned (OpenSpec.ofChange fnExactMeetStepsSpec)

/-- ITS FALSE NEIGHBOUR: 'it returns false'. Refute it at one input. -/
def fnExactMeetStepsWrong : ChangeSpec := { name := "fnExactMeetSteps", fn := fun _ => fun
  | [d] => { results := [.lit (.bool false)], args := [d] }
  | _ => none }
def FnExactMeetStepsWrongFalsely : Prop := fnExactMeetStepsRow.holds Try.pinned (OpenSpec.ofChange fnExactMeetStepsWrong)

/-- 'laws.FnExactWalkTo': WHATEVER THE INPUT: true; the input reads as it did. -/
def fnExactWalkToSpec : ChangeSpec := { name := "fnExactWalkTo", fn := fun _ => fun
  | [d1, d2] => { results := [.lit (.bool true)], args := [d1, d2] }
  | _ => none }
def fnExactWalkToRow : OpenClaim := { program := "ythkgpblohjpcdaa", sum := "9b0bee1d884382f346840e211d443dbaede289b8528e60d4f3e4a4587e8e2daf", func := "loop.example/g01159/laws.FnExactWalkTo", spec := "fnExactWalkTo", unfollowed := true, recurses := true, plainKeys := false, apart := false }
def FnExactWalkToSaid : Prop := fnExactWalkToRow.holds Try.pinned (OpenSpec.ofChange fnExactWalkToSpec)

/-- ITS FALSE NEIGHBOUR: 'it returns false'. Refute it at one input. -/
def fnExactWalkToWrong : ChangeSpec := { name := "fnExactWalkTo", fn := fun _ => fun
  | [d1, d2] => { results := [.lit (.bool false)], args := [d1, d2] }
  | _ => none }
def FnExactWalkToWrongFalsely : Prop := fnExactWalkToRow.holds Try.pinned (OpenSpec.ofChange fnExactWalkToWrong)

/-- 'laws.FnExactStepsTo': WHATEVER THE INPUT: true; the input reads as it did. -/
def fnExactStepsToSpec : ChangeSpec := { name := "fnExactStepsTo", fn := fun _ => fun
  | [d1, d2] => { results := [.lit (.bool true)], args := [d1, d2] }
  | _ => none }
def fnExactStepsToRow : OpenClaim := { program := "ythkgpblohjpcdaa", sum := "9b0bee1d884382f346840e211d443dbaede289b8528e60d4f3e4a4587e8e2daf", func := "loop.example/g01159/laws.FnExactStepsTo", spec := "fnExactStepsTo", unfollowed := true, recurses := true, plainKeys := false, apart := false }
def FnExactStepsToSaid : Prop := fnExactStepsToRow.holds Try.pinned (OpenSpec.ofChange fnExactStepsToSpec)

/-- ITS FALSE NEIGHBOUR: 'it returns false'. Refute it at one input. -/
def fnExactStepsToWrong : ChangeSpec := { name := "fnExactStepsTo", fn := fun _ => fun
  | [d1, d2] => { results := [.lit (.bool false)], args := [d1, d2] }
  | _ => none }
def FnExactStepsToWrongFalsely : Prop := fnExactStepsToRow.holds Try.pinned (OpenSpec.ofChange fnExactStepsToWrong)

/-- 'laws.FnExactFirstWalkTo': WHATEVER THE INPUT: true; the input reads as it did. -/
def fnExactFirstWalkToSpec : ChangeSpec := { name := "fnExactFirstWalkTo", fn := fun _ => fun
  | [d1, d2] => { results := [.lit (.bool true)], args := [d1, d2] }
  | _ => none }
def fnExactFirstWalkToRow : OpenClaim := { program := "ythkgpblohjpcdaa", sum := "9b0bee1d884382f346840e211d443dbaede289b8528e60d4f3e4a4587e8e2daf", func := "loop.example/g01159/laws.FnExactFirstWalkTo", spec := "fnExactFirstWalkTo", unfollowed := true, recurses := true, plainKeys := false, apart := false }
def FnExactFirstWalkToSaid : Prop := fnExactFirstWalkToRow.holds Try.pinned (OpenSpec.ofChange fnExactFirstWalkToSpec)

/-- ITS FALSE NEIGHBOUR: 'it returns false'. Refute it at one input. -/
def fnExactFirstWalkToWrong : ChangeSpec := { name := "fnExactFirstWalkTo", fn := fun _ => fun
  | [d1, d2] => { results := [.lit (.bool false)], args := [d1, d2] }
  | _ => none }
def FnExactFirstWalkToWrongFalsely : Prop := fnExactFirstWalkToRow.holds Try.pinned (OpenSpec.ofChange fnExactFirstWalkToWrong)

/-- 'laws.FnPlanks': WHATEVER THE INPUT: true; the input reads as it did. -/
def fnPlanksSpec : ChangeSpec := { name := "fnPlanks", fn := fun _ => fun
  | [d] => { results := [.lit (.bool true)], args := [d] }
  | _ => none }
def fnPlanksRow : OpenClaim := { program := "ythkgpblohjpcdaa", sum := "9b0bee1d884382f346840e211d443dbaede289b8528e60d4f3e4a4587e8e2daf", func := "loop.example/g01159/laws.FnPlanks", spec := "fnPlanks", unfollowed := true, recurses := true, plainKeys := false, apart := false }
def FnPlanksSaid : Prop := fnPlanksRow.holds Try.pinned (OpenSpec.ofChange fnPlanksSpec)

/-- ITS FALSE NEIGHBOUR: 'it returns false'. Refute it at one input. -/
def fnPlanksWrong : ChangeSpec := { name := "fnPlanks", fn := fun _ => fun
  | [d] => { results := [.lit (.bool false)], args := [d] }
  | _ => none }
def FnPlanksWrongFalsely : Prop := fnPlanksRow.holds Try.pinned (OpenSpec.ofChange fnPlanksWrong)

/-- 'laws.FnParties': WHATEVER THE INPUT: true; the input reads as it did. -/
def fnPartiesSpec : ChangeSpec := { name := "fnParties", fn := fun _ => fun
  | [d] => { results := [.lit (.bool true)], args := [d] }
  | _ => none }
def fnPartiesRow : OpenClaim := { program := "ythkgpblohjpcdaa", sum := "9b0bee1d884382f346840e211d443dbaede289b8528e60d4f3e4a4587e8e2daf", func := "loop.example/g01159/laws.FnParties", spec := "fnParties", unfollowed := true, recurses := true, plainKeys := false, apart := false }
def FnPartiesSaid : Prop := fnPartiesRow.holds Try.pinned (OpenSpec.ofChange fnPartiesSpec)

/-- ITS FALSE NEIGHBOUR: 'it returns false'. Refute it at one input. -/
def fnPartiesWrong : ChangeSpec := { name := "fnParties", fn := fun _ => fun
  | [d] => { results := [.lit (.bool false)], args := [d] }
  | _ => none }
def FnPartiesWrongFalsely : Prop := fnPartiesRow.holds Try.pinned (OpenSpec.ofChange fnPartiesWrong)

/- THE SECOND FORM. 'bulk': how many values and letters a reading holds, each counted each time it is reached (what is shared counts as often as it is met; a slice's spare places count too). A statement '..UptoSaid' is the law's where the arguments, and the package variables that the reading takes, are together of bulk at most 1048576: NARROWER than '..Said'. Prove '..Said' where nothing that the law and all that it calls make is longer than what came in: it says more and counts as full. Else prove '..UptoSaid'. A law counts once. -/
mutual
def uptoBulk {H : Type} : DataW H → Nat
  | .lit (.string bytes) => bytes.length + 1
  | .lit _ => 1
  | .nil => 1
  | .ptr d => uptoBulk d + 1
  | .slice elems spare => uptoBulkAll elems + uptoBulkAll spare + 1
  | .agg parts => uptoBulkAll parts + 1
  | .iface _ d => uptoBulk d + 1
  | .map entries => uptoBulkEntries entries + 1
  | .held _ => 1
def uptoBulkAll {H : Type} : List (DataW H) → Nat
  | [] => 0
  | d :: r => uptoBulk d + uptoBulkAll r
def uptoBulkEntries {H : Type} : List (Lit × DataW H) → Nat
  | [] => 0
  | x :: r => uptoBulkEntry x + uptoBulkEntries r
def uptoBulkEntry {H : Type} : Lit × DataW H → Nat
  | (.string bytes, d) => bytes.length + uptoBulk d + 1
  | (_, d) => uptoBulk d + 1
 end
def uptoSmall : (H : Type) → List (DataW H) → Bool := fun _ ds => decide (uptoBulkAll ds ≤ 1048576)
def OpenSpec.upto (s : _root_.Go.ChangeSpec) : _root_.Go.OpenSpec := { _root_.Go.OpenSpec.ofChange s with cond := some uptoSmall }

/-- 'laws.FnExactIsParty', WHERE WHAT IT READS IS OF BULK AT MOST 1048576: true; the input reads as it did. -/
def fnExactIsPartyUptoRow : OpenClaim := { program := "ythkgpblohjpcdaa", sum := "9b0bee1d884382f346840e211d443dbaede289b8528e60d4f3e4a4587e8e2daf", func := "loop.example/g01159/laws.FnExactIsParty", spec := "fnExactIsParty", unfollowed := true, recurses := true, plainKeys := false, apart := false, narrowed := true }
def FnExactIsPartyUptoSaid : Prop := fnExactIsPartyUptoRow.holds Try.pinned (OpenSpec.upto fnExactIsPartySpec)

/-- 'laws.FnExactRestingPlaces', WHERE WHAT IT READS IS OF BULK AT MOST 1048576: true; the input reads as it did. -/
def fnExactRestingPlacesUptoRow : OpenClaim := { program := "ythkgpblohjpcdaa", sum := "9b0bee1d884382f346840e211d443dbaede289b8528e60d4f3e4a4587e8e2daf", func := "loop.example/g01159/laws.FnExactRestingPlaces", spec := "fnExactRestingPlaces", unfollowed := true, recurses := true, plainKeys := false, apart := false, narrowed := true }
def FnExactRestingPlacesUptoSaid : Prop := fnExactRestingPlacesUptoRow.holds Try.pinned (OpenSpec.upto fnExactRestingPlacesSpec)

/-- 'laws.FnExactSafeMoves', WHERE WHAT IT READS IS OF BULK AT MOST 1048576: true; the input reads as it did. -/
def fnExactSafeMovesUptoRow : OpenClaim := { program := "ythkgpblohjpcdaa", sum := "9b0bee1d884382f346840e211d443dbaede289b8528e60d4f3e4a4587e8e2daf", func := "loop.example/g01159/laws.FnExactSafeMoves", spec := "fnExactSafeMoves", unfollowed := true, recurses := true, plainKeys := false, apart := false, narrowed := true }
def FnExactSafeMovesUptoSaid : Prop := fnExactSafeMovesUptoRow.holds Try.pinned (OpenSpec.upto fnExactSafeMovesSpec)

/-- 'laws.FnExactMoveOne', WHERE WHAT IT READS IS OF BULK AT MOST 1048576: true; the input reads as it did. -/
def fnExactMoveOneUptoRow : OpenClaim := { program := "ythkgpblohjpcdaa", sum := "9b0bee1d884382f346840e211d443dbaede289b8528e60d4f3e4a4587e8e2daf", func := "loop.example/g01159/laws.FnExactMoveOne", spec := "fnExactMoveOne", unfollowed := true, recurses := true, plainKeys := false, apart := false, narrowed := true }
def FnExactMoveOneUptoSaid : Prop := fnExactMoveOneUptoRow.holds Try.pinned (OpenSpec.upto fnExactMoveOneSpec)

/-- 'laws.FnExactCountPlaces', WHERE WHAT IT READS IS OF BULK AT MOST 1048576: true; the input reads as it did. -/
def fnExactCountPlacesUptoRow : OpenClaim := { program := "ythkgpblohjpcdaa", sum := "9b0bee1d884382f346840e211d443dbaede289b8528e60d4f3e4a4587e8e2daf", func := "loop.example/g01159/laws.FnExactCountPlaces", spec := "fnExactCountPlaces", unfollowed := true, recurses := true, plainKeys := false, apart := false, narrowed := true }
def FnExactCountPlacesUptoSaid : Prop := fnExactCountPlacesUptoRow.holds Try.pinned (OpenSpec.upto fnExactCountPlacesSpec)

/-- 'laws.FnExactIsWalkOn', WHERE WHAT IT READS IS OF BULK AT MOST 1048576: true; the input reads as it did. -/
def fnExactIsWalkOnUptoRow : OpenClaim := { program := "ythkgpblohjpcdaa", sum := "9b0bee1d884382f346840e211d443dbaede289b8528e60d4f3e4a4587e8e2daf", func := "loop.example/g01159/laws.FnExactIsWalkOn", spec := "fnExactIsWalkOn", unfollowed := true, recurses := true, plainKeys := false, apart := false, narrowed := true }
def FnExactIsWalkOnUptoSaid : Prop := fnExactIsWalkOnUptoRow.holds Try.pinned (OpenSpec.upto fnExactIsWalkOnSpec)

/-- 'laws.FnExactFarthestOut', WHERE WHAT IT READS IS OF BULK AT MOST 1048576: true; the input reads as it did. -/
def fnExactFarthestOutUptoRow : OpenClaim := { program := "ythkgpblohjpcdaa", sum := "9b0bee1d884382f346840e211d443dbaede289b8528e60d4f3e4a4587e8e2daf", func := "loop.example/g01159/laws.FnExactFarthestOut", spec := "fnExactFarthestOut", unfollowed := true, recurses := true, plainKeys := false, apart := false, narrowed := true }
def FnExactFarthestOutUptoSaid : Prop := fnExactFarthestOutUptoRow.holds Try.pinned (OpenSpec.upto fnExactFarthestOutSpec)

/-- 'laws.FnExactMeetSteps', WHERE WHAT IT READS IS OF BULK AT MOST 1048576: true; the input reads as it did. -/
def fnExactMeetStepsUptoRow : OpenClaim := { program := "ythkgpblohjpcdaa", sum := "9b0bee1d884382f346840e211d443dbaede289b8528e60d4f3e4a4587e8e2daf", func := "loop.example/g01159/laws.FnExactMeetSteps", spec := "fnExactMeetSteps", unfollowed := true, recurses := true, plainKeys := false, apart := false, narrowed := true }
def FnExactMeetStepsUptoSaid : Prop := fnExactMeetStepsUptoRow.holds Try.pinned (OpenSpec.upto fnExactMeetStepsSpec)

/-- 'laws.FnExactWalkTo', WHERE WHAT IT READS IS OF BULK AT MOST 1048576: true; the input reads as it did. -/
def fnExactWalkToUptoRow : OpenClaim := { program := "ythkgpblohjpcdaa", sum := "9b0bee1d884382f346840e211d443dbaede289b8528e60d4f3e4a4587e8e2daf", func := "loop.example/g01159/laws.FnExactWalkTo", spec := "fnExactWalkTo", unfollowed := true, recurses := true, plainKeys := false, apart := false, narrowed := true }
def FnExactWalkToUptoSaid : Prop := fnExactWalkToUptoRow.holds Try.pinned (OpenSpec.upto fnExactWalkToSpec)

/-- 'laws.FnExactStepsTo', WHERE WHAT IT READS IS OF BULK AT MOST 1048576: true; the input reads as it did. -/
def fnExactStepsToUptoRow : OpenClaim := { program := "ythkgpblohjpcdaa", sum := "9b0bee1d884382f346840e211d443dbaede289b8528e60d4f3e4a4587e8e2daf", func := "loop.example/g01159/laws.FnExactStepsTo", spec := "fnExactStepsTo", unfollowed := true, recurses := true, plainKeys := false, apart := false, narrowed := true }
def FnExactStepsToUptoSaid : Prop := fnExactStepsToUptoRow.holds Try.pinned (OpenSpec.upto fnExactStepsToSpec)

/-- 'laws.FnExactFirstWalkTo', WHERE WHAT IT READS IS OF BULK AT MOST 1048576: true; the input reads as it did. -/
def fnExactFirstWalkToUptoRow : OpenClaim := { program := "ythkgpblohjpcdaa", sum := "9b0bee1d884382f346840e211d443dbaede289b8528e60d4f3e4a4587e8e2daf", func := "loop.example/g01159/laws.FnExactFirstWalkTo", spec := "fnExactFirstWalkTo", unfollowed := true, recurses := true, plainKeys := false, apart := false, narrowed := true }
def FnExactFirstWalkToUptoSaid : Prop := fnExactFirstWalkToUptoRow.holds Try.pinned (OpenSpec.upto fnExactFirstWalkToSpec)

/-- 'laws.FnPlanks', WHERE WHAT IT READS IS OF BULK AT MOST 1048576: true; the input reads as it did. -/
def fnPlanksUptoRow : OpenClaim := { program := "ythkgpblohjpcdaa", sum := "9b0bee1d884382f346840e211d443dbaede289b8528e60d4f3e4a4587e8e2daf", func := "loop.example/g01159/laws.FnPlanks", spec := "fnPlanks", unfollowed := true, recurses := true, plainKeys := false, apart := false, narrowed := true }
def FnPlanksUptoSaid : Prop := fnPlanksUptoRow.holds Try.pinned (OpenSpec.upto fnPlanksSpec)

/-- 'laws.FnParties', WHERE WHAT IT READS IS OF BULK AT MOST 1048576: true; the input reads as it did. -/
def fnPartiesUptoRow : OpenClaim := { program := "ythkgpblohjpcdaa", sum := "9b0bee1d884382f346840e211d443dbaede289b8528e60d4f3e4a4587e8e2daf", func := "loop.example/g01159/laws.FnParties", spec := "fnParties", unfollowed := true, recurses := true, plainKeys := false, apart := false, narrowed := true }
def FnPartiesUptoSaid : Prop := fnPartiesUptoRow.holds Try.pinned (OpenSpec.upto fnPartiesSpec)

end Rows
end Go.Proofs.Ythkgpblohjpcdaa
