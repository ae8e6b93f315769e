/-
  No cell of these rows narrows 'for every input' (looked for: loops, veiled, ifaces, maps, wideKeys, modest, calm, conditions, laid).
  DERIVED. THE GIVEN ROWS OF THIS SEAT. 8 by the template 'for every input the law returns true; each argument reads behind the call as it read before'; 0 by the template 'total and deterministic' (their statements: YtlocjmbfcdfjfaaTotals.lean).
  GIVEN WITH THE SEED: the statements are not yours to turn. If you find one false, say at which input.
  Laid BY PROGRAM, IN A SANDBOX (cutbox-rows.mjs): the forced cells as the released guide's own fill.sh prints them over the translation d31aa1193cf7dd76… (all of the seat's roots in one cut). By AI agents, Wed Nov 11 2026. No macro, syntax, notation, axiom, sorry.
-/
import Derived.Test.YtlocjmbfcdfjfaaChecked
import GoSem.Claim
import GoSem.ClaimJoined
import GoSem.ClaimMapViews
import Derived.JoinedTies
import Derived.KernelRfl
namespace Go.Proofs.Ytlocjmbfcdfjfaa
/- THE CELL 'sum', in the pinned program and in every row, IS THE sha256 OF THE DUMP (.gsa) THAT YtlocjmbfcdfjfaaProg.lean LOADS. Nothing in Lean hashes anything: it is a label: what it is worth is what the hold of that sum in a sandbox is worth. -/
noncomputable def Try.pinned : Pinned := { name := "ytlocjmbfcdfjfaa", sum := "d31aa1193cf7dd76522ccb31198e3b76f17e85ab591d1d6974768a74db681eab", checked := Try.checked }
namespace Rows
def none {H : Type} : Left H := { results := [], args := [] }

/-- 'laws.FnExactNewStand': WHATEVER THE INPUT: true; the input reads as it did. -/
def fnExactNewStandSpec : ChangeSpec := { name := "fnExactNewStand", fn := fun _ => fun
  | [d1, d2] => { results := [.lit (.bool true)], args := [d1, d2] }
  | _ => none }
def fnExactNewStandRow : OpenClaim := { program := "ytlocjmbfcdfjfaa", sum := "d31aa1193cf7dd76522ccb31198e3b76f17e85ab591d1d6974768a74db681eab", func := "loop.example/g01159/laws.FnExactNewStand", spec := "fnExactNewStand", unfollowed := true, recurses := true, apart := false }
def FnExactNewStandSaid : Prop := fnExactNewStandRow.holds Try.pinned (OpenSpec.ofChange fnExactNewStandSpec)

/-- ITS FALSE NEIGHBOUR: 'it returns false'. Refute it at one input. -/
def fnExactNewStandWrong : ChangeSpec := { name := "fnExactNewStand", fn := fun _ => fun
  | [d1, d2] => { results := [.lit (.bool false)], args := [d1, d2] }
  | _ => none }
def FnExactNewStandWrongFalsely : Prop := fnExactNewStandRow.holds Try.pinned (OpenSpec.ofChange fnExactNewStandWrong)

/-- 'laws.FnExactIsStand': WHATEVER THE INPUT: true; the input reads as it did. -/
def fnExactIsStandSpec : ChangeSpec := { name := "fnExactIsStand", fn := fun _ => fun
  | [d] => { results := [.lit (.bool true)], args := [d] }
  | _ => none }
def fnExactIsStandRow : OpenClaim := { program := "ytlocjmbfcdfjfaa", sum := "d31aa1193cf7dd76522ccb31198e3b76f17e85ab591d1d6974768a74db681eab", func := "loop.example/g01159/laws.FnExactIsStand", spec := "fnExactIsStand", unfollowed := true, recurses := true, apart := false }
def FnExactIsStandSaid : Prop := fnExactIsStandRow.holds Try.pinned (OpenSpec.ofChange fnExactIsStandSpec)

/-- ITS FALSE NEIGHBOUR: 'it returns false'. Refute it at one input. -/
def fnExactIsStandWrong : ChangeSpec := { name := "fnExactIsStand", fn := fun _ => fun
  | [d] => { results := [.lit (.bool false)], args := [d] }
  | _ => none }
def FnExactIsStandWrongFalsely : Prop := fnExactIsStandRow.holds Try.pinned (OpenSpec.ofChange fnExactIsStandWrong)

/-- 'laws.FnExactRowPull': WHATEVER THE INPUT: true; the input reads as it did. -/
def fnExactRowPullSpec : ChangeSpec := { name := "fnExactRowPull", fn := fun _ => fun
  | [d] => { results := [.lit (.bool true)], args := [d] }
  | _ => none }
def fnExactRowPullRow : OpenClaim := { program := "ytlocjmbfcdfjfaa", sum := "d31aa1193cf7dd76522ccb31198e3b76f17e85ab591d1d6974768a74db681eab", func := "loop.example/g01159/laws.FnExactRowPull", spec := "fnExactRowPull", unfollowed := true, recurses := true, apart := false }
def FnExactRowPullSaid : Prop := fnExactRowPullRow.holds Try.pinned (OpenSpec.ofChange fnExactRowPullSpec)

/-- ITS FALSE NEIGHBOUR: 'it returns false'. Refute it at one input. -/
def fnExactRowPullWrong : ChangeSpec := { name := "fnExactRowPull", fn := fun _ => fun
  | [d] => { results := [.lit (.bool false)], args := [d] }
  | _ => none }
def FnExactRowPullWrongFalsely : Prop := fnExactRowPullRow.holds Try.pinned (OpenSpec.ofChange fnExactRowPullWrong)

/-- 'laws.FnExactNewConsole': WHATEVER THE INPUT: true; the input reads as it did. -/
def fnExactNewConsoleSpec : ChangeSpec := { name := "fnExactNewConsole", fn := fun _ => fun
  | [d] => { results := [.lit (.bool true)], args := [d] }
  | _ => none }
def fnExactNewConsoleRow : OpenClaim := { program := "ytlocjmbfcdfjfaa", sum := "d31aa1193cf7dd76522ccb31198e3b76f17e85ab591d1d6974768a74db681eab", func := "loop.example/g01159/laws.FnExactNewConsole", spec := "fnExactNewConsole", unfollowed := true, recurses := true, apart := false }
def FnExactNewConsoleSaid : Prop := fnExactNewConsoleRow.holds Try.pinned (OpenSpec.ofChange fnExactNewConsoleSpec)

/-- ITS FALSE NEIGHBOUR: 'it returns false'. Refute it at one input. -/
def fnExactNewConsoleWrong : ChangeSpec := { name := "fnExactNewConsole", fn := fun _ => fun
  | [d] => { results := [.lit (.bool false)], args := [d] }
  | _ => none }
def FnExactNewConsoleWrongFalsely : Prop := fnExactNewConsoleRow.holds Try.pinned (OpenSpec.ofChange fnExactNewConsoleWrong)

/-- 'laws.FnExactDoTask': WHATEVER THE INPUT: true; the input reads as it did. -/
def fnExactDoTaskSpec : ChangeSpec := { name := "fnExactDoTask", fn := fun _ => fun
  | [d1, d2] => { results := [.lit (.bool true)], args := [d1, d2] }
  | _ => none }
def fnExactDoTaskRow : OpenClaim := { program := "ytlocjmbfcdfjfaa", sum := "d31aa1193cf7dd76522ccb31198e3b76f17e85ab591d1d6974768a74db681eab", func := "loop.example/g01159/laws.FnExactDoTask", spec := "fnExactDoTask", unfollowed := true, recurses := true, apart := false }
def FnExactDoTaskSaid : Prop := fnExactDoTaskRow.holds Try.pinned (OpenSpec.ofChange fnExactDoTaskSpec)

/-- ITS FALSE NEIGHBOUR: 'it returns false'. Refute it at one input. -/
def fnExactDoTaskWrong : ChangeSpec := { name := "fnExactDoTask", fn := fun _ => fun
  | [d1, d2] => { results := [.lit (.bool false)], args := [d1, d2] }
  | _ => none }
def FnExactDoTaskWrongFalsely : Prop := fnExactDoTaskRow.holds Try.pinned (OpenSpec.ofChange fnExactDoTaskWrong)

/-- 'laws.FnStands': WHATEVER THE INPUT: true; the input reads as it did. -/
def fnStandsSpec : ChangeSpec := { name := "fnStands", fn := fun _ => fun
  | [d] => { results := [.lit (.bool true)], args := [d] }
  | _ => none }
def fnStandsRow : OpenClaim := { program := "ytlocjmbfcdfjfaa", sum := "d31aa1193cf7dd76522ccb31198e3b76f17e85ab591d1d6974768a74db681eab", func := "loop.example/g01159/laws.FnStands", spec := "fnStands", unfollowed := true, recurses := true, apart := false }
def FnStandsSaid : Prop := fnStandsRow.holds Try.pinned (OpenSpec.ofChange fnStandsSpec)

/-- ITS FALSE NEIGHBOUR: 'it returns false'. Refute it at one input. -/
def fnStandsWrong : ChangeSpec := { name := "fnStands", fn := fun _ => fun
  | [d] => { results := [.lit (.bool false)], args := [d] }
  | _ => none }
def FnStandsWrongFalsely : Prop := fnStandsRow.holds Try.pinned (OpenSpec.ofChange fnStandsWrong)

/-- 'laws.FnRowPulls': WHATEVER THE INPUT: true; the input reads as it did. -/
def fnRowPullsSpec : ChangeSpec := { name := "fnRowPulls", fn := fun _ => fun
  | [d] => { results := [.lit (.bool true)], args := [d] }
  | _ => none }
def fnRowPullsRow : OpenClaim := { program := "ytlocjmbfcdfjfaa", sum := "d31aa1193cf7dd76522ccb31198e3b76f17e85ab591d1d6974768a74db681eab", func := "loop.example/g01159/laws.FnRowPulls", spec := "fnRowPulls", unfollowed := true, recurses := true, apart := false }
def FnRowPullsSaid : Prop := fnRowPullsRow.holds Try.pinned (OpenSpec.ofChange fnRowPullsSpec)

/-- ITS FALSE NEIGHBOUR: 'it returns false'. Refute it at one input. -/
def fnRowPullsWrong : ChangeSpec := { name := "fnRowPulls", fn := fun _ => fun
  | [d] => { results := [.lit (.bool false)], args := [d] }
  | _ => none }
def FnRowPullsWrongFalsely : Prop := fnRowPullsRow.holds Try.pinned (OpenSpec.ofChange fnRowPullsWrong)

/-- 'laws.FnExactDoTasks': WHATEVER THE INPUT: true; the input reads as it did. -/
def fnExactDoTasksSpec : ChangeSpec := { name := "fnExactDoTasks", fn := fun _ => fun
  | [d1, d2] => { results := [.lit (.bool true)], args := [d1, d2] }
  | _ => none }
def fnExactDoTasksRow : OpenClaim := { program := "ytlocjmbfcdfjfaa", sum := "d31aa1193cf7dd76522ccb31198e3b76f17e85ab591d1d6974768a74db681eab", func := "loop.example/g01159/laws.FnExactDoTasks", spec := "fnExactDoTasks", unfollowed := true, recurses := true, apart := false }
def FnExactDoTasksSaid : Prop := fnExactDoTasksRow.holds Try.pinned (OpenSpec.ofChange fnExactDoTasksSpec)

/-- ITS FALSE NEIGHBOUR: 'it returns false'. Refute it at one input. -/
def fnExactDoTasksWrong : ChangeSpec := { name := "fnExactDoTasks", fn := fun _ => fun
  | [d1, d2] => { results := [.lit (.bool false)], args := [d1, d2] }
  | _ => none }
def FnExactDoTasksWrongFalsely : Prop := fnExactDoTasksRow.holds Try.pinned (OpenSpec.ofChange fnExactDoTasksWrong)

/- THE SECOND FORM. 'bulk': how many values and letters a reading holds, each counted each time it is reached (what is shared counts as often as it is met; a slice's spare places count too). A statement '..UptoSaid' is the law's where the arguments, and the package variables that the reading takes, are together of bulk at most 1048576: NARROWER than '..Said'. Prove '..Said' where nothing that the law and all that it calls make is longer than what came in: it says more and counts as full. Else prove '..UptoSaid'. A law counts once. -/
mutual
def uptoBulk {H : Type} : DataW H → Nat
  | .lit (.string bytes) => bytes.length + 1
  | .lit _ => 1
  | .nil => 1
  | .ptr d => uptoBulk d + 1
  | .slice elems spare => uptoBulkAll elems + uptoBulkAll spare + 1
  | .agg parts => uptoBulkAll parts + 1
  | .iface _ d => uptoBulk d + 1
  | .map entries => uptoBulkEntries entries + 1
  | .held _ => 1
def uptoBulkAll {H : Type} : List (DataW H) → Nat
  | [] => 0
  | d :: r => uptoBulk d + uptoBulkAll r
def uptoBulkEntries {H : Type} : List (Lit × DataW H) → Nat
  | [] => 0
  | x :: r => uptoBulkEntry x + uptoBulkEntries r
def uptoBulkEntry {H : Type} : Lit × DataW H → Nat
  | (.string bytes, d) => bytes.length + uptoBulk d + 1
  | (_, d) => uptoBulk d + 1
 end
def uptoSmall : (H : Type) → List (DataW H) → Bool := fun _ ds => decide (uptoBulkAll ds ≤ 1048576)
def OpenSpec.upto (s : _root_.Go.ChangeSpec) : _root_.Go.OpenSpec := { _root_.Go.OpenSpec.ofChange s with cond := some uptoSmall }

/-- 'laws.FnExactNewStand', WHERE WHAT IT READS IS OF BULK AT MOST 1048576: true; the input reads as it did. -/
def fnExactNewStandUptoRow : OpenClaim := { program := "ytlocjmbfcdfjfaa", sum := "d31aa1193cf7dd76522ccb31198e3b76f17e85ab591d1d6974768a74db681eab", func := "loop.example/g01159/laws.FnExactNewStand", spec := "fnExactNewStand", unfollowed := true, recurses := true, apart := false, narrowed := true }
def FnExactNewStandUptoSaid : Prop := fnExactNewStandUptoRow.holds Try.pinned (OpenSpec.upto fnExactNewStandSpec)

/-- 'laws.FnExactIsStand', WHERE WHAT IT READS IS OF BULK AT MOST 1048576: true; the input reads as it did. -/
def fnExactIsStandUptoRow : OpenClaim := { program := "ytlocjmbfcdfjfaa", sum := "d31aa1193cf7dd76522ccb31198e3b76f17e85ab591d1d6974768a74db681eab", func := "loop.example/g01159/laws.FnExactIsStand", spec := "fnExactIsStand", unfollowed := true, recurses := true, apart := false, narrowed := true }
def FnExactIsStandUptoSaid : Prop := fnExactIsStandUptoRow.holds Try.pinned (OpenSpec.upto fnExactIsStandSpec)

/-- 'laws.FnExactRowPull', WHERE WHAT IT READS IS OF BULK AT MOST 1048576: true; the input reads as it did. -/
def fnExactRowPullUptoRow : OpenClaim := { program := "ytlocjmbfcdfjfaa", sum := "d31aa1193cf7dd76522ccb31198e3b76f17e85ab591d1d6974768a74db681eab", func := "loop.example/g01159/laws.FnExactRowPull", spec := "fnExactRowPull", unfollowed := true, recurses := true, apart := false, narrowed := true }
def FnExactRowPullUptoSaid : Prop := fnExactRowPullUptoRow.holds Try.pinned (OpenSpec.upto fnExactRowPullSpec)

/-- 'laws.FnExactNewConsole', WHERE WHAT IT READS IS OF BULK AT MOST 1048576: true; the input reads as it did. -/
def fnExactNewConsoleUptoRow : OpenClaim := { program := "ytlocjmbfcdfjfaa", sum := "d31aa1193cf7dd76522ccb31198e3b76f17e85ab591d1d6974768a74db681eab", func := "loop.example/g01159/laws.FnExactNewConsole", spec := "fnExactNewConsole", unfollowed := true, recurses := true, apart := false, narrowed := true }
def FnExactNewConsoleUptoSaid : Prop := fnExactNewConsoleUptoRow.holds Try.pinned (OpenSpec.upto fnExactNewConsoleSpec)

/-- 'laws.FnExactDoTask', WHERE WHAT IT READS IS OF BULK AT MOST 1048576: true; the input reads as it did. -/
def fnExactDoTaskUptoRow : OpenClaim := { program := "ytlocjmbfcdfjfaa", sum := "d31aa1193cf7dd76522ccb31198e3b76f17e85ab591d1d6974768a74db681eab", func := "loop.example/g01159/laws.FnExactDoTask", spec := "fnExactDoTask", unfollowed := true, recurses := true, apart := false, narrowed := true }
def FnExactDoTaskUptoSaid : Prop := fnExactDoTaskUptoRow.holds Try.pinned (OpenSpec.upto fnExactDoTaskSpec)

/-- 'laws.FnStands', WHERE WHAT IT READS IS OF BULK AT MOST 1048576: true; the input reads as it did. -/
def fnStandsUptoRow : OpenClaim := { program := "ytlocjmbfcdfjfaa", sum := "d31aa1193cf7dd76522ccb31198e3b76f17e85ab591d1d6974768a74db681eab", func := "loop.example/g01159/laws.FnStands", spec := "fnStands", unfollowed := true, recurses := true, apart := false, narrowed := true }
def FnStandsUptoSaid : Prop := fnStandsUptoRow.holds Try.pinned (OpenSpec.upto fnStandsSpec)

/-- 'laws.FnRowPulls', WHERE WHAT IT READS IS OF BULK AT MOST 1048576: true; the input reads as it did. -/
def fnRowPullsUptoRow : OpenClaim := { program := "ytlocjmbfcdfjfaa", sum := "d31aa1193cf7dd76522ccb31198e3b76f17e85ab591d1d6974768a74db681eab", func := "loop.example/g01159/laws.FnRowPulls", spec := "fnRowPulls", unfollowed := true, recurses := true, apart := false, narrowed := true }
def FnRowPullsUptoSaid : Prop := fnRowPullsUptoRow.holds Try.pinned (OpenSpec.upto fnRowPullsSpec)

/-- 'laws.FnExactDoTasks', WHERE WHAT IT READS IS OF BULK AT MOST 1048576: true; the input reads as it did. -/
def fnExactDoTasksUptoRow : OpenClaim := { program := "ytlocjmbfcdfjfaa", sum := "d31aa1193cf7dd76522ccb31198e3b76f17e85ab591d1d6974768a74db681eab", func := "loop.example/g01159/laws.FnExactDoTasks", spec := "fnExactDoTasks", unfollowed := true, recurses := true, apart := false, narrowed := true }
def FnExactDoTasksUptoSaid : Prop := fnExactDoTasksUptoRow.holds Try.pinned (OpenSpec.upto fnExactDoTasksSpec)

end Rows
end Go.Proofs.Ytlocjmbfcdfjfaa
