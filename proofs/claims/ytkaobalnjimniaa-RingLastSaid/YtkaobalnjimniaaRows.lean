/-
  No cell of these rows narrows 'for every input' (looked for: loops, veiled, ifaces, maps, wideKeys, modest, calm, conditions, laid).
  DERIVED. THE GIVEN ROWS OF THIS SEAT. 11 by the template 'for every input the law returns true; each argument reads behind the call as it read before'; 0 by the template 'total and deterministic' (their statements: YtkaobalnjimniaaTotals.lean).
  GIVEN WITH THE SEED: the statements are not yours to turn. If you find one false, say at which input.
  Laid BY PROGRAM, IN A SANDBOX (cutbox-rows.mjs): the forced cells as the released guide's own fill.sh prints them over the translation 4dbc928c393fd879… (all of the seat's roots in one cut). By AI agents, Wed Nov 11 2026. No macro, syntax, notation, axiom, sorry.
-/
import Derived.Test.YtkaobalnjimniaaChecked
import GoSem.Claim
import GoSem.ClaimJoined
import GoSem.ClaimMapViews
import Derived.JoinedTies
import Derived.KernelRfl
namespace Go.Proofs.Ytkaobalnjimniaa
/- THE CELL 'sum', in the pinned program and in every row, IS THE sha256 OF THE DUMP (.gsa) THAT YtkaobalnjimniaaProg.lean LOADS. Nothing in Lean hashes anything: it is a label: what it is worth is what the hold of that sum in a sandbox is worth. -/
noncomputable def Try.pinned : Pinned := { name := "ytkaobalnjimniaa", sum := "4dbc928c393fd879814800d1c2ef1cd68f06f3c43f6e0adb4300a3083247e371", checked := Try.checked }
namespace Rows
def none {H : Type} : Left H := { results := [], args := [] }

/-- 'copselaw17.RingDoes': WHATEVER THE INPUT: true; the input reads as it did. -/
def ringDoesSpec : ChangeSpec := { name := "ringDoes", fn := fun _ => fun
  | [d1, d2, d3, d4] => { results := [.lit (.bool true)], args := [d1, d2, d3, d4] }
  | _ => none }
def ringDoesRow : OpenClaim := { program := "ytkaobalnjimniaa", sum := "4dbc928c393fd879814800d1c2ef1cd68f06f3c43f6e0adb4300a3083247e371", func := "copse/copselaw17.RingDoes", spec := "ringDoes", apart := false }
def RingDoesSaid : Prop := ringDoesRow.holds Try.pinned (OpenSpec.ofChange ringDoesSpec)

/-- ITS FALSE NEIGHBOUR: 'it returns false'. Refute it at one input. -/
def ringDoesWrong : ChangeSpec := { name := "ringDoes", fn := fun _ => fun
  | [d1, d2, d3, d4] => { results := [.lit (.bool false)], args := [d1, d2, d3, d4] }
  | _ => none }
def RingDoesWrongFalsely : Prop := ringDoesRow.holds Try.pinned (OpenSpec.ofChange ringDoesWrong)

/-- 'copselaw17.RingLast': WHATEVER THE INPUT: true; the input reads as it did. -/
def ringLastSpec : ChangeSpec := { name := "ringLast", fn := fun _ => fun
  | [d1, d2] => { results := [.lit (.bool true)], args := [d1, d2] }
  | _ => none }
def ringLastRow : OpenClaim := { program := "ytkaobalnjimniaa", sum := "4dbc928c393fd879814800d1c2ef1cd68f06f3c43f6e0adb4300a3083247e371", func := "copse/copselaw17.RingLast", spec := "ringLast", apart := false }
def RingLastSaid : Prop := ringLastRow.holds Try.pinned (OpenSpec.ofChange ringLastSpec)

/-- ITS FALSE NEIGHBOUR: 'it returns false'. Refute it at one input. -/
def ringLastWrong : ChangeSpec := { name := "ringLast", fn := fun _ => fun
  | [d1, d2] => { results := [.lit (.bool false)], args := [d1, d2] }
  | _ => none }
def RingLastWrongFalsely : Prop := ringLastRow.holds Try.pinned (OpenSpec.ofChange ringLastWrong)

/-- 'copselaw20.SchedRights': WHATEVER THE INPUT: true; the input reads as it did. -/
def schedRightsSpec : ChangeSpec := { name := "schedRights", fn := fun _ => fun
  | [d1, d2, d3] => { results := [.lit (.bool true)], args := [d1, d2, d3] }
  | _ => none }
def schedRightsRow : OpenClaim := { program := "ytkaobalnjimniaa", sum := "4dbc928c393fd879814800d1c2ef1cd68f06f3c43f6e0adb4300a3083247e371", func := "copse/copselaw20.SchedRights", spec := "schedRights", apart := false }
def SchedRightsSaid : Prop := schedRightsRow.holds Try.pinned (OpenSpec.ofChange schedRightsSpec)

/-- ITS FALSE NEIGHBOUR: 'it returns false'. Refute it at one input. -/
def schedRightsWrong : ChangeSpec := { name := "schedRights", fn := fun _ => fun
  | [d1, d2, d3] => { results := [.lit (.bool false)], args := [d1, d2, d3] }
  | _ => none }
def SchedRightsWrongFalsely : Prop := schedRightsRow.holds Try.pinned (OpenSpec.ofChange schedRightsWrong)

/-- 'copselaw20.SchedNexts': WHATEVER THE INPUT: true; the input reads as it did. -/
def schedNextsSpec : ChangeSpec := { name := "schedNexts", fn := fun _ => fun
  | [d1, d2, d3] => { results := [.lit (.bool true)], args := [d1, d2, d3] }
  | _ => none }
def schedNextsRow : OpenClaim := { program := "ytkaobalnjimniaa", sum := "4dbc928c393fd879814800d1c2ef1cd68f06f3c43f6e0adb4300a3083247e371", func := "copse/copselaw20.SchedNexts", spec := "schedNexts", apart := false }
def SchedNextsSaid : Prop := schedNextsRow.holds Try.pinned (OpenSpec.ofChange schedNextsSpec)

/-- ITS FALSE NEIGHBOUR: 'it returns false'. Refute it at one input. -/
def schedNextsWrong : ChangeSpec := { name := "schedNexts", fn := fun _ => fun
  | [d1, d2, d3] => { results := [.lit (.bool false)], args := [d1, d2, d3] }
  | _ => none }
def SchedNextsWrongFalsely : Prop := schedNextsRow.holds Try.pinned (OpenSpec.ofChange schedNextsWrong)

/-- 'copselaw20.SchedPlans': WHATEVER THE INPUT: true; the input reads as it did. -/
def schedPlansSpec : ChangeSpec := { name := "schedPlans", fn := fun _ => fun
  | [d1, d2, d3, d4] => { results := [.lit (.bool true)], args := [d1, d2, d3, d4] }
  | _ => none }
def schedPlansRow : OpenClaim := { program := "ytkaobalnjimniaa", sum := "4dbc928c393fd879814800d1c2ef1cd68f06f3c43f6e0adb4300a3083247e371", func := "copse/copselaw20.SchedPlans", spec := "schedPlans", apart := false }
def SchedPlansSaid : Prop := schedPlansRow.holds Try.pinned (OpenSpec.ofChange schedPlansSpec)

/-- ITS FALSE NEIGHBOUR: 'it returns false'. Refute it at one input. -/
def schedPlansWrong : ChangeSpec := { name := "schedPlans", fn := fun _ => fun
  | [d1, d2, d3, d4] => { results := [.lit (.bool false)], args := [d1, d2, d3, d4] }
  | _ => none }
def SchedPlansWrongFalsely : Prop := schedPlansRow.holds Try.pinned (OpenSpec.ofChange schedPlansWrong)

/-- 'copselaw20.SchedRounds': WHATEVER THE INPUT: true; the input reads as it did. -/
def schedRoundsSpec : ChangeSpec := { name := "schedRounds", fn := fun _ => fun
  | [d1, d2] => { results := [.lit (.bool true)], args := [d1, d2] }
  | _ => none }
def schedRoundsRow : OpenClaim := { program := "ytkaobalnjimniaa", sum := "4dbc928c393fd879814800d1c2ef1cd68f06f3c43f6e0adb4300a3083247e371", func := "copse/copselaw20.SchedRounds", spec := "schedRounds", apart := false }
def SchedRoundsSaid : Prop := schedRoundsRow.holds Try.pinned (OpenSpec.ofChange schedRoundsSpec)

/-- ITS FALSE NEIGHBOUR: 'it returns false'. Refute it at one input. -/
def schedRoundsWrong : ChangeSpec := { name := "schedRounds", fn := fun _ => fun
  | [d1, d2] => { results := [.lit (.bool false)], args := [d1, d2] }
  | _ => none }
def SchedRoundsWrongFalsely : Prop := schedRoundsRow.holds Try.pinned (OpenSpec.ofChange schedRoundsWrong)

/-- 'copselaw08.VecDots': WHATEVER THE INPUT: true; the input reads as it did. -/
def vecDotsSpec : ChangeSpec := { name := "vecDots", fn := fun _ => fun
  | [d1, d2, d3] => { results := [.lit (.bool true)], args := [d1, d2, d3] }
  | _ => none }
def vecDotsRow : OpenClaim := { program := "ytkaobalnjimniaa", sum := "4dbc928c393fd879814800d1c2ef1cd68f06f3c43f6e0adb4300a3083247e371", func := "copse/copselaw08.VecDots", spec := "vecDots", apart := false }
def VecDotsSaid : Prop := vecDotsRow.holds Try.pinned (OpenSpec.ofChange vecDotsSpec)

/-- ITS FALSE NEIGHBOUR: 'it returns false'. Refute it at one input. -/
def vecDotsWrong : ChangeSpec := { name := "vecDots", fn := fun _ => fun
  | [d1, d2, d3] => { results := [.lit (.bool false)], args := [d1, d2, d3] }
  | _ => none }
def VecDotsWrongFalsely : Prop := vecDotsRow.holds Try.pinned (OpenSpec.ofChange vecDotsWrong)

/-- 'copselaw08.VecBoxes': WHATEVER THE INPUT: true; the input reads as it did. -/
def vecBoxesSpec : ChangeSpec := { name := "vecBoxes", fn := fun _ => fun
  | [d1, d2, d3] => { results := [.lit (.bool true)], args := [d1, d2, d3] }
  | _ => none }
def vecBoxesRow : OpenClaim := { program := "ytkaobalnjimniaa", sum := "4dbc928c393fd879814800d1c2ef1cd68f06f3c43f6e0adb4300a3083247e371", func := "copse/copselaw08.VecBoxes", spec := "vecBoxes", apart := false }
def VecBoxesSaid : Prop := vecBoxesRow.holds Try.pinned (OpenSpec.ofChange vecBoxesSpec)

/-- ITS FALSE NEIGHBOUR: 'it returns false'. Refute it at one input. -/
def vecBoxesWrong : ChangeSpec := { name := "vecBoxes", fn := fun _ => fun
  | [d1, d2, d3] => { results := [.lit (.bool false)], args := [d1, d2, d3] }
  | _ => none }
def VecBoxesWrongFalsely : Prop := vecBoxesRow.holds Try.pinned (OpenSpec.ofChange vecBoxesWrong)

/-- 'copselaw08.VecReach': WHATEVER THE INPUT: true; the input reads as it did. -/
def vecReachSpec : ChangeSpec := { name := "vecReach", fn := fun _ => fun
  | [d1, d2] => { results := [.lit (.bool true)], args := [d1, d2] }
  | _ => none }
def vecReachRow : OpenClaim := { program := "ytkaobalnjimniaa", sum := "4dbc928c393fd879814800d1c2ef1cd68f06f3c43f6e0adb4300a3083247e371", func := "copse/copselaw08.VecReach", spec := "vecReach", apart := false }
def VecReachSaid : Prop := vecReachRow.holds Try.pinned (OpenSpec.ofChange vecReachSpec)

/-- ITS FALSE NEIGHBOUR: 'it returns false'. Refute it at one input. -/
def vecReachWrong : ChangeSpec := { name := "vecReach", fn := fun _ => fun
  | [d1, d2] => { results := [.lit (.bool false)], args := [d1, d2] }
  | _ => none }
def VecReachWrongFalsely : Prop := vecReachRow.holds Try.pinned (OpenSpec.ofChange vecReachWrong)

/-- 'copselaw08.VecOrders': WHATEVER THE INPUT: true; the input reads as it did. -/
def vecOrdersSpec : ChangeSpec := { name := "vecOrders", fn := fun _ => fun
  | [d1, d2, d3] => { results := [.lit (.bool true)], args := [d1, d2, d3] }
  | _ => none }
def vecOrdersRow : OpenClaim := { program := "ytkaobalnjimniaa", sum := "4dbc928c393fd879814800d1c2ef1cd68f06f3c43f6e0adb4300a3083247e371", func := "copse/copselaw08.VecOrders", spec := "vecOrders", apart := false }
def VecOrdersSaid : Prop := vecOrdersRow.holds Try.pinned (OpenSpec.ofChange vecOrdersSpec)

/-- ITS FALSE NEIGHBOUR: 'it returns false'. Refute it at one input. -/
def vecOrdersWrong : ChangeSpec := { name := "vecOrders", fn := fun _ => fun
  | [d1, d2, d3] => { results := [.lit (.bool false)], args := [d1, d2, d3] }
  | _ => none }
def VecOrdersWrongFalsely : Prop := vecOrdersRow.holds Try.pinned (OpenSpec.ofChange vecOrdersWrong)

/-- 'copselaw08.VecGaps': WHATEVER THE INPUT: true; the input reads as it did. -/
def vecGapsSpec : ChangeSpec := { name := "vecGaps", fn := fun _ => fun
  | [d1, d2, d3, d4] => { results := [.lit (.bool true)], args := [d1, d2, d3, d4] }
  | _ => none }
def vecGapsRow : OpenClaim := { program := "ytkaobalnjimniaa", sum := "4dbc928c393fd879814800d1c2ef1cd68f06f3c43f6e0adb4300a3083247e371", func := "copse/copselaw08.VecGaps", spec := "vecGaps", apart := false }
def VecGapsSaid : Prop := vecGapsRow.holds Try.pinned (OpenSpec.ofChange vecGapsSpec)

/-- ITS FALSE NEIGHBOUR: 'it returns false'. Refute it at one input. -/
def vecGapsWrong : ChangeSpec := { name := "vecGaps", fn := fun _ => fun
  | [d1, d2, d3, d4] => { results := [.lit (.bool false)], args := [d1, d2, d3, d4] }
  | _ => none }
def VecGapsWrongFalsely : Prop := vecGapsRow.holds Try.pinned (OpenSpec.ofChange vecGapsWrong)

/- THE SECOND FORM. 'bulk': how many values and letters a reading holds, each counted each time it is reached (what is shared counts as often as it is met; a slice's spare places count too). A statement '..UptoSaid' is the law's where the arguments, and the package variables that the reading takes, are together of bulk at most 1048576: NARROWER than '..Said'. Prove '..Said' where nothing that the law and all that it calls make is longer than what came in: it says more and counts as full. Else prove '..UptoSaid'. A law counts once. -/
mutual
def uptoBulk {H : Type} : DataW H → Nat
  | .lit (.string bytes) => bytes.length + 1
  | .lit _ => 1
  | .nil => 1
  | .ptr d => uptoBulk d + 1
  | .slice elems spare => uptoBulkAll elems + uptoBulkAll spare + 1
  | .agg parts => uptoBulkAll parts + 1
  | .iface _ d => uptoBulk d + 1
  | .map entries => uptoBulkEntries entries + 1
  | .held _ => 1
def uptoBulkAll {H : Type} : List (DataW H) → Nat
  | [] => 0
  | d :: r => uptoBulk d + uptoBulkAll r
def uptoBulkEntries {H : Type} : List (Lit × DataW H) → Nat
  | [] => 0
  | x :: r => uptoBulkEntry x + uptoBulkEntries r
def uptoBulkEntry {H : Type} : Lit × DataW H → Nat
  | (.string bytes, d) => bytes.length + uptoBulk d + 1
  | (_, d) => uptoBulk d + 1
 end
def uptoSmall : (H : Type) → List (DataW H) → Bool := fun _ ds => decide (uptoBulkAll ds ≤ 1048576)
def OpenSpec.upto (s : _root_.Go.ChangeSpec) : _root_.Go.OpenSpec := { _root_.Go.OpenSpec.ofChange s with cond := some uptoSmall }

/-- 'copselaw17.RingDoes', WHERE WHAT IT READS IS OF BULK AT MOST 1048576: true; the input reads as it did. -/
def ringDoesUptoRow : OpenClaim := { program := "ytkaobalnjimniaa", sum := "4dbc928c393fd879814800d1c2ef1cd68f06f3c43f6e0adb4300a3083247e371", func := "copse/copselaw17.RingDoes", spec := "ringDoes", apart := false, narrowed := true }
def RingDoesUptoSaid : Prop := ringDoesUptoRow.holds Try.pinned (OpenSpec.upto ringDoesSpec)

/-- 'copselaw17.RingLast', WHERE WHAT IT READS IS OF BULK AT MOST 1048576: true; the input reads as it did. -/
def ringLastUptoRow : OpenClaim := { program := "ytkaobalnjimniaa", sum := "4dbc928c393fd879814800d1c2ef1cd68f06f3c43f6e0adb4300a3083247e371", func := "copse/copselaw17.RingLast", spec := "ringLast", apart := false, narrowed := true }
def RingLastUptoSaid : Prop := ringLastUptoRow.holds Try.pinned (OpenSpec.upto ringLastSpec)

/-- 'copselaw20.SchedRights', WHERE WHAT IT READS IS OF BULK AT MOST 1048576: true; the input reads as it did. -/
def schedRightsUptoRow : OpenClaim := { program := "ytkaobalnjimniaa", sum := "4dbc928c393fd879814800d1c2ef1cd68f06f3c43f6e0adb4300a3083247e371", func := "copse/copselaw20.SchedRights", spec := "schedRights", apart := false, narrowed := true }
def SchedRightsUptoSaid : Prop := schedRightsUptoRow.holds Try.pinned (OpenSpec.upto schedRightsSpec)

/-- 'copselaw20.SchedNexts', WHERE WHAT IT READS IS OF BULK AT MOST 1048576: true; the input reads as it did. -/
def schedNextsUptoRow : OpenClaim := { program := "ytkaobalnjimniaa", sum := "4dbc928c393fd879814800d1c2ef1cd68f06f3c43f6e0adb4300a3083247e371", func := "copse/copselaw20.SchedNexts", spec := "schedNexts", apart := false, narrowed := true }
def SchedNextsUptoSaid : Prop := schedNextsUptoRow.holds Try.pinned (OpenSpec.upto schedNextsSpec)

/-- 'copselaw20.SchedPlans', WHERE WHAT IT READS IS OF BULK AT MOST 1048576: true; the input reads as it did. -/
def schedPlansUptoRow : OpenClaim := { program := "ytkaobalnjimniaa", sum := "4dbc928c393fd879814800d1c2ef1cd68f06f3c43f6e0adb4300a3083247e371", func := "copse/copselaw20.SchedPlans", spec := "schedPlans", apart := false, narrowed := true }
def SchedPlansUptoSaid : Prop := schedPlansUptoRow.holds Try.pinned (OpenSpec.upto schedPlansSpec)

/-- 'copselaw20.SchedRounds', WHERE WHAT IT READS IS OF BULK AT MOST 1048576: true; the input reads as it did. -/
def schedRoundsUptoRow : OpenClaim := { program := "ytkaobalnjimniaa", sum := "4dbc928c393fd879814800d1c2ef1cd68f06f3c43f6e0adb4300a3083247e371", func := "copse/copselaw20.SchedRounds", spec := "schedRounds", apart := false, narrowed := true }
def SchedRoundsUptoSaid : Prop := schedRoundsUptoRow.holds Try.pinned (OpenSpec.upto schedRoundsSpec)

/-- 'copselaw08.VecDots', WHERE WHAT IT READS IS OF BULK AT MOST 1048576: true; the input reads as it did. -/
def vecDotsUptoRow : OpenClaim := { program := "ytkaobalnjimniaa", sum := "4dbc928c393fd879814800d1c2ef1cd68f06f3c43f6e0adb4300a3083247e371", func := "copse/copselaw08.VecDots", spec := "vecDots", apart := false, narrowed := true }
def VecDotsUptoSaid : Prop := vecDotsUptoRow.holds Try.pinned (OpenSpec.upto vecDotsSpec)

/-- 'copselaw08.VecBoxes', WHERE WHAT IT READS IS OF BULK AT MOST 1048576: true; the input reads as it did. -/
def vecBoxesUptoRow : OpenClaim := { program := "ytkaobalnjimniaa", sum := "4dbc928c393fd879814800d1c2ef1cd68f06f3c43f6e0adb4300a3083247e371", func := "copse/copselaw08.VecBoxes", spec := "vecBoxes", apart := false, narrowed := true }
def VecBoxesUptoSaid : Prop := vecBoxesUptoRow.holds Try.pinned (OpenSpec.upto vecBoxesSpec)

/-- 'copselaw08.VecReach', WHERE WHAT IT READS IS OF BULK AT MOST 1048576: true; the input reads as it did. -/
def vecReachUptoRow : OpenClaim := { program := "ytkaobalnjimniaa", sum := "4dbc928c393fd879814800d1c2ef1cd68f06f3c43f6e0adb4300a3083247e371", func := "copse/copselaw08.VecReach", spec := "vecReach", apart := false, narrowed := true }
def VecReachUptoSaid : Prop := vecReachUptoRow.holds Try.pinned (OpenSpec.upto vecReachSpec)

/-- 'copselaw08.VecOrders', WHERE WHAT IT READS IS OF BULK AT MOST 1048576: true; the input reads as it did. -/
def vecOrdersUptoRow : OpenClaim := { program := "ytkaobalnjimniaa", sum := "4dbc928c393fd879814800d1c2ef1cd68f06f3c43f6e0adb4300a3083247e371", func := "copse/copselaw08.VecOrders", spec := "vecOrders", apart := false, narrowed := true }
def VecOrdersUptoSaid : Prop := vecOrdersUptoRow.holds Try.pinned (OpenSpec.upto vecOrdersSpec)

/-- 'copselaw08.VecGaps', WHERE WHAT IT READS IS OF BULK AT MOST 1048576: true; the input reads as it did. -/
def vecGapsUptoRow : OpenClaim := { program := "ytkaobalnjimniaa", sum := "4dbc928c393fd879814800d1c2ef1cd68f06f3c43f6e0adb4300a3083247e371", func := "copse/copselaw08.VecGaps", spec := "vecGaps", apart := false, narrowed := true }
def VecGapsUptoSaid : Prop := vecGapsUptoRow.holds Try.pinned (OpenSpec.upto vecGapsSpec)

end Rows
end Go.Proofs.Ytkaobalnjimniaa
