/-
  Schedules: the call of the law of rounds, in any world.
-/
import Derived.Test.YtkaobalnjimniaaSchL
import Derived.Test.YtkaobalnjimniaaSchH1
set_option linter.unusedVariables false
set_option linter.unusedSimpArgs false
namespace Go.Proofs.Ytkaobalnjimniaa
open Go.Eng Go.RowKit
set_option maxRecDepth 100000
set_option linter.unusedVariables false
variable {W : World} {v0 v1 v2 v3 : Value}
theorem rounds_at {a : csh.Den} {c : Int} (wf0 : csh.wf a) (r0 : Rep W (fun b => b < W.heap.size) Vln.no (.agg (csh.svs a)) v0) (wf1 : intWf .i64 c) (r1 : Rep W (fun b => b < W.heap.size) Vln.no (.int .i64 c) v1) :
    Calls Try.prog 8 #[v0, v1] W fun e w' => e = .returned (.bool true) ∧ Below W.heap.size W w' :=
  FnTr.law (rounds_law rfl wf0.2.2.2.2.2.2.2.1) (fun r H n h => .inr h.1) no_globals rfl (reps_cons r0 (reps_cons r1 reps_nil))
end Go.Proofs.Ytkaobalnjimniaa
