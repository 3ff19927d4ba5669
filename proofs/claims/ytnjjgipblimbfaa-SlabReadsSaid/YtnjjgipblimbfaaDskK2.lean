/-
  Records on sectors: the law SlabReads' call, in any world.
-/
import Derived.Test.YtnjjgipblimbfaaDskF17
import Derived.Test.YtnjjgipblimbfaaDskK
set_option linter.unusedVariables false
set_option linter.unusedSimpArgs false
namespace Go.Proofs.Ytnjjgipblimbfaa.Dsk
open Go.Eng Go.RowKit
set_option maxRecDepth 100000
set_option linter.unusedVariables false
variable {W : World} {v0 v1 v2 v3 : Value}
theorem reads_at {n : Nat} {f : Nat → bsh.Den} {a b : Int} (wf0 : n ≤ 9223372036854775807 ∧ ∀ i, i < n → bsh.wf (f i)) (r0 : Rep W (fun b => b < W.heap.size) Vln.no (.ro bsh.size (.s n) (fun e => bsh.svs (f e.val))) v0)
    (wf1 : intWf .i64 a) (r1 : Rep W (fun b => b < W.heap.size) Vln.no (.int .i64 a) v1) (wf2 : intWf .i64 b) (r2 : Rep W (fun b => b < W.heap.size) Vln.no (.int .i64 b) v2) :
    Calls Try.prog 5 #[v0, v1, v2] W fun e w' => e = .returned (.bool true) ∧ Below W.heap.size W w' :=
  FnTr.law (reads_law rfl (f := fun i => (f i).1) wf0.1 (fun i hi => (wf0.2 i hi).1)) (fun r H n h => .inr h.1) no_globals rfl (reps_cons r0 (reps_cons r1 (reps_cons r2 reps_nil)))
end Go.Proofs.Ytnjjgipblimbfaa.Dsk
