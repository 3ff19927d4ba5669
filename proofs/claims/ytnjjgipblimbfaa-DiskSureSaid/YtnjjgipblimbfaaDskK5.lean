/-
  Disks: the law DiskSure's call, in any world.
-/
import Derived.Test.YtnjjgipblimbfaaDskF27
import Derived.Test.YtnjjgipblimbfaaDskK4
set_option linter.unusedVariables false
set_option linter.unusedSimpArgs false
namespace Go.Proofs.Ytnjjgipblimbfaa.Dsk
open Go.Eng Go.RowKit
set_option maxRecDepth 100000
set_option linter.unusedVariables false
variable {W : World} {v0 v1 v2 v3 : Value}
theorem sure_at {n m q : Nat} {l : Nat → opsh.Den} {o : Nat → opsh.Den} {k : Nat → kpsh.Den} (wf0 : n ≤ 9223372036854775807 ∧ ∀ i, i < n → opsh.wf (l i)) (r0 : Rep W (fun b => b < W.heap.size) Vln.no (.ro opsh.size (.s n) (fun e => opsh.svs (l e.val))) v0)
    (wf1 : m ≤ 9223372036854775807 ∧ ∀ i, i < m → opsh.wf (o i)) (r1 : Rep W (fun b => b < W.heap.size) Vln.no (.ro opsh.size (.s m) (fun e => opsh.svs (o e.val))) v1)
    (wf2 : q ≤ 9223372036854775807 ∧ ∀ i, i < q → kpsh.wf (k i)) (r2 : Rep W (fun b => b < W.heap.size) Vln.no (.ro kpsh.size (.s q) (fun e => kpsh.svs (k e.val))) v2) :
    Calls Try.prog 8 #[v0, v1, v2] W fun e w' => e = .returned (.bool true) ∧ Below W.heap.size W w' :=
  FnTr.law (sure_law rfl (l := fun i => opOf (l i)) (mo := fun i => opOf (o i)) (ks := fun i => (k i).1) (kb := fun i => (k i).2.1) wf0.1 wf1.1 wf2.1 (opOf_ok wf0.2) (opOf_ok wf1.2)) (fun r H n h => .inr h.1) no_glob rfl (reps_cons r0 (reps_cons r1 (reps_cons r2 reps_nil)))
end Go.Proofs.Ytnjjgipblimbfaa.Dsk
