/-
  Disks: the law DiskImages' call, in any world.
-/
import Derived.Test.YtnjjgipblimbfaaDskF24
set_option linter.unusedVariables false
set_option linter.unusedSimpArgs false
namespace Go.Proofs.Ytnjjgipblimbfaa.Dsk
open Go.Eng Go.RowKit
set_option maxRecDepth 100000
set_option linter.unusedVariables false

abbrev bysh : Shs := .cons (.int .u8) .nil
abbrev kpsh : Shs := .cons (.int .i64) (.cons (.int .i64) .nil)
variable {W : World} {v0 v1 v2 v3 : Value}
theorem no_glob : ∀ p ∈ ([] : Gl), Rep W (fun b => b < W.heap.size) Vln.no p.2 (.pointer (some ⟨p.1, 0, none⟩)) := fun p hp => by cases hp
theorem images_at {n m : Nat} {f : Nat → bysh.Den} {k : Nat → kpsh.Den} (wf0 : n ≤ 9223372036854775807 ∧ ∀ i, i < n → bysh.wf (f i)) (r0 : Rep W (fun b => b < W.heap.size) Vln.no (.ro bysh.size (.s n) (fun e => bysh.svs (f e.val))) v0)
    (wf1 : m ≤ 9223372036854775807 ∧ ∀ i, i < m → kpsh.wf (k i)) (r1 : Rep W (fun b => b < W.heap.size) Vln.no (.ro kpsh.size (.s m) (fun e => kpsh.svs (k e.val))) v1) :
    Calls Try.prog 7 #[v0, v1] W fun e w' => e = .returned (.bool true) ∧ Below W.heap.size W w' :=
  FnTr.law (images_law rfl (f := fun i => (f i).1) (ks := fun i => (k i).1) (kb := fun i => (k i).2.1) wf0.1 wf1.1 (fun i hi => (wf0.2 i hi).1)) (fun r H n h => .inr h.1) no_glob rfl (reps_cons r0 (reps_cons r1 reps_nil))
end Go.Proofs.Ytnjjgipblimbfaa.Dsk
