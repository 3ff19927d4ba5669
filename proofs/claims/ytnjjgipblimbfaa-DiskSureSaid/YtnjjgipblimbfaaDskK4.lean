/-
  Disks: the law DiskDoes' call, in any world.
-/
import Derived.Test.YtnjjgipblimbfaaDskF26
import Derived.Test.YtnjjgipblimbfaaDskK3
set_option linter.unusedVariables false
set_option linter.unusedSimpArgs false
namespace Go.Proofs.Ytnjjgipblimbfaa.Dsk
open Go.Eng Go.RowKit
set_option maxRecDepth 100000
set_option linter.unusedVariables false

abbrev opsh : Shs := .cons (.int .i64) (.cons (.int .i64) (.cons (.sl bysh) (.cons (.sl kpsh) .nil)))
variable {W : World} {v0 v1 v2 v3 : Value}
def opOf (d : opsh.Den) : OpD := ⟨d.1, d.2.1, d.2.2.1.1, fun x => (d.2.2.1.2 x).1, d.2.2.2.1.1, fun x => (d.2.2.2.1.2 x).1, fun x => (d.2.2.2.1.2 x).2.1⟩
theorem opOf_ok {n : Nat} {l : Nat → opsh.Den} (h : ∀ i, i < n → opsh.wf (l i)) (i : Nat) (hi : i < n) : ((opOf (l i)).bn ≤ 9223372036854775807 ∧ (opOf (l i)).kn ≤ 9223372036854775807) ∧ (opOf (l i)).a ≤ 9223372036854775807 ∧ ∀ x, x < (opOf (l i)).bn → 0 ≤ (opOf (l i)).b x ∧ (opOf (l i)).b x ≤ 255 :=
  have q := h i hi
  ⟨⟨q.2.2.1.1, q.2.2.2.1.1⟩, q.2.1.2, fun x hx => (q.2.2.1.2 x hx).1⟩
theorem does_at {n : Nat} {c : Int} {l : Nat → opsh.Den} (wf0 : intWf .i64 c) (r0 : Rep W (fun b => b < W.heap.size) Vln.no (.int .i64 c) v0)
    (wf1 : n ≤ 9223372036854775807 ∧ ∀ i, i < n → opsh.wf (l i)) (r1 : Rep W (fun b => b < W.heap.size) Vln.no (.ro opsh.size (.s n) (fun e => opsh.svs (l e.val))) v1) :
    Calls Try.prog 6 #[v0, v1] W fun e w' => e = .returned (.bool true) ∧ Below W.heap.size W w' :=
  FnTr.law (does_law rfl (sc := c) (l := fun i => opOf (l i)) wf1.1 (opOf_ok wf1.2)) (fun r H n h => .inr h.1) no_glob rfl (reps_cons r0 (reps_cons r1 reps_nil))
end Go.Proofs.Ytnjjgipblimbfaa.Dsk
