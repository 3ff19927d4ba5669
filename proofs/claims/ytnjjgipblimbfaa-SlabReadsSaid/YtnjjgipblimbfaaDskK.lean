/-
  Records on sectors: the laws' calls, in any world.
-/
import Derived.Test.YtnjjgipblimbfaaDskF14
set_option linter.unusedVariables false
set_option linter.unusedSimpArgs false
namespace Go.Proofs.Ytnjjgipblimbfaa.Dsk
open Go.Eng Go.RowKit
set_option maxRecDepth 100000
set_option linter.unusedVariables false

abbrev bsh : Shs := .cons (.int .u8) .nil
abbrev bbsh : Shs := .cons (.sl bsh) .nil
abbrev ksh : Shs := .cons (.int .i64) (.cons (.int .i64) .nil)
variable {W : World} {v0 v1 v2 v3 : Value}
theorem no_globals : ∀ p ∈ ([] : Gl), Rep W (fun b => b < W.heap.size) Vln.no p.2 (.pointer (some ⟨p.1, 0, none⟩)) := fun p hp => by cases hp
def recOf (d : bbsh.Den) : Nat × (Nat → Int) := (d.1.1, fun j => (d.1.2 j).1)

theorem back_at {n : Nat} {l : Nat → bbsh.Den} (wf0 : n ≤ 9223372036854775807 ∧ ∀ i, i < n → bbsh.wf (l i)) (r0 : Rep W (fun b => b < W.heap.size) Vln.no (.ro bbsh.size (.s n) (fun e => bbsh.svs (l e.val))) v0) :
    Calls Try.prog 3 #[v0] W fun e w' => e = .returned (.bool true) ∧ Below W.heap.size W w' :=
  FnTr.law (back_law rfl (l := fun i => recOf (l i)) wf0.1 (fun i hi => (wf0.2 i hi).1.1) (fun i hi x hx => ((wf0.2 i hi).1.2 x hx).1)) (fun r H n h => .inr h.1) no_globals rfl (reps_cons r0 reps_nil)
theorem crash_at {n m : Nat} {l : Nat → bbsh.Den} {k : Nat → ksh.Den} {e c : Int} (wf0 : n ≤ 9223372036854775807 ∧ ∀ i, i < n → bbsh.wf (l i)) (r0 : Rep W (fun b => b < W.heap.size) Vln.no (.ro bbsh.size (.s n) (fun e => bbsh.svs (l e.val))) v0)
    (wf1 : intWf .u8 e) (r1 : Rep W (fun b => b < W.heap.size) Vln.no (.int .u8 e) v1) (wf2 : intWf .u8 c) (r2 : Rep W (fun b => b < W.heap.size) Vln.no (.int .u8 c) v2)
    (wf3 : m ≤ 9223372036854775807 ∧ ∀ i, i < m → ksh.wf (k i)) (r3 : Rep W (fun b => b < W.heap.size) Vln.no (.ro ksh.size (.s m) (fun e => ksh.svs (k e.val))) v3) :
    Calls Try.prog 4 #[v0, v1, v2, v3] W fun e w' => e = .returned (.bool true) ∧ Below W.heap.size W w' :=
  FnTr.law (crash_law rfl (l := fun i => recOf (l i)) (ks := fun i => (k i).1) (kb := fun i => (k i).2.1) wf0.1 wf3.1 (fun i hi => (wf0.2 i hi).1.1) (fun i hi x hx => ((wf0.2 i hi).1.2 x hx).1) wf1 wf2) (fun r H n h => .inr h.1) no_globals rfl (reps_cons r0 (reps_cons r1 (reps_cons r2 (reps_cons r3 reps_nil))))
end Go.Proofs.Ytnjjgipblimbfaa.Dsk
