/-
  Rings: the laws' calls, in any world.
-/
import Derived.Test.YtkaobalnjimniaaRngI2
set_option linter.unusedVariables false
set_option linter.unusedSimpArgs false
namespace Go.Proofs.Ytkaobalnjimniaa.Rng
open Go.Eng Go.RowKit
open Go.RngLaw (Sn sn)
set_option maxRecDepth 100000
set_option linter.unusedVariables false

abbrev ish : Shs := .cons (.int .i64) .nil
abbrev ssh : Shs := .cons (.int .i64) (.cons (.sl ish) (.cons (.int .i64) (.cons (.int .i64) (.cons .bool .nil))))
variable {W : World} {v0 v1 v2 v3 : Value}
theorem no_globals : ∀ p ∈ ([] : Gl), Rep W (fun b => b < W.heap.size) Vln.no p.2 (.pointer (some ⟨p.1, 0, none⟩)) := fun p hp => by cases hp
def snOf (d : ssh.Den) : Sn := ⟨d.1, d.2.1.1, fun j => (d.2.1.2 j).1, d.2.2.1, d.2.2.2.1, d.2.2.2.2.1⟩

theorem does_at {r at' id : Int} {n : Nat} {l : Nat → ssh.Den} (wf0 : intWf .i64 r) (r0 : Rep W (fun b => b < W.heap.size) Vln.no (.int .i64 r) v0)
    (wf1 : n ≤ 9223372036854775807 ∧ ∀ i, i < n → ssh.wf (l i)) (r1 : Rep W (fun b => b < W.heap.size) Vln.no (.ro ssh.size (.s n) (fun e => ssh.svs (l e.val))) v1)
    (wf2 : intWf .i64 at') (r2 : Rep W (fun b => b < W.heap.size) Vln.no (.int .i64 at') v2) (wf3 : intWf .i64 id) (r3 : Rep W (fun b => b < W.heap.size) Vln.no (.int .i64 id) v3) :
    Calls Try.prog 3 #[v0, v1, v2, v3] W fun e w' => e = .returned (.bool true) ∧ Below W.heap.size W w' :=
  FnTr.law (does_law rfl (l := fun i => snOf (l i)) wf1.1) (fun r H n h => .inr h.1) no_globals rfl (reps_cons r0 (reps_cons r1 (reps_cons r2 (reps_cons r3 reps_nil))))
theorem last_at {r : Int} {n : Nat} {l : Nat → ssh.Den} (wf0 : intWf .u8 r) (r0 : Rep W (fun b => b < W.heap.size) Vln.no (.int .u8 r) v0)
    (wf1 : n ≤ 9223372036854775807 ∧ ∀ i, i < n → ssh.wf (l i)) (r1 : Rep W (fun b => b < W.heap.size) Vln.no (.ro ssh.size (.s n) (fun e => ssh.svs (l e.val))) v1) :
    Calls Try.prog 4 #[v0, v1] W fun e w' => e = .returned (.bool true) ∧ Below W.heap.size W w' :=
  FnTr.law (last_law rfl (l := fun i => snOf (l i)) ⟨wf0.1, wf0.2⟩ wf1.1) (fun r H n h => .inr h.1) no_globals rfl (reps_cons r0 (reps_cons r1 reps_nil))
end Go.Proofs.Ytkaobalnjimniaa.Rng
