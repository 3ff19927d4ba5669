/-
  Schedules: the laws' calls, in any world.
-/
import Derived.Test.YtkaobalnjimniaaSchG6
set_option linter.unusedVariables false
set_option linter.unusedSimpArgs false
namespace Go.Proofs.Ytkaobalnjimniaa
open Go.Eng Go.RowKit
set_option maxRecDepth 100000
set_option linter.unusedVariables false

abbrev csh : Shs := .cons (.int .i64) (.cons (.int .i64) (.cons (.int .i64) (.cons (.int .i64) (.cons (.int .i64) (.cons (.int .i64) (.cons (.int .i64) (.cons (.int .i64) (.cons (.int .i64) (.cons (.int .i64) (.cons (.int .i64) .nil))))))))))
abbrev ish : Shs := .cons (.int .i64) .nil
variable {W : World} {v0 v1 v2 v3 : Value}
theorem no_globals : ∀ p ∈ ([] : Gl), Rep W (fun b => b < W.heap.size) Vln.no p.2 (.pointer (some ⟨p.1, 0, none⟩)) := fun p hp => by cases hp

theorem rights_at {a : csh.Den} {c : Int} {n : Nat} {f : Nat → ish.Den} (wf0 : csh.wf a) (r0 : Rep W (fun b => b < W.heap.size) Vln.no (.agg (csh.svs a)) v0) (wf1 : intWf .i64 c) (r1 : Rep W (fun b => b < W.heap.size) Vln.no (.int .i64 c) v1)
    (wf2 : n ≤ 9223372036854775807 ∧ ∀ i, i < n → ish.wf (f i)) (r2 : Rep W (fun b => b < W.heap.size) Vln.no (.ro ish.size (.s n) (fun e => ish.svs (f e.val))) v2) :
    Calls Try.prog 5 #[v0, v1, v2] W fun e w' => e = .returned (.bool true) ∧ Below W.heap.size W w' :=
  FnTr.law (rights_law rfl (f := fun i => (f i).1) wf2.1 wf0.2.2.2.2.2.2.2.1) (fun r H n h => .inr h.1) no_globals rfl (reps_cons r0 (reps_cons r1 (reps_cons r2 reps_nil)))
theorem nexts_at {a : csh.Den} {c to : Int} (wf0 : csh.wf a) (r0 : Rep W (fun b => b < W.heap.size) Vln.no (.agg (csh.svs a)) v0) (wf1 : intWf .i64 c) (r1 : Rep W (fun b => b < W.heap.size) Vln.no (.int .i64 c) v1)
    (wf2 : intWf .i64 to) (r2 : Rep W (fun b => b < W.heap.size) Vln.no (.int .i64 to) v2) :
    Calls Try.prog 6 #[v0, v1, v2] W fun e w' => e = .returned (.bool true) ∧ Below W.heap.size W w' :=
  FnTr.law (nexts_law rfl wf0.2.2.2.2.2.2.2.1) (fun r H n h => .inr h.1) no_globals rfl (reps_cons r0 (reps_cons r1 (reps_cons r2 reps_nil)))
theorem plans_at {a : csh.Den} {c q : Int} {n : Nat} {f : Nat → ish.Den} (wf0 : csh.wf a) (r0 : Rep W (fun b => b < W.heap.size) Vln.no (.agg (csh.svs a)) v0) (wf1 : intWf .i64 c) (r1 : Rep W (fun b => b < W.heap.size) Vln.no (.int .i64 c) v1)
    (wf2 : n ≤ 9223372036854775807 ∧ ∀ i, i < n → ish.wf (f i)) (r2 : Rep W (fun b => b < W.heap.size) Vln.no (.ro ish.size (.s n) (fun e => ish.svs (f e.val))) v2) (wf3 : intWf .i64 q) (r3 : Rep W (fun b => b < W.heap.size) Vln.no (.int .i64 q) v3) :
    Calls Try.prog 7 #[v0, v1, v2, v3] W fun e w' => e = .returned (.bool true) ∧ Below W.heap.size W w' :=
  FnTr.law (plans_law rfl (f := fun i => (f i).1) wf2.1 wf0.2.2.2.2.2.2.2.1) (fun r H n h => .inr h.1) no_globals rfl (reps_cons r0 (reps_cons r1 (reps_cons r2 (reps_cons r3 reps_nil))))
end Go.Proofs.Ytkaobalnjimniaa
