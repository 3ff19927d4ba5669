/-
  Vectors: the laws' calls, in any world.
-/
import Derived.Test.YtkaobalnjimniaaVecI5
set_option linter.unusedVariables false
set_option linter.unusedSimpArgs false
namespace Go.Proofs.Ytkaobalnjimniaa.Vec
open Go.Eng Go.RowKit
set_option maxRecDepth 100000
set_option linter.unusedVariables false

abbrev ish : Shs := .cons (.int .i64) .nil
abbrev lsh : Shs := .cons (.sl ish) .nil
variable {W : World} {v0 v1 v2 v3 : Value}
theorem no_globals : ∀ p ∈ ([] : Gl), Rep W (fun b => b < W.heap.size) Vln.no p.2 (.pointer (some ⟨p.1, 0, none⟩)) := fun p hp => by cases hp

theorem dots_at {n m : Nat} {f g : Nat → ish.Den} {dim : Int} (wf0 : n ≤ 9223372036854775807 ∧ ∀ i, i < n → ish.wf (f i)) (r0 : Rep W (fun b => b < W.heap.size) Vln.no (.ro ish.size (.s n) (fun e => ish.svs (f e.val))) v0)
    (wf1 : m ≤ 9223372036854775807 ∧ ∀ i, i < m → ish.wf (g i)) (r1 : Rep W (fun b => b < W.heap.size) Vln.no (.ro ish.size (.s m) (fun e => ish.svs (g e.val))) v1)
    (wf2 : intWf .i64 dim) (r2 : Rep W (fun b => b < W.heap.size) Vln.no (.int .i64 dim) v2) :
    Calls Try.prog 9 #[v0, v1, v2] W fun e w' => e = .returned (.bool true) ∧ Below W.heap.size W w' :=
  FnTr.law (dots_law rfl (f := fun i => (f i).1) (g := fun i => (g i).1) wf0.1 wf1.1) (fun r H n h => .inr h.1) no_globals rfl (reps_cons r0 (reps_cons r1 (reps_cons r2 reps_nil)))
theorem boxes_at {k p : Nat} {l : Nat → lsh.Den} {x : Nat → ish.Den} {dim : Int} (wf0 : k ≤ 9223372036854775807 ∧ ∀ i, i < k → lsh.wf (l i)) (r0 : Rep W (fun b => b < W.heap.size) Vln.no (.ro lsh.size (.s k) (fun e => lsh.svs (l e.val))) v0)
    (wf1 : intWf .i64 dim) (r1 : Rep W (fun b => b < W.heap.size) Vln.no (.int .i64 dim) v1)
    (wf2 : p ≤ 9223372036854775807 ∧ ∀ i, i < p → ish.wf (x i)) (r2 : Rep W (fun b => b < W.heap.size) Vln.no (.ro ish.size (.s p) (fun e => ish.svs (x e.val))) v2) :
    Calls Try.prog 10 #[v0, v1, v2] W fun e w' => e = .returned (.bool true) ∧ Below W.heap.size W w' :=
  FnTr.law (boxes_law rfl (len := fun i => (l i).1.1) (g := fun i j => ((l i).1.2 j).1) (x := fun i => (x i).1) wf0.1 (fun i hi => (wf0.2 i hi).1.1) wf2.1) (fun r H n h => .inr h.1) no_globals rfl (reps_cons r0 (reps_cons r1 (reps_cons r2 reps_nil)))
theorem reach_at {k n : Nat} {l : Nat → lsh.Den} {f : Nat → ish.Den} (wf0 : n ≤ 9223372036854775807 ∧ ∀ i, i < n → ish.wf (f i)) (r0 : Rep W (fun b => b < W.heap.size) Vln.no (.ro ish.size (.s n) (fun e => ish.svs (f e.val))) v0)
    (wf1 : k ≤ 9223372036854775807 ∧ ∀ i, i < k → lsh.wf (l i)) (r1 : Rep W (fun b => b < W.heap.size) Vln.no (.ro lsh.size (.s k) (fun e => lsh.svs (l e.val))) v1) :
    Calls Try.prog 11 #[v0, v1] W fun e w' => e = .returned (.bool true) ∧ Below W.heap.size W w' :=
  FnTr.law (reach_law rfl (f := fun i => (f i).1) (len := fun i => (l i).1.1) (g := fun i j => ((l i).1.2 j).1) wf0.1 wf1.1 (fun i hi => (wf1.2 i hi).1.1)) (fun r H n h => .inr h.1) no_globals rfl (reps_cons r0 (reps_cons r1 reps_nil))
theorem orders_at {n m p : Nat} {f g h : Nat → ish.Den} (wf0 : n ≤ 9223372036854775807 ∧ ∀ i, i < n → ish.wf (f i)) (r0 : Rep W (fun b => b < W.heap.size) Vln.no (.ro ish.size (.s n) (fun e => ish.svs (f e.val))) v0)
    (wf1 : m ≤ 9223372036854775807 ∧ ∀ i, i < m → ish.wf (g i)) (r1 : Rep W (fun b => b < W.heap.size) Vln.no (.ro ish.size (.s m) (fun e => ish.svs (g e.val))) v1)
    (wf2 : p ≤ 9223372036854775807 ∧ ∀ i, i < p → ish.wf (h i)) (r2 : Rep W (fun b => b < W.heap.size) Vln.no (.ro ish.size (.s p) (fun e => ish.svs (h e.val))) v2) :
    Calls Try.prog 12 #[v0, v1, v2] W fun e w' => e = .returned (.bool true) ∧ Below W.heap.size W w' :=
  FnTr.law (orders_law rfl (f := fun i => (f i).1) (g := fun i => (g i).1) (h := fun i => (h i).1) wf0.1 wf1.1 wf2.1) (fun r H n h => .inr h.1) no_globals rfl (reps_cons r0 (reps_cons r1 (reps_cons r2 reps_nil)))
theorem gaps_at {n m p k : Nat} {f g h : Nat → ish.Den} {l : Nat → lsh.Den} (wf0 : n ≤ 9223372036854775807 ∧ ∀ i, i < n → ish.wf (f i)) (r0 : Rep W (fun b => b < W.heap.size) Vln.no (.ro ish.size (.s n) (fun e => ish.svs (f e.val))) v0)
    (wf1 : m ≤ 9223372036854775807 ∧ ∀ i, i < m → ish.wf (g i)) (r1 : Rep W (fun b => b < W.heap.size) Vln.no (.ro ish.size (.s m) (fun e => ish.svs (g e.val))) v1)
    (wf2 : p ≤ 9223372036854775807 ∧ ∀ i, i < p → ish.wf (h i)) (r2 : Rep W (fun b => b < W.heap.size) Vln.no (.ro ish.size (.s p) (fun e => ish.svs (h e.val))) v2)
    (wf3 : k ≤ 9223372036854775807 ∧ ∀ i, i < k → lsh.wf (l i)) (r3 : Rep W (fun b => b < W.heap.size) Vln.no (.ro lsh.size (.s k) (fun e => lsh.svs (l e.val))) v3) :
    Calls Try.prog 13 #[v0, v1, v2, v3] W fun e w' => e = .returned (.bool true) ∧ Below W.heap.size W w' :=
  FnTr.law (gaps_law rfl (f := fun i => (f i).1) (g := fun i => (g i).1) (h := fun i => (h i).1) (len := fun i => (l i).1.1) (L := fun i j => ((l i).1.2 j).1) wf0.1 wf1.1 wf2.1 wf3.1 (fun i hi => (wf3.2 i hi).1.1)) (fun r H n h => .inr h.1) no_globals rfl (reps_cons r0 (reps_cons r1 (reps_cons r2 (reps_cons r3 reps_nil))))
end Go.Proofs.Ytkaobalnjimniaa.Vec
