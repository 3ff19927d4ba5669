/-
  The sums of bytes: the laws' calls, in a world where the table of four bits is as its text lays it.
-/
import Derived.Test.YtnjjgipblimbfaaDoorCrcF7
import Derived.Lib.LaidTab
set_option linter.unusedVariables false
set_option linter.unusedSimpArgs false
namespace Go.Proofs.YtnjjgipblimbfaaDoor
open Go.Eng Go.RowKit
open Go.CrcLaw (four)
set_option maxRecDepth 100000
set_option linter.unusedVariables false

def zs4 : List Int := [0, 498536548, 997073096, 651767980, 1994146192, 1802195444, 1303535960, 1342533948, 3988292384, 4027552580, 3604390888, 3412177804, 2607071920, 2262029012, 2685067896, 3183342108]
def fr4 : Nat → Int := fun i => zs4.getD i 0
theorem fr4_four (i : Nat) : fr4 i = ((four i).toNat : Int) := by
  by_cases h : i < 16
  · have : ∀ i : Fin 16, fr4 i.val = ((four i.val).toNat : Int) := by decide +kernel
    exact this ⟨i, h⟩
  · have e1 : fr4 i = 0 := by
      unfold fr4
      rw [List.getD_eq_getElem?_getD, List.getElem?_eq_none (by show zs4.length ≤ i; show 16 ≤ i; omega)]; rfl
    have e2 : four i = 0#32 := by
      unfold four
      split <;> first | omega | rfl
    rw [e1, e2]; rfl
variable {W : World} {v0 v1 v2 : Value}
theorem four_rep (h : Lib.TabIs Tryd.prog W "copse/crc.four" .u32 zs4) (hg : Tryd.prog.globalNamed "copse/crc.four" = some 0) :
    ∀ p ∈ Gf fr4, Rep W (fun b => b < W.heap.size) Vln.no p.2 (.pointer (some ⟨p.1, 0, none⟩)) := by
  intro p hp
  obtain rfl : p = (0, .ra 1 16 (fun e => [.int .u32 (fr4 e.val)])) := by simpa [Gf] using hp
  exact tab_rep (by omega) (fun i hi => h.cell hg i (by show i < 16; exact hi)) (fun _ h => h)

abbrev bsh : Shs := .cons (.int .u8) .nil
theorem sums_at (h : Lib.TabIs Tryd.prog W "copse/crc.four" .u32 zs4) (hg : Tryd.prog.globalNamed "copse/crc.four" = some 0)
    {n : Nat} {a : Nat → bsh.Den} {si : Int} (wf0 : n ≤ 9223372036854775807 ∧ ∀ i, i < n → bsh.wf (a i)) (r0 : Rep W (fun b => b < W.heap.size) Vln.no (.ro bsh.size (.s n) (fun e => bsh.svs (a e.val))) v0)
    (wf1 : intWf .u32 si) (r1 : Rep W (fun b => b < W.heap.size) Vln.no (.int .u32 si) v1) :
    Calls Tryd.prog 3 #[v0, v1] W fun e w' => e = .returned (.bool true) ∧ Below W.heap.size W w' := by
  obtain ⟨gi, g, hgi, hg8, r0'⟩ := ro_bytes (f := fun i => (a i).1) r0 (fun i hi => (wf0.2 i hi).1)
  have hs : si = ((BitVec.ofInt 32 si).toNat : Int) := by
    have h0 : 0 ≤ si := wf1.1
    have h1 : si ≤ 4294967295 := wf1.2
    rw [BitVec.toNat_ofInt]; omega
  exact FnTr.law (sums_law rfl fr4_four hgi (fun i _ => hg8 i) hs wf0.1) (fun r H n h => .inr h.1) (four_rep h hg) rfl (reps_cons r0' (reps_cons r1 reps_nil))
theorem joins_at (h : Lib.TabIs Tryd.prog W "copse/crc.four" .u32 zs4) (hg : Tryd.prog.globalNamed "copse/crc.four" = some 0)
    {n m : Nat} {a b : Nat → bsh.Den} (wf0 : n ≤ 9223372036854775807 ∧ ∀ i, i < n → bsh.wf (a i)) (r0 : Rep W (fun b => b < W.heap.size) Vln.no (.ro bsh.size (.s n) (fun e => bsh.svs (a e.val))) v0)
    (wf1 : m ≤ 9223372036854775807 ∧ ∀ i, i < m → bsh.wf (b i)) (r1 : Rep W (fun b => b < W.heap.size) Vln.no (.ro bsh.size (.s m) (fun e => bsh.svs (b e.val))) v1) :
    Calls Tryd.prog 4 #[v0, v1] W fun e w' => e = .returned (.bool true) ∧ Below W.heap.size W w' := by
  obtain ⟨gi, g, hgi, hg8, r0'⟩ := ro_bytes (f := fun i => (a i).1) r0 (fun i hi => (wf0.2 i hi).1)
  obtain ⟨hi, h', hhi, hh8, r1'⟩ := ro_bytes (f := fun i => (b i).1) r1 (fun i hi => (wf1.2 i hi).1)
  exact FnTr.law (joins_law rfl fr4_four hgi hhi wf0.1 wf1.1) (fun r H n h => .inr h.1) (four_rep h hg) rfl (reps_cons r0' (reps_cons r1' reps_nil))
theorem long_at (h : Lib.TabIs Tryd.prog W "copse/crc.four" .u32 zs4) (hg : Tryd.prog.globalNamed "copse/crc.four" = some 0)
    {n : Nat} {a : Nat → bsh.Den} {m : Int} (wf0 : n ≤ 9223372036854775807 ∧ ∀ i, i < n → bsh.wf (a i)) (r0 : Rep W (fun b => b < W.heap.size) Vln.no (.ro bsh.size (.s n) (fun e => bsh.svs (a e.val))) v0)
    (wf1 : intWf .i64 m) (r1 : Rep W (fun b => b < W.heap.size) Vln.no (.int .i64 m) v1) :
    Calls Tryd.prog 5 #[v0, v1] W fun e w' => e = .returned (.bool true) ∧ Below W.heap.size W w' := by
  obtain ⟨gi, g, hgi, hg8, r0'⟩ := ro_bytes (f := fun i => (a i).1) r0 (fun i hi => (wf0.2 i hi).1)
  exact FnTr.law (long_law rfl fr4_four hgi wf0.1 wf1) (fun r H n h => .inr h.1) (four_rep h hg) rfl (reps_cons r0' (reps_cons r1 reps_nil))
theorem turns_at (h : Lib.TabIs Tryd.prog W "copse/crc.four" .u32 zs4) (hg : Tryd.prog.globalNamed "copse/crc.four" = some 0)
    {n : Nat} {a : Nat → bsh.Den} {ai xi : Int} (wf0 : n ≤ 9223372036854775807 ∧ ∀ i, i < n → bsh.wf (a i)) (r0 : Rep W (fun b => b < W.heap.size) Vln.no (.ro bsh.size (.s n) (fun e => bsh.svs (a e.val))) v0)
    (wf1 : intWf .u16 ai) (r1 : Rep W (fun b => b < W.heap.size) Vln.no (.int .u16 ai) v1) (wf2 : intWf .u32 xi) (r2 : Rep W (fun b => b < W.heap.size) Vln.no (.int .u32 xi) v2) :
    Calls Tryd.prog 6 #[v0, v1, v2] W fun e w' => e = .returned (.bool true) ∧ Below W.heap.size W w' := by
  obtain ⟨gi, g, hgi, hg8, r0'⟩ := ro_bytes (f := fun i => (a i).1) r0 (fun i hi => (wf0.2 i hi).1)
  have hs : xi = ((BitVec.ofInt 32 xi).toNat : Int) := by
    have h0 : 0 ≤ xi := wf2.1
    have h1 : xi ≤ 4294967295 := wf2.2
    rw [BitVec.toNat_ofInt]; omega
  exact FnTr.law (turns_law rfl fr4_four hgi (fun i _ => hg8 i) wf1 hs wf0.1) (fun r H n h => .inr h.1) (four_rep h hg) rfl (reps_cons r0' (reps_cons r1 (reps_cons r2 reps_nil)))
end Go.Proofs.YtnjjgipblimbfaaDoor
