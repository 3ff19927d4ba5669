/-
  Plain law of vectors: which places are open between two rows.
-/
import Derived.Test.YtkaobalnjimniaaVecA
set_option linter.unusedVariables false
set_option linter.unusedSimpArgs false
namespace Go.VecLaw
structure OS where
  n : Nat
  a : Nat → Int
def openV (lo hi : Nat → Int) : Nat → OS
  | 0 => ⟨0, fun _ => 0⟩
  | k + 1 => if lo k < hi k then ⟨(openV lo hi k).n + 1, fun j => if j = (openV lo hi k).n then (k : Int) else (openV lo hi k).a j⟩ else openV lo hi k
theorem openV_n (lo hi : Nat → Int) : ∀ k, (openV lo hi k).n ≤ k := by
  intro k
  induction k with
  | zero => exact Nat.le_refl _
  | succ k ih =>
    show (if lo k < hi k then (⟨(openV lo hi k).n + 1, fun j => if j = (openV lo hi k).n then (k : Int) else (openV lo hi k).a j⟩ : OS) else openV lo hi k).n ≤ _
    split
    · show (openV lo hi k).n + 1 ≤ _; omega
    · omega
end Go.VecLaw
