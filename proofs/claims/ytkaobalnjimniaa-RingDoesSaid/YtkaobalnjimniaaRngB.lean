/-
  Rows of events: one put in, one put behind.
-/
import Derived.Test.YtkaobalnjimniaaRngA
set_option linter.unusedVariables false
set_option linter.unusedSimpArgs false
namespace Go.RngLaw
open Go.Eng
set_option linter.unusedVariables false
def snIte (b : Bool) (s t : Sn) : List SV := (List.range 5).map fun j => mergeSV Ar.real 4 b ((sn s).getD j .any) ((sn t).getD j .any)
theorem snIte_le {d : Nat} (b : Bool) (s t u : Sn) (hu : u = if b then s else t) : leL (leSV Ar.real (d + 2)) (snIte b s t) (sn u) := by
  subst hu
  cases b
  · exact ⟨rfl, ⟨rfl, fun e he => ⟨rfl, trivial⟩⟩, rfl, rfl, rfl, trivial⟩
  · exact ⟨rfl, ⟨rfl, fun e he => ⟨rfl, trivial⟩⟩, rfl, rfl, rfl, trivial⟩
/-- One put in. -/
theorem sn_upd {A : Ar} (hA : Ar.real = A) {p : Nat} {f : Nat → Sn} {s u : Sn} {e : NV} {d : Nat} (hu : u = if e.val = p then s else f e.val) :
    leL (leSV A (d + 2)) (updF A 5 (.s p) 0 (sn s) (fun e => sn (f e.val)) e) (sn u) := by
  subst hA
  have h1 : ∀ e : NV, updF Ar.real 5 (.s p) 0 (sn s) (fun e => sn (f e.val)) e = snIte (e.val == p) s (f e.val) := by
    intro e
    cases e <;> rfl
  rw [h1]
  refine snIte_le _ _ _ _ ?_
  rw [hu]
  by_cases h : e.val = p <;> simp [h]
theorem chunk5 {A : Ar} {s : Sn} {e : NV} (he : e.val = 0) : chunkS A 5 (sn s) e = sn s := by
  cases e with
  | l k =>
    have : k = 0 := he
    subst this; rfl
  | s k =>
    have : k = 0 := he
    subst this; rfl
/-- One put behind. -/
theorem sn_cat {A : Ar} (hA : Ar.real = A) {n : Nat} {f : Nat → Sn} {s u : Sn} {e : NV} {d : Nat} (he : e.val ≤ n) (hu : u = if e.val < n then f e.val else s) :
    leL (leSV A (d + 2)) (catG A 5 (.s n) (fun e => sn (f e.val)) (fun x => chunkS A 5 (sn s) (addNV A (.l 0) x)) e) (sn u) := by
  subst hA
  have h1 : ∀ e : NV, e.val ≤ n → catG Ar.real 5 (.s n) (fun e => sn (f e.val)) (fun x => chunkS Ar.real 5 (sn s) (addNV Ar.real (.l 0) x)) e = snIte (decide (e.val < n)) (f e.val) s := by
    intro e he
    have h2 : ∀ x : NV, x.val ≤ n → chunkS Ar.real 5 (sn s) (addNV Ar.real (.l 0) (subNV Ar.real x (.s n))) = sn s := by
      intro x hx
      refine chunk5 ?_
      rw [show addNV Ar.real (.l 0) (subNV Ar.real x (.s n)) = subNV Ar.real x (.s n) from rfl, subNV_val]
      show x.val - n = 0
      omega
    have h3 := h2 e he
    cases e with
    | l k =>
      simp only [catG]
      rw [h3]; rfl
    | s k =>
      simp only [catG]
      rw [h3]; rfl
  rw [h1 e he]
  refine snIte_le _ _ _ _ ?_
  rw [hu]
  by_cases h : e.val < n <;> simp [h]
end Go.RngLaw
