/-
  Disks: what a range over the map that waits has done.
-/
import Derived.Test.YtnjjgipblimbfaaEngThree
import Derived.Test.YtnjjgipblimbfaaDskA
set_option linter.unusedVariables false
set_option linter.unusedSimpArgs false
namespace Go.DskLaw
open Go.Eng
/-- What waits is written, as far as it was seen. -/
structure FlInv (N : Nat) (S : Nat → Int) (L : Int → Option (Nat → Int)) (es : Array MapEntry) (seen : Array Nat) (Sc : Nat → Int) : Prop where
  done : ∀ e ∈ es.toList, e.born ∈ seen → ∀ x, x < N → e.key = .int .i64 ((x / 64 : Nat) : Int) → Sc x = secV S L (x / 64) (x % 64)
  left : ∀ x, x < N → (∀ e ∈ es.toList, e.born ∈ seen → e.key ≠ .int .i64 ((x / 64 : Nat) : Int)) → Sc x = S x
variable {N c : Nat} {S Sc Sc' : Nat → Int} {L : Int → Option (Nat → Int)} {es : Array MapEntry} {seen : Array Nat} {e : MapEntry}
theorem FlInv.start : FlInv N S L es #[] S := ⟨fun e _ h => by simp at h, fun _ _ _ => rfl⟩
theorem secV_none {i : Nat} (h : L (i : Int) = none) : secV S L i = fun x => S (64 * i + x) := by unfold secV; rw [h]
theorem secV_some {i : Nat} {g : Nat → Int} (h : L (i : Int) = some g) : secV S L i = g := by unfold secV; rw [h]
theorem FlInv.fin (h : FlInv N S L es seen Sc) (hm : MapIs 64 es c L) (h0 : (leftOf es seen).size = 0) : ∀ x, x < N → Sc x = secV S L (x / 64) (x % 64) := by
  intro x hx
  have hall : ∀ e ∈ es.toList, e.born ∈ seen := by
    intro e he
    have : leftOf es seen = #[] := Array.eq_empty_of_size_eq_zero h0
    unfold leftOf at this
    rw [Array.filter_eq_empty_iff] at this
    have := this e (by simpa using he)
    simpa using this
  cases hL : L ((x / 64 : Nat) : Int) with
  | some g =>
    obtain ⟨e, he, hk⟩ := hm.all _ _ hL
    exact h.done e he (hall e he) x hx hk
  | none =>
    rw [secV_none hL]
    simp only []
    rw [show 64 * (x / 64) + x % 64 = x by omega]
    refine h.left x hx fun e he _ hk => ?_
    obtain ⟨k', g', q1, q2, _⟩ := hm.ent e he
    rw [hk] at q1
    cases q1
    rw [hL] at q2; cases q2
theorem FlInv.step {k : Nat} {g : Nat → Int} (h : FlInv N S L es seen Sc) (hm : MapIs 64 es c L) (he : e ∈ es.toList) (hk : e.key = .int .i64 (k : Int)) (hL : L (k : Int) = some g) (hS : ∀ x, x < N → Sc' x = if 64 * k ≤ x ∧ x < 64 * k + 64 then g (x - 64 * k) else Sc x) :
    FlInv N S L es (seen.push e.born) Sc' where
  done := fun e' he' hb x hx hk' => by
    rw [hS x hx]
    by_cases q : x / 64 = k
    · rw [if_pos (by omega), q, secV_some hL, show x - 64 * k = x % 64 by omega]
    · rw [if_neg (by omega)]
      refine h.done e' he' ?_ x hx hk'
      rcases Array.mem_push.1 hb with hb | hb
      · exact hb
      · exfalso
        obtain ⟨i, hi⟩ := List.getElem?_of_mem he
        obtain ⟨j, hj⟩ := List.getElem?_of_mem he'
        have h1 : (es.toList.map (·.born))[i]? = some e.born := by rw [List.getElem?_map, hi]; rfl
        have h2 : (es.toList.map (·.born))[j]? = some e.born := by rw [List.getElem?_map, hj, ← hb]; rfl
        have hl : i < (es.toList.map (·.born)).length := by
          rcases Nat.lt_or_ge i (es.toList.map (·.born)).length with hl | hl
          · exact hl
          · rw [List.getElem?_eq_none hl] at h1; cases h1
        have hij := (List.getElem?_inj hl hm.born).1 (h1.trans h2.symm)
        subst hij
        rw [hi] at hj; cases hj
        rw [hk] at hk'; cases hk'
        omega
  left := fun x hx hn => by
    rw [hS x hx, if_neg]
    · exact h.left x hx fun e' he' hb => hn e' he' (Array.mem_push.2 (.inl hb))
    · intro q
      refine hn e he (Array.mem_push.2 (.inr rfl)) ?_
      rw [hk]
      congr 1
      omega
theorem left_mem (h : e ∈ (leftOf es seen).toList) : e ∈ es.toList ∧ e.born ∉ seen := by
  unfold leftOf at h
  simp at h
  simpa using h
theorem left_less (h : e ∈ (leftOf es seen).toList) : (leftOf es (seen.push e.born)).size < (leftOf es seen).size := left_shrinks es seen e h
end Go.DskLaw
