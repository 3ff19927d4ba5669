/-
  Records on sectors: what is got are bytes.
-/
import Derived.Test.YtnjjgipblimbfaaDskC
set_option linter.unusedVariables false
set_option linter.unusedSimpArgs false
namespace Go.DskLaw
theorem usedP_le {v : Nat → Int} {m : Nat} {on : Bool} (h : usedP v = some (m, on)) : m ≤ 62 := by
  unfold usedP at h
  split at h
  · rename_i q
    have := q.1
    split at h
    · split at h
      · cases h; omega
      · cases h
    · split at h
      · cases h; omega
      · cases h
  · cases h
theorem getP_isB {V : Nat → Nat → Int} {first fin : Nat} (hV : ∀ i, i < fin → isB (V i)) : ∀ (k x n : Nat) (f : Nat → Int) (n' : Nat) (f' : Nat → Int) (next : Nat), (∀ i, i < n → 0 ≤ f i ∧ f i ≤ 255) → getP V first fin k x n f = some (n', f', next) → ∀ i, i < n' → 0 ≤ f' i ∧ f' i ≤ 255 := by
  intro k
  induction k with
  | zero => intro x n f n' f' next _ h; cases h
  | succ k ih =>
    intro x n f n' f' next hf h
    unfold getP at h
    split at h
    · cases h
    · rename_i hx
      split at h
      · cases h
      · rename_i m on hu
        have hm := usedP_le hu
        have key : ∀ i, i < n + m → 0 ≤ (fun i => if i < n then f i else V x (i - n)) i ∧ (fun i => if i < n then f i else V x (i - n)) i ≤ 255 := fun i hi => by
          by_cases q : i < n
          · simp only [q, if_true]; exact hf i q
          · simp only [q, if_false]; exact hV x (by omega) _ (by omega)
        split at h
        · cases h
        · split at h
          · cases h
          · split at h
            · exact ih _ _ _ _ _ _ key h
            · cases h; exact key
theorem scanP_isB {V : Nat → Nat → Int} {fin : Nat} (hV : ∀ i, i < fin → isB (V i)) : ∀ (k x c : Nat) (g : Nat → Nat × (Nat → Int)) (c' : Nat) (g' : Nat → Nat × (Nat → Int)) (next : Nat), (∀ i, i < c → ∀ j, j < (g i).1 → 0 ≤ (g i).2 j ∧ (g i).2 j ≤ 255) → scanP V fin k x c g = (c', g', next) → ∀ i, i < c' → ∀ j, j < (g' i).1 → 0 ≤ (g' i).2 j ∧ (g' i).2 j ≤ 255 := by
  intro k
  induction k with
  | zero => intro x c g c' g' next hg h; cases h; exact hg
  | succ k ih =>
    intro x c g c' g' next hg h
    unfold scanP at h
    split at h
    · cases h; exact hg
    · rename_i n f nx hgp
      refine ih _ _ _ _ _ _ (fun i hi j hj => ?_) h
      by_cases q : i < c
      · simp only [q, if_true] at hj ⊢; exact hg i q j hj
      · simp only [q, if_false] at hj ⊢
        exact getP_isB hV _ _ _ _ _ _ _ (fun i hi => by omega) hgp j hj
theorem scanP_le {V : Nat → Nat → Int} {fin : Nat} : ∀ (k x c : Nat) (g : Nat → Nat × (Nat → Int)) (c' : Nat) (g' : Nat → Nat × (Nat → Int)) (next : Nat), x ≤ fin → scanP V fin k x c g = (c', g', next) → c' + x ≤ c + next ∧ next ≤ fin := by
  intro k
  induction k with
  | zero => intro x c g c' g' next hx h; cases h; omega
  | succ k ih =>
    intro x c g c' g' next hx h
    unfold scanP at h
    split at h
    · cases h; omega
    · rename_i n f nx hgp
      have h1 := getP_next _ hgp
      have h2 := ih _ _ _ _ _ _ h1.2.1 h
      omega
end Go.DskLaw
namespace Go.DskLaw
/-- How many bytes are kept, by the document's way: the last one from the end on that names the sector. -/
def fromP (ks kb : Nat → Int) (t : Int) (n : Nat) : Nat → Int
  | 0 => 0
  | d + 1 => if ks (n - (d + 1)) = t then kb (n - (d + 1)) else fromP ks kb t n d
theorem fromP_kept {ks kb : Nat → Int} {t : Int} {n : Nat} : ∀ d, d ≤ n → (keptB ks kb t n).getD 0 = match keptB ks kb t (n - d) with | some b => b | none => clampB (fromP ks kb t n d) := by
  intro d
  induction d with
  | zero =>
    intro _
    rw [Nat.sub_zero]
    cases keptB ks kb t n with
    | none => rfl
    | some b => rfl
  | succ d ih =>
    intro hd
    have h1 := ih (by omega)
    have e : n - d = (n - (d + 1)) + 1 := by omega
    rw [h1, e]
    show (match (match keptB ks kb t (n - (d + 1)) with
      | some b => some b
      | none => if ks (n - (d + 1)) = t then some (clampB (kb (n - (d + 1)))) else none) with | some b => b | none => clampB (fromP ks kb t n d)) = _
    cases hk : keptB ks kb t (n - (d + 1)) with
    | some b => rfl
    | none =>
      simp only []
      by_cases q : ks (n - (d + 1)) = t
      · rw [if_pos q]
        unfold fromP; rw [if_pos q]
      · rw [if_neg q]
        conv => rhs; unfold fromP
        rw [if_neg q]
theorem fromP_all {ks kb : Nat → Int} {t : Int} {n : Nat} : clampB (fromP ks kb t n n) = (keptB ks kb t n).getD 0 := by
  have := fromP_kept (ks := ks) (kb := kb) (t := t) (n := n) n (Nat.le_refl _)
  rw [this, Nat.sub_self]; rfl
end Go.DskLaw
