/-
  Plain law of vectors: ends, products, gaps.
-/
import Derived.ProofKit
set_option linter.unusedVariables false
set_option linter.unusedSimpArgs false
namespace Go.VecLaw
/-- The least of the first k + 1. -/
def lowV (f : Nat → Int) : Nat → Int
  | 0 => f 0
  | k + 1 => if f (k + 1) < lowV f k then f (k + 1) else lowV f k
def topV (f : Nat → Int) : Nat → Int
  | 0 => f 0
  | k + 1 => if topV f k < f (k + 1) then f (k + 1) else topV f k
theorem lowV_le (f : Nat → Int) (k : Nat) : ∀ i, i ≤ k → lowV f k ≤ f i := by
  induction k with
  | zero => intro i hi; obtain rfl : i = 0 := by omega
            exact Int.le_refl _
  | succ k ih =>
    intro i hi
    unfold lowV
    by_cases e : i = k + 1
    · subst e; split <;> omega
    · have := ih i (by omega); split <;> omega
theorem topV_le (f : Nat → Int) (k : Nat) : ∀ i, i ≤ k → f i ≤ topV f k := by
  induction k with
  | zero => intro i hi; obtain rfl : i = 0 := by omega
            exact Int.le_refl _
  | succ k ih =>
    intro i hi
    unfold topV
    by_cases e : i = k + 1
    · subst e; split <;> omega
    · have := ih i (by omega); split <;> omega
theorem lowV_at (f : Nat → Int) (k : Nat) : ∃ i, i ≤ k ∧ lowV f k = f i := by
  induction k with
  | zero => exact ⟨0, Nat.le_refl _, rfl⟩
  | succ k ih =>
    obtain ⟨i, h1, h2⟩ := ih
    unfold lowV
    split
    · exact ⟨k + 1, Nat.le_refl _, rfl⟩
    · exact ⟨i, by omega, h2⟩
theorem topV_at (f : Nat → Int) (k : Nat) : ∃ i, i ≤ k ∧ topV f k = f i := by
  induction k with
  | zero => exact ⟨0, Nat.le_refl _, rfl⟩
  | succ k ih =>
    obtain ⟨i, h1, h2⟩ := ih
    unfold topV
    split
    · exact ⟨k + 1, Nat.le_refl _, rfl⟩
    · exact ⟨i, by omega, h2⟩
theorem parts_iff (f : Nat → Int) (k : Nat) : ((-4 ≤ lowV f k ∧ topV f k ≤ 4) ∧ (lowV f k < 0 ∨ 0 < topV f k)) ↔ ((∀ i, i < k + 1 → -4 ≤ f i ∧ f i ≤ 4) ∧ ∃ i, i < k + 1 ∧ f i ≠ 0) := by
  have h1 := lowV_le f k
  have h2 := topV_le f k
  obtain ⟨a, ha, ea⟩ := lowV_at f k
  obtain ⟨b, hb, eb⟩ := topV_at f k
  constructor
  · rintro ⟨⟨g1, g2⟩, g3⟩
    refine ⟨fun i hi => ?_, ?_⟩
    · have := h1 i (by omega); have := h2 i (by omega); omega
    · rcases g3 with g3 | g3
      · exact ⟨a, by omega, by omega⟩
      · exact ⟨b, by omega, by omega⟩
  · rintro ⟨g1, i, hi, g2⟩
    have ga := g1 a (by omega)
    have gb := g1 b (by omega)
    have := h1 i (by omega)
    have := h2 i (by omega)
    omega
/-- The product. -/
def dotV (c v : Nat → Int) : Nat → Int
  | 0 => 0
  | k + 1 => dotV c v k + c k * v k
theorem mul_range (a b : Int) (ha : -4 ≤ a ∧ a ≤ 4) (hb : -2147483648 ≤ b ∧ b ≤ 2147483647) : -8589934592 ≤ a * b ∧ a * b ≤ 8589934592 := by
  have h : a = -4 ∨ a = -3 ∨ a = -2 ∨ a = -1 ∨ a = 0 ∨ a = 1 ∨ a = 2 ∨ a = 3 ∨ a = 4 := by omega
  rcases h with h | h | h | h | h | h | h | h | h <;> subst h <;> omega
theorem dotV_range (c v : Nat → Int) (n : Nat) (hc : ∀ i, i < n → -4 ≤ c i ∧ c i ≤ 4) (hv : ∀ i, i < n → -2147483648 ≤ v i ∧ v i ≤ 2147483647) : ∀ k, k ≤ n → -8589934592 * (k : Int) ≤ dotV c v k ∧ dotV c v k ≤ 8589934592 * (k : Int) := by
  intro k
  induction k with
  | zero => intro _; exact ⟨by show _ ≤ (0 : Int); omega, by show (0 : Int) ≤ _; omega⟩
  | succ k ih =>
    intro h
    have h1 := ih (by omega)
    have h2 := mul_range (c k) (v k) (hc k (by omega)) (hv k (by omega))
    show _ ≤ dotV c v k + c k * v k ∧ dotV c v k + c k * v k ≤ _
    omega
/-- A unit vector's product. -/
theorem dotV_unit (v : Nat → Int) (i : Nat) (u : Nat → Int) (hu : ∀ j, u j = if j = i then 1 else 0) : ∀ k, dotV u v k = if i < k then v i else 0 := by
  intro k
  induction k with
  | zero => rfl
  | succ k ih =>
    show dotV u v k + u k * v k = _
    rw [ih, hu]
    by_cases e : k = i
    · subst e; rw [if_neg (by omega), if_pos rfl, if_pos (by omega)]; omega
    · rw [if_neg e]
      by_cases h : i < k
      · rw [if_pos h, if_pos (by omega)]; omega
      · rw [if_neg h, if_neg (by omega)]; omega
/-- How far two are apart. -/
def gapV (a b : Nat → Int) : Nat → Int
  | 0 => 0
  | k + 1 => gapV a b k + if b k < a k then a k - b k else b k - a k
theorem gapV_range (a b : Nat → Int) (n : Nat) (ha : ∀ i, i < n → -2147483648 ≤ a i ∧ a i ≤ 2147483647) (hb : ∀ i, i < n → -2147483648 ≤ b i ∧ b i ≤ 2147483647) : ∀ k, k ≤ n → 0 ≤ gapV a b k ∧ gapV a b k ≤ 4294967295 * (k : Int) := by
  intro k
  induction k with
  | zero => intro _; exact ⟨Int.le_refl _, by show (0 : Int) ≤ _; omega⟩
  | succ k ih =>
    intro h
    have h1 := ih (by omega)
    have h2 := ha k (by omega)
    have h3 := hb k (by omega)
    show 0 ≤ gapV a b k + (if b k < a k then a k - b k else b k - a k) ∧ gapV a b k + (if b k < a k then a k - b k else b k - a k) ≤ _
    split <;> omega
theorem gapV_symm (a b : Nat → Int) : ∀ k, gapV a b k = gapV b a k := by
  intro k
  induction k with
  | zero => rfl
  | succ k ih =>
    show gapV a b k + (if b k < a k then a k - b k else b k - a k) = gapV b a k + (if a k < b k then b k - a k else a k - b k)
    rw [ih]
    split <;> split <;> omega
theorem gapV_tri (a b c : Nat → Int) : ∀ k, gapV a c k ≤ gapV a b k + gapV b c k := by
  intro k
  induction k with
  | zero => exact Int.le_refl _
  | succ k ih =>
    show gapV a c k + (if c k < a k then a k - c k else c k - a k) ≤ gapV a b k + (if b k < a k then a k - b k else b k - a k) + (gapV b c k + (if c k < b k then b k - c k else c k - b k))
    split <;> split <;> split <;> omega
theorem gapV_zero (a b : Nat → Int) : ∀ k, 0 ≤ gapV a b k ∧ (gapV a b k = 0 ↔ ∀ i, i < k → a i = b i) := by
  intro k
  induction k with
  | zero => exact ⟨Int.le_refl _, fun _ i hi => by omega, fun _ => rfl⟩
  | succ k ih =>
    obtain ⟨h1, h2⟩ := ih
    show 0 ≤ gapV a b k + (if b k < a k then a k - b k else b k - a k) ∧ (gapV a b k + (if b k < a k then a k - b k else b k - a k) = 0 ↔ _)
    refine ⟨by split <;> omega, fun h i hi => ?_, fun h => ?_⟩
    · have h3 : gapV a b k = 0 := by split at h <;> omega
      by_cases e : i = k
      · subst e; split at h <;> omega
      · exact h2.1 h3 i (by omega)
    · have h3 := h2.2 (fun i hi => h i (by omega))
      have h4 := h k (by omega)
      rw [h3]; split <;> omega
end Go.VecLaw
