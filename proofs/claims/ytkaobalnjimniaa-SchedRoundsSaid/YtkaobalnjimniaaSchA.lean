/-
  Plain law of schedules: the first least one of a row; the next turn.
-/
import Derived.ProofKit
set_option linter.unusedVariables false
set_option linter.unusedSimpArgs false
namespace Go.SchLaw
/-- The place of the first least one. -/
def minAt (f : Nat → Int) : Nat → Nat
  | 0 => 0
  | k + 1 => if f k < f (minAt f k) then k else minAt f k
theorem minAt_lt (f : Nat → Int) (k : Nat) (h : 0 < k) : minAt f k < k := by
  induction k with
  | zero => omega
  | succ k ih =>
    unfold minAt
    split
    · omega
    · by_cases h0 : 0 < k
      · have := ih h0; omega
      · have : k = 0 := by omega
        subst this; show 0 < 1; omega
theorem minAt_le (f : Nat → Int) (k : Nat) : minAt f k ≤ k := by
  by_cases h : 0 < k
  · exact Nat.le_of_lt (minAt_lt f k h)
  · have : k = 0 := by omega
    subst this; exact Nat.le_refl _
/-- The next turn behind a count. -/
def nextV (c s e : Nat) : Nat := ((max (c + 1) s + e - 1) / e) * e
theorem nextV_spec (c s e : Nat) (he : 0 < e) : max (c + 1) s ≤ nextV c s e ∧ nextV c s e < max (c + 1) s + e ∧ nextV c s e % e = 0 := by
  unfold nextV
  generalize max (c + 1) s = m
  have h1 := Nat.div_add_mod (m + e - 1) e
  have h2 := Nat.mod_lt (m + e - 1) he
  rw [Nat.mul_comm] at h1
  refine ⟨by omega, by omega, Nat.mul_mod_left _ _⟩
theorem nextV_first (c s e n : Nat) (he : 0 < e) (h1 : max (c + 1) s ≤ n) (h2 : n % e = 0) : nextV c s e ≤ n := by
  obtain ⟨q, rfl⟩ : ∃ q, n = q * e := ⟨n / e, by have := Nat.div_add_mod n e; rw [h2, Nat.mul_comm] at this; omega⟩
  unfold nextV
  apply Nat.mul_le_mul_right
  rw [← Nat.lt_succ_iff, Nat.div_lt_iff_lt_mul he, Nat.succ_mul]
  omega
theorem ceil_eq (a b : Nat) (hb : 0 < b) : (a + b - 1) / b = a / b + if 0 < a % b then 1 else 0 := by
  have h1 := Nat.div_add_mod a b
  have h2 := Nat.mod_lt a hb
  generalize a / b = q at *
  generalize a % b = r at *
  subst h1
  split
  · rw [show b * q + r + b - 1 = (r - 1) + b * (q + 1) by rw [Nat.mul_add]; omega, Nat.add_mul_div_left _ _ hb, Nat.div_eq_of_lt (by omega)]; omega
  · rw [show b * q + r + b - 1 = (b - 1) + b * q by omega, Nat.add_mul_div_left _ _ hb, Nat.div_eq_of_lt (by omega)]; omega
/-- How many turns there are up to a count. -/
def upV (c s e : Nat) : Nat := if c < nextV 0 s e then 0 else (c - nextV 0 s e) / e + 1
theorem nextV_up (c s e : Nat) (he : 0 < e) : nextV c s e = nextV 0 s e + e * upV c s e := by
  obtain ⟨a1, a2, a3⟩ := nextV_spec 0 s e he
  obtain ⟨b1, b2, b3⟩ := nextV_spec c s e he
  unfold upV
  split
  · rename_i h
    have h1 := nextV_first c s e (nextV 0 s e) he (by omega) a3
    have h2 := nextV_first 0 s e (nextV c s e) he (by omega) b3
    omega
  · rename_i h
    generalize nextV 0 s e = v at *
    have hm : (c - v) / e * e ≤ c - v := Nat.div_mul_le_self _ _
    have hd := Nat.div_add_mod (c - v) e
    have hl := Nat.mod_lt (c - v) he
    have e1 : e * ((c - v) / e + 1) = e * ((c - v) / e) + e := by rw [Nat.mul_add, Nat.mul_one]
    rw [e1]
    generalize hq : e * ((c - v) / e) = q at *
    have hv : (v + (q + e)) % e = 0 := by
      rw [← hq]
      rw [show v + (e * ((c - v) / e) + e) = v + e * ((c - v) / e + 1) by rw [Nat.mul_add, Nat.mul_one]]
      rw [Nat.add_mul_mod_self_left]; exact a3
    have h1 := nextV_first c s e (v + (q + e)) he (by omega) hv
    -- a smaller one would be a turn not behind c
    have h2 : v + (q + e) ≤ nextV c s e := by
      by_cases hlt : nextV c s e < v + (q + e)
      · exfalso
        -- both are multiples of e, less than e apart
        have g1 : c < nextV c s e := by omega
        have g2 : (v + (q + e) - nextV c s e) % e = 0 := by
          have := Nat.sub_mod_eq_zero_of_mod_eq (m := v + (q + e)) (n := nextV c s e) (k := e) (by rw [hv, b3])
          exact this
        have g3 : v + (q + e) - nextV c s e < e := by omega
        rw [Nat.mod_eq_of_lt g3] at g2
        omega
      · omega
    omega
theorem turns_eq (a b s e : Nat) (he : 0 < e) : (max 0 ((upV b s e : Int) - (upV a s e : Int))) = if b < nextV a s e then 0 else (((b - nextV a s e) / e + 1 : Nat) : Int) := by
  have ha := nextV_up a s e he
  have hb : upV b s e = if b < nextV 0 s e then 0 else (b - nextV 0 s e) / e + 1 := rfl
  rw [ha]
  generalize upV a s e = u at *
  generalize nextV 0 s e = v at *
  rw [hb]
  by_cases h1 : b < v
  · rw [if_pos h1, if_pos (by omega)]
    omega
  · rw [if_neg h1]
    by_cases h2 : b < v + e * u
    · rw [if_pos h2]
      have : (b - v) / e < u := by
        rw [Nat.div_lt_iff_lt_mul he, Nat.mul_comm]; omega
      omega
    · rw [if_neg h2]
      have : (b - (v + e * u)) / e = (b - v) / e - u := by
        rw [Nat.sub_add_eq, Nat.sub_mul_div]
      have h3 : u ≤ (b - v) / e := by
        rw [Nat.le_div_iff_mul_le he, Nat.mul_comm]; omega
      omega
/-! ### Plans -/
/-- A plan under way: the count, how many births, the births, the places. -/
structure PS where
  c : Nat
  n : Nat
  b : Nat → Int
  p : Nat → Int
/-- Where a tree is grown. -/
def atOf (t : Int) (n : Nat) (b : Nat → Int) : Nat := if (n : Int) < t then n else minAt b n
/-- One turn more, the j-th. -/
def stepP (s e : Nat) (t : Int) (j : Nat) (x : PS) : PS where
  c := nextV x.c s e
  n := if atOf t x.n x.b = x.n then x.n + 1 else x.n
  b := fun i => if i = atOf t x.n x.b then (nextV x.c s e : Int) else x.b i
  p := fun i => if i = j then (atOf t x.n x.b : Int) else x.p i
def planP (s e : Nat) (t : Int) (x : PS) : Nat → PS
  | 0 => x
  | j + 1 => stepP s e t j (planP s e t x j)
theorem planP_c (s e : Nat) (t : Int) (x : PS) (he : 0 < e) (hs : s ≤ 64) (he2 : e ≤ 256) : ∀ j, (planP s e t x j).c ≤ x.c + j * 321 := by
  intro j
  induction j with
  | zero => show x.c ≤ _; omega
  | succ j ih =>
    have h := (nextV_spec (planP s e t x j).c s e he).2.1
    show nextV (planP s e t x j).c s e ≤ _
    omega
theorem atOf_le (t : Int) (n : Nat) (b : Nat → Int) : atOf t n b ≤ n := by
  unfold atOf; split
  · exact Nat.le_refl _
  · exact minAt_le b n
theorem planP_n (s e : Nat) (t : Int) (x : PS) : ∀ j, (planP s e t x j).n ≤ x.n + j := by
  intro j
  induction j with
  | zero => show x.n ≤ _; omega
  | succ j ih =>
    show (if atOf t (planP s e t x j).n (planP s e t x j).b = (planP s e t x j).n then (planP s e t x j).n + 1 else (planP s e t x j).n) ≤ _
    split <;> omega
theorem minAt_congr {f g : Nat → Int} : ∀ n, (∀ i, i < n → f i = g i) → minAt f n = minAt g n := by
  intro n
  induction n with
  | zero => intro _; rfl
  | succ n ih =>
    intro h
    have e := ih (fun i hi => h i (by omega))
    unfold minAt
    rw [← e]
    have h1 := h n (by omega)
    by_cases h0 : 0 < n
    · have h2 := h (minAt f n) (by have := minAt_lt f n h0; omega)
      rw [h1, h2]
    · obtain rfl : n = 0 := by omega
      show (if f 0 < f 0 then 0 else 0) = if g 0 < g 0 then 0 else 0
      simp
end Go.SchLaw
