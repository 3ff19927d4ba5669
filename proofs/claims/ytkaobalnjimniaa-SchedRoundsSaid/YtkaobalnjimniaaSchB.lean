/-
  Plain law of schedules: what a whole round of turns does.
-/
import Derived.Test.YtkaobalnjimniaaSchA
set_option linter.unusedVariables false
set_option linter.unusedSimpArgs false
namespace Go.SchLaw
theorem nextV_gt (c s e : Nat) (he : 0 < e) : c < nextV c s e := by
  have := (nextV_spec c s e he).1; omega
theorem upV_zero (s e : Nat) (he : 0 < e) : upV 0 s e = 0 := by
  unfold upV; rw [if_pos (nextV_gt 0 s e he)]
theorem upV_at (s e j : Nat) (he : 0 < e) : upV (nextV 0 s e + e * j) s e = j + 1 := by
  unfold upV
  rw [if_neg (by omega), Nat.add_sub_cancel_left, Nat.mul_div_cancel_left _ he]
section
variable (s e tn : Nat) (he : 0 < e) (ht : 0 < tn) (x : PS) (hc : x.c = 0) (hn : x.n = 0)
include he hc in
theorem round_c : ∀ j, (planP s e tn x (j + 1)).c = nextV 0 s e + e * j ∧ upV (planP s e tn x j).c s e = j := by
  intro j
  induction j with
  | zero => exact ⟨by show nextV x.c s e = _; rw [hc]; omega, by show upV x.c s e = 0; rw [hc]; exact upV_zero s e he⟩
  | succ j ih =>
    have h1 : upV (planP s e tn x (j + 1)).c s e = j + 1 := by rw [ih.1]; exact upV_at s e j he
    refine ⟨?_, h1⟩
    show nextV (planP s e tn x (j + 1)).c s e = _
    rw [nextV_up _ s e he, h1]
theorem minAt_uniq (f : Nat → Int) (r : Nat) : ∀ n, r < n → (∀ i, i < n → i ≠ r → f r < f i) → minAt f n = r := by
  intro n
  induction n with
  | zero => intro h; omega
  | succ k ih =>
    intro h1 h2
    unfold minAt
    by_cases hk : r = k
    · subst hk
      by_cases h0 : r = 0
      · subst h0; show (if f 0 < f 0 then 0 else 0) = 0; simp
      · have h3 := minAt_lt f r (by omega)
        rw [if_pos (h2 _ (by omega) (by omega))]
    · have h3 := ih (by omega) (fun i hi => h2 i (by omega))
      rw [h3]
      have := h2 k (by omega) (fun h => hk h.symm)
      rw [if_neg (by omega)]
theorem mod_succ (a t : Nat) (h : 0 < t) : ((a + 1) % t = 0 ∧ a % t = t - 1) ∨ ((a + 1) % t = a % t + 1) := by
  have h1 := Nat.div_add_mod a t
  have h2 := Nat.mod_lt a h
  by_cases h3 : a % t + 1 = t
  · left
    refine ⟨?_, by omega⟩
    rw [show a + 1 = t * (a / t + 1) by rw [Nat.mul_add]; omega]
    exact Nat.mul_mod_right _ _
  · right
    rw [show a + 1 = (a % t + 1) + t * (a / t) by omega, Nat.add_mul_mod_self_left, Nat.mod_eq_of_lt (by omega)]
theorem mod_sub (j i t : Nat) (hi : i < t) (hij : i ≤ j) (h : (j - i) % t = 0) : i = j % t := by
  have h1 := Nat.div_add_mod (j - i) t
  rw [h] at h1
  rw [show j = i + t * ((j - i) / t) by omega, Nat.add_mul_mod_self_left, Nat.mod_eq_of_lt hi]
theorem sub_mod_self (j t : Nat) : (j - j % t) % t = 0 := by
  have h1 := Nat.div_add_mod j t
  rw [show j - j % t = t * (j / t) by omega]
  exact Nat.mul_mod_right _ _
/-- What stands behind j turns. -/
def RoundAt (s e tn : Nat) (x : PS) (j : Nat) : Prop :=
  (planP s e tn x j).n = min j tn ∧ (∀ i, i < j → (planP s e tn x j).p i = ((i % tn : Nat) : Int)) ∧
    ∀ i, i < min j tn → (planP s e tn x j).b i = ((nextV 0 s e + e * (j - 1 - (j - 1 - i) % tn) : Nat) : Int)
include he ht hc hn in
theorem round_at : ∀ j, RoundAt s e tn x j := by
  intro j
  induction j with
  | zero => exact ⟨by show x.n = _; rw [hn]; omega, fun i hi => by omega, fun i hi => by omega⟩
  | succ j ih =>
    obtain ⟨h1, h2, h3⟩ := ih
    have hrt : j % tn < tn := Nat.mod_lt j ht
    have hat : atOf tn (planP s e tn x j).n (planP s e tn x j).b = j % tn := by
      unfold atOf
      rw [h1]
      by_cases hj : j < tn
      · rw [if_pos (by omega), Nat.mod_eq_of_lt hj]; omega
      · rw [if_neg (by omega)]
        refine minAt_uniq _ _ _ (by omega) (fun i hi hne => ?_)
        rw [h3 i hi, h3 (j % tn) (by omega)]
        have g1 := sub_mod_self j tn
        have g2 := mod_succ (j - 1 - j % tn) tn ht
        have g3 := mod_succ (j - 1 - i) tn ht
        have g4 := mod_sub j i tn (by omega) (by omega)
        rw [show j - 1 - j % tn + 1 = j - j % tn by omega] at g2
        rw [show j - 1 - i + 1 = j - i by omega] at g3
        have g5 := Nat.mod_le (j - 1 - i) tn
        have g6 := Nat.mod_lt (j - 1 - i) ht
        have g7 := Nat.mod_le (j - 1 - j % tn) tn
        have g8 : (j - 1 - j % tn) % tn = tn - 1 := by omega
        have g9 : (j - 1 - i) % tn < tn - 1 := by
          rcases g3 with g3 | g3
          · exact absurd (g4 g3.1) hne
          · by_cases q : (j - 1 - i) % tn = tn - 1
            · have := Nat.mod_lt (j - i) ht; omega
            · omega
        have : e * (j - 1 - (j - 1 - j % tn) % tn) < e * (j - 1 - (j - 1 - i) % tn) := Nat.mul_lt_mul_of_pos_left (by omega) he
        omega
    have hcj := (round_c s e tn he x hc j).1
    have en : (planP s e tn x (j + 1)).n = if atOf tn (planP s e tn x j).n (planP s e tn x j).b = (planP s e tn x j).n then (planP s e tn x j).n + 1 else (planP s e tn x j).n := rfl
    have ep : ∀ i, (planP s e tn x (j + 1)).p i = if i = j then (atOf tn (planP s e tn x j).n (planP s e tn x j).b : Int) else (planP s e tn x j).p i := fun _ => rfl
    have eb : ∀ i, (planP s e tn x (j + 1)).b i = if i = atOf tn (planP s e tn x j).n (planP s e tn x j).b then ((planP s e tn x (j + 1)).c : Int) else (planP s e tn x j).b i := fun _ => rfl
    rw [hat] at en
    simp only [hat] at ep eb
    rw [h1] at en
    have hjm : j < tn → j % tn = j := fun h => Nat.mod_eq_of_lt h
    refine ⟨?_, fun i hi => ?_, fun i hi => ?_⟩
    · rw [en]
      by_cases hj : j < tn
      · rw [if_pos (by rw [hjm hj]; omega)]; omega
      · rw [if_neg (by omega)]; omega
    · rw [ep]
      split
      · rename_i h; rw [h]
      · exact h2 i (by omega)
    · rw [eb, hcj]
      split
      · rename_i h
        rw [h, show j + 1 - 1 = j by omega, sub_mod_self]; rfl
      · rename_i h
        have hij : i < j := by
          by_cases q : i = j
          · exact absurd (by rw [q, hjm (by omega)]) h
          · omega
        rw [h3 i (by omega), show j + 1 - 1 = j by omega]
        have g3 := mod_succ (j - 1 - i) tn ht
        have g4 := mod_sub j i tn (by omega) (by omega)
        rw [show j - 1 - i + 1 = j - i by omega] at g3
        have g5 := Nat.mod_le (j - i) tn
        have g6 : j - 1 - (j - 1 - i) % tn = j - (j - i) % tn := by
          rcases g3 with g3 | g3
          · exact absurd (g4 g3.1) h
          · omega
        rw [g6]
include he ht hc hn in
theorem round_born (T : Nat) : ∀ i, i < min T tn → ∃ b : Nat, (planP s e tn x T).b i = (b : Int) ∧ b ≤ (planP s e tn x T).c ∧ (planP s e tn x T).c - b ≤ (tn - 1) * e := by
  intro i hi
  have h := (round_at s e tn he ht x hc hn T).2.2 i hi
  obtain ⟨T, rfl⟩ : ∃ k, T = k + 1 := ⟨T - 1, by omega⟩
  have hc' := (round_c s e tn he x hc T).1
  refine ⟨_, h, ?_, ?_⟩
  · rw [hc']
    exact Nat.add_le_add_left (Nat.mul_le_mul_left _ (by omega)) _
  · rw [hc']
    have g := Nat.mod_lt (T + 1 - 1 - i) ht
    have g2 := Nat.mod_le (T + 1 - 1 - i) tn
    have : nextV 0 s e + e * T - (nextV 0 s e + e * (T + 1 - 1 - (T + 1 - 1 - i) % tn)) = e * ((T + 1 - 1 - i) % tn) := by
      rw [Nat.add_sub_add_left, ← Nat.mul_sub]
      congr 1
      omega
    rw [this, Nat.mul_comm (tn - 1)]
    exact Nat.mul_le_mul_left _ (by omega)
end
end Go.SchLaw
