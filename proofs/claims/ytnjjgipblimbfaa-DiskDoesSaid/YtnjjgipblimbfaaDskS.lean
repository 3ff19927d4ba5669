/-
  Disks: the program's and the document's, side by side.
-/
import Derived.Test.YtnjjgipblimbfaaDskW
set_option linter.unusedVariables false
set_option linter.unusedSimpArgs false
namespace Go.DskLaw
/-- The program's disk is the document's. -/
structure Sim (s N : Nat) (S : Nat → Int) (L : Int → Option (Nat → Int)) (ar : Bool) (ca : Int) (RS RL : Nat → Nat → Int) (W : Nat → Bool) (c : Int) : Prop where
  hN : N = 64 * s
  hs : 1 ≤ s ∧ s ≤ 4096
  rs : ∀ t x, x < 64 → RS t x = S (64 * t + x)
  rl : ∀ t x, x < 64 → RL t x = secV S L t x
  w : ∀ t : Nat, W t = (L (t : Int)).isSome
  hc : c = if ar then ca else -1
  hca : 0 ≤ ca ∧ ca ≤ 9223372036854775807
  key : ∀ k g, L k = some g → 0 ≤ k ∧ k < (s : Int)
  sb : ∀ x, x < N → 0 ≤ S x ∧ S x ≤ 255
  lb : ∀ k g, L k = some g → ∀ x, x < 64 → 0 ≤ g x ∧ g x ≤ 255
section
variable {s N : Nat} {S : Nat → Int} {L : Int → Option (Nat → Int)} {ar : Bool} {ca : Int} {RS RL : Nat → Nat → Int} {W : Nat → Bool} {c : Int}
theorem Sim.off (h : Sim s N S L ar ca RS RL W c) : c = 0 ↔ ar = true ∧ ca = 0 := by
  rw [h.hc]
  cases ar <;> simp
theorem Sim.crange (h : Sim s N S L ar ca RS RL W c) : -1 ≤ c ∧ c ≤ 9223372036854775807 := by
  rw [h.hc]; have := h.hca
  split <;> omega
theorem Sim.bytes (h : Sim s N S L ar ca RS RL W c) (t : Nat) (ht : t < s) : isB (secV S L t) := by
  intro x hx
  cases e : L (t : Int) with
  | some g => rw [secV_some' e]; exact h.lb _ _ e x hx
  | none => rw [secV_none' e]; exact h.sb _ (by rw [h.hN]; omega)
theorem Sim.rbytes (h : Sim s N S L ar ca RS RL W c) (t : Nat) (ht : t < s) : isB (RL t) := by
  intro x hx; rw [h.rl t x hx]; exact h.bytes t ht x hx
theorem Sim.start (hN : N = 64 * s) (hs : 1 ≤ s ∧ s ≤ 4096) (hS : ∀ x, S x = 0) (hL : ∀ k, L k = none) (hRS : ∀ t x, RS t x = 0) (hRL : ∀ t x, RL t x = 0) (hW : ∀ t, W t = false) : Sim s N S L false 0 RS RL W (-1) where
  hN := hN
  hs := hs
  rs := fun t x _ => by rw [hRS, hS]
  rl := fun t x _ => by rw [secV_none' (hL _), hRL, hS]
  w := fun t => by rw [hW, hL]; rfl
  hc := rfl
  hca := by omega
  key := fun k g h => by rw [hL] at h; cases h
  sb := fun x _ => by rw [hS]; omega
  lb := fun k g h => by rw [hL] at h; cases h
theorem Sim.write {i : Nat} {f : Nat → Int} {L' : Int → Option (Nat → Int)} {ca' c' : Int} {RL' : Nat → Nat → Int} {W' : Nat → Bool} (h : Sim s N S L ar ca RS RL W c) (ho : c ≠ 0) (hi : i < s) (hf : ∀ x, x < 64 → 0 ≤ f x ∧ f x ≤ 255) (hL' : ∀ k, L' k = if k = (i : Int) then some f else L k) (hca : ca' = if ar then ca - 1 else ca)
    (hRL : ∀ t x, RL' t x = if t = i then f x else RL t x) (hW : ∀ t, W' t = if t = i then true else W t) (hc' : c' = if 0 < c then c - 1 else c) : Sim s N S L' ar ca' RS RL' W' c' where
  hN := h.hN
  hs := h.hs
  rs := h.rs
  rl := fun t x hx => by
    rw [hRL]
    by_cases q : t = i
    · subst q; rw [if_pos rfl]; unfold secV; rw [hL', if_pos rfl]
    · rw [if_neg q, h.rl t x hx]; unfold secV; rw [hL', if_neg (by omega)]
  w := fun t => by
    rw [hW, hL']
    by_cases q : t = i
    · rw [if_pos q, if_pos (by omega)]; rfl
    · rw [if_neg q, if_neg (by omega)]; exact h.w t
  hc := by
    have h1 := h.hc; have h2 := h.hca
    rw [hc', hca]
    cases ar with
    | true => simp only [if_true] at h1 ⊢; rw [if_pos (by omega)]; omega
    | false => simp at h1 ⊢; rw [h1]; rfl
  hca := by
    have h1 := h.hc; have h2 := h.hca
    rw [hca]
    cases ar with
    | true => simp only [if_true] at h1 ⊢; omega
    | false => simpa using h2
  key := fun k g hk => by
    rw [hL'] at hk
    by_cases q : k = (i : Int)
    · omega
    · rw [if_neg q] at hk; exact h.key k g hk
  sb := h.sb
  lb := fun k g hk => by
    rw [hL'] at hk
    by_cases q : k = (i : Int)
    · rw [if_pos q] at hk; cases hk; exact hf
    · rw [if_neg q] at hk; exact h.lb k g hk
theorem Sim.flush {S' : Nat → Int} {L' : Int → Option (Nat → Int)} {ca' c' : Int} {W' : Nat → Bool} (h : Sim s N S L ar ca RS RL W c) (ho : c ≠ 0) (hS' : ∀ x, S' x = secV S L (x / 64) (x % 64)) (hL' : ∀ k, L' k = none) (hca : ca' = if ar then ca - 1 else ca)
    (hW : ∀ t, W' t = false) (hc' : c' = if 0 < c then c - 1 else c) : Sim s N S' L' ar ca' RL RL W' c' where
  hN := h.hN
  hs := h.hs
  rs := fun t x hx => by rw [h.rl t x hx, hS', show (64 * t + x) / 64 = t by omega, show (64 * t + x) % 64 = x by omega]
  rl := fun t x hx => by
    rw [h.rl t x hx]
    conv => rhs; unfold secV
    rw [hL']
    simp only []
    rw [hS', show (64 * t + x) / 64 = t by omega, show (64 * t + x) % 64 = x by omega]
  w := fun t => by rw [hW, hL']; rfl
  hc := by
    have h1 := h.hc; have h2 := h.hca
    rw [hc', hca]
    cases ar with
    | true => simp only [if_true] at h1 ⊢; rw [if_pos (by omega)]; omega
    | false => simp at h1 ⊢; rw [h1]; rfl
  hca := by
    have h1 := h.hc; have h2 := h.hca
    rw [hca]
    cases ar with
    | true => simp only [if_true] at h1 ⊢; omega
    | false => simpa using h2
  key := fun k g hk => by rw [hL'] at hk; cases hk
  sb := fun x hx => by
    rw [hS']
    have := h.hN
    exact h.bytes (x / 64) (by omega) (x % 64) (by omega)
  lb := fun k g hk => by rw [hL'] at hk; cases hk
theorem Sim.stop {ar' : Bool} {ca' c' n : Int} (h : Sim s N S L ar ca RS RL W c) (ho : c ≠ 0) (hn : n ≤ 9223372036854775807) (har : ar' = true ↔ 0 ≤ n) (hca : ca' = if n < 0 then 0 else n) (hc' : c' = if n < 0 then -1 else n) : Sim s N S L ar' ca' RS RL W c' :=
  { h with
    hc := by
      rw [hc', hca]
      by_cases q : n < 0
      · have : ar' = false := by
          cases ar' with
          | false => rfl
          | true => have := har.1 rfl; omega
        rw [if_pos q, this]; rfl
      · rw [if_neg q, if_neg q, har.2 (by omega)]; rfl
    hca := by rw [hca]; split <;> omega }
theorem Sim.crash {S' : Nat → Int} {L' : Int → Option (Nat → Int)} {R' : Nat → Nat → Int} {W' : Nat → Bool} {M : Nat → Nat} {ks kb : Nat → Int} {n : Nat} (h : Sim s N S L ar ca RS RL W c) (hS' : ∀ x, S' x = (crashP S L ks kb n).1 x) (hL' : ∀ k, L' k = none)
    (hM : ∀ t, M t = if W t then clampB (fromP ks kb (t : Int) n n) else 0) (hR : ∀ t x, R' t x = if x < M t then RL t x else RS t x) (hW : ∀ t, W' t = false) : Sim s N S' L' false 0 R' R' W' (-1) := by
  have hc := (crashP_eq (S := S) (L := L) (ks := ks) (kb := kb) (fun k g hk => (h.key k g hk).1) n).2
  have hR' : ∀ t x, x < 64 → R' t x = S' (64 * t + x) := fun t x hx => by
    rw [hS', hc t x hx, hR, hM, h.w]
    unfold secC
    cases e : L (t : Int) with
    | none =>
      simp only [Option.isSome_none, Bool.false_eq_true, if_false]
      rw [if_neg (by omega)]; exact h.rs t x hx
    | some g =>
      simp only [Option.isSome_some, if_true]
      rw [fromP_all, h.rl t x hx, h.rs t x hx]
      unfold secV; rw [e]
  exact {
    hN := h.hN, hs := h.hs, rs := hR'
    rl := fun t x hx => by rw [hR' t x hx]; unfold secV; rw [hL']
    w := fun t => by rw [hW, hL']; rfl
    hc := rfl
    hca := by omega
    key := fun k g hk => by rw [hL'] at hk; cases hk
    sb := fun x hx => by
      have e : x = 64 * (x / 64) + x % 64 := by omega
      have hN := h.hN
      rw [hS', e, hc (x / 64) (x % 64) (by omega)]
      unfold secC
      split
      · rename_i g hg
        split
        · exact h.lb _ _ hg _ (by omega)
        · exact h.sb _ (by omega)
      · exact h.sb _ (by omega)
    lb := fun k g hk => by rw [hL'] at hk; cases hk }
end
end Go.DskLaw
namespace Go.DskLaw
theorem secV_all {S : Nat → Int} {L : Int → Option (Nat → Int)} (hL : ∀ k, L k = none) (x : Nat) : S x = secV S L (x / 64) (x % 64) := by
  rw [secV_none' (hL _), show 64 * (x / 64) + x % 64 = x by omega]
theorem crashP_none {S : Nat → Int} {L : Int → Option (Nat → Int)} {ks kb : Nat → Int} {n : Nat} (hL : ∀ k, L k = none) (x : Nat) : S x = (crashP S L ks kb n).1 x := by
  have e := (crashP_eq (S := S) (L := L) (ks := ks) (kb := kb) (fun k g h => by rw [hL] at h; cases h) n).2 (x / 64) (x % 64) (Nat.mod_lt _ (by omega))
  rw [show 64 * (x / 64) + x % 64 = x by omega] at e
  rw [e]; unfold secC; rw [hL]
  show S x = S (64 * (x / 64) + x % 64)
  rw [show 64 * (x / 64) + x % 64 = x by omega]
/-- DiskSure: behind the front of what was written last are the flushed bytes. -/
theorem sure_front {S S2 : Nat → Int} {L : Int → Option (Nat → Int)} {ks kb : Nat → Int} {n : Nat} (hk : ∀ k g, L k = some g → 0 ≤ k) (hS2 : ∀ x, S2 x = (crashP S L ks kb n).1 x) (t y : Nat) (hy : y ≤ 64) (hall : ∀ u, u < y → S2 (64 * t + u) = secV S L t u) (hne : y = 64 ∨ S2 (64 * t + y) ≠ secV S L t y) :
    ∀ u, y ≤ u → u < 64 → S2 (64 * t + u) = S (64 * t + u) := by
  have hc := (crashP_eq (S := S) (L := L) (ks := ks) (kb := kb) hk n).2
  intro u h1 h2
  rcases hne with h | h
  · omega
  · rw [hS2, hc t y (by omega)] at h
    rw [hS2, hc t u h2]
    unfold secC secV at *
    cases e : L (t : Int) with
    | none => rfl
    | some g =>
      rw [e] at h
      simp only [] at h ⊢
      by_cases q : y < (keptB ks kb (t : Int) n).getD 0
      · rw [if_pos q] at h; exact absurd rfl h
      · rw [if_neg (by omega)]
end Go.DskLaw
