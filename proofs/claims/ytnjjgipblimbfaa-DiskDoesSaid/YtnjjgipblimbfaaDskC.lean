/-
  Records on sectors: plain facts of a crash.
-/
import Derived.Test.YtnjjgipblimbfaaDskL
set_option linter.unusedVariables false
set_option linter.unusedSimpArgs false
namespace Go.DskLaw
/-- The sure bytes, where the first sectors of records in a row were flushed. -/
def rowS (len : Nat → Nat) (r : Nat → Nat → Int) (m f : Nat) : Nat → Int := fun x => if x < 64 * f then pieceAt 0 len r m (x / 64) (x % 64) else 0
/-- What waits behind. -/
def rowW (len : Nat → Nat) (r : Nat → Nat → Int) (m f w : Nat) : Int → Option (Nat → Int) := fun k => if (f : Int) ≤ k ∧ k < (w : Int) then some (pieceAt 0 len r m k.toNat) else none
variable {len : Nat → Nat} {r : Nat → Nat → Int} {m f w : Nat}
theorem rowS_0 (x : Nat) : rowS len r m 0 x = 0 := by unfold rowS; rw [if_neg (by omega)]
theorem rowW_0 (k : Int) : rowW len r m f f k = none := by unfold rowW; rw [if_neg (by omega)]
theorem rowW_some {k : Int} {g : Nat → Int} (h : rowW len r m f w k = some g) : (f : Int) ≤ k ∧ k < (w : Int) ∧ g = pieceAt 0 len r m k.toNat := by
  unfold rowW at h
  split at h
  · rename_i q; cases h; exact ⟨q.1, q.2, rfl⟩
  · cases h
theorem rowW_in {t : Nat} (h1 : f ≤ t) (h2 : t < w) : rowW len r m f w (t : Int) = some (pieceAt 0 len r m t) := by
  unfold rowW; rw [if_pos (by omega)]; rfl
theorem rowW_out {t : Nat} (h : t < f ∨ w ≤ t) : rowW len r m f w (t : Int) = none := by
  unfold rowW; rw [if_neg (by omega)]
theorem rowW_step {i q : Nat} (hi : i < m) (hf : f ≤ atN 0 len i) (hq : q ≤ needN (len i)) (k : Int) :
    rowW len r m f (atN 0 len i + q) k = if ((atN 0 len i : Nat) : Int) ≤ k ∧ k < ((atN 0 len i : Nat) : Int) + (q : Nat) then some (pcs (len i) (r i) (k - (atN 0 len i : Nat)).toNat) else rowW len r m f (atN 0 len i) k := by
  unfold rowW
  by_cases h : ((atN 0 len i : Nat) : Int) ≤ k ∧ k < ((atN 0 len i : Nat) : Int) + (q : Nat)
  · rw [if_pos h, if_pos (by omega)]
    obtain ⟨j, hj⟩ : ∃ j : Nat, k = ((atN 0 len i + j : Nat) : Int) := ⟨k.toNat - atN 0 len i, by omega⟩
    rw [hj, show ((atN 0 len i + j : Nat) : Int).toNat = atN 0 len i + j from Int.toNat_natCast _, pieceAt_eq (by omega) m hi]
    rw [show (((atN 0 len i + j : Nat) : Int) - (atN 0 len i : Nat)).toNat = j by omega]
  · rw [if_neg h]
    by_cases h2 : (f : Int) ≤ k ∧ k < ((atN 0 len i : Nat) : Int)
    · rw [if_pos h2, if_pos (by omega)]
    · rw [if_neg h2, if_neg (by omega)]
theorem rowS_flush (hf : f ≤ w) (x : Nat) : rowS len r m w x = secV (rowS len r m f) (rowW len r m f w) (x / 64) (x % 64) := by
  by_cases h : f ≤ x / 64 ∧ x / 64 < w
  · rw [secV_some' (rowW_in h.1 h.2)]
    unfold rowS; rw [if_pos (by omega)]
  · rw [secV_none' (rowW_out (by omega)), show 64 * (x / 64) + x % 64 = x by omega]
    unfold rowS
    by_cases q : x < 64 * f
    · rw [if_pos q, if_pos (by omega)]
    · rw [if_neg q, if_neg (by omega)]
/-- SlabCrash: what is left behind a crash. -/
theorem crash_left {put sure n : Nat} {ks kb : Nat → Int} (hlen : ∀ i, i < put → len i ≤ 65536) (hb : ∀ i, i < m → ∀ x, x < len i → 0 ≤ r i x ∧ r i x ≤ 255) (hpm : put ≤ m) (hsp : sure ≤ put) (hf : f = atN 0 len sure) (hfw : f ≤ w) (hw : w ≤ atN 0 len put) (hw40 : w ≤ 40) :
    ∃ (S' : Nat → Int) (V : Nat → Nat → Int) (c0 : Nat) (gs : Nat → Nat × (Nat → Int)) (last : Nat), sure ≤ c0 ∧ c0 ≤ put ∧ (∀ x, S' x = (crashP (rowS len r m f) (rowW len r m f w) ks kb n).1 x) ∧ (∀ t, t < 40 → V t = secV S' (fun _ => none) t ∧ isB (V t)) ∧
      scanP V 40 (40 - 0 + 1) 0 0 (fun _ => (0, fun _ => 0)) = (c0, gs, last) ∧ ∀ u, u < c0 → (gs u).1 = len u ∧ ∀ x, x < len u → (gs u).2 x = r u x := by
  obtain ⟨S', hS'⟩ : ∃ S' : Nat → Int, ∀ x, S' x = (crashP (rowS len r m f) (rowW len r m f w) ks kb n).1 x := ⟨_, fun _ => rfl⟩
  obtain ⟨V, hV⟩ : ∃ V : Nat → Nat → Int, ∀ t, V t = secV S' (fun _ => none) t := ⟨_, fun _ => rfl⟩
  have hcr := (crashP_eq (S := rowS len r m f) (L := rowW len r m f w) (ks := ks) (kb := kb) (fun k g h => by have := rowW_some h; omega) n).2
  have hVx : ∀ t x, x < 64 → V t x = secC (rowS len r m f) (rowW len r m f w) ks kb n t x := fun t x hx => by
    rw [hV, secV_none' rfl, hS', hcr t x hx]
  have lo : ∀ t x, t < f → x < 64 → V t x = pieceAt 0 len r m t x := fun t x ht hx => by
    rw [hVx t x hx]; unfold secC; rw [rowW_out (.inl ht)]; simp only []
    unfold rowS; rw [if_pos (by omega), show (64 * t + x) / 64 = t by omega, show (64 * t + x) % 64 = x by omega]
  have hi : ∀ t x, w ≤ t → x < 64 → V t x = 0 := fun t x ht hx => by
    rw [hVx t x hx]; unfold secC; rw [rowW_out (.inr ht)]; simp only []
    unfold rowS; rw [if_neg (by omega)]
  have mid : ∀ t, f ≤ t → t < w → (∀ x, x < 64 → V t x = pieceAt 0 len r m t x) ∨ usedP (V t) = none := fun t h1 h2 => by
    rcases torn (S := rowS len r m f) (L := rowW len r m f w) (ks := ks) (kb := kb) (n := n) (rowW_in h1 h2) (by unfold rowS; rw [if_neg (by omega)]) with h | h
    · exact .inl fun x hx => by rw [hVx t x hx, h x hx]
    · exact .inr ((usedP_congr (hVx t)).trans h)
  have hpa : ∀ i, i < m → ∀ j, j < needN (len i) → pieceAt 0 len r m (atN 0 len i + j) = pcs (len i) (r i) j := fun i hi j hj => pieceAt_eq hj m hi
  obtain ⟨c0, h1, h2, h3⟩ := crash_row (V := V) (o := 0) (fin := 40) (sure := sure) (put := put) (w := w) (len := len) (r := r) hlen hsp (fun c hc hall => by
      have := hall (needN (len c) - 1) (by have := need1 (len c); omega)
      show atN 0 len c + needN (len c) ≤ 40
      omega) hw (by omega)
    (fun i hi j hj x hx => by
      have : atN 0 len (i + 1) ≤ atN 0 len sure := atN_mono (by omega)
      have e : atN 0 len (i + 1) = atN 0 len i + needN (len i) := rfl
      rw [lo _ x (by omega) hx, hpa i (by omega) j hj])
    (fun i hi' j hj => by
      by_cases q1 : atN 0 len i + j < f
      · exact .inl fun x hx => by rw [lo _ x q1 hx, hpa i (by omega) j hj]
      · by_cases q2 : atN 0 len i + j < w
        · rcases mid _ (by omega) q2 with h | h
          · exact .inl fun x hx => by rw [h x hx, hpa i (by omega) j hj]
          · exact .inr h
        · exact .inr (usedP_zero (hi _ 63 (by omega) (by omega))))
    (fun t ht => usedP_zero (hi _ 63 ht (by omega)))
  obtain ⟨gs, h4, h5⟩ := h3 (fun _ => (0, fun _ => 0))
  refine ⟨S', V, c0, gs, _, h1, h2, hS', fun t ht => ⟨hV t, fun x hx => ?_⟩, h4, h5⟩
  have hpB := isB_pieceAt (o := 0) m hb t x hx
  rw [hVx t x hx]
  unfold secC
  have hsB : 0 ≤ rowS len r m f (64 * t + x) ∧ rowS len r m f (64 * t + x) ≤ 255 := by
    unfold rowS
    split
    · rw [show (64 * t + x) / 64 = t by omega, show (64 * t + x) % 64 = x by omega]; exact hpB
    · omega
  split
  · rename_i g hg
    have e := (rowW_some hg).2.2
    rw [show ((t : Nat) : Int).toNat = t from Int.toNat_natCast _] at e
    subst e
    split
    · exact hpB
    · exact hsB
  · exact hsB
end Go.DskLaw
