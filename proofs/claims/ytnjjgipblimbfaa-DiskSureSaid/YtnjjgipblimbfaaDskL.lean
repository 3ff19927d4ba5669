/-
  Records on sectors: plain facts of the short run that must come out.
-/
import Derived.Test.YtnjjgipblimbfaaDskP
set_option linter.unusedVariables false
set_option linter.unusedSimpArgs false
namespace Go.DskLaw
theorem needN_63 : needN 63 = 2 := rfl
theorem secV_none' {S : Nat → Int} {L : Int → Option (Nat → Int)} {i : Nat} (h : L (i : Int) = none) (x : Nat) : secV S L i x = S (64 * i + x) := by unfold secV; rw [h]
theorem secV_some' {S : Nat → Int} {L : Int → Option (Nat → Int)} {i : Nat} {g : Nat → Int} (h : L (i : Int) = some g) : secV S L i = g := by unfold secV; rw [h]
theorem lives26_facts (g0 : Nat → Nat × (Nat → Int)) : ∃ (z nine : Nat → Int) (L0 L1 L2 L3 : Int → Option (Nat → Int)) (V : Nat → Nat → Int) (gs : Nat → Nat × (Nat → Int)) (f' : Nat → Int),
    (∀ x, z x = 0) ∧ (∀ x, nine x = 9) ∧ (∀ k, L0 k = none) ∧ (∀ i, L1 i = if ((1 : Nat) : Int) ≤ i ∧ i < ((1 : Nat) : Int) + (2 : Nat) then some (pcs 63 z (i - (1 : Nat)).toNat) else L0 i) ∧
    (∀ i, L2 i = if ((3 : Nat) : Int) ≤ i ∧ i < ((3 : Nat) : Int) + (1 : Nat) then some (pcs 1 nine (i - (3 : Nat)).toNat) else L1 i) ∧ (∀ i, i < 6 → V i = secV z L2 i ∧ isB (V i)) ∧
    scanP V 6 (6 - 1 + 1) 1 0 g0 = (2, gs, 4) ∧ getP V 3 6 (6 - 3) 3 0 (fun _ => 0) = some (1, f', 4) ∧ f' 0 = 9 ∧ getP V 4 6 (6 - 4) 4 0 (fun _ => 0) = none ∧ wipeP V false (6 - 0) 0 0 L2 0 = (some 3, L3, 0) := by
  obtain ⟨z, hz⟩ : ∃ z : Nat → Int, ∀ x, z x = 0 := ⟨fun _ => 0, fun _ => rfl⟩
  obtain ⟨nine, h9⟩ : ∃ z : Nat → Int, ∀ x, z x = 9 := ⟨fun _ => 9, fun _ => rfl⟩
  obtain ⟨L0, hL0⟩ : ∃ L0 : Int → Option (Nat → Int), ∀ k, L0 k = none := ⟨fun _ => none, fun _ => rfl⟩
  obtain ⟨L1, hL1⟩ : ∃ L1 : Int → Option (Nat → Int), ∀ i, L1 i = if ((1 : Nat) : Int) ≤ i ∧ i < ((1 : Nat) : Int) + (2 : Nat) then some (pcs 63 z (i - (1 : Nat)).toNat) else L0 i := ⟨_, fun _ => rfl⟩
  obtain ⟨L2, hL2⟩ : ∃ L2 : Int → Option (Nat → Int), ∀ i, L2 i = if ((3 : Nat) : Int) ≤ i ∧ i < ((3 : Nat) : Int) + (1 : Nat) then some (pcs 1 nine (i - (3 : Nat)).toNat) else L1 i := ⟨_, fun _ => rfl⟩
  obtain ⟨V, hV⟩ : ∃ V : Nat → Nat → Int, ∀ i, V i = secV z L2 i := ⟨_, fun _ => rfl⟩
  have v0 : ∀ x, V 0 x = 0 := fun x => by rw [hV, secV_none' (by rw [hL2, if_neg (by decide), hL1, if_neg (by decide), hL0]), hz]
  have v1 : V 1 = pcs 63 z 0 := by rw [hV, secV_some' (by rw [hL2, if_neg (by decide), hL1, if_pos (by decide)])]; rfl
  have v2 : V 2 = pcs 63 z 1 := by rw [hV, secV_some' (by rw [hL2, if_neg (by decide), hL1, if_pos (by decide)])]; rfl
  have v3 : V 3 = pcs 1 nine 0 := by rw [hV, secV_some' (by rw [hL2, if_pos (by decide)])]; rfl
  have v4 : ∀ x, V 4 x = 0 := fun x => by rw [hV, secV_none' (by rw [hL2, if_neg (by decide), hL1, if_neg (by decide), hL0]), hz]
  have v5 : ∀ x, V 5 x = 0 := fun x => by rw [hV, secV_none' (by rw [hL2, if_neg (by decide), hL1, if_neg (by decide), hL0]), hz]
  obtain ⟨len, hlen⟩ : ∃ len : Nat → Nat, len = fun i => if i = 0 then 63 else 1 := ⟨_, rfl⟩
  obtain ⟨r, hr⟩ : ∃ r : Nat → Nat → Int, r = fun i => if i = 0 then z else nine := ⟨_, rfl⟩
  have a0 : atN 1 len 0 = 1 := rfl
  have a1 : atN 1 len 1 = 3 := by rw [hlen]; rfl
  have a2 : atN 1 len 2 = 4 := by rw [hlen]; rfl
  have n0 : needN (len 0) = 2 := by rw [hlen]; rfl
  have n1 : needN (len 1) = 1 := by rw [hlen]; rfl
  have hB0 : isB fun _ => (0 : Int) := fun x _ => ⟨Int.le_refl _, by show (0 : Int) ≤ 255; decide⟩
  obtain ⟨gs, hgs, _⟩ := scan_row (V := V) (o := 1) (fin := 6) (c0 := 2) (len := len) (r := r) (fun i _ => by rw [hlen]; simp only []; split <;> omega) (by rw [a2]; omega)
    (fun i hi j hj x hx => by
      rcases (show i = 0 ∨ i = 1 by omega) with rfl | rfl
      · rw [n0] at hj
        rw [a0]
        rcases (show j = 0 ∨ j = 1 by omega) with rfl | rfl
        · rw [v1, hr, hlen]; rfl
        · rw [v2, hr, hlen]; rfl
      · rw [n1] at hj
        obtain rfl : j = 0 := by omega
        rw [a1, v3, hr, hlen]; rfl)
    (by rw [a2]; exact getP_zero fun _ => v4 63) 2 0 (6 - 1 + 1) g0 rfl (by rw [a0]; decide) (fun u hu => by omega)
  rw [a0, a2] at hgs
  obtain ⟨f', hf', hf9⟩ := getP_whole (V := V) (first := 3) (fin := 6) (n := 1) (r := nine) (by decide) (by omega) (fun j hj x hx => by
    obtain rfl : j = 0 := by have : needN 1 = 1 := rfl; omega
    rw [v3]) 0 0 (fun _ => 0) rfl (fun i h => by omega)
  refine ⟨z, nine, L0, L1, L2, (wipeP V false 6 0 0 L2 0).2.1, V, gs, f', hz, h9, hL0, hL1, hL2, fun i hi => ⟨hV i, ?_⟩, hgs, hf', (hf9 0 (by omega)).trans (h9 0), getP_zero fun _ => v4 63, ?_⟩
  · rcases (show i = 0 ∨ i = 1 ∨ i = 2 ∨ i = 3 ∨ i = 4 ∨ i = 5 by omega) with rfl | rfl | rfl | rfl | rfl | rfl
    · rw [show V 0 = fun _ => 0 from funext v0]; exact hB0
    · rw [v1]; exact isB_pcs (fun x _ => by rw [hz]; decide) _
    · rw [v2]; exact isB_pcs (fun x _ => by rw [hz]; decide) _
    · rw [v3]; exact isB_pcs (fun x _ => by rw [h9]; decide) _
    · rw [show V 4 = fun _ => 0 from funext v4]; exact hB0
    · rw [show V 5 = fun _ => 0 from funext v5]; exact hB0
  · have off : ¬ (false = true ∧ (0 : Int) = 0) := fun h => by cases h.1
    have e : ∃ L3, wipeP V false 6 0 0 L2 0 = (some 3, L3, 0) := by
      rw [wipeP_blank off (fun i _ => v0 i), wipeP_full off (fun h => by have := h 62 (by omega); rw [v1] at this; rw [pcs_62] at this; revert this; decide)]
      rw [show (if false = true then (0 : Int) - 1 else 0) = 0 from rfl]
      rw [wipeP_full off (fun h => by have := h 62 (by omega); rw [v2] at this; rw [pcs_62] at this; revert this; decide)]
      rw [show (if false = true then (0 : Int) - 1 else 0) = 0 from rfl]
      rw [wipeP_full off (fun h => by have := h 62 (by omega); rw [v3] at this; rw [pcs_62] at this; revert this; decide)]
      rw [show (if false = true then (0 : Int) - 1 else 0) = 0 from rfl]
      rw [wipeP_blank off (fun i _ => v4 i), wipeP_blank off (fun i _ => v5 i)]
      exact ⟨_, rfl⟩
    obtain ⟨L3, h3⟩ := e
    show wipeP V false 6 0 0 L2 0 = _
    rw [h3]
end Go.DskLaw
namespace Go.DskLaw
/-- What waits behind records in a row were put. -/
def rowL (o : Nat) (len : Nat → Nat) (r : Nat → Nat → Int) (m t : Nat) : Int → Option (Nat → Int) := fun k => if (o : Int) ≤ k ∧ k < (t : Int) then some (pieceAt o len r m k.toNat) else none
theorem rowL_0 {o : Nat} {len : Nat → Nat} {r : Nat → Nat → Int} {m : Nat} (k : Int) : rowL o len r m (atN o len 0) k = none := by
  unfold rowL; rw [if_neg]; show ¬ ((o : Int) ≤ k ∧ k < (o : Int)); omega
theorem rowL_step {o : Nat} {len : Nat → Nat} {r : Nat → Nat → Int} {m i : Nat} (hi : i < m) (k : Int) (q : Nat) (hq : q ≤ needN (len i)) :
    rowL o len r m (atN o len i + q) k = if ((atN o len i : Nat) : Int) ≤ k ∧ k < ((atN o len i : Nat) : Int) + (q : Nat) then some (pcs (len i) (r i) (k - (atN o len i : Nat)).toNat) else rowL o len r m (atN o len i) k := by
  have ho := le_atN o len i
  unfold rowL
  by_cases h : ((atN o len i : Nat) : Int) ≤ k ∧ k < ((atN o len i : Nat) : Int) + (q : Nat)
  · rw [if_pos h, if_pos (by omega)]
    obtain ⟨j, hj⟩ : ∃ j : Nat, k = ((atN o len i + j : Nat) : Int) := ⟨k.toNat - atN o len i, by omega⟩
    rw [hj, show ((atN o len i + j : Nat) : Int).toNat = atN o len i + j from Int.toNat_natCast _, pieceAt_eq (by omega) m hi]
    rw [show (((atN o len i + j : Nat) : Int) - (atN o len i : Nat)).toNat = j by omega]
  · rw [if_neg h]
    by_cases h2 : (o : Int) ≤ k ∧ k < ((atN o len i : Nat) : Int)
    · rw [if_pos h2, if_pos (by omega)]
    · rw [if_neg h2, if_neg (by omega)]
theorem rowL_at {o : Nat} {len : Nat → Nat} {r : Nat → Nat → Int} {m t i j : Nat} (hi : i < m) (hj : j < needN (len i)) (ht : atN o len i + j < t) : rowL o len r m t ((atN o len i + j : Nat) : Int) = some (pcs (len i) (r i) j) := by
  have ho := le_atN o len i
  unfold rowL
  rw [if_pos (by omega), show ((atN o len i + j : Nat) : Int).toNat = atN o len i + j from Int.toNat_natCast _, pieceAt_eq hj m hi]
theorem rowL_out {o : Nat} {len : Nat → Nat} {r : Nat → Nat → Int} {m t : Nat} {x : Nat} (h : t ≤ x) : rowL o len r m t (x : Int) = none := by
  unfold rowL; rw [if_neg (by omega)]
theorem rowL_some {o : Nat} {len : Nat → Nat} {r : Nat → Nat → Int} {m t : Nat} {k : Int} {g : Nat → Int} (h : rowL o len r m t k = some g) : (o : Int) ≤ k ∧ k < (t : Int) ∧ g = pieceAt o len r m k.toNat := by
  unfold rowL at h
  split at h
  · rename_i q; cases h; exact ⟨q.1, q.2, rfl⟩
  · cases h
/-- SlabBack: what was put is scanned. -/
theorem back_row {len : Nat → Nat} {r : Nat → Nat → Int} {m n : Nat} {z : Nat → Int} (hz : ∀ x, z x = 0) (hn : n = atN 0 len m) (hlen : ∀ i, i < m → len i ≤ 65536) (hb : ∀ i, i < m → ∀ x, x < len i → 0 ≤ r i x ∧ r i x ≤ 255) (g0 : Nat → Nat × (Nat → Int)) :
    ∃ (V : Nat → Nat → Int) (gs : Nat → Nat × (Nat → Int)), (∀ t, t < n + 1 → V t = secV z (rowL 0 len r m n) t ∧ isB (V t)) ∧ scanP V (n + 1) (n + 1 - 0 + 1) 0 0 g0 = (m, gs, n) ∧ ∀ u, u < m → (gs u).1 = len u ∧ ∀ x, x < len u → (gs u).2 x = r u x := by
  subst hn
  obtain ⟨V, hV⟩ : ∃ V : Nat → Nat → Int, ∀ t, V t = secV z (rowL 0 len r m (atN 0 len m)) t := ⟨_, fun _ => rfl⟩
  have v1 : ∀ i, i < m → ∀ j, j < needN (len i) → V (atN 0 len i + j) = pcs (len i) (r i) j := fun i hi j hj => by
    have : atN 0 len (i + 1) ≤ atN 0 len m := atN_mono (by omega)
    have e : atN 0 len (i + 1) = atN 0 len i + needN (len i) := rfl
    rw [hV, secV_some' (rowL_at hi hj (by omega))]
  have v2 : ∀ t, atN 0 len m ≤ t → ∀ x, V t x = 0 := fun t ht x => by rw [hV, secV_none' (rowL_out ht), hz]
  obtain ⟨gs, h1, h2⟩ := scan_row (V := V) (o := 0) (fin := atN 0 len m + 1) (c0 := m) (len := len) (r := r) hlen (by omega) (fun i hi j hj x _ => by rw [v1 i hi j hj]) (getP_zero fun _ => v2 _ (Nat.le_refl _) 63) m 0 (atN 0 len m + 1 - 0 + 1) g0 rfl (by show _ - 0 < _; omega) (fun u hu => by omega)
  refine ⟨V, gs, fun t _ => ⟨hV t, ?_⟩, h1, h2⟩
  by_cases q : t < atN 0 len m
  · have e : rowL 0 len r m (atN 0 len m) (t : Int) = some (pieceAt 0 len r m t) := by
      unfold rowL; rw [if_pos (by omega)]; rfl
    rw [hV, secV_some' e]
    exact isB_pieceAt m hb t
  · intro x _; rw [v2 t (by omega) x]; decide
theorem atN_le {len : Nat → Nat} {o b c : Nat} : ∀ i, (∀ u, u < i → needN (len u) ≤ b) → i ≤ c → atN o len i ≤ o + b * i := by
  intro i
  induction i with
  | zero => intro _ _; show o ≤ _; omega
  | succ i ih =>
    intro h hc
    have h1 := ih (fun u hu => h u (by omega)) (by omega)
    have h2 := h i (by omega)
    show atN o len i + needN (len i) ≤ _
    rw [Nat.mul_succ]; omega
end Go.DskLaw
