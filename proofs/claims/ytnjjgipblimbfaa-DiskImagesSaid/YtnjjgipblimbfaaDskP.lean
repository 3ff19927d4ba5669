/-
  Records on sectors: what is put in a row is scanned as it was; what a crash leaves of it.
-/
import Derived.Test.YtnjjgipblimbfaaDskA
set_option linter.unusedVariables false
set_option linter.unusedSimpArgs false
namespace Go.DskLaw
theorem pcs_lt {n : Nat} {f : Nat → Int} {j x : Nat} (h : x < 62) : pcs n f j x = if 62 * j + x < n then f (62 * j + x) else 0 := by unfold pcs; rw [if_pos h]
theorem pcs_62 (n : Nat) (f : Nat → Int) (j : Nat) : pcs n f j 62 = ((min (n - 62 * j) 62 : Nat) : Int) := rfl
theorem pcs_63 (n : Nat) (f : Nat → Int) (j : Nat) : pcs n f j 63 = if n - 62 * j > 62 then 1 else 2 := rfl
theorem isB_pcs {n : Nat} {f : Nat → Int} (hf : ∀ x, x < n → 0 ≤ f x ∧ f x ≤ 255) (j : Nat) : isB (pcs n f j) := by
  intro x hx
  unfold pcs
  split
  · split
    · exact hf _ (by assumption)
    · omega
  · split
    · omega
    · split
      · split <;> omega
      · omega
theorem padOk_congr {v w : Nat → Int} (h : ∀ x, x < 64 → v x = w x) : padOk v ↔ padOk w := by
  unfold padOk
  rw [h 62 (by omega)]
  constructor
  · rintro ⟨h1, h2⟩
    exact ⟨h1, fun x a b => by rw [← h x (by omega)]; exact h2 x a b⟩
  · rintro ⟨h1, h2⟩
    exact ⟨h1, fun x a b => by rw [h x (by omega)]; exact h2 x a b⟩
theorem usedP_congr {v w : Nat → Int} (h : ∀ x, x < 64 → v x = w x) : usedP v = usedP w := by
  have h1 := padOk_congr h
  have h2 := h 62 (by omega)
  have h3 := h 63 (by omega)
  unfold usedP
  rw [h2, h3]
  by_cases q : padOk v
  · rw [if_pos q, if_pos (h1.1 q)]
  · rw [if_neg q, if_neg (fun e => q (h1.2 e))]
theorem usedP_pcs_on {n : Nat} {f : Nat → Int} {j : Nat} (h : 62 * j + 62 < n) : usedP (pcs n f j) = some (62, true) := by
  have e : pcs n f j 62 = 62 := by rw [pcs_62]; omega
  refine usedP_on ⟨by rw [e]; omega, fun x h1 h2 => ?_⟩ (by rw [pcs_63, if_pos (by omega)]) (by rw [e]; rfl)
  rw [e] at h1; omega
theorem usedP_pcs_end {n : Nat} {f : Nat → Int} {j : Nat} (h : n ≤ 62 * j + 62) : usedP (pcs n f j) = some (n - 62 * j, false) := by
  have e : pcs n f j 62 = ((n - 62 * j : Nat) : Int) := by rw [pcs_62]; omega
  rw [usedP_end ⟨by rw [e]; omega, fun x h1 h2 => ?_⟩ (by rw [pcs_63, if_neg (by omega)]; decide) (by rw [pcs_63, if_neg (by omega)]), e]
  · rfl
  · rw [pcs_lt h2, if_neg]
    rw [e] at h1; omega
/-- A whole record is got. -/
theorem getP_whole {V : Nat → Nat → Int} {first fin n : Nat} {r : Nat → Int} (hfin : first + needN n ≤ fin) (hn : n ≤ 65536) (hV : ∀ j, j < needN n → ∀ x, x < 64 → V (first + j) x = pcs n r j x) :
    ∀ (k j : Nat) (f : Nat → Int), k + j + 1 = needN n → (∀ i, i < 62 * j → i < n → f i = r i) → ∃ f', getP V first fin (fin - (first + j)) (first + j) (62 * j) f = some (n, f', first + needN n) ∧ ∀ i, i < n → f' i = r i := by
  intro k
  induction k with
  | zero =>
    intro j f hk hf
    have hm : n ≤ 62 * j + 62 ∧ (j = 0 ∨ 62 * j < n) := by unfold needN at hk; omega
    have hu : usedP (V (first + j)) = some (n - 62 * j, false) := (usedP_congr (hV j (by omega))).trans (usedP_pcs_end hm.1)
    have e1 : 62 * j + (n - 62 * j) = n := by omega
    refine ⟨_, by rw [getP_end (by omega) hu (by omega) (by omega), e1]; rw [show first + j + 1 = first + needN n by omega], fun i hi => ?_⟩
    by_cases q : i < 62 * j
    · simp only [q, if_true]
      exact hf i q hi
    · simp only [q, if_false]
      rw [hV j (by omega) _ (by omega), pcs_lt (by omega), if_pos (by omega)]
      congr 1; omega
  | succ k ih =>
    intro j f hk hf
    have hm : 62 * j + 62 < n := by unfold needN at hk; omega
    have hu : usedP (V (first + j)) = some (62, true) := (usedP_congr (hV j (by omega))).trans (usedP_pcs_on hm)
    rw [getP_on (by omega) hu (by omega)]
    obtain ⟨f', h1, h2⟩ := ih (j + 1) (fun i => if i < 62 * j then f i else V (first + j) (i - 62 * j)) (by omega) (fun i h1 h2 => by
      by_cases q : i < 62 * j
      · simp only [q, if_true]
        exact hf i q h2
      · simp only [q, if_false]
        rw [hV j (by omega) _ (by omega), pcs_lt (by omega), if_pos (by omega)]
        congr 1; omega)
    exact ⟨f', h1, h2⟩
/-- A record that is broken is not got. -/
theorem getP_broken {V : Nat → Nat → Int} {first fin n j0 : Nat} {r : Nat → Int} (hn : n ≤ 65536) (hj0 : j0 < needN n) (hV : ∀ j, j < j0 → ∀ x, x < 64 → V (first + j) x = pcs n r j x) (hb : usedP (V (first + j0)) = none) :
    ∀ (k j : Nat) (f : Nat → Int), k + j = j0 → getP V first fin (fin - (first + j)) (first + j) (62 * j) f = none := by
  intro k
  induction k with
  | zero =>
    intro j f hk
    obtain rfl : j = j0 := by omega
    by_cases q : fin ≤ first + j
    · exact getP_stop q _
    · exact getP_none (by omega) hb
  | succ k ih =>
    intro j f hk
    have hm : 62 * j + 62 < n := by unfold needN at hj0; omega
    have hu : usedP (V (first + j)) = some (62, true) := (usedP_congr (hV j (by omega))).trans (usedP_pcs_on hm)
    by_cases q : fin ≤ first + j
    · exact getP_stop q _
    · rw [getP_on (by omega) hu (by omega)]
      exact ih (j + 1) _ (by omega)
/-- Where the i-th record begins. -/
def atN (o : Nat) (len : Nat → Nat) : Nat → Nat
  | 0 => o
  | i + 1 => atN o len i + needN (len i)
theorem need1 (n : Nat) : 1 ≤ needN n := by unfold needN; omega
theorem atN_mono {o : Nat} {len : Nat → Nat} {i j : Nat} (h : i ≤ j) : atN o len i ≤ atN o len j := by
  induction j with
  | zero => rw [Nat.le_zero.1 h]; exact Nat.le_refl _
  | succ j ih =>
    rcases Nat.lt_or_ge i (j + 1) with q | q
    · have := ih (by omega)
      show _ ≤ atN o len j + needN (len j)
      omega
    · rw [show i = j + 1 by omega]; exact Nat.le_refl _
theorem le_atN (o : Nat) (len : Nat → Nat) (i : Nat) : o + i ≤ atN o len i := by
  induction i with
  | zero => exact Nat.le_refl _
  | succ i ih => show _ ≤ atN o len i + needN (len i); have := need1 (len i); omega
/-- Records in a row are scanned, as many as are whole. -/
theorem scan_row {V : Nat → Nat → Int} {o fin c0 : Nat} {len : Nat → Nat} {r : Nat → Nat → Int} (hlen : ∀ i, i < c0 → len i ≤ 65536) (hfin : atN o len c0 ≤ fin) (hV : ∀ i, i < c0 → ∀ j, j < needN (len i) → ∀ x, x < 64 → V (atN o len i + j) x = pcs (len i) (r i) j x)
    (hstop : getP V (atN o len c0) fin (fin - atN o len c0) (atN o len c0) 0 (fun _ => 0) = none) :
    ∀ (q i k : Nat) (g : Nat → Nat × (Nat → Int)), q + i = c0 → fin - atN o len i < k → (∀ u, u < i → (g u).1 = len u ∧ ∀ x, x < len u → (g u).2 x = r u x) → ∃ gs, scanP V fin k (atN o len i) i g = (c0, gs, atN o len c0) ∧ ∀ u, u < c0 → (gs u).1 = len u ∧ ∀ x, x < len u → (gs u).2 x = r u x := by
  intro q
  induction q with
  | zero =>
    intro i k g hq hk hg
    obtain rfl : i = c0 := by omega
    exact ⟨g, scanP_none hstop, hg⟩
  | succ q ih =>
    intro i k g hq hk hg
    have hi : i < c0 := by omega
    have hm : atN o len (i + 1) ≤ atN o len c0 := atN_mono (by omega)
    have e1 : atN o len (i + 1) = atN o len i + needN (len i) := rfl
    have hn1 := need1 (len i)
    obtain ⟨f', h1, h2⟩ := getP_whole (V := V) (first := atN o len i) (fin := fin) (n := len i) (r := r i) (by omega) (hlen i hi) (hV i hi) (needN (len i) - 1) 0 (fun _ => 0) (by omega) (fun u h => by omega)
    obtain ⟨k', rfl⟩ : ∃ k', k = k' + 1 := ⟨k - 1, by omega⟩
    rw [scanP_some h1, ← e1]
    refine ih (i + 1) k' _ (by omega) (by omega) fun u hu => ?_
    by_cases w : u < i
    · simp only [w, if_true]
      exact hg u w
    · obtain rfl : u = i := by omega
      simp only [w, if_false]
      exact ⟨trivial, h2⟩
theorem usedP_zero {v : Nat → Int} (h : v 63 = 0) : usedP v = none := by
  by_cases q : padOk v
  · exact usedP_none3 q (by rw [h]; decide) (by rw [h]; decide)
  · exact usedP_none1 q
theorem getP_zero {V : Nat → Nat → Int} {first fin : Nat} {f : Nat → Int} (h : first < fin → V first 63 = 0) : getP V first fin (fin - first) first 0 f = none := by
  by_cases q : fin ≤ first
  · exact getP_stop q _
  · exact getP_none (by omega) (usedP_zero (h (by omega)))
/-- The piece of a sector, of records in a row. -/
def pieceAt (o : Nat) (len : Nat → Nat) (r : Nat → Nat → Int) : Nat → Nat → Nat → Int
  | 0, _ => fun _ => 0
  | i + 1, t => if atN o len i ≤ t ∧ t < atN o len (i + 1) then pcs (len i) (r i) (t - atN o len i) else pieceAt o len r i t
theorem pieceAt_eq {o : Nat} {len : Nat → Nat} {r : Nat → Nat → Int} {i j : Nat} (hj : j < needN (len i)) : ∀ n, i < n → pieceAt o len r n (atN o len i + j) = pcs (len i) (r i) j := by
  intro n
  induction n with
  | zero => intro h; omega
  | succ n ih =>
    intro h
    unfold pieceAt
    by_cases q : i = n
    · subst q
      rw [if_pos ⟨by omega, by show _ < atN o len i + needN (len i); omega⟩]
      congr 1; omega
    · rw [if_neg, ih (by omega)]
      have : atN o len (i + 1) ≤ atN o len n := atN_mono (by omega)
      have e : atN o len (i + 1) = atN o len i + needN (len i) := rfl
      omega
theorem isB_pieceAt {o : Nat} {len : Nat → Nat} {r : Nat → Nat → Int} : ∀ n, (∀ i, i < n → ∀ x, x < len i → 0 ≤ r i x ∧ r i x ≤ 255) → ∀ t, isB (pieceAt o len r n t) := by
  intro n
  induction n with
  | zero => intro _ t x hx; exact ⟨Int.le_refl _, by show (0 : Int) ≤ 255; decide⟩
  | succ n ih =>
    intro h t
    unfold pieceAt
    split
    · exact isB_pcs (h n (by omega)) _
    · exact ih (fun i hi => h i (by omega)) t
/-- WHAT IS LEFT: some first ones of the records, all that are whole for sure among them. -/
theorem crash_row {V : Nat → Nat → Int} {o fin sure put w : Nat} {len : Nat → Nat} {r : Nat → Nat → Int} (hlen : ∀ i, i < put → len i ≤ 65536) (hsp : sure ≤ put) (hput : ∀ c, c < put → (∀ j, j < needN (len c) → atN o len c + j < w) → atN o len (c + 1) ≤ fin) (hw : w ≤ atN o len put) (hfs : atN o len sure ≤ fin)
    (h1 : ∀ i, i < sure → ∀ j, j < needN (len i) → ∀ x, x < 64 → V (atN o len i + j) x = pcs (len i) (r i) j x)
    (h2 : ∀ i, i < put → ∀ j, j < needN (len i) → (∀ x, x < 64 → V (atN o len i + j) x = pcs (len i) (r i) j x) ∨ usedP (V (atN o len i + j)) = none)
    (h3 : ∀ t, w ≤ t → usedP (V t) = none) :
    ∃ c0, sure ≤ c0 ∧ c0 ≤ put ∧ ∀ g, ∃ gs, scanP V fin (fin - o + 1) o 0 g = (c0, gs, atN o len c0) ∧ ∀ u, u < c0 → (gs u).1 = len u ∧ ∀ x, x < len u → (gs u).2 x = r u x := by
  have key : ∀ q c, q + c = put → sure ≤ c → atN o len c ≤ fin → (∀ i, i < c → ∀ j, j < needN (len i) → ∀ x, x < 64 → V (atN o len i + j) x = pcs (len i) (r i) j x) →
      ∃ c0, sure ≤ c0 ∧ c0 ≤ put ∧ atN o len c0 ≤ fin ∧ (∀ i, i < c0 → ∀ j, j < needN (len i) → ∀ x, x < 64 → V (atN o len i + j) x = pcs (len i) (r i) j x) ∧ getP V (atN o len c0) fin (fin - atN o len c0) (atN o len c0) 0 (fun _ => 0) = none := by
    intro q
    induction q with
    | zero =>
      intro c hq hs hf hall
      obtain rfl : c = put := by omega
      refine ⟨c, hs, Nat.le_refl _, hf, hall, ?_⟩
      by_cases e : fin ≤ atN o len c
      · exact getP_stop e _
      · exact getP_none (by omega) (h3 _ hw)
    | succ q ih =>
      intro c hq hs hf hall
      have hc : c < put := by omega
      by_cases hb : ∀ j, j < needN (len c) → ∀ x, x < 64 → V (atN o len c + j) x = pcs (len c) (r c) j x
      · refine ih (c + 1) (by omega) (by omega) (hput c hc fun j hj => ?_) fun i hi => ?_
        · rcases Nat.lt_or_ge (atN o len c + j) w with e | e
          · exact e
          · exfalso
            have h4 := h3 _ e
            rw [usedP_congr (hb j hj)] at h4
            rcases Nat.lt_or_ge (62 * j + 62) (len c) with e2 | e2
            · rw [usedP_pcs_on e2] at h4; cases h4
            · rw [usedP_pcs_end e2] at h4; cases h4
        · rcases Nat.lt_or_ge i c with e | e
          · exact hall i e
          · rw [show i = c by omega]; exact hb
      · -- the first broken piece
        have : ∃ j0, j0 < needN (len c) ∧ (∀ j, j < j0 → ∀ x, x < 64 → V (atN o len c + j) x = pcs (len c) (r c) j x) ∧ ¬ ∀ x, x < 64 → V (atN o len c + j0) x = pcs (len c) (r c) j0 x := by
          have go : ∀ m, (∀ j, j < m → ∀ x, x < 64 → V (atN o len c + j) x = pcs (len c) (r c) j x) ∨ ∃ j0, j0 < m ∧ (∀ j, j < j0 → ∀ x, x < 64 → V (atN o len c + j) x = pcs (len c) (r c) j x) ∧ ¬ ∀ x, x < 64 → V (atN o len c + j0) x = pcs (len c) (r c) j0 x := by
            intro m
            induction m with
            | zero => exact .inl fun j hj => by omega
            | succ m ihm =>
              rcases ihm with h | ⟨j0, a, b⟩
              · by_cases e : ∀ x, x < 64 → V (atN o len c + m) x = pcs (len c) (r c) m x
                · refine .inl fun j hj => ?_
                  rcases Nat.lt_or_ge j m with u | u
                  · exact h j u
                  · rw [show j = m by omega]; exact e
                · exact .inr ⟨m, by omega, h, e⟩
              · exact .inr ⟨j0, by omega, b⟩
          rcases go (needN (len c)) with h | h
          · exact absurd h hb
          · exact h
        obtain ⟨j0, a, b, d⟩ := this
        have hbr : usedP (V (atN o len c + j0)) = none := by
          rcases h2 c hc j0 a with h | h
          · exact absurd h d
          · exact h
        exact ⟨c, hs, by omega, hf, hall, getP_broken (hlen c hc) a b hbr j0 0 (fun _ => 0) (by omega)⟩
  obtain ⟨c0, a, b, d, e, f⟩ := key (put - sure) sure (by omega) (Nat.le_refl _) hfs h1
  refine ⟨c0, a, b, fun g => ?_⟩
  exact scan_row (fun i hi => hlen i (by omega)) d e f c0 0 (fin - o + 1) g (by omega) (by show fin - o < fin - o + 1; omega) (fun u hu => by omega)
/-- How many bytes of a sector are kept. -/
def keptB (ks kb : Nat → Int) (t : Int) : Nat → Option Nat
  | 0 => none
  | i + 1 => match keptB ks kb t i with
    | some b => some b
    | none => if ks i = t then some (clampB (kb i)) else none
/-- A sector behind a crash. -/
def secC (S : Nat → Int) (L : Int → Option (Nat → Int)) (ks kb : Nat → Int) (n t : Nat) : Nat → Int := fun x =>
  match L (t : Int) with
  | some g => if x < (keptB ks kb (t : Int) n).getD 0 then g x else S (64 * t + x)
  | none => S (64 * t + x)
theorem clampB_le (b : Int) : clampB b ≤ 64 := by unfold clampB; omega
theorem keptB_le {ks kb : Nat → Int} {t : Int} : ∀ {n b : Nat}, keptB ks kb t n = some b → b ≤ 64 := by
  intro n
  induction n with
  | zero => intro b h; cases h
  | succ n ih =>
    intro b h
    unfold keptB at h
    split at h
    · rename_i q; cases h; exact ih q
    · split at h
      · cases h; exact clampB_le _
      · cases h
theorem crashP_eq {S : Nat → Int} {L : Int → Option (Nat → Int)} {ks kb : Nat → Int} (hk : ∀ k g, L k = some g → 0 ≤ k) : ∀ i, (∀ k, (crashP S L ks kb i).2 k = if (keptB ks kb k i).isSome then none else L k) ∧ ∀ t x, x < 64 → (crashP S L ks kb i).1 (64 * t + x) = secC S L ks kb i t x := by
  intro i
  induction i with
  | zero =>
    refine ⟨fun k => rfl, fun t x hx => ?_⟩
    unfold secC
    show S (64 * t + x) = _
    split
    · rw [if_neg (by show ¬ x < 0; omega)]
    · rfl
  | succ i ih =>
    obtain ⟨ih1, ih2⟩ := ih
    unfold crashP crash1
    cases hL : (crashP S L ks kb i).2 (ks i) with
    | none =>
      simp only []
      rw [ih1] at hL
      refine ⟨fun k => ?_, fun t x hx => ?_⟩
      · rw [ih1 k]
        cases e : keptB ks kb k i with
        | some b => simp [keptB, e]
        | none =>
          by_cases q : ks i = k
          · rw [q, e] at hL
            simp only [Option.isSome_none, Bool.false_eq_true, if_false] at hL
            simp [keptB, e, q, hL]
          · simp [keptB, e, q]
      · rw [ih2 t x hx]
        unfold secC
        cases e2 : L (t : Int) with
        | none => rfl
        | some g =>
          simp only []
          cases e : keptB ks kb (t : Int) i with
          | some b => simp [keptB, e]
          | none =>
            by_cases q : ks i = (t : Int)
            · rw [q, e, e2] at hL; simp at hL
            · simp [keptB, e, q]
    | some g =>
      simp only []
      rw [ih1] at hL
      have hno : keptB ks kb (ks i) i = none := by
        cases e : keptB ks kb (ks i) i with
        | none => rfl
        | some b => rw [e] at hL; simp at hL
      have hLg : L (ks i) = some g := by rw [hno] at hL; simpa using hL
      have hk0 := hk _ _ hLg
      refine ⟨fun k => ?_, fun t x hx => ?_⟩
      · by_cases q : k = ks i
        · rw [if_pos q, q]
          simp [keptB, hno]
        · rw [if_neg q, ih1 k]
          cases e : keptB ks kb k i with
          | some b => simp [keptB, e]
          | none => simp [keptB, e, show ¬ ks i = k from fun h => q h.symm]
      · have hc := clampB_le (kb i)
        by_cases q : (t : Int) = ks i
        · have ht : (ks i).toNat = t := by omega
          unfold secC
          rw [q, hLg]
          simp only []
          have e1 : keptB ks kb (ks i) (i + 1) = some (clampB (kb i)) := by simp [keptB, hno]
          rw [e1, ht]
          show _ = if x < clampB (kb i) then _ else _
          by_cases w : x < clampB (kb i)
          · rw [if_pos ⟨by omega, by omega⟩, if_pos w]; congr 1; omega
          · rw [if_neg (by omega), if_neg w, ih2 t x hx]
            unfold secC
            rw [q, hLg, hno]
            simp only []
            rw [if_neg (by show ¬ x < 0; omega)]
        · rw [if_neg (by omega), ih2 t x hx]
          unfold secC
          cases e2 : L (t : Int) with
          | none => rfl
          | some g' =>
            simp only []
            have : keptB ks kb (t : Int) (i + 1) = keptB ks kb (t : Int) i := by
              cases e : keptB ks kb (t : Int) i with
              | some b => simp [keptB, e]
              | none => simp [keptB, e, show ¬ ks i = (t : Int) from fun h => q h.symm]
            rw [this]
/-- A torn piece is whole or none. -/
theorem torn {S : Nat → Int} {L : Int → Option (Nat → Int)} {ks kb : Nat → Int} {n t : Nat} {g : Nat → Int} (hL : L (t : Int) = some g) (hS : S (64 * t + 63) = 0) : (∀ x, x < 64 → secC S L ks kb n t x = g x) ∨ usedP (secC S L ks kb n t) = none := by
  by_cases q : (keptB ks kb (t : Int) n).getD 0 = 64
  · refine .inl fun x hx => ?_
    unfold secC
    rw [hL, q]; simp only []
    rw [if_pos hx]
  · refine .inr (usedP_zero ?_)
    have : (keptB ks kb (t : Int) n).getD 0 ≤ 64 := by
      cases e : keptB ks kb (t : Int) n with
      | none => exact Nat.zero_le _
      | some b => exact keptB_le e
    unfold secC
    rw [hL]; simp only []
    rw [if_neg (by omega)]
    exact hS
end Go.DskLaw
