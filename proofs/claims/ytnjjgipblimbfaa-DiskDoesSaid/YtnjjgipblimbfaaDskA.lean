/-
  Disks: plain facts.
-/
set_option linter.unusedVariables false
set_option linter.unusedSimpArgs false
namespace Go.DskLaw
theorem q64 (s : Nat) : Int.tdiv ((64 * s : Nat) : Int) 64 = (s : Int) := by
  rw [Int.tdiv_eq_ediv_of_nonneg (by omega)]; omega
/-- What was written last to a sector. -/
def secV (S : Nat → Int) (L : Int → Option (Nat → Int)) (i : Nat) : Nat → Int :=
  match L (i : Int) with
  | some g => g
  | none => fun x => S (64 * i + x)
end Go.DskLaw
namespace Go.DskLaw
/-- How many sectors a record needs. -/
def needN (n : Nat) : Nat := max 1 ((n + 61) / 62)
end Go.DskLaw
namespace Go.DskLaw
theorem need_eq (n : Int) (h : n ≤ 9223372036854775000) :
    (0 ≤ (if (0 : Int) > n then 0 else n) ∧ (if (0 : Int) > n then 0 else n) ≤ 9223372036854775000) ∧ (0 ≤ ((if (0 : Int) > n then 0 else n) + 62 - 1).tdiv 62 ∧ ((if (0 : Int) > n then 0 else n) + 62 - 1).tdiv 62 ≤ 9223372036854775000) ∧
    (if ((if (0 : Int) > n then 0 else n) + 62 - 1).tdiv 62 > 1 then ((if (0 : Int) > n then 0 else n) + 62 - 1).tdiv 62 else 1) = (needN n.toNat : Int) := by
  obtain ⟨x, hx⟩ : ∃ x, x = if (0 : Int) > n then 0 else n := ⟨_, rfl⟩
  rw [← hx]
  have h0 : 0 ≤ x ∧ x ≤ 9223372036854775000 ∧ x = (n.toNat : Int) := by
    rw [hx]; split <;> omega
  rw [Int.tdiv_eq_ediv_of_nonneg (by omega)]
  refine ⟨⟨h0.1, h0.2.1⟩, ⟨by omega, by omega⟩, ?_⟩
  unfold needN
  split <;> omega
end Go.DskLaw
namespace Go.DskLaw
/-- The sector of the j-th part of a record. -/
def pcs (n : Nat) (f : Nat → Int) (j : Nat) : Nat → Int := fun x =>
  if x < 62 then (if 62 * j + x < n then f (62 * j + x) else 0) else if x = 62 then ((min (n - 62 * j) 62 : Nat) : Int) else if x = 63 then (if n - 62 * j > 62 then 1 else 2) else 0
end Go.DskLaw
namespace Go.DskLaw
/-- Is a sector a piece? -/
def padOk (v : Nat → Int) : Prop := v 62 ≤ 62 ∧ ∀ x, (v 62).toNat ≤ x → x < 62 → v x = 0
/-- Bytes. -/
def isB (v : Nat → Int) : Prop := ∀ x, x < 64 → 0 ≤ v x ∧ v x ≤ 255
end Go.DskLaw
namespace Go.DskLaw
open Classical in
/-- What a piece uses: its bytes, and whether the record goes on; none: it is no piece. -/
noncomputable def usedP (v : Nat → Int) : Option (Nat × Bool) :=
  if padOk v then
    if v 63 = 1 then (if (v 62).toNat = 62 then some (62, true) else none)
    else if v 63 = 2 then some ((v 62).toNat, false) else none
  else none
/-- The record at a place: how many bytes, which, and the sector behind it. -/
noncomputable def getP (V : Nat → Nat → Int) (first fin : Nat) : Nat → Nat → Nat → (Nat → Int) → Option (Nat × (Nat → Int) × Nat)
  | 0, _, _, _ => none
  | k + 1, at', n, f =>
    if fin ≤ at' then none else
    match usedP (V at') with
    | none => none
    | some (m, on) =>
      if n + m > 65536 then none
      else if on = false ∧ m = 0 ∧ first < at' then none
      else if on then getP V first fin k (at' + 1) (n + m) (fun i => if i < n then f i else V at' (i - n))
      else some (n + m, (fun i => if i < n then f i else V at' (i - n)), at' + 1)
end Go.DskLaw
namespace Go.DskLaw
theorem usedP_none1 {v : Nat → Int} (h : ¬ padOk v) : usedP v = none := by unfold usedP; rw [if_neg h]
theorem usedP_on {v : Nat → Int} (h : padOk v) (h1 : v 63 = 1) (h2 : (v 62).toNat = 62) : usedP v = some (62, true) := by unfold usedP; rw [if_pos h, if_pos h1, if_pos h2]
theorem usedP_none2 {v : Nat → Int} (h : padOk v) (h1 : v 63 = 1) (h2 : (v 62).toNat ≠ 62) : usedP v = none := by unfold usedP; rw [if_pos h, if_pos h1, if_neg h2]
theorem usedP_end {v : Nat → Int} (h : padOk v) (h1 : v 63 ≠ 1) (h2 : v 63 = 2) : usedP v = some ((v 62).toNat, false) := by unfold usedP; rw [if_pos h, if_neg h1, if_pos h2]
theorem usedP_none3 {v : Nat → Int} (h : padOk v) (h1 : v 63 ≠ 1) (h2 : v 63 ≠ 2) : usedP v = none := by unfold usedP; rw [if_pos h, if_neg h1, if_neg h2]
section
variable {V : Nat → Nat → Int} {first fin at' n : Nat} {f : Nat → Int}
theorem getP_stop (h : fin ≤ at') (k : Nat) : getP V first fin k at' n f = none := by
  cases k with
  | zero => rfl
  | succ k => unfold getP; rw [if_pos h]
theorem getP_none (h : at' < fin) (hu : usedP (V at') = none) : getP V first fin (fin - at') at' n f = none := by
  obtain ⟨k, hk⟩ : ∃ k, fin - at' = k + 1 := ⟨fin - at' - 1, by omega⟩
  rw [hk]; unfold getP; rw [if_neg (by omega), hu]
theorem getP_long {m : Nat} {on : Bool} (h : at' < fin) (hu : usedP (V at') = some (m, on)) (hl : 65536 < n + m) : getP V first fin (fin - at') at' n f = none := by
  obtain ⟨k, hk⟩ : ∃ k, fin - at' = k + 1 := ⟨fin - at' - 1, by omega⟩
  rw [hk]; unfold getP; rw [if_neg (by omega), hu]; simp only []; rw [if_pos hl]
theorem getP_empty {m : Nat} (h : at' < fin) (hu : usedP (V at') = some (m, false)) (hm : m = 0) (hf : first < at') : getP V first fin (fin - at') at' n f = none := by
  obtain ⟨k, hk⟩ : ∃ k, fin - at' = k + 1 := ⟨fin - at' - 1, by omega⟩
  rw [hk]; unfold getP; rw [if_neg (by omega), hu]; simp only []
  split
  · rfl
  · rw [if_pos ⟨trivial, hm, hf⟩]
theorem getP_on {m : Nat} (h : at' < fin) (hu : usedP (V at') = some (m, true)) (hl : ¬ 65536 < n + m) :
    getP V first fin (fin - at') at' n f = getP V first fin (fin - (at' + 1)) (at' + 1) (n + m) (fun i => if i < n then f i else V at' (i - n)) := by
  obtain ⟨k, hk⟩ : ∃ k, fin - at' = k + 1 := ⟨fin - at' - 1, by omega⟩
  rw [hk, show fin - (at' + 1) = k by omega]
  conv => lhs; unfold getP
  rw [if_neg (by omega), hu]; simp only []
  rw [if_neg hl, if_neg (by rintro ⟨q, _⟩; cases q)]
  rfl
theorem getP_end {m : Nat} (h : at' < fin) (hu : usedP (V at') = some (m, false)) (hl : ¬ 65536 < n + m) (hm : ¬ (m = 0 ∧ first < at')) :
    getP V first fin (fin - at') at' n f = some (n + m, (fun i => if i < n then f i else V at' (i - n)), at' + 1) := by
  obtain ⟨k, hk⟩ : ∃ k, fin - at' = k + 1 := ⟨fin - at' - 1, by omega⟩
  rw [hk]; unfold getP; rw [if_neg (by omega), hu]; simp only []
  rw [if_neg hl, if_neg (fun q => hm q.2)]
  simp
end
end Go.DskLaw
namespace Go.DskLaw
/-- The records of a run: how many, which, and the sector behind them. -/
noncomputable def scanP (V : Nat → Nat → Int) (fin : Nat) : Nat → Nat → Nat → (Nat → Nat × (Nat → Int)) → Nat × (Nat → Nat × (Nat → Int)) × Nat
  | 0, x, c, g => (c, g, x)
  | k + 1, x, c, g =>
    match getP V x fin (fin - x) x 0 (fun _ => 0) with
    | none => (c, g, x)
    | some (n, f, next) => scanP V fin k next (c + 1) (fun i => if i < c then g i else (n, f))
theorem getP_next {V : Nat → Nat → Int} {first fin : Nat} : ∀ (k : Nat) {x n : Nat} {f : Nat → Int} {n' : Nat} {f' : Nat → Int} {next : Nat}, getP V first fin k x n f = some (n', f', next) → x < next ∧ next ≤ fin ∧ n' ≤ 65536 := by
  intro k
  induction k with
  | zero => intro x n f n' f' next h; cases h
  | succ k ih =>
    intro x n f n' f' next h
    unfold getP at h
    split at h
    · cases h
    · split at h
      · cases h
      · rename_i m on hu
        split at h
        · cases h
        · split at h
          · cases h
          · split at h
            · have := ih h; omega
            · cases h; omega
theorem scanP_none {V : Nat → Nat → Int} {fin k x c : Nat} {g : Nat → Nat × (Nat → Int)} (h : getP V x fin (fin - x) x 0 (fun _ => 0) = none) : scanP V fin k x c g = (c, g, x) := by
  cases k with
  | zero => rfl
  | succ k => unfold scanP; rw [h]
theorem scanP_some {V : Nat → Nat → Int} {fin k x c n next : Nat} {f : Nat → Int} {g : Nat → Nat × (Nat → Int)} (h : getP V x fin (fin - x) x 0 (fun _ => 0) = some (n, f, next)) : scanP V fin (k + 1) x c g = scanP V fin k next (c + 1) (fun i => if i < c then g i else (n, f)) := by
  conv => lhs; unfold scanP
  rw [h]
end Go.DskLaw
namespace Go.DskLaw
open Classical in
/-- A run is wiped: how many sectors were written (none: the power went), what waits, and the calls that are left. -/
noncomputable def wipeP (V : Nat → Nat → Int) (ar : Bool) : Nat → Nat → Nat → (Int → Option (Nat → Int)) → Int → Option Nat × (Int → Option (Nat → Int)) × Int
  | 0, _, n, L, ca => (some n, L, ca)
  | k + 1, x, n, L, ca =>
    if ar = true ∧ ca = 0 then (none, L, ca)
    else if ∀ i, i < 64 → V x i = 0 then wipeP V ar k (x + 1) n L ca
    else wipeP V ar k (x + 1) (n + 1) (fun i => if i = (x : Int) then some (fun _ => 0) else L i) (if ar then ca - 1 else ca)
section
variable {V : Nat → Nat → Int} {ar : Bool} {k x n : Nat} {L : Int → Option (Nat → Int)} {ca : Int}
theorem wipeP_off (h : ar = true ∧ ca = 0) : wipeP V ar (k + 1) x n L ca = (none, L, ca) := by unfold wipeP; rw [if_pos h]
theorem wipeP_blank (h : ¬ (ar = true ∧ ca = 0)) (hb : ∀ i, i < 64 → V x i = 0) : wipeP V ar (k + 1) x n L ca = wipeP V ar k (x + 1) n L ca := by
  conv => lhs; unfold wipeP
  rw [if_neg h, if_pos hb]
theorem wipeP_full (h : ¬ (ar = true ∧ ca = 0)) (hb : ¬ ∀ i, i < 64 → V x i = 0) : wipeP V ar (k + 1) x n L ca = wipeP V ar k (x + 1) (n + 1) (fun i => if i = (x : Int) then some (fun _ => 0) else L i) (if ar then ca - 1 else ca) := by
  conv => lhs; unfold wipeP
  rw [if_neg h, if_neg hb]
theorem secV_upd {S : Nat → Int} {x i : Nat} {z : Nat → Int} (h : x ≠ i) : secV S (fun k => if k = (x : Int) then some z else L k) i = secV S L i := by
  unfold secV
  simp only []
  rw [if_neg (by omega)]
end
end Go.DskLaw
namespace Go.DskLaw
/-- How many bytes are kept. -/
def clampB (b : Int) : Nat := min b.toNat 64
/-- Some of a sector is kept. -/
def crash1 (S : Nat → Int) (L : Int → Option (Nat → Int)) (k b : Int) : (Nat → Int) × (Int → Option (Nat → Int)) :=
  match L k with
  | none => (S, L)
  | some g => ((fun x => if 64 * k.toNat ≤ x ∧ x < 64 * k.toNat + clampB b then g (x - 64 * k.toNat) else S x), fun i => if i = k then none else L i)
/-- Some of all that waits is kept. -/
def crashP (S : Nat → Int) (L : Int → Option (Nat → Int)) (ks kb : Nat → Int) : Nat → (Nat → Int) × (Int → Option (Nat → Int))
  | 0 => (S, L)
  | i + 1 => crash1 (crashP S L ks kb i).1 (crashP S L ks kb i).2 (ks i) (kb i)
theorem crashP_keys {S : Nat → Int} {L : Int → Option (Nat → Int)} {ks kb : Nat → Int} {s : Nat} (h : ∀ k g, L k = some g → 0 ≤ k ∧ k < (s : Int)) : ∀ i k g, (crashP S L ks kb i).2 k = some g → 0 ≤ k ∧ k < (s : Int) := by
  intro i
  induction i with
  | zero => exact h
  | succ i ih =>
    intro k g hg
    unfold crashP crash1 at hg
    split at hg
    · exact ih k g hg
    · simp only [] at hg
      split at hg
      · cases hg
      · exact ih k g hg
end Go.DskLaw
