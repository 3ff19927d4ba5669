/-
  Disks: the sectors on which something waits: plain facts.
-/
import Derived.Test.YtnjjgipblimbfaaDskM
import Derived.Test.YtnjjgipblimbfaaDskD
set_option linter.unusedVariables false
set_option linter.unusedSimpArgs false
namespace Go.DskLaw
open Go.Eng
/-- A row of the keys that were seen. -/
structure SeenIs (es : Array MapEntry) (seen : Array Nat) (n : Nat) (f : Nat → Int) : Prop where
  inc : ∀ i, i < n → ∃ e ∈ es.toList, e.born ∈ seen ∧ e.key = .int .i64 (f i)
  all : ∀ e ∈ es.toList, e.born ∈ seen → ∃ i, i < n ∧ e.key = .int .i64 (f i)
  inj : ∀ i j, i < n → j < n → f i = f j → i = j
/-- A row of all keys. -/
structure EnumIs (L : Int → Option (Nat → Int)) (n : Nat) (f : Nat → Int) : Prop where
  inc : ∀ i, i < n → ∃ g, L (f i) = some g
  all : ∀ k g, L k = some g → ∃ i, i < n ∧ f i = k
  inj : ∀ i j, i < n → j < n → f i = f j → i = j
variable {es : Array MapEntry} {seen : Array Nat} {n c : Nat} {f : Nat → Int} {L : Int → Option (Nat → Int)} {e : MapEntry}
theorem SeenIs.start : SeenIs es #[] 0 f := ⟨fun i h => by omega, fun e _ h => by simp at h, fun i j h => by omega⟩
theorem SeenIs.step {k : Int} {f' : Nat → Int} (h : SeenIs es seen n f) (hm : MapIs 64 es c L) (he : e ∈ es.toList) (hnew : e.born ∉ seen) (hk : e.key = .int .i64 k) (h1 : ∀ i, i < n → f' i = f i) (h2 : f' n = k) : SeenIs es (seen.push e.born) (n + 1) f' where
  inc := fun i hi => by
    by_cases q : i < n
    · obtain ⟨e', a, b, d⟩ := h.inc i q
      exact ⟨e', a, Array.mem_push.2 (.inl b), by rw [d, h1 i q]⟩
    · obtain rfl : i = n := by omega
      exact ⟨e, he, Array.mem_push.2 (.inr rfl), by rw [hk, h2]⟩
  all := fun e' he' hb => by
    rcases Array.mem_push.1 hb with hb | hb
    · obtain ⟨i, a, b⟩ := h.all e' he' hb
      exact ⟨i, by omega, by rw [b, h1 i a]⟩
    · obtain ⟨i, hi⟩ := List.getElem?_of_mem he
      obtain ⟨j, hj⟩ := List.getElem?_of_mem he'
      have a1 : (es.toList.map (·.born))[i]? = some e.born := by rw [List.getElem?_map, hi]; rfl
      have a2 : (es.toList.map (·.born))[j]? = some e.born := by rw [List.getElem?_map, hj, ← hb]; rfl
      have hl : i < (es.toList.map (·.born)).length := by
        rcases Nat.lt_or_ge i (es.toList.map (·.born)).length with hl | hl
        · exact hl
        · rw [List.getElem?_eq_none hl] at a1; cases a1
      have hij := (List.getElem?_inj hl hm.born).1 (a1.trans a2.symm)
      subst hij
      rw [hi] at hj; cases hj
      exact ⟨n, by omega, by rw [hk, h2]⟩
  inj := fun i j hi hj hij => by
    have key : ∀ u, u < n → f u = k → False := fun u hu hfu => by
      obtain ⟨e', a, b, d⟩ := h.inc u hu
      have : e'.key = e.key := by rw [d, hk, hfu]
      obtain ⟨p, hp⟩ := List.getElem?_of_mem a
      obtain ⟨q, hq⟩ := List.getElem?_of_mem he
      have := hm.uniq hp hq this
      subst this
      rw [hp] at hq; cases hq
      exact hnew b
    by_cases p : i < n
    · by_cases q : j < n
      · rw [h1 i p, h1 j q] at hij; exact h.inj i j p q hij
      · obtain rfl : j = n := by omega
        rw [h1 i p, h2] at hij; exact (key i p hij).elim
    · obtain rfl : i = n := by omega
      by_cases q : j < i
      · rw [h1 j q, h2] at hij; exact (key j q hij.symm).elim
      · omega
theorem SeenIs.fin (h : SeenIs es seen n f) (hm : MapIs 64 es c L) (h0 : (leftOf es seen).size = 0) : EnumIs L n f where
  inc := fun i hi => by
    obtain ⟨e, a, _, d⟩ := h.inc i hi
    obtain ⟨k, g, q1, q2, _⟩ := hm.ent e a
    rw [d] at q1; cases q1
    exact ⟨g, q2⟩
  all := fun k g hL => by
    obtain ⟨e, he, hk⟩ := hm.all k g hL
    have hs : e.born ∈ seen := by
      have : leftOf es seen = #[] := Array.eq_empty_of_size_eq_zero h0
      unfold leftOf at this
      rw [Array.filter_eq_empty_iff] at this
      have := this e (by simpa using he)
      simpa using this
    obtain ⟨i, a, b⟩ := h.all e he hs
    rw [hk] at b
    cases b
    exact ⟨i, a, rfl⟩
  inj := h.inj
theorem pigeon : ∀ (s n : Nat) (f : Nat → Int), (∀ i, i < n → 0 ≤ f i ∧ f i < (s : Int)) → (∀ i j, i < n → j < n → f i = f j → i = j) → n ≤ s := by
  intro s
  induction s with
  | zero =>
    intro n f h _
    rcases Nat.eq_zero_or_pos n with q | q
    · omega
    · have := h 0 q; omega
  | succ s ih =>
    intro n f h hinj
    by_cases hx : ∃ i0, i0 < n ∧ f i0 = (s : Int)
    · obtain ⟨i0, a, b⟩ := hx
      have := ih (n - 1) (fun i => if i = i0 then f (n - 1) else f i) (fun i hi => by
        by_cases q : i = i0
        · simp only [q, if_true]
          have h1 := h (n - 1) (by omega)
          have h2 : f (n - 1) ≠ (s : Int) := fun e => by
            have := hinj (n - 1) i0 (by omega) a (by rw [e, b]); omega
          omega
        · simp only [q, if_false]
          have h1 := h i (by omega)
          have h2 : f i ≠ (s : Int) := fun e => q (hinj i i0 (by omega) a (by rw [e, b]))
          omega) (fun i j hi hj hij => by
        by_cases p : i = i0
        · by_cases q : j = i0
          · omega
          · simp only [p, q, if_true, if_false] at hij
            have := hinj (n - 1) j (by omega) (by omega) hij; omega
        · by_cases q : j = i0
          · simp only [p, q, if_true, if_false] at hij
            have := hinj i (n - 1) (by omega) (by omega) hij; omega
          · simp only [p, q, if_false] at hij
            exact hinj i j (by omega) (by omega) hij)
      omega
    · have := ih n f (fun i hi => by
        have h1 := h i hi
        have h2 : f i ≠ (s : Int) := fun e => hx ⟨i, hi, e⟩
        omega) hinj
      omega
theorem SeenIs.le {s : Nat} (h : SeenIs es seen n f) (hm : MapIs 64 es c L) (hk : ∀ k g, L k = some g → 0 ≤ k ∧ k < (s : Int)) : n ≤ s := pigeon s n f (fun i hi => by
  obtain ⟨e, a, _, d⟩ := h.inc i hi
  obtain ⟨k, g, q1, q2, _⟩ := hm.ent e a
  rw [d] at q1; cases q1
  exact hk _ g q2) h.inj
theorem EnumIs.le {s : Nat} (h : EnumIs L n f) (hk : ∀ k g, L k = some g → 0 ≤ k ∧ k < (s : Int)) : n ≤ s := pigeon s n f (fun i hi => by obtain ⟨g, hg⟩ := h.inc i hi; exact hk _ g hg) h.inj
theorem EnumIs.range {s : Nat} (h : EnumIs L n f) (hk : ∀ k g, L k = some g → 0 ≤ k ∧ k < (s : Int)) (i : Nat) (hi : i < n) : 0 ≤ f i ∧ f i < (s : Int) := by obtain ⟨g, hg⟩ := h.inc i hi; exact hk _ g hg
theorem EnumIs.swap {f' : Nat → Int} {j : Nat} (h : EnumIs L n f) (hj : 1 ≤ j ∧ j < n) (h' : ∀ i, i < n → f' i = if i = j then f (j - 1) else if i = j - 1 then f j else f i) : EnumIs L n f' := by
  have hs : ∀ i, i < n → ∃ u, u < n ∧ f' i = f u ∧ (∀ v, v < n → f' v = f u → v = i) := fun i hi => by
    by_cases p : i = j
    · refine ⟨j - 1, by omega, by rw [h' i hi, if_pos p], fun v hv e => ?_⟩
      rw [h' v hv] at e
      by_cases a : v = j
      · omega
      · by_cases b : v = j - 1
        · rw [if_neg a, if_pos b] at e; have := h.inj _ _ hj.2 (by omega) e; omega
        · rw [if_neg a, if_neg b] at e; have := h.inj _ _ hv (by omega) e; omega
    · by_cases q : i = j - 1
      · refine ⟨j, by omega, by rw [h' i hi, if_neg p, if_pos q], fun v hv e => ?_⟩
        rw [h' v hv] at e
        by_cases a : v = j
        · rw [if_pos a] at e; have := h.inj _ _ (by omega) hj.2 e; omega
        · by_cases b : v = j - 1
          · omega
          · rw [if_neg a, if_neg b] at e; have := h.inj _ _ hv hj.2 e; omega
      · refine ⟨i, hi, by rw [h' i hi, if_neg p, if_neg q], fun v hv e => ?_⟩
        rw [h' v hv] at e
        by_cases a : v = j
        · rw [if_pos a] at e; have := h.inj _ _ (by omega) hi e; omega
        · by_cases b : v = j - 1
          · rw [if_neg a, if_pos b] at e; have := h.inj _ _ hj.2 hi e; omega
          · rw [if_neg a, if_neg b] at e; exact h.inj _ _ hv hi e
  refine ⟨fun i hi => ?_, fun k g hL => ?_, fun i v hi hv e => ?_⟩
  · obtain ⟨u, hu, e, _⟩ := hs i hi
    rw [e]; exact h.inc u hu
  · obtain ⟨i, hi, e⟩ := h.all k g hL
    by_cases p : i = j
    · exact ⟨j - 1, by omega, by rw [h' _ (by omega), if_neg (by omega), if_pos rfl, ← p, e]⟩
    · by_cases q : i = j - 1
      · exact ⟨j, hj.2, by rw [h' _ hj.2, if_pos rfl, ← q, e]⟩
      · exact ⟨i, hi, by rw [h' i hi, if_neg p, if_neg q, e]⟩
  · obtain ⟨u, hu, e1, e2⟩ := hs i hi
    exact (e2 v hv (by rw [← e, e1])).symm
/-- Ascending, up to a place. -/
def SrtTo (f : Nat → Int) (i : Nat) : Prop := ∀ u v, u < v → v < i → f u < f v
/-- Ascending but for one that moves down. -/
structure Mov (f : Nat → Int) (i j : Nat) : Prop where
  oth : ∀ u v, u < v → v ≤ i → u ≠ j → v ≠ j → f u < f v
  abv : ∀ u, j < u → u ≤ i → f j < f u
theorem Mov.start {i : Nat} (h : SrtTo f i) : Mov f i i := ⟨fun u v h1 h2 _ h4 => h u v h1 (by omega), fun u h1 h2 => by omega⟩
theorem Mov.step {f' : Nat → Int} {i j : Nat} (h : Mov f i j) (hj : 1 ≤ j ∧ j ≤ i) (hlt : f j < f (j - 1)) (h' : ∀ u, u ≤ i → f' u = if u = j then f (j - 1) else if u = j - 1 then f j else f u) : Mov f' i (j - 1) where
  oth := fun u v h1 h2 h3 h4 => by
    rw [h' u (by omega), h' v h2, if_neg h3, if_neg h4]
    by_cases p : u = j
    · rw [if_pos p, if_neg (by omega)]
      exact h.oth (j - 1) v (by omega) h2 (by omega) (by omega)
    · rw [if_neg p]
      by_cases q : v = j
      · rw [if_pos q]
        exact h.oth u (j - 1) (by omega) (by omega) p (by omega)
      · rw [if_neg q]
        exact h.oth u v h1 h2 p q
  abv := fun u h1 h2 => by
    rw [h' (j - 1) (by omega), if_neg (by omega), if_pos rfl, h' u h2]
    by_cases p : u = j
    · rw [if_pos p]; exact hlt
    · rw [if_neg p, if_neg (by omega)]
      exact h.abv u (by omega) h2
theorem Mov.fin {i j : Nat} (h : Mov f i j) (hj : j = 0 ∨ (1 ≤ j ∧ f (j - 1) < f j)) : SrtTo f (i + 1) := fun u v h1 h2 => by
  by_cases p : u = j
  · subst p; exact h.abv v h1 (by omega)
  · by_cases q : v = j
    · subst q
      have hj : 1 ≤ v ∧ f (v - 1) < f v := by omega
      by_cases w : u = v - 1
      · rw [w]; exact hj.2
      · have := h.oth u (v - 1) (by omega) (by omega) p (by omega)
        omega
    · exact h.oth u v h1 (by omega) p q
theorem enum_unique {m : Nat} {g : Nat → Int} (h1 : EnumIs L n f) (s1 : SrtTo f n) (h2 : EnumIs L m g) (s2 : SrtTo g m) : n = m ∧ ∀ i, i < n → f i = g i := by
  have key : ∀ i, ∀ u, u < i → (u < n ↔ u < m) ∧ (u < n → f u = g u) := by
    intro i
    induction i with
    | zero => intro u hu; omega
    | succ i ih =>
      intro u hu
      by_cases q : u < i
      · exact ih u q
      · obtain rfl : u = i := by omega
        have ge1 : ∀ j, j < m → u < n → g j = f u → u ≤ j := fun j hj hun e => by
          rcases Nat.lt_or_ge j u with p | p
          · have := ih j p
            have e2 := this.2 (this.1.2 hj)
            have := h1.inj j u (by omega) hun (by rw [e2, e])
            omega
          · exact p
        have ge2 : ∀ j, j < n → u < m → f j = g u → u ≤ j := fun j hj hun e => by
          rcases Nat.lt_or_ge j u with p | p
          · have := ih j p
            have e2 := this.2 hj
            have := h2.inj j u (by omega) hun (by rw [← e2, e])
            omega
          · exact p
        have a : u < n → ∃ j, j < m ∧ g j = f u ∧ u ≤ j := fun hun => by
          obtain ⟨x, hx⟩ := h1.inc u hun
          obtain ⟨j, hj, e⟩ := h2.all _ _ hx
          exact ⟨j, hj, e, ge1 j hj hun e⟩
        have b : u < m → ∃ j, j < n ∧ f j = g u ∧ u ≤ j := fun hun => by
          obtain ⟨x, hx⟩ := h2.inc u hun
          obtain ⟨j, hj, e⟩ := h1.all _ _ hx
          exact ⟨j, hj, e, ge2 j hj hun e⟩
        refine ⟨⟨fun h => ?_, fun h => ?_⟩, fun h => ?_⟩
        · obtain ⟨j, hj, _, hle⟩ := a h; omega
        · obtain ⟨j, hj, _, hle⟩ := b h; omega
        · obtain ⟨j, hj, e, hle⟩ := a h
          obtain ⟨j', hj', e', hle'⟩ := b (by omega)
          have x1 : f u ≤ f j' := by
            rcases Nat.eq_or_lt_of_le hle' with r | r
            · rw [r]; exact Int.le_refl _
            · exact Int.le_of_lt (s1 u j' r hj')
          have x2 : g u ≤ g j := by
            rcases Nat.eq_or_lt_of_le hle with r | r
            · rw [r]; exact Int.le_refl _
            · exact Int.le_of_lt (s2 u j r hj)
          omega
  refine ⟨?_, fun i hi => (key (i + 1) i (by omega)).2 hi⟩
  have k1 := (key (n + 1) n (by omega)).1
  have k2 := (key (m + 1) m (by omega)).1
  omega
theorem enum_into {m : Nat} {g : Nat → Int} (h1 : EnumIs L n f) (h2 : EnumIs L m g) : ∃ t : Nat → Nat, ∀ i, i < n → t i < m ∧ g (t i) = f i := by
  have : ∀ i, ∃ j, i < n → j < m ∧ g j = f i := fun i => by
    by_cases q : i < n
    · obtain ⟨x, hx⟩ := h1.inc i q
      obtain ⟨j, a, b⟩ := h2.all _ _ hx
      exact ⟨j, fun _ => ⟨a, b⟩⟩
    · exact ⟨0, fun h => absurd h q⟩
  exact ⟨fun i => (this i).choose, fun i hi => (this i).choose_spec hi⟩
theorem pigeon_enum {m : Nat} {g : Nat → Int} (h1 : EnumIs L n f) (h2 : EnumIs L m g) : n ≤ m := by
  obtain ⟨t, ht⟩ := enum_into h1 h2
  refine pigeon m n (fun i => (t i : Int)) (fun i hi => ?_) (fun i j hi hj e => ?_)
  · have := (ht i hi).1; exact ⟨Int.natCast_nonneg _, by omega⟩
  · have e : t i = t j := Int.ofNat.inj e
    have a := (ht i hi).2
    have b := (ht j hj).2
    exact h1.inj i j hi hj (by rw [← a, ← b, e])
/-- The document's row of the sectors that wait. -/
def wP (W : Nat → Bool) : Nat → Nat × (Nat → Int)
  | 0 => (0, fun _ => 0)
  | i + 1 => if W i = true then ((wP W i).1 + 1, fun x => if x < (wP W i).1 then (wP W i).2 x else (i : Int)) else wP W i
theorem wP_is {W : Nat → Bool} : ∀ s, (∀ x, x < (wP W s).1 → ∃ t, t < s ∧ W t = true ∧ (wP W s).2 x = (t : Int)) ∧ (∀ t, t < s → W t = true → ∃ x, x < (wP W s).1 ∧ (wP W s).2 x = (t : Int)) ∧ SrtTo (wP W s).2 (wP W s).1 ∧ (wP W s).1 ≤ s := by
  intro s
  induction s with
  | zero => exact ⟨fun x h => absurd h (Nat.not_lt_zero _), fun t h => by omega, fun u v h1 h2 => absurd h2 (Nat.not_lt_zero _), Nat.le_refl _⟩
  | succ s ih =>
    obtain ⟨h1, h2, h3, h4⟩ := ih
    unfold wP
    by_cases q : W s = true
    · rw [if_pos q]
      refine ⟨fun x hx => ?_, fun t ht hw => ?_, fun u v hu hv => ?_, by simp only []; omega⟩
      · simp only [] at hx ⊢
        by_cases p : x < (wP W s).1
        · obtain ⟨t, a, b, d⟩ := h1 x p
          exact ⟨t, by omega, b, by rw [if_pos p, d]⟩
        · exact ⟨s, by omega, q, by rw [if_neg p]⟩
      · simp only []
        by_cases p : t < s
        · obtain ⟨x, a, b⟩ := h2 t p hw
          exact ⟨x, by omega, by rw [if_pos a, b]⟩
        · exact ⟨(wP W s).1, by omega, by rw [if_neg (by omega)]; omega⟩
      · simp only [] at hv ⊢
        rw [if_pos (show u < (wP W s).1 by omega)]
        by_cases p : v < (wP W s).1
        · rw [if_pos p]; exact h3 u v hu p
        · rw [if_neg p]
          obtain ⟨t, a, b, d⟩ := h1 u (by omega)
          omega
    · rw [if_neg q]
      refine ⟨fun x hx => ?_, fun t ht hw => ?_, h3, by omega⟩
      · obtain ⟨t, a, b, d⟩ := h1 x hx
        exact ⟨t, by omega, b, d⟩
      · rcases Nat.lt_or_ge t s with p | p
        · exact h2 t p hw
        · rw [show t = s by omega] at hw; exact absurd hw q
theorem wP_enum {W : Nat → Bool} {s : Nat} (hW : ∀ t, t < s → (W t = true ↔ ∃ g, L (t : Int) = some g)) (hk : ∀ k g, L k = some g → 0 ≤ k ∧ k < (s : Int)) : EnumIs L (wP W s).1 (wP W s).2 ∧ SrtTo (wP W s).2 (wP W s).1 := by
  obtain ⟨h1, h2, h3, _⟩ := wP_is (W := W) s
  refine ⟨⟨fun i hi => ?_, fun k g hL => ?_, fun i j hi hj e => ?_⟩, h3⟩
  · obtain ⟨t, a, b, d⟩ := h1 i hi
    rw [d]; exact (hW t a).1 b
  · have := hk k g hL
    obtain ⟨t, ht⟩ : ∃ t : Nat, k = (t : Int) := ⟨k.toNat, by omega⟩
    subst ht
    obtain ⟨x, a, b⟩ := h2 t (by omega) ((hW t (by omega)).2 ⟨g, hL⟩)
    exact ⟨x, a, b⟩
  · rcases Nat.lt_trichotomy i j with q | q | q
    · have := h3 i j q hj; omega
    · exact q
    · have := h3 j i q hi; omega
end Go.DskLaw
