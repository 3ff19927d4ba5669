/-
  Vectors: the law VecOrders, as the code runs it.
-/
import Derived.Test.YtkaobalnjimniaaVecI3
set_option linter.unusedVariables false
set_option linter.unusedSimpArgs false
namespace Go.Proofs.Ytkaobalnjimniaa.Vec
open Go.Eng
open Go.VecLaw (lowV topV dotV gapV OS openV)
set_option maxRecDepth 100000
set_option maxHeartbeats 4000000
set_option linter.unusedVariables false

def LtP (n : Nat) (f : Nat → Int) (m : Nat) (g : Nat → Int) : Prop := (∃ i, i < n ∧ i < m ∧ (∀ j, j < i → f j = g j) ∧ f i < g i) ∨ (n < m ∧ ∀ j, j < n → f j = g j)
theorem first_diff (n : Nat) (f g : Nat → Int) : (∀ j, j < n → f j = g j) ∨ ∃ i, i < n ∧ (∀ j, j < i → f j = g j) ∧ f i ≠ g i := by
  induction n with
  | zero => exact .inl fun j hj => by omega
  | succ n ih =>
    rcases ih with h | ⟨i, h1, h2, h3⟩
    · by_cases e : f n = g n
      · refine .inl fun j hj => ?_
        by_cases e' : j = n
        · rw [e']; exact e
        · exact h j (by omega)
      · exact .inr ⟨n, by omega, h, e⟩
    · exact .inr ⟨i, by omega, h2, h3⟩
theorem ord_cases (n : Nat) (f : Nat → Int) (m : Nat) (g : Nat → Int) : (LtP n f m g ∧ OrdIs n f m g (-1)) ∨ (LtP m g n f ∧ OrdIs n f m g 1) ∨ ((n = m ∧ ∀ i, i < n → f i = g i) ∧ OrdIs n f m g 0) := by
  rcases first_diff (min n m) f g with h | ⟨i, h1, h2, h3⟩
  · have hno : ∀ i, i < n → i < m → f i ≠ g i → False := fun i a b c => c (h i (by omega))
    by_cases e1 : n < m
    · refine .inl ⟨.inr ⟨e1, fun j hj => h j (by omega)⟩, fun i a b _ c => (hno i a b c).elim, fun _ => ?_⟩
      unfold cmpV; rw [if_pos (by omega)]
    · by_cases e2 : m < n
      · refine .inr (.inl ⟨.inr ⟨e2, fun j hj => (h j (by omega)).symm⟩, fun i a b _ c => (hno i a b c).elim, fun _ => ?_⟩)
        unfold cmpV; rw [if_neg (by omega), if_pos (by omega)]
      · refine .inr (.inr ⟨⟨by omega, fun i hi => h i (by omega)⟩, fun i a b _ c => (hno i a b c).elim, fun _ => ?_⟩)
        unfold cmpV; rw [if_neg (by omega), if_neg (by omega)]
  · have huniq : ∀ i', i' < n → i' < m → (∀ j, j < i' → f j = g j) → f i' ≠ g i' → i' = i := fun i' a b c d => by
      by_cases e1 : i' < i
      · exact absurd (h2 i' e1) d
      · by_cases e2 : i < i'
        · exact absurd (c i e2) h3
        · omega
    by_cases e : f i < g i
    · refine .inl ⟨.inl ⟨i, by omega, by omega, h2, e⟩, fun i' a b c d => ?_, fun h => absurd (h i (by omega) (by omega)) h3⟩
      rw [huniq i' a b c d]; unfold cmpV; rw [if_pos e]
    · refine .inr (.inl ⟨.inl ⟨i, by omega, by omega, fun j hj => (h2 j hj).symm, by omega⟩, fun i' a b c d => ?_, fun h => absurd (h i (by omega) (by omega)) h3⟩)
      rw [huniq i' a b c d]; unfold cmpV; rw [if_neg e, if_pos (by omega)]
theorem LtP.trans {n m p : Nat} {f g h : Nat → Int} (h1 : LtP n f m g) (h2 : LtP m g p h) : LtP n f p h := by
  rcases h1 with ⟨i, a1, a2, a3, a4⟩ | ⟨a1, a2⟩ <;> rcases h2 with ⟨k, b1, b2, b3, b4⟩ | ⟨b1, b2⟩
  · by_cases e1 : i < k
    · exact .inl ⟨i, a1, by omega, fun j hj => (a3 j hj).trans (b3 j (by omega)), by rw [← b3 i e1]; exact a4⟩
    · by_cases e2 : k < i
      · exact .inl ⟨k, by omega, b2, fun j hj => (a3 j (by omega)).trans (b3 j hj), by rw [a3 k e2]; exact b4⟩
      · obtain rfl : i = k := by omega
        exact .inl ⟨i, a1, b2, fun j hj => (a3 j hj).trans (b3 j hj), by omega⟩
  · exact .inl ⟨i, a1, by omega, fun j hj => (a3 j hj).trans (b2 j (by omega)), by rw [← b2 i a2]; exact a4⟩
  · by_cases e : k < n
    · exact .inl ⟨k, e, b2, fun j hj => (a2 j (by omega)).trans (b3 j hj), by rw [a2 k e]; exact b4⟩
    · exact .inr ⟨by omega, fun j hj => (a2 j hj).trans (b3 j (by omega))⟩
  · exact .inr ⟨by omega, fun j hj => (a2 j hj).trans (b2 j (by omega))⟩
theorem LtP.irrefl {n : Nat} {f : Nat → Int} (h : LtP n f n f) : False := by
  rcases h with ⟨i, _, _, _, h⟩ | ⟨h, _⟩ <;> omega

theorem orders_facts (n : Nat) (f : Nat → Int) (m : Nat) (g : Nat → Int) (p : Nat) (h : Nat → Int) : ∃ r1 r2 r4 r5, OrdIs n f m g r1 ∧ OrdIs m g n f r2 ∧ OrdIs m g p h r4 ∧ OrdIs n f p h r5 ∧ r2 = -r1 ∧ (-1 ≤ r1 ∧ r1 ≤ 1) ∧ (r1 = 0 ↔ (n = m ∧ ∀ i, i < n → f i = g i)) ∧ (r1 < 0 → r4 < 0 → r5 < 0) := by
  have key : ∀ (n : Nat) (f : Nat → Int) (m : Nat) (g : Nat → Int), ∃ r, OrdIs n f m g r ∧ OrdIs m g n f (-r) ∧ (r < 0 ↔ LtP n f m g) ∧ (-1 ≤ r ∧ r ≤ 1) ∧ (r = 0 ↔ (n = m ∧ ∀ i, i < n → f i = g i)) := by
    intro n f m g
    rcases ord_cases n f m g with ⟨h1, h2⟩ | ⟨h1, h2⟩ | ⟨h1, h2⟩ <;> rcases ord_cases m g n f with ⟨k1, k2⟩ | ⟨k1, k2⟩ | ⟨k1, k2⟩
    · exact (h1.trans k1).irrefl.elim
    · exact ⟨-1, h2, k2, ⟨fun _ => h1, fun _ => by omega⟩, by omega, ⟨fun h => by omega, fun h => by obtain ⟨rfl, h⟩ := h; rcases h1 with ⟨i, a, b, c, d⟩ | ⟨a, b⟩; have := h i a; omega; omega⟩⟩
    · exfalso; obtain ⟨rfl, k⟩ := k1; rcases h1 with ⟨i, a, b, c, d⟩ | ⟨a, b⟩; have := k i a; omega; omega
    · exact ⟨1, h2, k2, ⟨fun h => by omega, fun h => (h.trans h1).irrefl.elim⟩, by omega, ⟨fun h => by omega, fun h => by obtain ⟨rfl, h⟩ := h; rcases h1 with ⟨i, a, b, c, d⟩ | ⟨a, b⟩; have := h i a; omega; omega⟩⟩
    · exact (h1.trans k1).irrefl.elim
    · exfalso; obtain ⟨rfl, k⟩ := k1; rcases h1 with ⟨i, a, b, c, d⟩ | ⟨a, b⟩; have := k i a; omega; omega
    · exfalso; obtain ⟨rfl, k⟩ := h1; rcases k1 with ⟨i, a, b, c, d⟩ | ⟨a, b⟩; have := k i a; omega; omega
    · exfalso; obtain ⟨rfl, k⟩ := h1; rcases k1 with ⟨i, a, b, c, d⟩ | ⟨a, b⟩; have := k i a; omega; omega
    · exact ⟨0, h2, k2, ⟨fun h => by omega, fun h => by obtain ⟨rfl, k⟩ := h1; rcases h with ⟨i, a, b, c, d⟩ | ⟨a, b⟩; have := k i a; omega; omega⟩, by omega, ⟨fun _ => h1, fun _ => rfl⟩⟩
  obtain ⟨r1, a1, a2, a3, a4, a5⟩ := key n f m g
  obtain ⟨r4, b1, b2, b3, b4, b5⟩ := key m g p h
  obtain ⟨r5, d1, d2, d3, d4, d5⟩ := key n f p h
  exact ⟨r1, -r1, r4, r5, a1, a2, b1, d1, rfl, a4, a5, fun h1 h2 => d3.2 ((a3.1 h1).trans (b3.1 h2))⟩

theorem orders_law {P : Program} {G : Gl} (hP : P = Try.prog) {n m p : Nat} {f g h : Nat → Int} (hn : n ≤ 9223372036854775807) (hm : m ≤ 9223372036854775807) (hp : p ≤ 9223372036854775807) :
    FnTr P G 12 [.ro 1 (.s n) (fun e => [.int .i64 (f e.val)]), .ro 1 (.s m) (fun e => [.int .i64 (g e.val)]), .ro 1 (.s p) (fun e => [.int .i64 (h e.val)])] [] 0 (Gives (.bl true) [] 90) := by
  have cl := lives_fn (P := P) (G := G) hP
  obtain ⟨r1, r2, r4, r5, o1, o2, o4, o5, e1, e2, e3, e4⟩ := orders_facts n f m g p h
  have c1 := order_fn (P := P) (G := G) hP hn hm o1
  have c2 := reforder_fn (P := P) (G := G) hP hn hm o1
  have c3 := order_fn (P := P) (G := G) hP hm hn o2
  obtain ⟨s, hs⟩ : ∃ s : Bool, s = true ↔ (n = m ∧ ∀ i, i < n → f i = g i) := by
    by_cases q : (n = m ∧ ∀ i, i < n → f i = g i)
    · exact ⟨true, fun _ => q, fun _ => rfl⟩
    · exact ⟨false, fun h => by (cases h), fun h' => absurd h' q⟩
  have c4 := same_fn (P := P) (G := G) hP hn hm hs
  have c5 := order_fn (P := P) (G := G) hP hm hp o4
  have c6 := order_fn (P := P) (G := G) hP hn hp o5
  have hsr : s = decide (r1 = 0) := by rw [Bool.eq_iff_iff, hs, decide_eq_true_iff, e3]
  clear o1 o2 o4 o5 e3 hs
  by_cases h30 : n ≤ 30 ∧ m ≤ 30
  · obtain ⟨on, hon⟩ : ∃ on, on = (openV f g (min n m)).n := ⟨_, rfl⟩
    obtain ⟨oa, hoa⟩ : ∃ oa, oa = (openV f g (min n m)).a := ⟨_, rfl⟩
    have c7 := open_fn (P := P) (G := G) (n := n) (m := m) (k := min n m) (c := on) (f := f) (g := g) (a := oa) hP (by omega) (by omega) rfl (by omega) (openV f g (min n m)) rfl hon (fun i => by rw [hoa])
    have c8 := refopen_fn (P := P) (G := G) (n := n) (m := m) (k := min n m) (c := on) (f := f) (g := g) (a := oa) hP (by omega) (by omega) rfl (by omega) (openV f g (min n m)) rfl hon (fun i => by rw [hoa])
    have hon8 : on ≤ 30 := by have := Go.VecLaw.openV_n f g (min n m); omega
    have c9 := same_fn (P := P) (G := G) (n := on) (m := on) (f := oa) (g := oa) (r := true) hP (by omega) (by omega) ⟨fun _ => ⟨rfl, fun _ _ => rfl⟩, fun _ => rfl⟩
    clear hon hoa
    have hT : T.Ok P := hP ▸ T_ok
    refine FnTr.intro (fn := Try.f12) (c := bodyOf Try.f12) (by rw [hP]; rfl) rfl rfl hT ?_
    generalize hA : Ar.real = A
    generalize hK : Gives _ _ _ = K
    cbv
    have k1 : A.ne r1 r1 = false := by subst hA; simp [Ar.real]
    have k2 : A.ne r2 (A.sub 0 r1) = false := by subst hA; simp [Ar.real]; omega
    have k3 : A.not (A.eqB (A.eq r1 0) s) = false := by rw [hsr]; subst hA; by_cases q : r1 = 0 <;> simp [Ar.real, q]
    refine ⟨fun h1 => ?_, fun h1 => by exfalso; subst hA; simp [Ar.real] at h1; omega⟩
    cbv
    refine ⟨fun h2 => ?_, fun h2 => by exfalso; subst hA; simp [Ar.real] at h2; omega⟩
    cbv
    refine ⟨fun h3 => ?_, fun h3 => ?_⟩
    · cbv
      refine CS.le hA (cl) [] rfl rfl rfl ?_ ?_ ?_
      · (try cbv) <;> (repeat' (first | exact trivial | exact rfl | apply And.intro | (intro _ hle; first | refine chunk_le hA rfl hle rfl ?_ | refine cat_le hA ?_ | refine upd_le hA ?_ | (try cbv)))) <;> (try (subst hA; (try simp only [natCast_eq] at *); (simp only [Ar.real, NV.val, Int.ofNat_eq_natCast, Int.toNat_natCast]); first | done | omega | decide | exact inR64 (by omega) (by omega) | (refine ⟨?_, ?_⟩ <;> first | omega | decide | exact inR64 (by omega) (by omega))))
      · (try cbv) <;> (repeat' (first | exact trivial | exact rfl | apply And.intro | (intro _ hle; first | refine chunk_le hA rfl hle rfl ?_ | refine cat_le hA ?_ | refine upd_le hA ?_ | (try cbv))))
      cbv
      refine Fin.le hA 0 [] (.bl true) ([]) 90 rfl rfl rfl ?_ ?_ (by rw [← hK]; exact ⟨rfl, rfl, rfl⟩)
      · (try cbv) <;> (repeat' (first | exact trivial | exact rfl | apply And.intro | (intro _ hle; first | refine chunk_le hA rfl hle rfl ?_ | refine cat_le hA ?_ | refine upd_le hA ?_ | (try cbv))))
      · (try cbv) <;> (repeat' (first | exact trivial | exact rfl | apply And.intro | (intro _ hle; first | refine chunk_le hA rfl hle rfl ?_ | refine cat_le hA ?_ | refine upd_le hA ?_ | (try cbv))))
    · cbv
      refine CS.le hA (c1) [] rfl rfl rfl ?_ ?_ ?_
      · (try cbv) <;> (repeat' (first | exact trivial | exact rfl | apply And.intro | (intro _ hle; first | refine chunk_le hA rfl hle rfl ?_ | refine cat_le hA ?_ | refine upd_le hA ?_ | (try cbv)))) <;> (try (subst hA; (try simp only [natCast_eq] at *); (simp only [Ar.real, NV.val, Int.ofNat_eq_natCast, Int.toNat_natCast]); first | done | omega | decide | exact inR64 (by omega) (by omega) | (refine ⟨?_, ?_⟩ <;> first | omega | decide | exact inR64 (by omega) (by omega))))
      · (try cbv) <;> (repeat' (first | exact trivial | exact rfl | apply And.intro | (intro _ hle; first | refine chunk_le hA rfl hle rfl ?_ | refine cat_le hA ?_ | refine upd_le hA ?_ | (try cbv))))
      cbv
      refine CS.le hA (c2) [] rfl rfl rfl ?_ ?_ ?_
      · (try cbv) <;> (repeat' (first | exact trivial | exact rfl | apply And.intro | (intro _ hle; first | refine chunk_le hA rfl hle rfl ?_ | refine cat_le hA ?_ | refine upd_le hA ?_ | (try cbv)))) <;> (try (subst hA; (try simp only [natCast_eq] at *); (simp only [Ar.real, NV.val, Int.ofNat_eq_natCast, Int.toNat_natCast]); first | done | omega | decide | exact inR64 (by omega) (by omega) | (refine ⟨?_, ?_⟩ <;> first | omega | decide | exact inR64 (by omega) (by omega))))
      · (try cbv) <;> (repeat' (first | exact trivial | exact rfl | apply And.intro | (intro _ hle; first | refine chunk_le hA rfl hle rfl ?_ | refine cat_le hA ?_ | refine upd_le hA ?_ | (try cbv))))
      cbv
      repeat' (first | (refine ⟨fun h => absurd (h.symm.trans k1) (by decide), fun _ => ?_⟩; cbv) | (refine ⟨fun _ => ?_, fun h => absurd (h.symm.trans k1) (by decide)⟩; cbv))
      refine CS.le hA (c3) [] rfl rfl rfl ?_ ?_ ?_
      · (try cbv) <;> (repeat' (first | exact trivial | exact rfl | apply And.intro | (intro _ hle; first | refine chunk_le hA rfl hle rfl ?_ | refine cat_le hA ?_ | refine upd_le hA ?_ | (try cbv)))) <;> (try (subst hA; (try simp only [natCast_eq] at *); (simp only [Ar.real, NV.val, Int.ofNat_eq_natCast, Int.toNat_natCast]); first | done | omega | decide | exact inR64 (by omega) (by omega) | (refine ⟨?_, ?_⟩ <;> first | omega | decide | exact inR64 (by omega) (by omega))))
      · (try cbv) <;> (repeat' (first | exact trivial | exact rfl | apply And.intro | (intro _ hle; first | refine chunk_le hA rfl hle rfl ?_ | refine cat_le hA ?_ | refine upd_le hA ?_ | (try cbv))))
      cbv
      refine ⟨(by (subst hA; (try simp only [natCast_eq] at *); (simp only [Ar.real, NV.val, Int.ofNat_eq_natCast, Int.toNat_natCast]); first | done | omega | decide | exact inR64 (by omega) (by omega) | (refine ⟨?_, ?_⟩ <;> first | omega | decide | exact inR64 (by omega) (by omega)))), ?_⟩
      repeat' (first | (refine ⟨fun h => absurd (h.symm.trans k2) (by decide), fun _ => ?_⟩; cbv) | (refine ⟨fun _ => ?_, fun h => absurd (h.symm.trans k2) (by decide)⟩; cbv))
      refine CS.le hA (c4) [] rfl rfl rfl ?_ ?_ ?_
      · (try cbv) <;> (repeat' (first | exact trivial | exact rfl | apply And.intro | (intro _ hle; first | refine chunk_le hA rfl hle rfl ?_ | refine cat_le hA ?_ | refine upd_le hA ?_ | (try cbv)))) <;> (try (subst hA; (try simp only [natCast_eq] at *); (simp only [Ar.real, NV.val, Int.ofNat_eq_natCast, Int.toNat_natCast]); first | done | omega | decide | exact inR64 (by omega) (by omega) | (refine ⟨?_, ?_⟩ <;> first | omega | decide | exact inR64 (by omega) (by omega))))
      · (try cbv) <;> (repeat' (first | exact trivial | exact rfl | apply And.intro | (intro _ hle; first | refine chunk_le hA rfl hle rfl ?_ | refine cat_le hA ?_ | refine upd_le hA ?_ | (try cbv))))
      cbv
      repeat' (first | (refine ⟨fun h => absurd (h.symm.trans k3) (by decide), fun _ => ?_⟩; cbv) | (refine ⟨fun _ => ?_, fun h => absurd (h.symm.trans k3) (by decide)⟩; cbv))
      by_cases q1 : r1 < 0
      · have k4 : A.lt r1 0 = true := by subst hA; simpa [Ar.real] using q1
        repeat' (first | (refine ⟨fun h => absurd (h.symm.trans k4) (by decide), fun _ => ?_⟩; cbv) | (refine ⟨fun _ => ?_, fun h => absurd (h.symm.trans k4) (by decide)⟩; cbv))
        refine CS.le hA (c5) [] rfl rfl rfl ?_ ?_ ?_
        · (try cbv) <;> (repeat' (first | exact trivial | exact rfl | apply And.intro | (intro _ hle; first | refine chunk_le hA rfl hle rfl ?_ | refine cat_le hA ?_ | refine upd_le hA ?_ | (try cbv)))) <;> (try (subst hA; (try simp only [natCast_eq] at *); (simp only [Ar.real, NV.val, Int.ofNat_eq_natCast, Int.toNat_natCast]); first | done | omega | decide | exact inR64 (by omega) (by omega) | (refine ⟨?_, ?_⟩ <;> first | omega | decide | exact inR64 (by omega) (by omega))))
        · (try cbv) <;> (repeat' (first | exact trivial | exact rfl | apply And.intro | (intro _ hle; first | refine chunk_le hA rfl hle rfl ?_ | refine cat_le hA ?_ | refine upd_le hA ?_ | (try cbv))))
        cbv
        by_cases q2 : r4 < 0
        · have k5 : A.lt r4 0 = true := by subst hA; simpa [Ar.real] using q2
          have k6 : A.ge r5 0 = false := by have := e4 q1 q2; subst hA; simp [Ar.real]; omega
          repeat' (first | (refine ⟨fun h => absurd (h.symm.trans k5) (by decide), fun _ => ?_⟩; cbv) | (refine ⟨fun _ => ?_, fun h => absurd (h.symm.trans k5) (by decide)⟩; cbv))
          refine CS.le hA (c6) [] rfl rfl rfl ?_ ?_ ?_
          · (try cbv) <;> (repeat' (first | exact trivial | exact rfl | apply And.intro | (intro _ hle; first | refine chunk_le hA rfl hle rfl ?_ | refine cat_le hA ?_ | refine upd_le hA ?_ | (try cbv)))) <;> (try (subst hA; (try simp only [natCast_eq] at *); (simp only [Ar.real, NV.val, Int.ofNat_eq_natCast, Int.toNat_natCast]); first | done | omega | decide | exact inR64 (by omega) (by omega) | (refine ⟨?_, ?_⟩ <;> first | omega | decide | exact inR64 (by omega) (by omega))))
          · (try cbv) <;> (repeat' (first | exact trivial | exact rfl | apply And.intro | (intro _ hle; first | refine chunk_le hA rfl hle rfl ?_ | refine cat_le hA ?_ | refine upd_le hA ?_ | (try cbv))))
          cbv
          repeat' (first | (refine ⟨fun h => absurd (h.symm.trans k6) (by decide), fun _ => ?_⟩; cbv) | (refine ⟨fun _ => ?_, fun h => absurd (h.symm.trans k6) (by decide)⟩; cbv))
          refine CS.le hA (c7) [] rfl rfl rfl ?_ ?_ ?_
          · (try cbv) <;> (repeat' (first | exact trivial | exact rfl | apply And.intro | (intro _ hle; first | refine chunk_le hA rfl hle rfl ?_ | refine cat_le hA ?_ | refine upd_le hA ?_ | (try cbv)))) <;> (try (subst hA; (try simp only [natCast_eq] at *); (simp only [Ar.real, NV.val, Int.ofNat_eq_natCast, Int.toNat_natCast]); first | done | omega | decide | exact inR64 (by omega) (by omega) | (refine ⟨?_, ?_⟩ <;> first | omega | decide | exact inR64 (by omega) (by omega))))
          · (try cbv) <;> (repeat' (first | exact trivial | exact rfl | apply And.intro | (intro _ hle; first | refine chunk_le hA rfl hle rfl ?_ | refine cat_le hA ?_ | refine upd_le hA ?_ | (try cbv))))
          cbv
          refine CS.le hA (c8) [] rfl rfl rfl ?_ ?_ ?_
          · (try cbv) <;> (repeat' (first | exact trivial | exact rfl | apply And.intro | (intro _ hle; first | refine chunk_le hA rfl hle rfl ?_ | refine cat_le hA ?_ | refine upd_le hA ?_ | (try cbv)))) <;> (try (subst hA; (try simp only [natCast_eq] at *); (simp only [Ar.real, NV.val, Int.ofNat_eq_natCast, Int.toNat_natCast]); first | done | omega | decide | exact inR64 (by omega) (by omega) | (refine ⟨?_, ?_⟩ <;> first | omega | decide | exact inR64 (by omega) (by omega))))
          · (try cbv) <;> (repeat' (first | exact trivial | exact rfl | apply And.intro | (intro _ hle; first | refine chunk_le hA rfl hle rfl ?_ | refine cat_le hA ?_ | refine upd_le hA ?_ | (try cbv))))
          cbv
          refine CS.leR hA (c9) (.bl true) [] rfl rfl rfl ?_ ?_ ?_ ?_
          · (try cbv) <;> (repeat' (first | exact trivial | exact rfl | apply And.intro | (intro _ hle; first | refine chunk_le hA rfl hle rfl ?_ | refine cat_le hA ?_ | refine upd_le hA ?_ | (try cbv)))) <;> (try (subst hA; (try simp only [natCast_eq] at *); (simp only [Ar.real, NV.val, Int.ofNat_eq_natCast, Int.toNat_natCast]); first | done | omega | decide | exact inR64 (by omega) (by omega) | (refine ⟨?_, ?_⟩ <;> first | omega | decide | exact inR64 (by omega) (by omega))))
          · (try cbv) <;> (repeat' (first | exact trivial | exact rfl | apply And.intro | (intro _ hle; first | refine chunk_le hA rfl hle rfl ?_ | refine cat_le hA ?_ | refine upd_le hA ?_ | (try cbv)))) <;> (try (subst hA; (try simp only [natCast_eq] at *); (simp only [Ar.real, NV.val, Int.ofNat_eq_natCast, Int.toNat_natCast]); first | done | omega | decide | exact inR64 (by omega) (by omega) | (refine ⟨?_, ?_⟩ <;> first | omega | decide | exact inR64 (by omega) (by omega))))
          · (try cbv) <;> (repeat' (first | exact trivial | exact rfl | apply And.intro | (intro _ hle; first | refine chunk_le hA rfl hle rfl ?_ | refine cat_le hA ?_ | refine upd_le hA ?_ | (try cbv))))
          cbv
          refine CS.le hA (cl) [] rfl rfl rfl ?_ ?_ ?_
          · (try cbv) <;> (repeat' (first | exact trivial | exact rfl | apply And.intro | (intro _ hle; first | refine chunk_le hA rfl hle rfl ?_ | refine cat_le hA ?_ | refine upd_le hA ?_ | (try cbv)))) <;> (try (subst hA; (try simp only [natCast_eq] at *); (simp only [Ar.real, NV.val, Int.ofNat_eq_natCast, Int.toNat_natCast]); first | done | omega | decide | exact inR64 (by omega) (by omega) | (refine ⟨?_, ?_⟩ <;> first | omega | decide | exact inR64 (by omega) (by omega))))
          · (try cbv) <;> (repeat' (first | exact trivial | exact rfl | apply And.intro | (intro _ hle; first | refine chunk_le hA rfl hle rfl ?_ | refine cat_le hA ?_ | refine upd_le hA ?_ | (try cbv))))
          cbv
          refine Fin.le hA 0 [] (.bl true) ([]) 90 rfl rfl rfl ?_ ?_ (by rw [← hK]; exact ⟨rfl, rfl, rfl⟩)
          · (try cbv) <;> (repeat' (first | exact trivial | exact rfl | apply And.intro | (intro _ hle; first | refine chunk_le hA rfl hle rfl ?_ | refine cat_le hA ?_ | refine upd_le hA ?_ | (try cbv))))
          · (try cbv) <;> (repeat' (first | exact trivial | exact rfl | apply And.intro | (intro _ hle; first | refine chunk_le hA rfl hle rfl ?_ | refine cat_le hA ?_ | refine upd_le hA ?_ | (try cbv))))
        · have k5 : A.lt r4 0 = false := by subst hA; simp [Ar.real]; omega
          repeat' (first | (refine ⟨fun h => absurd (h.symm.trans k5) (by decide), fun _ => ?_⟩; cbv) | (refine ⟨fun _ => ?_, fun h => absurd (h.symm.trans k5) (by decide)⟩; cbv))
          refine CS.le hA (c7) [] rfl rfl rfl ?_ ?_ ?_
          · (try cbv) <;> (repeat' (first | exact trivial | exact rfl | apply And.intro | (intro _ hle; first | refine chunk_le hA rfl hle rfl ?_ | refine cat_le hA ?_ | refine upd_le hA ?_ | (try cbv)))) <;> (try (subst hA; (try simp only [natCast_eq] at *); (simp only [Ar.real, NV.val, Int.ofNat_eq_natCast, Int.toNat_natCast]); first | done | omega | decide | exact inR64 (by omega) (by omega) | (refine ⟨?_, ?_⟩ <;> first | omega | decide | exact inR64 (by omega) (by omega))))
          · (try cbv) <;> (repeat' (first | exact trivial | exact rfl | apply And.intro | (intro _ hle; first | refine chunk_le hA rfl hle rfl ?_ | refine cat_le hA ?_ | refine upd_le hA ?_ | (try cbv))))
          cbv
          refine CS.le hA (c8) [] rfl rfl rfl ?_ ?_ ?_
          · (try cbv) <;> (repeat' (first | exact trivial | exact rfl | apply And.intro | (intro _ hle; first | refine chunk_le hA rfl hle rfl ?_ | refine cat_le hA ?_ | refine upd_le hA ?_ | (try cbv)))) <;> (try (subst hA; (try simp only [natCast_eq] at *); (simp only [Ar.real, NV.val, Int.ofNat_eq_natCast, Int.toNat_natCast]); first | done | omega | decide | exact inR64 (by omega) (by omega) | (refine ⟨?_, ?_⟩ <;> first | omega | decide | exact inR64 (by omega) (by omega))))
          · (try cbv) <;> (repeat' (first | exact trivial | exact rfl | apply And.intro | (intro _ hle; first | refine chunk_le hA rfl hle rfl ?_ | refine cat_le hA ?_ | refine upd_le hA ?_ | (try cbv))))
          cbv
          refine CS.leR hA (c9) (.bl true) [] rfl rfl rfl ?_ ?_ ?_ ?_
          · (try cbv) <;> (repeat' (first | exact trivial | exact rfl | apply And.intro | (intro _ hle; first | refine chunk_le hA rfl hle rfl ?_ | refine cat_le hA ?_ | refine upd_le hA ?_ | (try cbv)))) <;> (try (subst hA; (try simp only [natCast_eq] at *); (simp only [Ar.real, NV.val, Int.ofNat_eq_natCast, Int.toNat_natCast]); first | done | omega | decide | exact inR64 (by omega) (by omega) | (refine ⟨?_, ?_⟩ <;> first | omega | decide | exact inR64 (by omega) (by omega))))
          · (try cbv) <;> (repeat' (first | exact trivial | exact rfl | apply And.intro | (intro _ hle; first | refine chunk_le hA rfl hle rfl ?_ | refine cat_le hA ?_ | refine upd_le hA ?_ | (try cbv)))) <;> (try (subst hA; (try simp only [natCast_eq] at *); (simp only [Ar.real, NV.val, Int.ofNat_eq_natCast, Int.toNat_natCast]); first | done | omega | decide | exact inR64 (by omega) (by omega) | (refine ⟨?_, ?_⟩ <;> first | omega | decide | exact inR64 (by omega) (by omega))))
          · (try cbv) <;> (repeat' (first | exact trivial | exact rfl | apply And.intro | (intro _ hle; first | refine chunk_le hA rfl hle rfl ?_ | refine cat_le hA ?_ | refine upd_le hA ?_ | (try cbv))))
          cbv
          refine CS.le hA (cl) [] rfl rfl rfl ?_ ?_ ?_
          · (try cbv) <;> (repeat' (first | exact trivial | exact rfl | apply And.intro | (intro _ hle; first | refine chunk_le hA rfl hle rfl ?_ | refine cat_le hA ?_ | refine upd_le hA ?_ | (try cbv)))) <;> (try (subst hA; (try simp only [natCast_eq] at *); (simp only [Ar.real, NV.val, Int.ofNat_eq_natCast, Int.toNat_natCast]); first | done | omega | decide | exact inR64 (by omega) (by omega) | (refine ⟨?_, ?_⟩ <;> first | omega | decide | exact inR64 (by omega) (by omega))))
          · (try cbv) <;> (repeat' (first | exact trivial | exact rfl | apply And.intro | (intro _ hle; first | refine chunk_le hA rfl hle rfl ?_ | refine cat_le hA ?_ | refine upd_le hA ?_ | (try cbv))))
          cbv
          refine Fin.le hA 0 [] (.bl true) ([]) 90 rfl rfl rfl ?_ ?_ (by rw [← hK]; exact ⟨rfl, rfl, rfl⟩)
          · (try cbv) <;> (repeat' (first | exact trivial | exact rfl | apply And.intro | (intro _ hle; first | refine chunk_le hA rfl hle rfl ?_ | refine cat_le hA ?_ | refine upd_le hA ?_ | (try cbv))))
          · (try cbv) <;> (repeat' (first | exact trivial | exact rfl | apply And.intro | (intro _ hle; first | refine chunk_le hA rfl hle rfl ?_ | refine cat_le hA ?_ | refine upd_le hA ?_ | (try cbv))))
      · have k4 : A.lt r1 0 = false := by subst hA; simp [Ar.real]; omega
        repeat' (first | (refine ⟨fun h => absurd (h.symm.trans k4) (by decide), fun _ => ?_⟩; cbv) | (refine ⟨fun _ => ?_, fun h => absurd (h.symm.trans k4) (by decide)⟩; cbv))
        refine CS.le hA (c7) [] rfl rfl rfl ?_ ?_ ?_
        · (try cbv) <;> (repeat' (first | exact trivial | exact rfl | apply And.intro | (intro _ hle; first | refine chunk_le hA rfl hle rfl ?_ | refine cat_le hA ?_ | refine upd_le hA ?_ | (try cbv)))) <;> (try (subst hA; (try simp only [natCast_eq] at *); (simp only [Ar.real, NV.val, Int.ofNat_eq_natCast, Int.toNat_natCast]); first | done | omega | decide | exact inR64 (by omega) (by omega) | (refine ⟨?_, ?_⟩ <;> first | omega | decide | exact inR64 (by omega) (by omega))))
        · (try cbv) <;> (repeat' (first | exact trivial | exact rfl | apply And.intro | (intro _ hle; first | refine chunk_le hA rfl hle rfl ?_ | refine cat_le hA ?_ | refine upd_le hA ?_ | (try cbv))))
        cbv
        refine CS.le hA (c8) [] rfl rfl rfl ?_ ?_ ?_
        · (try cbv) <;> (repeat' (first | exact trivial | exact rfl | apply And.intro | (intro _ hle; first | refine chunk_le hA rfl hle rfl ?_ | refine cat_le hA ?_ | refine upd_le hA ?_ | (try cbv)))) <;> (try (subst hA; (try simp only [natCast_eq] at *); (simp only [Ar.real, NV.val, Int.ofNat_eq_natCast, Int.toNat_natCast]); first | done | omega | decide | exact inR64 (by omega) (by omega) | (refine ⟨?_, ?_⟩ <;> first | omega | decide | exact inR64 (by omega) (by omega))))
        · (try cbv) <;> (repeat' (first | exact trivial | exact rfl | apply And.intro | (intro _ hle; first | refine chunk_le hA rfl hle rfl ?_ | refine cat_le hA ?_ | refine upd_le hA ?_ | (try cbv))))
        cbv
        refine CS.leR hA (c9) (.bl true) [] rfl rfl rfl ?_ ?_ ?_ ?_
        · (try cbv) <;> (repeat' (first | exact trivial | exact rfl | apply And.intro | (intro _ hle; first | refine chunk_le hA rfl hle rfl ?_ | refine cat_le hA ?_ | refine upd_le hA ?_ | (try cbv)))) <;> (try (subst hA; (try simp only [natCast_eq] at *); (simp only [Ar.real, NV.val, Int.ofNat_eq_natCast, Int.toNat_natCast]); first | done | omega | decide | exact inR64 (by omega) (by omega) | (refine ⟨?_, ?_⟩ <;> first | omega | decide | exact inR64 (by omega) (by omega))))
        · (try cbv) <;> (repeat' (first | exact trivial | exact rfl | apply And.intro | (intro _ hle; first | refine chunk_le hA rfl hle rfl ?_ | refine cat_le hA ?_ | refine upd_le hA ?_ | (try cbv)))) <;> (try (subst hA; (try simp only [natCast_eq] at *); (simp only [Ar.real, NV.val, Int.ofNat_eq_natCast, Int.toNat_natCast]); first | done | omega | decide | exact inR64 (by omega) (by omega) | (refine ⟨?_, ?_⟩ <;> first | omega | decide | exact inR64 (by omega) (by omega))))
        · (try cbv) <;> (repeat' (first | exact trivial | exact rfl | apply And.intro | (intro _ hle; first | refine chunk_le hA rfl hle rfl ?_ | refine cat_le hA ?_ | refine upd_le hA ?_ | (try cbv))))
        cbv
        refine CS.le hA (cl) [] rfl rfl rfl ?_ ?_ ?_
        · (try cbv) <;> (repeat' (first | exact trivial | exact rfl | apply And.intro | (intro _ hle; first | refine chunk_le hA rfl hle rfl ?_ | refine cat_le hA ?_ | refine upd_le hA ?_ | (try cbv)))) <;> (try (subst hA; (try simp only [natCast_eq] at *); (simp only [Ar.real, NV.val, Int.ofNat_eq_natCast, Int.toNat_natCast]); first | done | omega | decide | exact inR64 (by omega) (by omega) | (refine ⟨?_, ?_⟩ <;> first | omega | decide | exact inR64 (by omega) (by omega))))
        · (try cbv) <;> (repeat' (first | exact trivial | exact rfl | apply And.intro | (intro _ hle; first | refine chunk_le hA rfl hle rfl ?_ | refine cat_le hA ?_ | refine upd_le hA ?_ | (try cbv))))
        cbv
        refine Fin.le hA 0 [] (.bl true) ([]) 90 rfl rfl rfl ?_ ?_ (by rw [← hK]; exact ⟨rfl, rfl, rfl⟩)
        · (try cbv) <;> (repeat' (first | exact trivial | exact rfl | apply And.intro | (intro _ hle; first | refine chunk_le hA rfl hle rfl ?_ | refine cat_le hA ?_ | refine upd_le hA ?_ | (try cbv))))
        · (try cbv) <;> (repeat' (first | exact trivial | exact rfl | apply And.intro | (intro _ hle; first | refine chunk_le hA rfl hle rfl ?_ | refine cat_le hA ?_ | refine upd_le hA ?_ | (try cbv))))
  · clear c1 c2 c3 c4 c5 c6 e4 hsr
    have hT : T.Ok P := hP ▸ T_ok
    refine FnTr.intro (fn := Try.f12) (c := bodyOf Try.f12) (by rw [hP]; rfl) rfl rfl hT ?_
    generalize hA : Ar.real = A
    generalize hK : Gives _ _ _ = K
    cbv
    by_cases h31 : 30 < n
    · have k1 : A.gt (A.i2 n) 30 = true := by subst hA; simp [Ar.real]; omega
      repeat' (first | (refine ⟨fun h => absurd (h.symm.trans k1) (by decide), fun _ => ?_⟩; cbv) | (refine ⟨fun _ => ?_, fun h => absurd (h.symm.trans k1) (by decide)⟩; cbv))
      refine CS.le hA (cl) [] rfl rfl rfl ?_ ?_ ?_
      · (try cbv) <;> (repeat' (first | exact trivial | exact rfl | apply And.intro | (intro _ hle; first | refine chunk_le hA rfl hle rfl ?_ | refine cat_le hA ?_ | refine upd_le hA ?_ | (try cbv)))) <;> (try (subst hA; (try simp only [natCast_eq] at *); (simp only [Ar.real, NV.val, Int.ofNat_eq_natCast, Int.toNat_natCast]); first | done | omega | decide | exact inR64 (by omega) (by omega) | (refine ⟨?_, ?_⟩ <;> first | omega | decide | exact inR64 (by omega) (by omega))))
      · (try cbv) <;> (repeat' (first | exact trivial | exact rfl | apply And.intro | (intro _ hle; first | refine chunk_le hA rfl hle rfl ?_ | refine cat_le hA ?_ | refine upd_le hA ?_ | (try cbv))))
      cbv
      refine Fin.le hA 0 [] (.bl true) ([]) 90 rfl rfl rfl ?_ ?_ (by rw [← hK]; exact ⟨rfl, rfl, rfl⟩)
      · (try cbv) <;> (repeat' (first | exact trivial | exact rfl | apply And.intro | (intro _ hle; first | refine chunk_le hA rfl hle rfl ?_ | refine cat_le hA ?_ | refine upd_le hA ?_ | (try cbv))))
      · (try cbv) <;> (repeat' (first | exact trivial | exact rfl | apply And.intro | (intro _ hle; first | refine chunk_le hA rfl hle rfl ?_ | refine cat_le hA ?_ | refine upd_le hA ?_ | (try cbv))))
    · have k1 : A.gt (A.i2 n) 30 = false := by subst hA; simp [Ar.real]; omega
      have k2 : A.gt (A.i2 m) 30 = true := by subst hA; simp [Ar.real]; omega
      repeat' (first | (refine ⟨fun h => absurd (h.symm.trans k1) (by decide), fun _ => ?_⟩; cbv) | (refine ⟨fun _ => ?_, fun h => absurd (h.symm.trans k1) (by decide)⟩; cbv) | (refine ⟨fun h => absurd (h.symm.trans k2) (by decide), fun _ => ?_⟩; cbv) | (refine ⟨fun _ => ?_, fun h => absurd (h.symm.trans k2) (by decide)⟩; cbv))
      refine CS.le hA (cl) [] rfl rfl rfl ?_ ?_ ?_
      · (try cbv) <;> (repeat' (first | exact trivial | exact rfl | apply And.intro | (intro _ hle; first | refine chunk_le hA rfl hle rfl ?_ | refine cat_le hA ?_ | refine upd_le hA ?_ | (try cbv)))) <;> (try (subst hA; (try simp only [natCast_eq] at *); (simp only [Ar.real, NV.val, Int.ofNat_eq_natCast, Int.toNat_natCast]); first | done | omega | decide | exact inR64 (by omega) (by omega) | (refine ⟨?_, ?_⟩ <;> first | omega | decide | exact inR64 (by omega) (by omega))))
      · (try cbv) <;> (repeat' (first | exact trivial | exact rfl | apply And.intro | (intro _ hle; first | refine chunk_le hA rfl hle rfl ?_ | refine cat_le hA ?_ | refine upd_le hA ?_ | (try cbv))))
      cbv
      refine Fin.le hA 0 [] (.bl true) ([]) 90 rfl rfl rfl ?_ ?_ (by rw [← hK]; exact ⟨rfl, rfl, rfl⟩)
      · (try cbv) <;> (repeat' (first | exact trivial | exact rfl | apply And.intro | (intro _ hle; first | refine chunk_le hA rfl hle rfl ?_ | refine cat_le hA ?_ | refine upd_le hA ?_ | (try cbv))))
      · (try cbv) <;> (repeat' (first | exact trivial | exact rfl | apply And.intro | (intro _ hle; first | refine chunk_le hA rfl hle rfl ?_ | refine cat_le hA ?_ | refine upd_le hA ?_ | (try cbv))))
end Go.Proofs.Ytkaobalnjimniaa.Vec
