/-
  Vectors: the laws VecReach and VecOrders, as the code runs them.
-/
import Derived.Test.YtkaobalnjimniaaVecI2
set_option linter.unusedVariables false
set_option linter.unusedSimpArgs false
namespace Go.Proofs.Ytkaobalnjimniaa.Vec
open Go.Eng
open Go.VecLaw (lowV topV dotV gapV OS openV)
set_option maxRecDepth 100000
set_option maxHeartbeats 4000000
set_option linter.unusedVariables false

theorem reach_in {n : Nat} {f : Nat → Int} {k : Nat} {len : Nat → Nat} {g : Nat → Nat → Int} {r1 r2 er : Int} (h : ReachIs n f k len g r1 r2 er) (he : er = 0) :
    0 < k ∧ ∃ D : Nat → Int, (∀ i, i < k → DotIs n f (len i) (g i) (D i) 0 ∧ r1 ≤ D i ∧ D i ≤ r2) ∧ (∃ i, i < k ∧ D i = r1) ∧ ∃ i, i < k ∧ D i = r2 := by
  rcases h with ⟨⟨h0, h1⟩, _, e1, e2⟩ | ⟨_, h, _⟩
  · refine ⟨h0, fun i => dotV f (g i) n, fun i hi => ⟨.inl ⟨h1 i hi, rfl, rfl⟩, ?_, ?_⟩, ?_, ?_⟩
    · rw [e1]; exact Go.VecLaw.lowV_le _ _ i (by omega)
    · rw [e2]; exact Go.VecLaw.topV_le _ _ i (by omega)
    · obtain ⟨i, h2, h3⟩ := Go.VecLaw.lowV_at (fun i => dotV f (g i) n) (k - 1)
      exact ⟨i, by omega, by rw [e1]; exact h3.symm⟩
    · obtain ⟨i, h2, h3⟩ := Go.VecLaw.topV_at (fun i => dotV f (g i) n) (k - 1)
      exact ⟨i, by omega, by rw [e2]; exact h3.symm⟩
  · omega

theorem some_steps {D : Nat → Int} (r : Int) : ∃ L : Nat → Bool, L 0 = false ∧ (∀ i, L (i + 1) = (L i || decide (D i = r))) ∧ ∀ m, (∃ i, i < m ∧ D i = r) → L m = true := by
  refine ⟨fun m => Nat.rec false (fun i b => b || decide (D i = r)) m, rfl, fun _ => rfl, fun m => ?_⟩
  induction m with
  | zero => rintro ⟨i, h, _⟩; omega
  | succ m ih =>
    rintro ⟨i, h, h2⟩
    show (Nat.rec false (fun i b => b || decide (D i = r)) m || decide (D m = r)) = true
    by_cases e : i = m
    · subst e; simp [h2]
    · have h3 : Nat.rec false (fun i b => b || decide (D i = r)) m = true := ih ⟨i, by omega, h2⟩
      rw [h3]; rfl

theorem reach_law {P : Program} {G : Gl} (hP : P = Try.prog) {n k : Nat} {f : Nat → Int} {len : Nat → Nat} {g : Nat → Nat → Int} (hn : n ≤ 9223372036854775807) (hk : k ≤ 9223372036854775807) (hl : ∀ i, i < k → len i ≤ 9223372036854775807) :
    FnTr P G 11 [.ro 1 (.s n) (fun e => [.int .i64 (f e.val)]), LSv k len g] [] 0 (Gives (.bl true) [] 90) := by
  obtain ⟨mu, hmu⟩ := muchP_ex k len 60
  have cl := lives_fn (P := P) (G := G) hP
  have cm := much_fn (P := P) (G := G) (g := g) hP hk hmu
  cases mu with
  | true =>
    clear hmu
    have hT : T.Ok P := hP ▸ T_ok
    refine FnTr.intro (fn := Try.f11) (c := bodyOf Try.f11) (by rw [hP]; rfl) rfl rfl hT ?_
    generalize hA : Ar.real = A
    generalize hK : Gives _ _ _ = K
    cbv
    refine CS.leR hA (cm) (.bl true) [] rfl rfl rfl ?_ ?_ ?_ ?_
    · (try cbv) <;> (repeat' (first | exact trivial | exact rfl | apply And.intro | (intro _ hle; first | refine chunk_le hA rfl hle rfl ?_ | refine cat_le hA ?_ | refine upd_le hA ?_ | (try cbv)))) <;> (try (subst hA; (try simp only [natCast_eq] at *); (simp only [Ar.real, NV.val, Int.ofNat_eq_natCast, Int.toNat_natCast]); first | done | omega | decide | exact inR64 (by omega) (by omega) | (refine ⟨?_, ?_⟩ <;> first | omega | decide | exact inR64 (by omega) (by omega))))
    · (try cbv) <;> (repeat' (first | exact trivial | exact rfl | apply And.intro | (intro _ hle; first | refine chunk_le hA rfl hle rfl ?_ | refine cat_le hA ?_ | refine upd_le hA ?_ | (try cbv)))) <;> (try (subst hA; (try simp only [natCast_eq] at *); (simp only [Ar.real, NV.val, Int.ofNat_eq_natCast, Int.toNat_natCast]); first | done | omega | decide | exact inR64 (by omega) (by omega) | (refine ⟨?_, ?_⟩ <;> first | omega | decide | exact inR64 (by omega) (by omega))))
    · (try cbv) <;> (repeat' (first | exact trivial | exact rfl | apply And.intro | (intro _ hle; first | refine chunk_le hA rfl hle rfl ?_ | refine cat_le hA ?_ | refine upd_le hA ?_ | (try cbv))))
    cbv
    refine CS.le hA (cl) [] rfl rfl rfl ?_ ?_ ?_
    · (try cbv) <;> (repeat' (first | exact trivial | exact rfl | apply And.intro | (intro _ hle; first | refine chunk_le hA rfl hle rfl ?_ | refine cat_le hA ?_ | refine upd_le hA ?_ | (try cbv)))) <;> (try (subst hA; (try simp only [natCast_eq] at *); (simp only [Ar.real, NV.val, Int.ofNat_eq_natCast, Int.toNat_natCast]); first | done | omega | decide | exact inR64 (by omega) (by omega) | (refine ⟨?_, ?_⟩ <;> first | omega | decide | exact inR64 (by omega) (by omega))))
    · (try cbv) <;> (repeat' (first | exact trivial | exact rfl | apply And.intro | (intro _ hle; first | refine chunk_le hA rfl hle rfl ?_ | refine cat_le hA ?_ | refine upd_le hA ?_ | (try cbv))))
    cbv
    refine Fin.le hA 0 [] (.bl true) ([]) 90 rfl rfl rfl ?_ ?_ (by rw [← hK]; exact ⟨rfl, rfl, rfl⟩)
    · (try cbv) <;> (repeat' (first | exact trivial | exact rfl | apply And.intro | (intro _ hle; first | refine chunk_le hA rfl hle rfl ?_ | refine cat_le hA ?_ | refine upd_le hA ?_ | (try cbv))))
    · (try cbv) <;> (repeat' (first | exact trivial | exact rfl | apply And.intro | (intro _ hle; first | refine chunk_le hA rfl hle rfl ?_ | refine cat_le hA ?_ | refine upd_le hA ?_ | (try cbv))))
  | false =>
  have hk60 : k ≤ 60 := Decidable.byContradiction fun h => by have := hmu.2 (.inl (by omega)); cases this
  clear hmu
  obtain ⟨r1, r2, er, hr⟩ := reachIs_ex n f k len g
  have c1 := reach_fn (P := P) (G := G) hP hn (by omega) hl hr
  have c2 := refreach_fn (P := P) (G := G) hP hn (by omega) hl hr
  obtain ⟨D, hD⟩ : ∃ D : Nat → Int, er = 0 → 0 < k ∧ (∀ i, i < k → FnTr P G 43 [.ro 1 (.s n) (fun e => [.int .i64 (f e.val)]), .ro 1 (.s (len i)) (fun e => [.int .i64 (g i e.val)])] [] 0 (Gives (.tup [.int .i64 (D i), .int .i64 0]) [] 1) ∧ r1 ≤ D i ∧ D i ≤ r2) ∧ (∃ i, i < k ∧ D i = r1) ∧ ∃ i, i < k ∧ D i = r2 := by
    by_cases he : er = 0
    · obtain ⟨h0, D, h1, h2, h3⟩ := reach_in hr he
      exact ⟨D, fun _ => ⟨h0, fun i hi => ⟨dot_fn hP hn (hl i hi) (h1 i hi).1, (h1 i hi).2⟩, h2, h3⟩⟩
    · exact ⟨fun _ => 0, fun h => absurd h he⟩
  obtain ⟨L, hL0, hLs, hLn⟩ : ∃ L : Nat → Bool, L 0 = false ∧ (∀ i, L (i + 1) = (L i || decide (D i = r1))) ∧ ∀ m, (∃ i, i < m ∧ D i = r1) → L m = true := some_steps _
  obtain ⟨M, hM0, hMs, hMn⟩ : ∃ L : Nat → Bool, L 0 = false ∧ (∀ i, L (i + 1) = (L i || decide (D i = r2))) ∧ ∀ m, (∃ i, i < m ∧ D i = r2) → L m = true := some_steps _
  clear hr
  have hT : T.Ok P := hP ▸ T_ok
  refine FnTr.intro (fn := Try.f11) (c := bodyOf Try.f11) (by rw [hP]; rfl) rfl rfl hT ?_
  generalize hA : Ar.real = A
  generalize hK : Gives _ _ _ = K
  cbv
  have k1 : A.ne r1 r1 = false := by subst hA; simp [Ar.real]
  have k2 : A.ne r2 r2 = false := by subst hA; simp [Ar.real]
  have k3 : A.ne er er = false := by subst hA; simp [Ar.real]
  refine CS.leR hA (cm) (.bl false) [] rfl rfl rfl ?_ ?_ ?_ ?_
  · (try cbv) <;> (repeat' (first | exact trivial | exact rfl | apply And.intro | (intro _ hle; first | refine chunk_le hA rfl hle rfl ?_ | refine cat_le hA ?_ | refine upd_le hA ?_ | (try cbv)))) <;> (try (subst hA; (try simp only [natCast_eq] at *); (simp only [Ar.real, NV.val, Int.ofNat_eq_natCast, Int.toNat_natCast]); first | done | omega | decide | exact inR64 (by omega) (by omega) | (refine ⟨?_, ?_⟩ <;> first | omega | decide | exact inR64 (by omega) (by omega))))
  · (try cbv) <;> (repeat' (first | exact trivial | exact rfl | apply And.intro | (intro _ hle; first | refine chunk_le hA rfl hle rfl ?_ | refine cat_le hA ?_ | refine upd_le hA ?_ | (try cbv)))) <;> (try (subst hA; (try simp only [natCast_eq] at *); (simp only [Ar.real, NV.val, Int.ofNat_eq_natCast, Int.toNat_natCast]); first | done | omega | decide | exact inR64 (by omega) (by omega) | (refine ⟨?_, ?_⟩ <;> first | omega | decide | exact inR64 (by omega) (by omega))))
  · (try cbv) <;> (repeat' (first | exact trivial | exact rfl | apply And.intro | (intro _ hle; first | refine chunk_le hA rfl hle rfl ?_ | refine cat_le hA ?_ | refine upd_le hA ?_ | (try cbv))))
  cbv
  refine ⟨fun h1 => ?_, fun h1 => ?_⟩
  · cbv
    refine CS.le hA (cl) [] rfl rfl rfl ?_ ?_ ?_
    · (try cbv) <;> (repeat' (first | exact trivial | exact rfl | apply And.intro | (intro _ hle; first | refine chunk_le hA rfl hle rfl ?_ | refine cat_le hA ?_ | refine upd_le hA ?_ | (try cbv)))) <;> (try (subst hA; (try simp only [natCast_eq] at *); (simp only [Ar.real, NV.val, Int.ofNat_eq_natCast, Int.toNat_natCast]); first | done | omega | decide | exact inR64 (by omega) (by omega) | (refine ⟨?_, ?_⟩ <;> first | omega | decide | exact inR64 (by omega) (by omega))))
    · (try cbv) <;> (repeat' (first | exact trivial | exact rfl | apply And.intro | (intro _ hle; first | refine chunk_le hA rfl hle rfl ?_ | refine cat_le hA ?_ | refine upd_le hA ?_ | (try cbv))))
    cbv
    refine Fin.le hA 0 [] (.bl true) ([]) 90 rfl rfl rfl ?_ ?_ (by rw [← hK]; exact ⟨rfl, rfl, rfl⟩)
    · (try cbv) <;> (repeat' (first | exact trivial | exact rfl | apply And.intro | (intro _ hle; first | refine chunk_le hA rfl hle rfl ?_ | refine cat_le hA ?_ | refine upd_le hA ?_ | (try cbv))))
    · (try cbv) <;> (repeat' (first | exact trivial | exact rfl | apply And.intro | (intro _ hle; first | refine chunk_le hA rfl hle rfl ?_ | refine cat_le hA ?_ | refine upd_le hA ?_ | (try cbv))))
  · clear h1
    cbv
    refine CS.le hA (c1) [] rfl rfl rfl ?_ ?_ ?_
    · (try cbv) <;> (repeat' (first | exact trivial | exact rfl | apply And.intro | (intro _ hle; first | refine chunk_le hA rfl hle rfl ?_ | refine cat_le hA ?_ | refine upd_le hA ?_ | (try cbv)))) <;> (try (subst hA; (try simp only [natCast_eq] at *); (simp only [Ar.real, NV.val, Int.ofNat_eq_natCast, Int.toNat_natCast]); first | done | omega | decide | exact inR64 (by omega) (by omega) | (refine ⟨?_, ?_⟩ <;> first | omega | decide | exact inR64 (by omega) (by omega))))
    · (try cbv) <;> (repeat' (first | exact trivial | exact rfl | apply And.intro | (intro _ hle; first | refine chunk_le hA rfl hle rfl ?_ | refine cat_le hA ?_ | refine upd_le hA ?_ | (try cbv))))
    cbv
    refine CS.le hA (c2) [] rfl rfl rfl ?_ ?_ ?_
    · (try cbv) <;> (repeat' (first | exact trivial | exact rfl | apply And.intro | (intro _ hle; first | refine chunk_le hA rfl hle rfl ?_ | refine cat_le hA ?_ | refine upd_le hA ?_ | (try cbv)))) <;> (try (subst hA; (try simp only [natCast_eq] at *); (simp only [Ar.real, NV.val, Int.ofNat_eq_natCast, Int.toNat_natCast]); first | done | omega | decide | exact inR64 (by omega) (by omega) | (refine ⟨?_, ?_⟩ <;> first | omega | decide | exact inR64 (by omega) (by omega))))
    · (try cbv) <;> (repeat' (first | exact trivial | exact rfl | apply And.intro | (intro _ hle; first | refine chunk_le hA rfl hle rfl ?_ | refine cat_le hA ?_ | refine upd_le hA ?_ | (try cbv))))
    cbv
    repeat' (first | (refine ⟨fun h => absurd (h.symm.trans k1) (by decide), fun _ => ?_⟩; cbv) | (refine ⟨fun _ => ?_, fun h => absurd (h.symm.trans k1) (by decide)⟩; cbv) | (refine ⟨fun h => absurd (h.symm.trans k2) (by decide), fun _ => ?_⟩; cbv) | (refine ⟨fun _ => ?_, fun h => absurd (h.symm.trans k2) (by decide)⟩; cbv) | (refine ⟨fun h => absurd (h.symm.trans k3) (by decide), fun _ => ?_⟩; cbv) | (refine ⟨fun _ => ?_, fun h => absurd (h.symm.trans k3) (by decide)⟩; cbv))
    refine LS.le hT hA 0 (fun (i : Nat) => [(11, .bs (L i)), (12, .bs (M i)), (13, .int .i64 (i : Int))]) (fun _ => []) (fun i => i ≤ k) (fun i => k - i) 0 [] rfl rfl ?_ ?_ ?_
    · (try cbv) <;> (repeat' (first | exact trivial | exact rfl | apply And.intro | (intro _ hle; first | refine chunk_le hA rfl hle rfl ?_ | refine cat_le hA ?_ | refine upd_le hA ?_ | (try cbv))))
      · exact hL0.symm
      · exact hM0.symm
    · exact Nat.zero_le _
    · intro R hR j hj
      cbv
      refine ⟨fun h8 => ?_, fun h8 => ?_⟩
      · have hj1 : j < k := by subst hA; simp [Ar.real] at h8; omega
        cbv
        refine ⟨fun h9 => ?_, fun h9 => ?_⟩
        · have he : er = 0 := by subst hA; simpa [Ar.real] using h9
          obtain ⟨c10, q1, q2⟩ := (hD he).2.1 j hj1
          have k4 : A.lt (D j) r1 = false := by subst hA; simp [Ar.real]; omega
          have k5 : A.gt (D j) r2 = false := by subst hA; simp [Ar.real]; omega
          have hLj := hLs j
          have hMj := hMs j
          clear hD hLs hMs hLn hMn hL0 hM0
          cbv
          refine ⟨(by (subst hA; (try simp only [natCast_eq] at *); (simp only [Ar.real, NV.val, Int.ofNat_eq_natCast, Int.toNat_natCast]); first | done | omega | decide | exact inR64 (by omega) (by omega) | (refine ⟨?_, ?_⟩ <;> first | omega | decide | exact inR64 (by omega) (by omega)))), ?_⟩
          refine CS.leR hA (c10) (.tup [.int .i64 (D j), .lit .i64 0]) [] rfl rfl rfl ?_ ?_ ?_ ?_
          · (try cbv) <;> (repeat' (first | exact trivial | exact rfl | apply And.intro | (intro _ hle; first | refine chunk_le hA rfl hle rfl ?_ | refine cat_le hA ?_ | refine upd_le hA ?_ | (try cbv)))) <;> (try (subst hA; (try simp only [natCast_eq] at *); (simp only [Ar.real, NV.val, Int.ofNat_eq_natCast, Int.toNat_natCast]); first | done | omega | decide | exact inR64 (by omega) (by omega) | (refine ⟨?_, ?_⟩ <;> first | omega | decide | exact inR64 (by omega) (by omega))))
          · (try cbv) <;> (repeat' (first | exact trivial | exact rfl | apply And.intro | (intro _ hle; first | refine chunk_le hA rfl hle rfl ?_ | refine cat_le hA ?_ | refine upd_le hA ?_ | (try cbv)))) <;> (try (subst hA; (try simp only [natCast_eq] at *); (simp only [Ar.real, NV.val, Int.ofNat_eq_natCast, Int.toNat_natCast]); first | done | omega | decide | exact inR64 (by omega) (by omega) | (refine ⟨?_, ?_⟩ <;> first | omega | decide | exact inR64 (by omega) (by omega))))
          · (try cbv) <;> (repeat' (first | exact trivial | exact rfl | apply And.intro | (intro _ hle; first | refine chunk_le hA rfl hle rfl ?_ | refine cat_le hA ?_ | refine upd_le hA ?_ | (try cbv))))
          cbv
          repeat' (first | (refine ⟨fun h => absurd (h.symm.trans k4) (by decide), fun _ => ?_⟩; cbv) | (refine ⟨fun _ => ?_, fun h => absurd (h.symm.trans k4) (by decide)⟩; cbv) | (refine ⟨fun h => absurd (h.symm.trans k5) (by decide), fun _ => ?_⟩; cbv) | (refine ⟨fun _ => ?_, fun h => absurd (h.symm.trans k5) (by decide)⟩; cbv))
          refine ⟨fun h10 => ?_, fun h10 => ?_⟩
          · cbv
            refine ⟨fun h11 => ?_, fun h11 => ?_⟩
            · cbv
              refine ⟨(by (subst hA; (try simp only [natCast_eq] at *); (simp only [Ar.real, NV.val, Int.ofNat_eq_natCast, Int.toNat_natCast]); first | done | omega | decide | exact inR64 (by omega) (by omega) | (refine ⟨?_, ?_⟩ <;> first | omega | decide | exact inR64 (by omega) (by omega)))), hR _ _ ⟨j + 1, 0, [], rfl, rfl, ?_, hj1, (by show k - (j + 1) < k - j; omega)⟩⟩
              clear hR
              (try cbv) <;> (repeat' (first | exact trivial | exact rfl | apply And.intro | (intro _ hle; first | refine chunk_le hA rfl hle rfl ?_ | refine cat_le hA ?_ | refine upd_le hA ?_ | (try cbv))))
              · rw [hLj, h10]; subst hA; simp [Ar.real] <;> rfl
              · rw [hMj, h11]; subst hA; simp [Ar.real] <;> rfl
              · (subst hA; (try simp only [natCast_eq] at *); (simp only [Ar.real, NV.val, Int.ofNat_eq_natCast, Int.toNat_natCast]); first | done | omega | decide | exact inR64 (by omega) (by omega) | (refine ⟨?_, ?_⟩ <;> first | omega | decide | exact inR64 (by omega) (by omega)))
            · cbv
              refine ⟨(by (subst hA; (try simp only [natCast_eq] at *); (simp only [Ar.real, NV.val, Int.ofNat_eq_natCast, Int.toNat_natCast]); first | done | omega | decide | exact inR64 (by omega) (by omega) | (refine ⟨?_, ?_⟩ <;> first | omega | decide | exact inR64 (by omega) (by omega)))), hR _ _ ⟨j + 1, 0, [], rfl, rfl, ?_, hj1, (by show k - (j + 1) < k - j; omega)⟩⟩
              clear hR
              (try cbv) <;> (repeat' (first | exact trivial | exact rfl | apply And.intro | (intro _ hle; first | refine chunk_le hA rfl hle rfl ?_ | refine cat_le hA ?_ | refine upd_le hA ?_ | (try cbv))))
              · rw [hLj, h10]; subst hA; simp [Ar.real] <;> rfl
              · rw [hMj, h11]; subst hA; simp [Ar.real] <;> rfl
              · (subst hA; (try simp only [natCast_eq] at *); (simp only [Ar.real, NV.val, Int.ofNat_eq_natCast, Int.toNat_natCast]); first | done | omega | decide | exact inR64 (by omega) (by omega) | (refine ⟨?_, ?_⟩ <;> first | omega | decide | exact inR64 (by omega) (by omega)))
          · cbv
            refine ⟨fun h11 => ?_, fun h11 => ?_⟩
            · cbv
              refine ⟨(by (subst hA; (try simp only [natCast_eq] at *); (simp only [Ar.real, NV.val, Int.ofNat_eq_natCast, Int.toNat_natCast]); first | done | omega | decide | exact inR64 (by omega) (by omega) | (refine ⟨?_, ?_⟩ <;> first | omega | decide | exact inR64 (by omega) (by omega)))), hR _ _ ⟨j + 1, 0, [], rfl, rfl, ?_, hj1, (by show k - (j + 1) < k - j; omega)⟩⟩
              clear hR
              (try cbv) <;> (repeat' (first | exact trivial | exact rfl | apply And.intro | (intro _ hle; first | refine chunk_le hA rfl hle rfl ?_ | refine cat_le hA ?_ | refine upd_le hA ?_ | (try cbv))))
              · rw [hLj, h10]; subst hA; simp [Ar.real] <;> rfl
              · rw [hMj, h11]; subst hA; simp [Ar.real] <;> rfl
              · (subst hA; (try simp only [natCast_eq] at *); (simp only [Ar.real, NV.val, Int.ofNat_eq_natCast, Int.toNat_natCast]); first | done | omega | decide | exact inR64 (by omega) (by omega) | (refine ⟨?_, ?_⟩ <;> first | omega | decide | exact inR64 (by omega) (by omega)))
            · cbv
              refine ⟨(by (subst hA; (try simp only [natCast_eq] at *); (simp only [Ar.real, NV.val, Int.ofNat_eq_natCast, Int.toNat_natCast]); first | done | omega | decide | exact inR64 (by omega) (by omega) | (refine ⟨?_, ?_⟩ <;> first | omega | decide | exact inR64 (by omega) (by omega)))), hR _ _ ⟨j + 1, 0, [], rfl, rfl, ?_, hj1, (by show k - (j + 1) < k - j; omega)⟩⟩
              clear hR
              (try cbv) <;> (repeat' (first | exact trivial | exact rfl | apply And.intro | (intro _ hle; first | refine chunk_le hA rfl hle rfl ?_ | refine cat_le hA ?_ | refine upd_le hA ?_ | (try cbv))))
              · rw [hLj, h10]; subst hA; simp [Ar.real] <;> rfl
              · rw [hMj, h11]; subst hA; simp [Ar.real] <;> rfl
              · (subst hA; (try simp only [natCast_eq] at *); (simp only [Ar.real, NV.val, Int.ofNat_eq_natCast, Int.toNat_natCast]); first | done | omega | decide | exact inR64 (by omega) (by omega) | (refine ⟨?_, ?_⟩ <;> first | omega | decide | exact inR64 (by omega) (by omega)))
        · have he : A.ne er 0 = true := by subst hA; simpa [Ar.real] using h9
          clear hD hR
          cbv
          repeat' (first | (refine ⟨fun h => absurd (h.symm.trans he) (by decide), fun _ => ?_⟩; cbv) | (refine ⟨fun _ => ?_, fun h => absurd (h.symm.trans he) (by decide)⟩; cbv))
          refine CS.le hA (cl) [] rfl rfl rfl ?_ ?_ ?_
          · (try cbv) <;> (repeat' (first | exact trivial | exact rfl | apply And.intro | (intro _ hle; first | refine chunk_le hA rfl hle rfl ?_ | refine cat_le hA ?_ | refine upd_le hA ?_ | (try cbv)))) <;> (try (subst hA; (try simp only [natCast_eq] at *); (simp only [Ar.real, NV.val, Int.ofNat_eq_natCast, Int.toNat_natCast]); first | done | omega | decide | exact inR64 (by omega) (by omega) | (refine ⟨?_, ?_⟩ <;> first | omega | decide | exact inR64 (by omega) (by omega))))
          · (try cbv) <;> (repeat' (first | exact trivial | exact rfl | apply And.intro | (intro _ hle; first | refine chunk_le hA rfl hle rfl ?_ | refine cat_le hA ?_ | refine upd_le hA ?_ | (try cbv))))
          cbv
          refine Fin.le hA 0 [] (.bl true) ([]) 90 rfl rfl rfl ?_ ?_ (by rw [← hK]; exact ⟨rfl, rfl, rfl⟩)
          · (try cbv) <;> (repeat' (first | exact trivial | exact rfl | apply And.intro | (intro _ hle; first | refine chunk_le hA rfl hle rfl ?_ | refine cat_le hA ?_ | refine upd_le hA ?_ | (try cbv))))
          · (try cbv) <;> (repeat' (first | exact trivial | exact rfl | apply And.intro | (intro _ hle; first | refine chunk_le hA rfl hle rfl ?_ | refine cat_le hA ?_ | refine upd_le hA ?_ | (try cbv))))
      · have hjk : j = k := by subst hA; simp [Ar.real] at h8; omega
        subst hjk
        clear hR
        by_cases he : er = 0
        · have he' : A.ne er 0 = false := by subst hA; simpa [Ar.real] using he
          have hLt := hLn j (hD he).2.2.1
          have hMt := hMn j (hD he).2.2.2
          clear hD hLs hMs hLn hMn
          cbv
          repeat' (first | (refine ⟨fun h => absurd (h.symm.trans he') (by decide), fun _ => ?_⟩; cbv) | (refine ⟨fun _ => ?_, fun h => absurd (h.symm.trans he') (by decide)⟩; cbv) | (refine ⟨fun h => absurd (h.symm.trans hLt) (by decide), fun _ => ?_⟩; cbv) | (refine ⟨fun _ => ?_, fun h => absurd (h.symm.trans hLt) (by decide)⟩; cbv) | (refine ⟨fun h => absurd (h.symm.trans hMt) (by decide), fun _ => ?_⟩; cbv) | (refine ⟨fun _ => ?_, fun h => absurd (h.symm.trans hMt) (by decide)⟩; cbv))
          refine CS.le hA (cl) [] rfl rfl rfl ?_ ?_ ?_
          · (try cbv) <;> (repeat' (first | exact trivial | exact rfl | apply And.intro | (intro _ hle; first | refine chunk_le hA rfl hle rfl ?_ | refine cat_le hA ?_ | refine upd_le hA ?_ | (try cbv)))) <;> (try (subst hA; (try simp only [natCast_eq] at *); (simp only [Ar.real, NV.val, Int.ofNat_eq_natCast, Int.toNat_natCast]); first | done | omega | decide | exact inR64 (by omega) (by omega) | (refine ⟨?_, ?_⟩ <;> first | omega | decide | exact inR64 (by omega) (by omega))))
          · (try cbv) <;> (repeat' (first | exact trivial | exact rfl | apply And.intro | (intro _ hle; first | refine chunk_le hA rfl hle rfl ?_ | refine cat_le hA ?_ | refine upd_le hA ?_ | (try cbv))))
          cbv
          refine Fin.le hA 0 [] (.bl true) ([]) 90 rfl rfl rfl ?_ ?_ (by rw [← hK]; exact ⟨rfl, rfl, rfl⟩)
          · (try cbv) <;> (repeat' (first | exact trivial | exact rfl | apply And.intro | (intro _ hle; first | refine chunk_le hA rfl hle rfl ?_ | refine cat_le hA ?_ | refine upd_le hA ?_ | (try cbv))))
          · (try cbv) <;> (repeat' (first | exact trivial | exact rfl | apply And.intro | (intro _ hle; first | refine chunk_le hA rfl hle rfl ?_ | refine cat_le hA ?_ | refine upd_le hA ?_ | (try cbv))))
        · have he' : A.ne er 0 = true := by subst hA; simpa [Ar.real] using he
          clear hD
          cbv
          repeat' (first | (refine ⟨fun h => absurd (h.symm.trans he') (by decide), fun _ => ?_⟩; cbv) | (refine ⟨fun _ => ?_, fun h => absurd (h.symm.trans he') (by decide)⟩; cbv))
          refine CS.le hA (cl) [] rfl rfl rfl ?_ ?_ ?_
          · (try cbv) <;> (repeat' (first | exact trivial | exact rfl | apply And.intro | (intro _ hle; first | refine chunk_le hA rfl hle rfl ?_ | refine cat_le hA ?_ | refine upd_le hA ?_ | (try cbv)))) <;> (try (subst hA; (try simp only [natCast_eq] at *); (simp only [Ar.real, NV.val, Int.ofNat_eq_natCast, Int.toNat_natCast]); first | done | omega | decide | exact inR64 (by omega) (by omega) | (refine ⟨?_, ?_⟩ <;> first | omega | decide | exact inR64 (by omega) (by omega))))
          · (try cbv) <;> (repeat' (first | exact trivial | exact rfl | apply And.intro | (intro _ hle; first | refine chunk_le hA rfl hle rfl ?_ | refine cat_le hA ?_ | refine upd_le hA ?_ | (try cbv))))
          cbv
          refine Fin.le hA 0 [] (.bl true) ([]) 90 rfl rfl rfl ?_ ?_ (by rw [← hK]; exact ⟨rfl, rfl, rfl⟩)
          · (try cbv) <;> (repeat' (first | exact trivial | exact rfl | apply And.intro | (intro _ hle; first | refine chunk_le hA rfl hle rfl ?_ | refine cat_le hA ?_ | refine upd_le hA ?_ | (try cbv))))
          · (try cbv) <;> (repeat' (first | exact trivial | exact rfl | apply And.intro | (intro _ hle; first | refine chunk_le hA rfl hle rfl ?_ | refine cat_le hA ?_ | refine upd_le hA ?_ | (try cbv))))
end Go.Proofs.Ytkaobalnjimniaa.Vec
