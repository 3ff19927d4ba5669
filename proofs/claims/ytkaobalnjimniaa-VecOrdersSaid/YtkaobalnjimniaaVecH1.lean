/-
  Vectors: the least and the greatest product, both.
-/
import Derived.Test.YtkaobalnjimniaaVecF9
set_option linter.unusedVariables false
set_option linter.unusedSimpArgs false
namespace Go.Proofs.Ytkaobalnjimniaa.Vec
open Go.Eng
open Go.VecLaw (lowV topV dotV gapV OS openV)
set_option maxRecDepth 100000
set_option linter.unusedVariables false

def ReachOk (n : Nat) (f : Nat → Int) (k : Nat) (len : Nat → Nat) (g : Nat → Nat → Int) : Prop := 0 < k ∧ ∀ i, i < k → DotOk n f (len i) (g i)
def ReachIs (n : Nat) (f : Nat → Int) (k : Nat) (len : Nat → Nat) (g : Nat → Nat → Int) (r1 r2 er : Int) : Prop :=
  (ReachOk n f k len g ∧ er = 0 ∧ r1 = lowV (fun i => dotV f (g i) n) (k - 1) ∧ r2 = topV (fun i => dotV f (g i) n) (k - 1)) ∨ (¬ ReachOk n f k len g ∧ er = 80 ∧ r1 = 0 ∧ r2 = 0)
theorem reachIs_ex (n : Nat) (f : Nat → Int) (k : Nat) (len : Nat → Nat) (g : Nat → Nat → Int) : ∃ r1 r2 er, ReachIs n f k len g r1 r2 er := by
  by_cases h : ReachOk n f k len g
  · exact ⟨_, _, _, .inl ⟨h, rfl, rfl, rfl⟩⟩
  · exact ⟨_, _, _, .inr ⟨h, rfl, rfl, rfl⟩⟩

theorem reach_fn {P : Program} {G : Gl} (hP : P = Try.prog) {n k : Nat} {f : Nat → Int} {len : Nat → Nat} {g : Nat → Nat → Int} {r1 r2 er : Int} (hn : n ≤ 9223372036854775807) (hk : k ≤ 1000000000) (hl : ∀ i, i < k → len i ≤ 9223372036854775807) (hd : ReachIs n f k len g r1 r2 er) :
    FnTr P G 55 [.ro 1 (.s n) (fun e => [.int .i64 (f e.val)]), LSv k len g] [] 0 (Gives (.tup [.int .i64 r1, .int .i64 r2, .int .i64 er]) [] 4) := by
  obtain ⟨Q, hQ0, hQs, hQn, hQm⟩ := all_steps (fun i => DotOk n f (len i) (g i))
  obtain ⟨V, hV⟩ : ∃ V : Nat → Int, ∀ i, V i = dotV f (g i) n := ⟨_, fun _ => rfl⟩
  have hend : 0 < k → Q k → er = 0 ∧ r1 = lowV V (k - 1) ∧ r2 = topV V (k - 1) := fun h0 hq => by
    have hVe : V = fun i => dotV f (g i) n := funext hV
    rcases hd with ⟨⟨h1, _⟩, h2, h3, h4⟩ | ⟨h1, h2⟩
    · exact ⟨h2, by rw [hVe]; exact h3, by rw [hVe]; exact h4⟩
    · exact absurd ⟨h0, (hQn k).1 hq⟩ h1
  have hz : k = 0 → er = 80 ∧ r1 = 0 ∧ r2 = 0 := fun h => by
    rcases hd with ⟨⟨h1, _⟩, _⟩ | ⟨_, h2⟩
    · omega
    · exact h2
  have hbad : ∀ i, i < k → ¬ DotOk n f (len i) (g i) → er = 80 ∧ r1 = 0 ∧ r2 = 0 := fun i hi h => by
    rcases hd with ⟨h1, _⟩ | ⟨_, h2⟩
    · exact absurd (h1.2 i hi) h
    · exact h2
  have hgood : ∀ i, i < k → DotOk n f (len i) (g i) → FnTr P G 43 [.ro 1 (.s n) (fun e => [.int .i64 (f e.val)]), .ro 1 (.s (len i)) (fun e => [.int .i64 (g i e.val)])] [] 0 (Gives (.tup [.int .i64 (V i), .int .i64 0]) [] 1) := fun i hi h =>
    dot_fn hP hn (hl i hi) (.inl ⟨h, rfl, hV i⟩)
  have hbadc : ∀ i, i < k → ¬ DotOk n f (len i) (g i) → FnTr P G 43 [.ro 1 (.s n) (fun e => [.int .i64 (f e.val)]), .ro 1 (.s (len i)) (fun e => [.int .i64 (g i e.val)])] [] 0 (Gives (.tup [.int .i64 0, .int .i64 80]) [] 1) := fun i hi h =>
    dot_fn hP hn (hl i hi) (.inr ⟨h, rfl, rfl⟩)
  clear hd hQn hQm hV
  have hends : ∀ m lo hi, k = m + 1 → lo = lowV V m → hi = topV V m → FnTr P G 75 [.ro 1 (.s k) (fun e => [.int .i64 (V e.val)])] [] 0 (Gives (.tup [.int .i64 lo, .int .i64 hi]) [] 0) := fun m lo hi h1 h2 h3 => by
    rw [h1]; exact ends_fn hP (by omega) h2 h3
  have hpush : ∀ {A : Ar} (i : Nat), Ar.real = A → ∀ e : NV, ltNV A e (.s (A.addN i 1)) → leL (leSV A 4) (catG A 1 (.s i) (fun e => [.int .i64 (V e.val)]) (fun x => chunkS A 1 [.int .i64 (V i)] (addNV A (.l 0) x)) e) [.int .i64 (V e.val)] := fun i hA =>
    ints_push hA (fun j => by split <;> simp_all)
  have hT : T.Ok P := hP ▸ T_ok
  refine FnTr.intro (fn := Try.f55) (c := bodyOf Try.f55) (by rw [hP]; rfl) rfl rfl hT ?_
  generalize hA : Ar.real = A
  generalize hK : Gives _ _ _ = K
  cbv
  refine ⟨fun h5 => ?_, fun h5 => ?_⟩
  · have h0 : k = 0 := by clear hpush; subst hA; simp only [Ar.real] at h5; simp at h5; omega
    obtain ⟨e1, e2, e3⟩ := hz h0
    cbv
    refine Fin.le hA 0 [] (.tup [.int .i64 r1, .int .i64 r2, .int .i64 er]) ([]) 4 rfl rfl rfl ?_ ?_ (by rw [← hK]; exact ⟨rfl, rfl, rfl⟩)
    · (try cbv) <;> (repeat' (first | exact trivial | exact rfl | apply And.intro | (intro _ hle; first | refine chunk_le hA rfl hle rfl ?_ | refine cat_le hA ?_ | refine upd_le hA ?_ | (try cbv))))
      · exact e2.symm
      · exact e3.symm
      · exact e1.symm
    · (try cbv) <;> (repeat' (first | exact trivial | exact rfl | apply And.intro | (intro _ hle; first | refine chunk_le hA rfl hle rfl ?_ | refine cat_le hA ?_ | refine upd_le hA ?_ | (try cbv))))
  · have h0 : 0 < k := by clear hpush; subst hA; simp only [Ar.real] at h5; simp at h5; omega
    cbv
    refine ⟨⟨(by (subst hA; (try simp only [natCast_eq] at *); (simp only [Ar.real, NV.val, Int.ofNat_eq_natCast, Int.toNat_natCast]); first | done | omega | decide | exact inR64 (by omega) (by omega) | (refine ⟨?_, ?_⟩ <;> first | omega | decide | exact inR64 (by omega) (by omega)))), (by (subst hA; (try simp only [natCast_eq] at *); (simp only [Ar.real, NV.val, Int.ofNat_eq_natCast, Int.toNat_natCast]); first | done | omega | decide | exact inR64 (by omega) (by omega) | (refine ⟨?_, ?_⟩ <;> first | omega | decide | exact inR64 (by omega) (by omega)))), (by (subst hA; (try simp only [natCast_eq] at *); (simp only [Ar.real, NV.val, Int.ofNat_eq_natCast, Int.toNat_natCast]); first | done | omega | decide | exact inR64 (by omega) (by omega) | (refine ⟨?_, ?_⟩ <;> first | omega | decide | exact inR64 (by omega) (by omega)))), (by (subst hA; (try simp only [natCast_eq] at *); (simp only [Ar.real, NV.val, Int.ofNat_eq_natCast, Int.toNat_natCast]); first | done | omega | decide | exact inR64 (by omega) (by omega) | (refine ⟨?_, ?_⟩ <;> first | omega | decide | exact inR64 (by omega) (by omega))))⟩, ?_⟩
    refine LS.clr [19] ?_
    refine LS.le hT hA 0 (fun (i : Nat) => [(7, .sl 0 1 (.l 0) (.s i)), (22, .int .i64 (i : Int))]) (fun i => [(0, .row 3 1 (.s i) (fun e => [.int .i64 (V e.val)]))]) (fun i => i ≤ k ∧ Q i) (fun i => k - i) 0 [(8, 0)] rfl rfl ?_ ?_ ?_
    · (try cbv) <;> (repeat' (first | exact trivial | exact rfl | apply And.intro | (intro _ hle; first | refine chunk_le hA rfl hle rfl ?_ | refine cat_le hA ?_ | refine upd_le hA ?_ | refine int_le ?_ | skip)))
      all_goals (exfalso; subst hA; exact absurd (ltNV_real.1 hle) (Nat.not_lt_zero _))
    · exact ⟨Nat.zero_le _, hQ0⟩
    · intro R hR i hp
      cbv
      obtain ⟨h3, h4⟩ := hp
      refine ⟨fun h6 => ?_, fun h6 => ?_⟩
      · have hi : i < k := by clear hQs hpush; subst hA; simp only [Ar.real] at h6; simp at h6; omega
        by_cases hok : DotOk n f (len i) (g i)
        · have c1 := hgood i hi hok
          have hq : Q (i + 1) := (hQs i).2 ⟨h4, hok⟩
          have hp1 := hpush i hA
          clear hgood hbadc hbad hQs hok hend hpush
          cbv
          refine ⟨(by (subst hA; (try simp only [natCast_eq] at *); (simp only [Ar.real, NV.val, Int.ofNat_eq_natCast, Int.toNat_natCast]); first | done | omega | decide | exact inR64 (by omega) (by omega) | (refine ⟨?_, ?_⟩ <;> first | omega | decide | exact inR64 (by omega) (by omega)))), ?_⟩
          refine CS.leR hA (c1) (.tup [.int .i64 (V i), .lit .i64 0]) [] rfl rfl rfl ?_ ?_ ?_ ?_
          · (try cbv) <;> (repeat' (first | exact trivial | exact rfl | apply And.intro | (intro _ hle; first | refine chunk_le hA rfl hle rfl ?_ | refine cat_le hA ?_ | refine upd_le hA ?_ | (try cbv)))) <;> (try (subst hA; (try simp only [natCast_eq] at *); (simp only [Ar.real, NV.val, Int.ofNat_eq_natCast, Int.toNat_natCast]); first | done | omega | decide | exact inR64 (by omega) (by omega) | (refine ⟨?_, ?_⟩ <;> first | omega | decide | exact inR64 (by omega) (by omega))))
          · (try cbv) <;> (repeat' (first | exact trivial | exact rfl | apply And.intro | (intro _ hle; first | refine chunk_le hA rfl hle rfl ?_ | refine cat_le hA ?_ | refine upd_le hA ?_ | (try cbv)))) <;> (try (subst hA; (try simp only [natCast_eq] at *); (simp only [Ar.real, NV.val, Int.ofNat_eq_natCast, Int.toNat_natCast]); first | done | omega | decide | exact inR64 (by omega) (by omega) | (refine ⟨?_, ?_⟩ <;> first | omega | decide | exact inR64 (by omega) (by omega))))
          · (try cbv) <;> (repeat' (first | exact trivial | exact rfl | apply And.intro | (intro _ hle; first | refine chunk_le hA rfl hle rfl ?_ | refine cat_le hA ?_ | refine upd_le hA ?_ | (try cbv))))
          cbv
          refine ⟨⟨(by (subst hA; (try simp only [natCast_eq] at *); (simp only [Ar.real, NV.val, Int.ofNat_eq_natCast, Int.toNat_natCast]); first | done | omega | decide | exact inR64 (by omega) (by omega) | (refine ⟨?_, ?_⟩ <;> first | omega | decide | exact inR64 (by omega) (by omega)))), (by (subst hA; (try simp only [natCast_eq] at *); (simp only [Ar.real, NV.val, Int.ofNat_eq_natCast, Int.toNat_natCast]); first | done | omega | decide | exact inR64 (by omega) (by omega) | (refine ⟨?_, ?_⟩ <;> first | omega | decide | exact inR64 (by omega) (by omega)))), (by (subst hA; (try simp only [natCast_eq] at *); (simp only [Ar.real, NV.val, Int.ofNat_eq_natCast, Int.toNat_natCast]); first | done | omega | decide | exact inR64 (by omega) (by omega) | (refine ⟨?_, ?_⟩ <;> first | omega | decide | exact inR64 (by omega) (by omega))))⟩, (by (subst hA; (try simp only [natCast_eq] at *); (simp only [Ar.real, NV.val, Int.ofNat_eq_natCast, Int.toNat_natCast]); first | done | omega | decide | exact inR64 (by omega) (by omega) | (refine ⟨?_, ?_⟩ <;> first | omega | decide | exact inR64 (by omega) (by omega)))), hR _ _ ⟨i + 1, 0, [(18, 0)], rfl, rfl, ?_, ⟨hi, hq⟩, (by show k - (i + 1) < k - i; omega)⟩⟩
          clear hR
          (try cbv) <;> (repeat' (first | exact trivial | exact rfl | apply And.intro | (intro _ hle; first | exact hp1 _ hle | refine chunk_le hA rfl hle rfl ?_ | refine cat_le hA ?_ | refine upd_le hA ?_ | refine int_le ?_ | skip)))
          all_goals (subst hA; (try simp only [natCast_eq] at *); (simp only [Ar.real, NV.val, Int.ofNat_eq_natCast, Int.toNat_natCast]); first | done | omega | decide | exact inR64 (by omega) (by omega) | (refine ⟨?_, ?_⟩ <;> first | omega | decide | exact inR64 (by omega) (by omega)))
        · have c1 := hbadc i hi hok
          obtain ⟨e1, e2, e3⟩ := hbad i hi hok
          clear hgood hbadc hbad hQs hok hend hR
          cbv
          refine ⟨(by (subst hA; (try simp only [natCast_eq] at *); (simp only [Ar.real, NV.val, Int.ofNat_eq_natCast, Int.toNat_natCast]); first | done | omega | decide | exact inR64 (by omega) (by omega) | (refine ⟨?_, ?_⟩ <;> first | omega | decide | exact inR64 (by omega) (by omega)))), ?_⟩
          refine CS.leR hA (c1) (.tup [.int .i64 0, .lit .i64 80]) [] rfl rfl rfl ?_ ?_ ?_ ?_
          · (try cbv) <;> (repeat' (first | exact trivial | exact rfl | apply And.intro | (intro _ hle; first | refine chunk_le hA rfl hle rfl ?_ | refine cat_le hA ?_ | refine upd_le hA ?_ | (try cbv)))) <;> (try (subst hA; (try simp only [natCast_eq] at *); (simp only [Ar.real, NV.val, Int.ofNat_eq_natCast, Int.toNat_natCast]); first | done | omega | decide | exact inR64 (by omega) (by omega) | (refine ⟨?_, ?_⟩ <;> first | omega | decide | exact inR64 (by omega) (by omega))))
          · (try cbv) <;> (repeat' (first | exact trivial | exact rfl | apply And.intro | (intro _ hle; first | refine chunk_le hA rfl hle rfl ?_ | refine cat_le hA ?_ | refine upd_le hA ?_ | (try cbv)))) <;> (try (subst hA; (try simp only [natCast_eq] at *); (simp only [Ar.real, NV.val, Int.ofNat_eq_natCast, Int.toNat_natCast]); first | done | omega | decide | exact inR64 (by omega) (by omega) | (refine ⟨?_, ?_⟩ <;> first | omega | decide | exact inR64 (by omega) (by omega))))
          · (try cbv) <;> (repeat' (first | exact trivial | exact rfl | apply And.intro | (intro _ hle; first | refine chunk_le hA rfl hle rfl ?_ | refine cat_le hA ?_ | refine upd_le hA ?_ | (try cbv))))
          cbv
          refine Fin.le hA 0 [] (.tup [.int .i64 r1, .int .i64 r2, .int .i64 er]) ([]) 4 rfl rfl rfl ?_ ?_ (by rw [← hK]; exact ⟨rfl, rfl, rfl⟩)
          · (try cbv) <;> (repeat' (first | exact trivial | exact rfl | apply And.intro | (intro _ hle; first | refine chunk_le hA rfl hle rfl ?_ | refine cat_le hA ?_ | refine upd_le hA ?_ | (try cbv))))
            · exact e2.symm
            · exact e3.symm
            · exact e1.symm
          · (try cbv) <;> (repeat' (first | exact trivial | exact rfl | apply And.intro | (intro _ hle; first | refine chunk_le hA rfl hle rfl ?_ | refine cat_le hA ?_ | refine upd_le hA ?_ | (try cbv))))
      · have hi : i = k := by clear hQs hpush hR; subst hA; simp only [Ar.real] at h6; simp at h6; omega
        subst hi
        obtain ⟨e1, e2, e3⟩ := hend h0 h4
        have c1 := hends (i - 1) r1 r2 (by omega) e2 e3
        clear hgood hbadc hbad hQs hend hR hends hpush
        cbv
        refine CS.frzA hA (by (try cbv) <;> (repeat' (first | exact trivial | exact rfl | apply And.intro | (intro _ hle; first | refine chunk_le hA rfl hle rfl ?_ | refine cat_le hA ?_ | refine upd_le hA ?_ | (try cbv)))); all_goals (subst hA; (try simp only [natCast_eq] at *); (simp only [Ar.real, NV.val, Int.ofNat_eq_natCast, Int.toNat_natCast]); first | done | omega | decide | exact inR64 (by omega) (by omega) | (refine ⟨?_, ?_⟩ <;> first | omega | decide | exact inR64 (by omega) (by omega)))) ?_
        cbv
        refine CS.le hA (c1) [] rfl rfl rfl ?_ ?_ ?_
        · (try cbv) <;> (repeat' (first | exact trivial | exact rfl | apply And.intro | (intro _ hle; first | refine chunk_le hA rfl hle rfl ?_ | refine cat_le hA ?_ | refine upd_le hA ?_ | (try cbv)))) <;> (try (subst hA; (try simp only [natCast_eq] at *); (simp only [Ar.real, NV.val, Int.ofNat_eq_natCast, Int.toNat_natCast]); first | done | omega | decide | exact inR64 (by omega) (by omega) | (refine ⟨?_, ?_⟩ <;> first | omega | decide | exact inR64 (by omega) (by omega))))
        · (try cbv) <;> (repeat' (first | exact trivial | exact rfl | apply And.intro | (intro _ hle; first | refine chunk_le hA rfl hle rfl ?_ | refine cat_le hA ?_ | refine upd_le hA ?_ | (try cbv))))
        cbv
        refine Fin.le hA 0 [] (.tup [.int .i64 r1, .int .i64 r2, .int .i64 er]) ([]) 4 rfl rfl rfl ?_ ?_ (by rw [← hK]; exact ⟨rfl, rfl, rfl⟩)
        · (try cbv) <;> (repeat' (first | exact trivial | exact rfl | apply And.intro | (intro _ hle; first | refine chunk_le hA rfl hle rfl ?_ | refine cat_le hA ?_ | refine upd_le hA ?_ | (try cbv))))
          exact e1.symm
        · (try cbv) <;> (repeat' (first | exact trivial | exact rfl | apply And.intro | (intro _ hle; first | refine chunk_le hA rfl hle rfl ?_ | refine cat_le hA ?_ | refine upd_le hA ?_ | (try cbv))))

theorem refreach_fn {P : Program} {G : Gl} (hP : P = Try.prog) {n k : Nat} {f : Nat → Int} {len : Nat → Nat} {g : Nat → Nat → Int} {r1 r2 er : Int} (hn : n ≤ 9223372036854775807) (hk : k ≤ 1000000000) (hl : ∀ i, i < k → len i ≤ 9223372036854775807) (hd : ReachIs n f k len g r1 r2 er) :
    FnTr P G 56 [.ro 1 (.s n) (fun e => [.int .i64 (f e.val)]), LSv k len g] [] 0 (Gives (.tup [.int .i64 r1, .int .i64 r2, .int .i64 er]) [] 4) := by
  obtain ⟨Q, hQ0, hQs, hQn, hQm⟩ := all_steps (fun i => DotOk n f (len i) (g i))
  obtain ⟨V, hV⟩ : ∃ V : Nat → Int, ∀ i, V i = dotV f (g i) n := ⟨_, fun _ => rfl⟩
  have hend : 0 < k → Q k → er = 0 ∧ r1 = lowV V (k - 1) ∧ r2 = topV V (k - 1) := fun h0 hq => by
    have hVe : V = fun i => dotV f (g i) n := funext hV
    rcases hd with ⟨⟨h1, _⟩, h2, h3, h4⟩ | ⟨h1, h2⟩
    · exact ⟨h2, by rw [hVe]; exact h3, by rw [hVe]; exact h4⟩
    · exact absurd ⟨h0, (hQn k).1 hq⟩ h1
  have hz : k = 0 → er = 80 ∧ r1 = 0 ∧ r2 = 0 := fun h => by
    rcases hd with ⟨⟨h1, _⟩, _⟩ | ⟨_, h2⟩
    · omega
    · exact h2
  have hbad : ∀ i, i < k → ¬ DotOk n f (len i) (g i) → er = 80 ∧ r1 = 0 ∧ r2 = 0 := fun i hi h => by
    rcases hd with ⟨h1, _⟩ | ⟨_, h2⟩
    · exact absurd (h1.2 i hi) h
    · exact h2
  have hgood : ∀ i, i < k → DotOk n f (len i) (g i) → FnTr P G 44 [.ro 1 (.s n) (fun e => [.int .i64 (f e.val)]), .ro 1 (.s (len i)) (fun e => [.int .i64 (g i e.val)])] [] 0 (Gives (.tup [.int .i64 (V i), .int .i64 0]) [] 1) := fun i hi h =>
    refdot_fn hP hn (hl i hi) (.inl ⟨h, rfl, hV i⟩)
  have hbadc : ∀ i, i < k → ¬ DotOk n f (len i) (g i) → FnTr P G 44 [.ro 1 (.s n) (fun e => [.int .i64 (f e.val)]), .ro 1 (.s (len i)) (fun e => [.int .i64 (g i e.val)])] [] 0 (Gives (.tup [.int .i64 0, .int .i64 80]) [] 1) := fun i hi h =>
    refdot_fn hP hn (hl i hi) (.inr ⟨h, rfl, rfl⟩)
  clear hd hQn hQm hV
  obtain ⟨LO, hLO⟩ : ∃ LO : Nat → Int, LO = fun i => if i = 0 then 0 else lowV V (i - 1) := ⟨_, rfl⟩
  obtain ⟨HI, hHI⟩ : ∃ HI : Nat → Int, HI = fun i => if i = 0 then 0 else topV V (i - 1) := ⟨_, rfl⟩
  have hL0 : LO 0 = 0 := by rw [hLO]; rfl
  have hH0 : HI 0 = 0 := by rw [hHI]; rfl
  have hLs : ∀ i, LO (i + 1) = if i = 0 ∨ V i < LO i then V i else LO i := fun i => by
    rw [hLO]
    cases i with
    | zero => rfl
    | succ j =>
      show (if V (j + 1) < lowV V j then V (j + 1) else lowV V j) = if j + 1 = 0 ∨ V (j + 1) < lowV V j then V (j + 1) else lowV V j
      split
      · rename_i h; rw [if_pos (.inr h)]
      · rename_i h; rw [if_neg (fun q => by rcases q with q | q; omega; exact h q)]
  have hHs : ∀ i, HI (i + 1) = if i = 0 ∨ HI i < V i then V i else HI i := fun i => by
    rw [hHI]
    cases i with
    | zero => rfl
    | succ j =>
      show (if topV V j < V (j + 1) then V (j + 1) else topV V j) = if j + 1 = 0 ∨ topV V j < V (j + 1) then V (j + 1) else topV V j
      split
      · rename_i h; rw [if_pos (.inr h)]
      · rename_i h; rw [if_neg (fun q => by rcases q with q | q; omega; exact h q)]
  have hend2 : 0 < k → Q k → er = 0 ∧ r1 = LO k ∧ r2 = HI k := fun h0 hq => by
    obtain ⟨e1, e2, e3⟩ := hend h0 hq
    refine ⟨e1, ?_, ?_⟩
    · rw [e2, hLO]; show _ = if k = 0 then 0 else lowV V (k - 1); rw [if_neg (by omega)]
    · rw [e3, hHI]; show _ = if k = 0 then 0 else topV V (k - 1); rw [if_neg (by omega)]
  clear hend hLO hHI
  have hT : T.Ok P := hP ▸ T_ok
  refine FnTr.intro (fn := Try.f56) (c := bodyOf Try.f56) (by rw [hP]; rfl) rfl rfl hT ?_
  generalize hA : Ar.real = A
  generalize hK : Gives _ _ _ = K
  cbv
  refine LS.le hT hA 1 (fun (i : Nat) => [(7, .int .i64 (LO i)), (8, .int .i64 (HI i)), (9, .int .i64 (i : Int))]) (fun _ => []) (fun i => i ≤ k ∧ Q i) (fun i => k - i) 0 [] rfl rfl ?_ ?_ ?_
  · (try cbv) <;> (repeat' (first | exact trivial | exact rfl | apply And.intro | (intro _ hle; first | refine chunk_le hA rfl hle rfl ?_ | refine cat_le hA ?_ | refine upd_le hA ?_ | (try cbv))))
    · exact hL0.symm
    · exact hH0.symm
  · exact ⟨Nat.zero_le _, hQ0⟩
  · intro R hR i hp
    cbv
    obtain ⟨h3, h4⟩ := hp
    refine ⟨fun h5 => ?_, fun h5 => ?_⟩
    · have hi : i < k := by clear hQs hLs hHs; subst hA; simp only [Ar.real] at h5; simp at h5; omega
      by_cases hok : DotOk n f (len i) (g i)
      · have c1 := hgood i hi hok
        have hq : Q (i + 1) := (hQs i).2 ⟨h4, hok⟩
        have a1 := hLs i
        have b1 := hHs i
        have hi0 : (Int.ofNat i = 0) ↔ i = 0 := Int.ofNat_eq_zero
        clear hgood hbadc hbad hQs hLs hHs hok hend2 hz
        cbv
        refine ⟨(by (subst hA; (try simp only [natCast_eq] at *); (simp only [Ar.real, NV.val, Int.ofNat_eq_natCast, Int.toNat_natCast]); first | done | omega | decide | exact inR64 (by omega) (by omega) | (refine ⟨?_, ?_⟩ <;> first | omega | decide | exact inR64 (by omega) (by omega)))), ?_⟩
        refine CS.leR hA (c1) (.tup [.int .i64 (V i), .lit .i64 0]) [] rfl rfl rfl ?_ ?_ ?_ ?_
        · (try cbv) <;> (repeat' (first | exact trivial | exact rfl | apply And.intro | (intro _ hle; first | refine chunk_le hA rfl hle rfl ?_ | refine cat_le hA ?_ | refine upd_le hA ?_ | (try cbv)))) <;> (try (subst hA; (try simp only [natCast_eq] at *); (simp only [Ar.real, NV.val, Int.ofNat_eq_natCast, Int.toNat_natCast]); first | done | omega | decide | exact inR64 (by omega) (by omega) | (refine ⟨?_, ?_⟩ <;> first | omega | decide | exact inR64 (by omega) (by omega))))
        · (try cbv) <;> (repeat' (first | exact trivial | exact rfl | apply And.intro | (intro _ hle; first | refine chunk_le hA rfl hle rfl ?_ | refine cat_le hA ?_ | refine upd_le hA ?_ | (try cbv)))) <;> (try (subst hA; (try simp only [natCast_eq] at *); (simp only [Ar.real, NV.val, Int.ofNat_eq_natCast, Int.toNat_natCast]); first | done | omega | decide | exact inR64 (by omega) (by omega) | (refine ⟨?_, ?_⟩ <;> first | omega | decide | exact inR64 (by omega) (by omega))))
        · (try cbv) <;> (repeat' (first | exact trivial | exact rfl | apply And.intro | (intro _ hle; first | refine chunk_le hA rfl hle rfl ?_ | refine cat_le hA ?_ | refine upd_le hA ?_ | (try cbv))))
        cbv
        have fin : ∀ st' : St, True := fun _ => trivial
        repeat' (first | (apply And.intro) | (intro _; try cbv) | (refine DS.run hA hT (by rw [hP]; exact P_mixed) 1 rfl ?_; cbv))
        all_goals first
          | (clear hR; (subst hA; (try simp only [natCast_eq] at *); (simp only [Ar.real, NV.val, Int.ofNat_eq_natCast, Int.toNat_natCast]); first | done | omega | decide | exact inR64 (by omega) (by omega) | (refine ⟨?_, ?_⟩ <;> first | omega | decide | exact inR64 (by omega) (by omega))); done)
          | (refine hR _ _ ⟨i + 1, 1, [], rfl, rfl, ?_, ⟨hi, hq⟩, (by show k - (i + 1) < k - i; omega)⟩
             clear hR
             (try cbv) <;> (repeat' (first | exact trivial | exact rfl | apply And.intro | (intro _ hle; first | refine chunk_le hA rfl hle rfl ?_ | refine cat_le hA ?_ | refine upd_le hA ?_ | (try cbv))))
             all_goals (subst hA; simp only [natCast_eq, Ar.real, Int.ofNat_eq_natCast, decide_eq_true_eq, decide_eq_false_iff_not, Bool.not_true, Bool.not_false, beq_iff_eq, beq_eq_false_iff_ne, gt_iff_lt, ne_eq] at *; first | rfl | (rw [a1]; split <;> omega) | (rw [b1]; split <;> omega) | omega))
      · have c1 := hbadc i hi hok
        obtain ⟨e1, e2, e3⟩ := hbad i hi hok
        clear hgood hbadc hbad hQs hok hend2 hR hLs hHs
        cbv
        refine ⟨(by (subst hA; (try simp only [natCast_eq] at *); (simp only [Ar.real, NV.val, Int.ofNat_eq_natCast, Int.toNat_natCast]); first | done | omega | decide | exact inR64 (by omega) (by omega) | (refine ⟨?_, ?_⟩ <;> first | omega | decide | exact inR64 (by omega) (by omega)))), ?_⟩
        refine CS.leR hA (c1) (.tup [.int .i64 0, .lit .i64 80]) [] rfl rfl rfl ?_ ?_ ?_ ?_
        · (try cbv) <;> (repeat' (first | exact trivial | exact rfl | apply And.intro | (intro _ hle; first | refine chunk_le hA rfl hle rfl ?_ | refine cat_le hA ?_ | refine upd_le hA ?_ | (try cbv)))) <;> (try (subst hA; (try simp only [natCast_eq] at *); (simp only [Ar.real, NV.val, Int.ofNat_eq_natCast, Int.toNat_natCast]); first | done | omega | decide | exact inR64 (by omega) (by omega) | (refine ⟨?_, ?_⟩ <;> first | omega | decide | exact inR64 (by omega) (by omega))))
        · (try cbv) <;> (repeat' (first | exact trivial | exact rfl | apply And.intro | (intro _ hle; first | refine chunk_le hA rfl hle rfl ?_ | refine cat_le hA ?_ | refine upd_le hA ?_ | (try cbv)))) <;> (try (subst hA; (try simp only [natCast_eq] at *); (simp only [Ar.real, NV.val, Int.ofNat_eq_natCast, Int.toNat_natCast]); first | done | omega | decide | exact inR64 (by omega) (by omega) | (refine ⟨?_, ?_⟩ <;> first | omega | decide | exact inR64 (by omega) (by omega))))
        · (try cbv) <;> (repeat' (first | exact trivial | exact rfl | apply And.intro | (intro _ hle; first | refine chunk_le hA rfl hle rfl ?_ | refine cat_le hA ?_ | refine upd_le hA ?_ | (try cbv))))
        cbv
        refine Fin.le hA 0 [] (.tup [.int .i64 r1, .int .i64 r2, .int .i64 er]) ([]) 4 rfl rfl rfl ?_ ?_ (by rw [← hK]; exact ⟨rfl, rfl, rfl⟩)
        · (try cbv) <;> (repeat' (first | exact trivial | exact rfl | apply And.intro | (intro _ hle; first | refine chunk_le hA rfl hle rfl ?_ | refine cat_le hA ?_ | refine upd_le hA ?_ | (try cbv))))
          · exact e2.symm
          · exact e3.symm
          · exact e1.symm
        · (try cbv) <;> (repeat' (first | exact trivial | exact rfl | apply And.intro | (intro _ hle; first | refine chunk_le hA rfl hle rfl ?_ | refine cat_le hA ?_ | refine upd_le hA ?_ | (try cbv))))
    · have hi : i = k := by clear hQs hLs hHs hR; subst hA; simp only [Ar.real] at h5; simp at h5; omega
      subst hi
      clear hgood hbadc hbad hQs hLs hHs hR
      cbv
      refine ⟨fun h6 => ?_, fun h6 => ?_⟩
      · have h0 : i = 0 := by subst hA; simp only [Ar.real] at h6; simp at h6; omega
        obtain ⟨e1, e2, e3⟩ := hz h0
        cbv
        refine Fin.le hA 0 [] (.tup [.int .i64 r1, .int .i64 r2, .int .i64 er]) ([]) 4 rfl rfl rfl ?_ ?_ (by rw [← hK]; exact ⟨rfl, rfl, rfl⟩)
        · (try cbv) <;> (repeat' (first | exact trivial | exact rfl | apply And.intro | (intro _ hle; first | refine chunk_le hA rfl hle rfl ?_ | refine cat_le hA ?_ | refine upd_le hA ?_ | (try cbv))))
          · exact e2.symm
          · exact e3.symm
          · exact e1.symm
        · (try cbv) <;> (repeat' (first | exact trivial | exact rfl | apply And.intro | (intro _ hle; first | refine chunk_le hA rfl hle rfl ?_ | refine cat_le hA ?_ | refine upd_le hA ?_ | (try cbv))))
      · have h0 : 0 < i := by subst hA; simp only [Ar.real] at h6; simp at h6; omega
        obtain ⟨e1, e2, e3⟩ := hend2 h0 h4
        cbv
        refine Fin.le hA 0 [] (.tup [.int .i64 r1, .int .i64 r2, .int .i64 er]) ([]) 4 rfl rfl rfl ?_ ?_ (by rw [← hK]; exact ⟨rfl, rfl, rfl⟩)
        · (try cbv) <;> (repeat' (first | exact trivial | exact rfl | apply And.intro | (intro _ hle; first | refine chunk_le hA rfl hle rfl ?_ | refine cat_le hA ?_ | refine upd_le hA ?_ | (try cbv))))
          · exact e2.symm
          · exact e3.symm
          · exact e1.symm
        · (try cbv) <;> (repeat' (first | exact trivial | exact rfl | apply And.intro | (intro _ hle; first | refine chunk_le hA rfl hle rfl ?_ | refine cat_le hA ?_ | refine upd_le hA ?_ | (try cbv))))

end Go.Proofs.Ytkaobalnjimniaa.Vec
