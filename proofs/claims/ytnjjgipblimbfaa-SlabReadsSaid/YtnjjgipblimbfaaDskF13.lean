/-
  Records on sectors: the law SlabBack, as the code runs it.
-/
import Derived.Test.YtnjjgipblimbfaaDskF12
set_option linter.unusedVariables false
set_option linter.unusedSimpArgs false
namespace Go.Proofs.Ytnjjgipblimbfaa.Dsk
open Go.Eng
open Go.DskLaw (q64 secV needN pcs padOk isB usedP getP scanP atN rowL rowL_0 rowL_step back_row atN_le)
set_option maxRecDepth 100000
set_option maxHeartbeats 4000000
set_option linter.unusedVariables false

theorem back_law {P : Program} {G : Gl} (hP : P = Try.prog) {m : Nat} {l : Nat → Nat × (Nat → Int)} (hm : m ≤ 9223372036854775807) (hl : ∀ i, i < m → (l i).1 ≤ 9223372036854775807) (hb : ∀ i, i < m → ∀ x, x < (l i).1 → 0 ≤ (l i).2 x ∧ (l i).2 x ≤ 255) :
    FnTr P G 3 [RecS m l] [] 0 (Gives (.bl true) [] 300) := by
  obtain ⟨len, hlen⟩ : ∃ len : Nat → Nat, len = fun i => (l i).1 := ⟨_, rfl⟩
  obtain ⟨r, hr⟩ : ∃ r : Nat → Nat → Int, r = fun i => (l i).2 := ⟨_, rfl⟩
  obtain ⟨at', hat⟩ : ∃ at' : Nat → Nat, at' = atN 0 len := ⟨_, rfl⟩
  have len_i : ∀ i, (l i).1 = len i := fun i => by rw [hlen]
  have r_i : ∀ i x, (l i).2 x = r i x := fun i x => by rw [hr]
  have at0 : at' 0 = 0 := by rw [hat]; rfl
  have nd : ∀ i, ∃ q, q = needN (len i) ∧ at' (i + 1) = at' i + q ∧ (len i ≤ 2000 → q ≤ 33) := fun i => ⟨_, rfl, by rw [hat]; rfl, fun h => by unfold needN; omega⟩
  have at_le : ∀ i, i ≤ 20 → (∀ u, u < i → len u ≤ 2000) → at' i ≤ 660 := fun i hi h => by
    have := atN_le (o := 0) (b := 33) (c := 20) (len := len) i (fun u hu => by have := h u hu; unfold needN; omega) hi
    rw [hat]; omega
  have cl := lives26_fn (P := P) (G := G) hP
  simp only [len_i, r_i] at hb hl
  have cN := fun (i : Nat) (q : Nat) (h : len i ≤ 2000) (hq : q = needN (len i)) => refneed_fn (P := P) (G := G) hP (len i) (n := (len i : Int)) (m := q) (by omega) (by omega) (by omega) (by rw [hq]; rfl)
  have hT : T.Ok P := hP ▸ T_ok
  refine FnTr.intro (fn := Try.f3) (c := bodyOf Try.f3) (by rw [hP]; rfl) rfl rfl hT ?_
  generalize hA : Ar.real = A
  generalize hK : Gives _ _ _ = K
  cbv
  refine LS.le hT hA 0 (fun (i : Nat) => [(3, .int .i64 (at' i : Int)), (4, .int .i64 (i : Int))]) (fun _ => []) (fun i => i ≤ m ∧ i ≤ 20 ∧ ∀ u, u < i → len u ≤ 2000) (fun i => m - i) 0 [] rfl rfl ?_ ?_ ?_
  · (try cbv) <;> (repeat' (first | exact trivial | exact rfl | apply And.intro | exact fun _ => rfl | (intro _ hle; first | refine chunk_le hA rfl hle rfl ?_ | refine cat_le hA ?_ | refine upd_le hA ?_ | refine int_le ?_ | skip)))
    all_goals first | (rw [at0]; rfl) | (subst hA; (try simp only [natCast_eq] at *); (try (simp only [Ar.real, NV.val, Int.ofNat_eq_natCast, Int.toNat_natCast])); first | done | omega | decide | exact inR64 (by omega) (by omega) | (refine ⟨?_, ?_⟩ <;> first | omega | decide | exact inR64 (by omega) (by omega)))
  · exact ⟨Nat.zero_le _, Nat.zero_le _, fun u hu => by omega⟩
  · intro R hR i hi
    obtain ⟨hi1, hi2, hi3⟩ := hi
    have hai := at_le i hi2 hi3
    cbv
    refine ⟨fun h1 => ?_, fun h1 => ?_⟩
    · have him : i < m := by clear hb hl r_i cN; subst hA; simp [Ar.real] at h1; omega
      cbv
      refine ⟨fun h2 => ?_, fun h2 => ?_⟩
      · have hi20 : i < 20 := by clear hb hl r_i cN; subst hA; simp [Ar.real] at h2; omega
        by_cases h3 : len i ≤ 2000
        · obtain ⟨q, hq, hqa, hq33⟩ := nd i
          have a1 := cN i q h3 hq
          have h33 := hq33 h3
          cbv
          refine ⟨(by (subst hA; (try simp only [natCast_eq] at *); (try (simp only [Ar.real, NV.val, Int.ofNat_eq_natCast, Int.toNat_natCast])); first | done | omega | decide | exact inR64 (by omega) (by omega) | (refine ⟨?_, ?_⟩ <;> first | omega | decide | exact inR64 (by omega) (by omega)))), ?_⟩
          have k1 : A.gt (A.i2 ((l (A.nat (Int.ofNat i))).1)) 2000 = false := by
            clear hR
            subst hA; show decide (((l i).1 : Int) > 2000) = false; rw [len_i]; simp; omega
          first | refine testR k1 rfl ?_ | refine testL k1 rfl ?_
          cbv
          refine ⟨(by (subst hA; (try simp only [natCast_eq] at *); (try (simp only [Ar.real, NV.val, Int.ofNat_eq_natCast, Int.toNat_natCast])); first | done | omega | decide | exact inR64 (by omega) (by omega) | (refine ⟨?_, ?_⟩ <;> first | omega | decide | exact inR64 (by omega) (by omega)))), ?_⟩
          refine CS.le hA a1 [] rfl rfl rfl ?_ ?_ ?_
          · (try cbv) <;> (repeat' (first | exact trivial | exact rfl | apply And.intro | exact fun _ => rfl | (intro _ hle; first | refine chunk_le hA rfl hle rfl ?_ | refine cat_le hA ?_ | refine upd_le hA ?_ | refine int_le ?_ | skip)))
            all_goals (clear hR; subst hA; show ((l i).1 : Int) = _; rw [len_i]; rfl)
          · (try cbv) <;> (repeat' (first | exact trivial | exact rfl | apply And.intro | exact fun _ => rfl | (intro _ hle; first | refine chunk_le hA rfl hle rfl ?_ | refine cat_le hA ?_ | refine upd_le hA ?_ | (try cbv))))
          cbv
          refine ⟨(by (subst hA; (try simp only [natCast_eq] at *); (try (simp only [Ar.real, NV.val, Int.ofNat_eq_natCast, Int.toNat_natCast])); first | done | omega | decide | exact inR64 (by omega) (by omega) | (refine ⟨?_, ?_⟩ <;> first | omega | decide | exact inR64 (by omega) (by omega)))), (by (subst hA; (try simp only [natCast_eq] at *); (try (simp only [Ar.real, NV.val, Int.ofNat_eq_natCast, Int.toNat_natCast])); first | done | omega | decide | exact inR64 (by omega) (by omega) | (refine ⟨?_, ?_⟩ <;> first | omega | decide | exact inR64 (by omega) (by omega)))), hR _ _ ⟨i + 1, 0, [], rfl, rfl, ?_, ⟨him, by omega, fun u hu => ?_⟩, (by show m - (i + 1) < m - i; omega)⟩⟩
          · clear hR
            (try cbv) <;> (repeat' (first | exact trivial | exact rfl | apply And.intro | exact fun _ => rfl | (intro _ hle; first | refine chunk_le hA rfl hle rfl ?_ | refine cat_le hA ?_ | refine upd_le hA ?_ | refine int_le ?_ | skip)))
            all_goals first | (subst hA; (try simp only [natCast_eq] at *); (try (simp only [Ar.real, NV.val, Int.ofNat_eq_natCast, Int.toNat_natCast])); first | done | omega | decide | exact inR64 (by omega) (by omega) | (refine ⟨?_, ?_⟩ <;> first | omega | decide | exact inR64 (by omega) (by omega))) | (subst hA; rw [hqa]; rfl)
          · rcases Nat.lt_or_ge u i with e | e
            · exact hi3 u e
            · rw [show u = i by omega]; exact h3
        · have k1 : A.gt (A.i2 ((l (A.nat (Int.ofNat i))).1)) 2000 = true := by
            clear hR
            subst hA; show decide (((l i).1 : Int) > 2000) = true; rw [len_i]; simp; omega
          clear hR
          cbv
          refine ⟨(by (subst hA; (try simp only [natCast_eq] at *); (try (simp only [Ar.real, NV.val, Int.ofNat_eq_natCast, Int.toNat_natCast])); first | done | omega | decide | exact inR64 (by omega) (by omega) | (refine ⟨?_, ?_⟩ <;> first | omega | decide | exact inR64 (by omega) (by omega)))), ?_⟩
          first | refine testR k1 rfl ?_ | refine testL k1 rfl ?_
          cbv
          refine CS.le hA (cl) [] rfl rfl rfl ?_ ?_ ?_
          · (try cbv) <;> (repeat' (first | exact trivial | exact rfl | apply And.intro | exact fun _ => rfl | (intro _ hle; first | refine chunk_le hA rfl hle rfl ?_ | refine cat_le hA ?_ | refine upd_le hA ?_ | (try cbv)))) <;> (try (subst hA; (try simp only [natCast_eq] at *); (try (simp only [Ar.real, NV.val, Int.ofNat_eq_natCast, Int.toNat_natCast])); first | done | omega | decide | exact inR64 (by omega) (by omega) | (refine ⟨?_, ?_⟩ <;> first | omega | decide | exact inR64 (by omega) (by omega))))
          · (try cbv) <;> (repeat' (first | exact trivial | exact rfl | apply And.intro | exact fun _ => rfl | (intro _ hle; first | refine chunk_le hA rfl hle rfl ?_ | refine cat_le hA ?_ | refine upd_le hA ?_ | (try cbv))))
          cbv
          refine Fin.le hA 0 [] (.bl true) ([]) 300 rfl rfl rfl ?_ ?_ (by rw [← hK]; exact ⟨rfl, rfl, rfl⟩)
          · (try cbv) <;> (repeat' (first | exact trivial | exact rfl | apply And.intro | exact fun _ => rfl | (intro _ hle; first | refine chunk_le hA rfl hle rfl ?_ | refine cat_le hA ?_ | refine upd_le hA ?_ | (try cbv))))
          · (try cbv) <;> (repeat' (first | exact trivial | exact rfl | apply And.intro | exact fun _ => rfl | (intro _ hle; first | refine chunk_le hA rfl hle rfl ?_ | refine cat_le hA ?_ | refine upd_le hA ?_ | (try cbv))))
      · have hi20 : i = 20 := by clear hb hl r_i cN; subst hA; simp [Ar.real] at h2; omega
        clear hR
        have k1 : A.gt (A.i2 m) 20 = true := by subst hA; simp only [natCast_eq] at *; simp [Ar.real]; omega
        cbv
        first | refine testR k1 rfl ?_ | refine testL k1 rfl ?_
        cbv
        refine CS.le hA (cl) [] rfl rfl rfl ?_ ?_ ?_
        · (try cbv) <;> (repeat' (first | exact trivial | exact rfl | apply And.intro | exact fun _ => rfl | (intro _ hle; first | refine chunk_le hA rfl hle rfl ?_ | refine cat_le hA ?_ | refine upd_le hA ?_ | (try cbv)))) <;> (try (subst hA; (try simp only [natCast_eq] at *); (try (simp only [Ar.real, NV.val, Int.ofNat_eq_natCast, Int.toNat_natCast])); first | done | omega | decide | exact inR64 (by omega) (by omega) | (refine ⟨?_, ?_⟩ <;> first | omega | decide | exact inR64 (by omega) (by omega))))
        · (try cbv) <;> (repeat' (first | exact trivial | exact rfl | apply And.intro | exact fun _ => rfl | (intro _ hle; first | refine chunk_le hA rfl hle rfl ?_ | refine cat_le hA ?_ | refine upd_le hA ?_ | (try cbv))))
        cbv
        refine Fin.le hA 0 [] (.bl true) ([]) 300 rfl rfl rfl ?_ ?_ (by rw [← hK]; exact ⟨rfl, rfl, rfl⟩)
        · (try cbv) <;> (repeat' (first | exact trivial | exact rfl | apply And.intro | exact fun _ => rfl | (intro _ hle; first | refine chunk_le hA rfl hle rfl ?_ | refine cat_le hA ?_ | refine upd_le hA ?_ | (try cbv))))
        · (try cbv) <;> (repeat' (first | exact trivial | exact rfl | apply And.intro | exact fun _ => rfl | (intro _ hle; first | refine chunk_le hA rfl hle rfl ?_ | refine cat_le hA ?_ | refine upd_le hA ?_ | (try cbv))))
    · have him : i = m := by clear hb hl r_i cN; subst hA; simp [Ar.real] at h1; omega
      clear hR
      subst him
      obtain ⟨z, hz⟩ : ∃ z : Nat → Int, ∀ x, z x = 0 := ⟨fun _ => 0, fun _ => rfl⟩
      obtain ⟨n, hn⟩ : ∃ n, n = at' i := ⟨_, rfl⟩
      rw [← hn] at hai
      have hle2 : ∀ u, u < i → len u ≤ 65536 := fun u hu => by have := hi3 u hu; omega
      obtain ⟨V, gs, hV, hsc, hgs⟩ := back_row (len := len) (r := r) (m := i) (n := n) hz (by rw [hn, hat]) hle2 hb (fun _ => (0, fun _ => 0))
      obtain ⟨Lj, hLj⟩ : ∃ Lj : Nat → Int → Option (Nat → Int), ∀ u, Lj u = rowL 0 len r i (at' u) := ⟨_, fun _ => rfl⟩
      have hatm : ∀ u, u ≤ i → at' u ≤ n := fun u hu => by rw [hn, hat]; exact DskLaw.atN_mono hu
      have L0 : ∀ k, Lj 0 k = none := fun k => by rw [hLj, hat]; exact rowL_0 k
      obtain ⟨s, hs⟩ : ∃ s, s = n + 1 := ⟨_, rfl⟩
      obtain ⟨N, hN⟩ : ∃ N, N = 64 * s := ⟨_, rfl⟩
      have c1 := new_ok (P := P) (G := G) (n := (s : Int)) (s := s) (N := N) (S := z) (L := Lj 0) hP rfl (by omega) hN hz L0
      have c2 : ∀ u q, u < i → q = needN (len u) → FnTr P G 12 [.ptr 0 0, .int .i64 (at' u : Int), .int .i64 (n : Int), By (len u) (r u)] (DH N z (Lj u) false 0) 3 (Gives (.tup [.int .i64 (at' (u + 1) : Int), .lit .i64 0]) (DH N z (Lj (u + 1)) false 0) 3) := fun u q hu hq => by
        have e1 : at' (u + 1) = at' u + q := by rw [hq, hat]; rfl
        have e2 := hatm (u + 1) (by omega)
        refine FnTr.res rfl (put_ok (s := s) (k := needN (len u)) (at' := (at' (u + 1) : Int)) (e' := 0) hP hN (by omega) ⟨by omega, by omega⟩ (hle2 u hu) (by omega) (.inl ⟨rfl, rfl⟩) (fun k => ?_) rfl (.inl ⟨rfl, by rw [e1, hq], rfl⟩)) _ ?_
        · rw [hLj, hLj, hat]
          exact rowL_step hu k _ (Nat.le_refl _)
        · exact ⟨rfl, rfl, trivial⟩
      have c3 := scan_fn (P := P) (G := G) (N := N) (s := s) (first := 0) (fin := s) (S := z) (L := Lj i) (ar := false) (ca := 0) (V := V) (g0 := fun _ => (0, fun _ => 0)) (c0 := i) (gs := gs) (last := n) hP hN (by omega) (by omega) (fun h => by cases h.1) (fun t ht => by rw [hLj, ← hn]; exact hV t (by omega)) (by rw [hs]; exact hsc)
      have c4 := sameall_fn (P := P) (G := G) (n := i) (m := i) (lf := fun u => (gs u).1) (lg := fun u => (l u).1) (f := fun u => (gs u).2) (g := fun u => (l u).2) hP rfl (by omega) (fun u hu => by
        obtain ⟨g1, g2⟩ := hgs u hu
        refine ⟨by rw [len_i]; exact g1, fun x hx => ?_⟩
        show (gs u).2 x = (l u).2 x ∧ 0 ≤ (gs u).2 x ∧ (gs u).2 x < 256
        have hx : x < (gs u).1 := hx
        rw [g1] at hx
        rw [g2 x hx, r_i]
        have := hb u hu x hx
        exact ⟨rfl, by omega, by omega⟩)
      have c5 : ∀ u q, u < i → q = needN (len u) → FnTr P G 13 [.int .i64 (len u : Int)] [] 0 (Gives (.int .i64 (q : Int)) [] 0) := fun u q hu hq => need_fn hP (by have := hle2 u hu; omega) (by rw [hq]; rfl)
      have k1 : A.gt (A.i2 i) 20 = false := by subst hA; simp [Ar.real]; omega
      clear hb hl cN hV hsc hgs hLj hat at_le
      cbv
      first | refine testR k1 rfl ?_ | refine testL k1 rfl ?_
      cbv
      refine ⟨(by (subst hA; (try simp only [natCast_eq] at *); (try (simp only [Ar.real, NV.val, Int.ofNat_eq_natCast, Int.toNat_natCast])); first | done | omega | decide | exact inR64 (by omega) (by omega) | (refine ⟨?_, ?_⟩ <;> first | omega | decide | exact inR64 (by omega) (by omega)))), ?_⟩
      refine CS.le hA c1 [] rfl rfl rfl ?_ ?_ ?_
      · (try cbv) <;> (repeat' (first | exact trivial | exact rfl | apply And.intro | exact fun _ => rfl | (intro _ hle; first | refine chunk_le hA rfl hle rfl ?_ | refine cat_le hA ?_ | refine upd_le hA ?_ | (try cbv))))
        subst hA; rw [hs, hn]; rfl
      · (try cbv) <;> (repeat' (first | exact trivial | exact rfl | apply And.intro | exact fun _ => rfl | (intro _ hle; first | refine chunk_le hA rfl hle rfl ?_ | refine cat_le hA ?_ | refine upd_le hA ?_ | (try cbv))))
      cbv
      refine LS.le hT hA 14 (fun (u : Nat) => [(7, .int .i64 (at' u : Int)), (8, .int .i64 (u : Int))]) (fun u => DHn 11 12 13 N z (Lj u) false 0) (fun u => u ≤ i) (fun u => i - u) 0 [] rfl rfl ?_ ?_ ?_
      · (try cbv) <;> (repeat' (first | exact trivial | exact rfl | apply And.intro | exact fun _ => rfl | (intro _ hle; first | refine chunk_le hA rfl hle rfl ?_ | refine cat_le hA ?_ | refine upd_le hA ?_ | refine int_le ?_ | skip)))
        all_goals first | (rw [at0]; rfl) | (subst hA; (try simp only [natCast_eq] at *); (try (simp only [Ar.real, NV.val, Int.ofNat_eq_natCast, Int.toNat_natCast])); first | done | omega | decide | exact inR64 (by omega) (by omega) | (refine ⟨?_, ?_⟩ <;> first | omega | decide | exact inR64 (by omega) (by omega)))
      · exact Nat.zero_le _
      · intro R hR u hu
        cbv
        refine ⟨fun h4 => ?_, fun h4 => ?_⟩
        · have hui : u < i := by clear c2 c5 nd hi3 hle2 len_i r_i; subst hA; simp [Ar.real] at h4; omega
          obtain ⟨q, hq, hqa, _⟩ := nd u
          have a2 := c2 u q hui hq
          have a5 := c5 u q hui hq
          have hu1 := hatm (u + 1) hui
          clear c2 c5 nd
          cbv
          refine ⟨(by (subst hA; (try simp only [natCast_eq] at *); (try (simp only [Ar.real, NV.val, Int.ofNat_eq_natCast, Int.toNat_natCast])); first | done | omega | decide | exact inR64 (by omega) (by omega) | (refine ⟨?_, ?_⟩ <;> first | omega | decide | exact inR64 (by omega) (by omega)))), ?_⟩
          refine CS.le hA a2 [(11, 0), (12, 1), (13, 2)] rfl rfl rfl ?_ ?_ ?_
          · (try cbv) <;> (repeat' (first | exact trivial | exact rfl | apply And.intro | exact fun _ => rfl | (intro _ hle; first | refine chunk_le hA rfl hle rfl ?_ | refine cat_le hA ?_ | refine upd_le hA ?_ | refine int_le ?_ | skip)))
            all_goals (clear hR; subst hA; first | exact len_i u | exact r_i u _ | exact congrArg Int.ofNat hn.symm)
          · (try cbv) <;> (repeat' (first | exact trivial | exact rfl | apply And.intro | exact fun _ => rfl | (intro _ hle; first | refine chunk_le hA rfl hle rfl ?_ | refine cat_le hA ?_ | refine upd_le hA ?_ | (try cbv))))
          cbv
          refine ⟨(by (subst hA; (try simp only [natCast_eq] at *); (try (simp only [Ar.real, NV.val, Int.ofNat_eq_natCast, Int.toNat_natCast])); first | done | omega | decide | exact inR64 (by omega) (by omega) | (refine ⟨?_, ?_⟩ <;> first | omega | decide | exact inR64 (by omega) (by omega)))), ?_⟩
          refine CS.le hA a5 [] rfl rfl rfl ?_ ?_ ?_
          · (try cbv) <;> (repeat' (first | exact trivial | exact rfl | apply And.intro | exact fun _ => rfl | (intro _ hle; first | refine chunk_le hA rfl hle rfl ?_ | refine cat_le hA ?_ | refine upd_le hA ?_ | refine int_le ?_ | skip)))
            all_goals (clear hR; subst hA; show ((l u).1 : Int) = _; rw [len_i]; rfl)
          · (try cbv) <;> (repeat' (first | exact trivial | exact rfl | apply And.intro | exact fun _ => rfl | (intro _ hle; first | refine chunk_le hA rfl hle rfl ?_ | refine cat_le hA ?_ | refine upd_le hA ?_ | (try cbv))))
          cbv
          have k2 : A.ne (Int.ofNat (at' (u + 1))) (A.add (Int.ofNat (at' u)) (Int.ofNat q)) = false := by
            clear hR
            subst hA; rw [hqa]; simp [Ar.real]
          refine ⟨(by (subst hA; (try simp only [natCast_eq] at *); (try (simp only [Ar.real, NV.val, Int.ofNat_eq_natCast, Int.toNat_natCast])); first | done | omega | decide | exact inR64 (by omega) (by omega) | (refine ⟨?_, ?_⟩ <;> first | omega | decide | exact inR64 (by omega) (by omega)))), ?_⟩
          first | refine testR k2 rfl ?_ | refine testL k2 rfl ?_
          cbv
          refine ⟨(by (subst hA; (try simp only [natCast_eq] at *); (try (simp only [Ar.real, NV.val, Int.ofNat_eq_natCast, Int.toNat_natCast])); first | done | omega | decide | exact inR64 (by omega) (by omega) | (refine ⟨?_, ?_⟩ <;> first | omega | decide | exact inR64 (by omega) (by omega)))), hR _ _ ⟨u + 1, 14, [], rfl, rfl, ?_, hui, (by show i - (u + 1) < i - u; omega)⟩⟩
          clear hR
          (try cbv) <;> (repeat' (first | exact trivial | exact rfl | apply And.intro | exact fun _ => rfl | (intro _ hle; first | refine chunk_le hA rfl hle rfl ?_ | refine cat_le hA ?_ | refine upd_le hA ?_ | refine int_le ?_ | skip)))
          all_goals (subst hA; (try simp only [natCast_eq] at *); (try (simp only [Ar.real, NV.val, Int.ofNat_eq_natCast, Int.toNat_natCast])); first | done | omega | decide | exact inR64 (by omega) (by omega) | (refine ⟨?_, ?_⟩ <;> first | omega | decide | exact inR64 (by omega) (by omega)))
        · have hui : u = i := by clear c2 c5 nd hi3 hle2 len_i r_i; subst hA; simp [Ar.real] at h4; omega
          clear hR c2 c5
          subst hui
          cbv
          refine ⟨(by (subst hA; (try simp only [natCast_eq] at *); (try (simp only [Ar.real, NV.val, Int.ofNat_eq_natCast, Int.toNat_natCast])); first | done | omega | decide | exact inR64 (by omega) (by omega) | (refine ⟨?_, ?_⟩ <;> first | omega | decide | exact inR64 (by omega) (by omega)))), ?_⟩
          have k3 : A.eq (Int.ofNat n) (Int.ofNat (at' u)) = true := by subst hA; rw [hn]; simp [Ar.real]
          refine CS.le hA c3 [(11, 0), (12, 1), (13, 2)] rfl rfl rfl ?_ ?_ ?_
          · (try cbv) <;> (repeat' (first | exact trivial | exact rfl | apply And.intro | exact fun _ => rfl | (intro _ hle; first | refine chunk_le hA rfl hle rfl ?_ | refine cat_le hA ?_ | refine upd_le hA ?_ | refine int_le ?_ | skip)))
            all_goals (subst hA; rw [hs, hn]; rfl)
          · (try cbv) <;> (repeat' (first | exact trivial | exact rfl | apply And.intro | exact fun _ => rfl | (intro _ hle; first | refine chunk_le hA rfl hle rfl ?_ | refine cat_le hA ?_ | refine upd_le hA ?_ | (try cbv))))
          cbv
          refine CS.le hA c4 [] rfl rfl rfl ?_ ?_ ?_
          · (try cbv) <;> (repeat' (first | exact trivial | exact rfl | apply And.intro | exact fun _ => rfl | (intro _ hle; first | refine chunk_le hA rfl hle rfl ?_ | refine cat_le hA ?_ | refine upd_le hA ?_ | (try cbv))))
          · (try cbv) <;> (repeat' (first | exact trivial | exact rfl | apply And.intro | exact fun _ => rfl | (intro _ hle; first | refine chunk_le hA rfl hle rfl ?_ | refine cat_le hA ?_ | refine upd_le hA ?_ | (try cbv))))
          cbv
          first | refine testR k3 rfl ?_ | refine testL k3 rfl ?_
          cbv
          refine CS.le hA (cl) [] rfl rfl rfl ?_ ?_ ?_
          · (try cbv) <;> (repeat' (first | exact trivial | exact rfl | apply And.intro | exact fun _ => rfl | (intro _ hle; first | refine chunk_le hA rfl hle rfl ?_ | refine cat_le hA ?_ | refine upd_le hA ?_ | (try cbv)))) <;> (try (subst hA; (try simp only [natCast_eq] at *); (try (simp only [Ar.real, NV.val, Int.ofNat_eq_natCast, Int.toNat_natCast])); first | done | omega | decide | exact inR64 (by omega) (by omega) | (refine ⟨?_, ?_⟩ <;> first | omega | decide | exact inR64 (by omega) (by omega))))
          · (try cbv) <;> (repeat' (first | exact trivial | exact rfl | apply And.intro | exact fun _ => rfl | (intro _ hle; first | refine chunk_le hA rfl hle rfl ?_ | refine cat_le hA ?_ | refine upd_le hA ?_ | (try cbv))))
          cbv
          refine Fin.le hA 0 [] (.bl true) ([]) 300 rfl rfl rfl ?_ ?_ (by rw [← hK]; exact ⟨rfl, rfl, rfl⟩)
          · (try cbv) <;> (repeat' (first | exact trivial | exact rfl | apply And.intro | exact fun _ => rfl | (intro _ hle; first | refine chunk_le hA rfl hle rfl ?_ | refine cat_le hA ?_ | refine upd_le hA ?_ | (try cbv))))
          · (try cbv) <;> (repeat' (first | exact trivial | exact rfl | apply And.intro | exact fun _ => rfl | (intro _ hle; first | refine chunk_le hA rfl hle rfl ?_ | refine cat_le hA ?_ | refine upd_le hA ?_ | (try cbv))))
end Go.Proofs.Ytnjjgipblimbfaa.Dsk
