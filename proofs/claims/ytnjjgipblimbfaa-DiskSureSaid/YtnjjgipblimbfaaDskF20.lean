/-
  Disks: what all sectors have.
-/
import Derived.Test.YtnjjgipblimbfaaDskF19
set_option linter.unusedVariables false
set_option linter.unusedSimpArgs false
namespace Go.Proofs.Ytnjjgipblimbfaa.Dsk
open Go.Eng
open Go.DskLaw (q64 secV)
set_option maxRecDepth 100000
set_option maxHeartbeats 4000000
set_option linter.unusedVariables false

theorem cat_le2 {A : Ar} (hA : Ar.real = A) {n m d : Nat} {N e : NV} {f g h : Nat → Int} (he : ltNV A e N) (hN : N.val = A.addN n m) (hfg : ∀ x, x < n + m → h x = if x < n then f x else g (x - n)) :
    leL (leSV A (d + 1)) (catG A 1 (.s n) (fun e => [.int .u8 (f e.val)]) (fun e => [.int .u8 (g e.val)]) e) [.int .u8 (h e.val)] := by
  subst hA
  have he : e.val < n + m := by have := ltNV_real.1 he; rw [hN] at this; exact this
  obtain ⟨s, h1, h2⟩ := cat_rows (N := .s n) (e := e) (f := f) (g := g)
  rw [h1]
  have h3 := hfg _ he
  rw [show (NV.s n).val = n from rfl, ← h3] at h2
  cases s <;> simp only [intOfSV] at h2 <;> cases h2 <;> (simp only [leL, leSV, kEq_refl]; exact ⟨trivial, trivial⟩)
theorem image_own {P : Program} {G : Gl} (hP : P = Try.prog) {N s : Nat} {S g : Nat → Int} {L : Int → Option (Nat → Int)} {ar : Bool} {ca : Int} (hN : N = 64 * s) (hs : s ≤ 4096) (hg : ∀ x, g x = secV S L (x / 64) (x % 64)) :
    FnTr P G 33 [.ptr 0 0] (DH N S L ar ca) 3 (Gives (.sl 3 1 (.l 0) (.s N)) ((3, .row 5 1 (.s N) (fun e => [.int .u8 (g e.val)])) :: DH N S L ar ca) 100) := by
  have c1 := len_fn (P := P) (G := G) (S := S) (L := L) (ar := ar) (ca := ca) hP hN hs
  obtain ⟨v, hv⟩ : ∃ v : Nat → Nat → Int, ∀ i, v i = secV S L i := ⟨_, fun _ => rfl⟩
  have c2 : ∀ i, i < s → FnTr P G 56 [.ptr 0 0, .int .i64 (i : Int)] (DH N S L ar ca) 3 (Gives (.ro 1 (.l 64) (fun e => [.int .u8 (v i e.val)])) (DH N S L ar ca) 4) := fun i hi => last_fn hP hN hs hi (hv i)
  obtain ⟨M, hM⟩ : ∃ M : Nat → Nat, ∀ i, M i = 64 * i := ⟨_, fun _ => rfl⟩
  have M0 : M 0 = 0 := by rw [hM]
  have MS : ∀ i, M (i + 1) = M i + 64 := fun i => by rw [hM, hM]; omega
  have Mle : ∀ i, i ≤ s → M i ≤ 262144 := fun i hi => by rw [hM]; omega
  have ME : M s = N := by rw [hM, hN]
  have hcat : ∀ i y, y < 64 → g (M i + y) = v i y := fun i y hy => by rw [hg, hM, hv, show (64 * i + y) / 64 = i by omega, show (64 * i + y) % 64 = y by omega]
  clear hg hM hv
  have hT : T.Ok P := hP ▸ T_ok
  refine FnTr.intro (fn := Try.f33) (c := bodyOf Try.f33) (by rw [hP]; rfl) rfl rfl hT ?_
  generalize hA : Ar.real = A
  generalize hK : Gives _ _ _ = K
  cbv
  refine CS.le hA (c1) [(0, 0), (1, 1), (2, 2)] rfl rfl rfl ?_ ?_ ?_
  · (try cbv) <;> (repeat' (first | exact trivial | exact rfl | apply And.intro | exact fun _ => rfl | (intro _ hle; first | refine chunk_le hA rfl hle rfl ?_ | refine cat_le hA ?_ | refine upd_le hA ?_ | (try cbv)))) <;> (try (subst hA; (try simp only [natCast_eq] at *); (try (simp only [Ar.real, NV.val, Int.ofNat_eq_natCast, Int.toNat_natCast])); first | done | omega | decide | exact inR64 (by omega) (by omega) | (refine ⟨?_, ?_⟩ <;> first | omega | decide | exact inR64 (by omega) (by omega))))
  · (try cbv) <;> (repeat' (first | exact trivial | exact rfl | apply And.intro | exact fun _ => rfl | (intro _ hle; first | refine chunk_le hA rfl hle rfl ?_ | refine cat_le hA ?_ | refine upd_le hA ?_ | (try cbv))))
  cbv
  refine LS.ghost 5 1 (.l 0) (fun _ => [.int .u8 0]) rfl ?_
  refine LS.le hT hA 3 (fun (i : Nat) => [(3, .sl 3 1 (.l 0) (.s (M i))), (7, .int .i64 (i : Int))]) (fun i => (3, .row 5 1 (.s (M i)) (fun e => [.int .u8 (g e.val)])) :: DH N S L ar ca) (fun i => i ≤ s) (fun i => s - i) 0 [(10, 3)] rfl rfl ?_ ?_ ?_
  · (try cbv) <;> (repeat' (first | exact trivial | exact rfl | apply And.intro | exact fun _ => rfl | (intro _ hle; first | refine chunk_le hA rfl hle rfl ?_ | refine cat_le hA ?_ | refine upd_le hA ?_ | refine int_le ?_ | skip)))
    all_goals first | exact M0.symm | exact M0 | (exfalso; subst hA; exact absurd (ltNV_real.1 hle) (Nat.not_lt_zero _)) | (subst hA; (try simp only [natCast_eq] at *); (try (simp only [Ar.real, NV.val, Int.ofNat_eq_natCast, Int.toNat_natCast])); first | done | omega | decide | exact inR64 (by omega) (by omega) | (refine ⟨?_, ?_⟩ <;> first | omega | decide | exact inR64 (by omega) (by omega)))
  · exact Nat.zero_le _
  · intro R hR i hi
    cbv
    refine ⟨fun q1 => ?_, fun q1 => ?_⟩
    · have him : i < s := by clear hR c2 hcat MS Mle; subst hA; simp [Ar.real] at q1; omega
      have a2 := c2 i him
      have hMi := Mle i hi
      have hMS := MS i
      have hct := hcat i
      clear c2 hcat MS Mle
      cbv
      refine CS.le hA (a2) [(0, 0), (1, 1), (2, 2)] rfl rfl rfl ?_ ?_ ?_
      · (try cbv) <;> (repeat' (first | exact trivial | exact rfl | apply And.intro | exact fun _ => rfl | (intro _ hle; first | refine chunk_le hA rfl hle rfl ?_ | refine cat_le hA ?_ | refine upd_le hA ?_ | (try cbv)))) <;> (try (subst hA; (try simp only [natCast_eq] at *); (try (simp only [Ar.real, NV.val, Int.ofNat_eq_natCast, Int.toNat_natCast])); first | done | omega | decide | exact inR64 (by omega) (by omega) | (refine ⟨?_, ?_⟩ <;> first | omega | decide | exact inR64 (by omega) (by omega))))
      · (try cbv) <;> (repeat' (first | exact trivial | exact rfl | apply And.intro | exact fun _ => rfl | (intro _ hle; first | refine chunk_le hA rfl hle rfl ?_ | refine cat_le hA ?_ | refine upd_le hA ?_ | (try cbv))))
      cbv
      have hup : ∀ e, ltNV A e (.s (A.addN (M i) 64)) → leL (leSV A 4) (catG A 1 (.s (M i)) (fun e => [.int .u8 (g e.val)]) (fun e => [.int .u8 (v i e.val)]) e) [.int .u8 (g e.val)] := fun e he =>
        cat_le2 hA he rfl (fun x hx => by
          by_cases q : x < M i
          · rw [if_pos q]
          · rw [if_neg q, ← hct (x - M i) (by omega)]; congr 1; omega)
      refine ⟨⟨(by (subst hA; (try simp only [natCast_eq] at *); (try (simp only [Ar.real, NV.val, Int.ofNat_eq_natCast, Int.toNat_natCast])); first | done | omega | decide | exact inR64 (by omega) (by omega) | (refine ⟨?_, ?_⟩ <;> first | omega | decide | exact inR64 (by omega) (by omega)))), (by (subst hA; (try simp only [natCast_eq] at *); (try (simp only [Ar.real, NV.val, Int.ofNat_eq_natCast, Int.toNat_natCast])); first | done | omega | decide | exact inR64 (by omega) (by omega) | (refine ⟨?_, ?_⟩ <;> first | omega | decide | exact inR64 (by omega) (by omega))))⟩, (by (subst hA; (try simp only [natCast_eq] at *); (try (simp only [Ar.real, NV.val, Int.ofNat_eq_natCast, Int.toNat_natCast])); first | done | omega | decide | exact inR64 (by omega) (by omega) | (refine ⟨?_, ?_⟩ <;> first | omega | decide | exact inR64 (by omega) (by omega)))), hR _ _ ⟨i + 1, 3, [(14, 3)], rfl, rfl, ?_, him, (by show s - (i + 1) < s - i; omega)⟩⟩
      clear hR
      (try cbv) <;> (repeat' (first | exact trivial | exact rfl | apply And.intro | exact fun _ => rfl | (intro _ hle; first | exact hup _ hle | refine chunk_le hA rfl hle rfl ?_ | refine cat_le hA ?_ | refine upd_le hA ?_ | refine int_le ?_ | skip)))
      all_goals first | (subst hA; exact hMS.symm) | (subst hA; (try simp only [natCast_eq] at *); (try (simp only [Ar.real, NV.val, Int.ofNat_eq_natCast, Int.toNat_natCast])); first | done | omega | decide | exact inR64 (by omega) (by omega) | (refine ⟨?_, ?_⟩ <;> first | omega | decide | exact inR64 (by omega) (by omega)))
    · have him : i = s := by clear hR c2 hcat MS Mle; subst hA; simp [Ar.real] at q1; omega
      subst him
      clear hR c2 hcat MS Mle
      cbv
      refine Fin.le hA 3 [(3, 3)] (.sl 3 1 (.l 0) (.s N)) ((3, .row 5 1 (.s N) (fun e => [.int .u8 (g e.val)])) :: DH N S L ar ca) 100 rfl rfl rfl ?_ ?_ (by rw [← hK]; exact ⟨rfl, rfl, rfl⟩)
      · (try cbv) <;> (repeat' (first | exact trivial | exact rfl | apply And.intro | exact fun _ => rfl | (intro _ hle; first | refine chunk_le hA rfl hle rfl ?_ | refine cat_le hA ?_ | refine upd_le hA ?_ | (try cbv))))
        all_goals exact ME
      · (try cbv) <;> (repeat' (first | exact trivial | exact rfl | apply And.intro | exact fun _ => rfl | (intro _ hle; first | refine chunk_le hA rfl hle rfl ?_ | refine cat_le hA ?_ | refine upd_le hA ?_ | (try cbv))))
        all_goals exact ME
theorem image_fn {P : Program} {G : Gl} (hP : P = Try.prog) {N s : Nat} {S g : Nat → Int} {L : Int → Option (Nat → Int)} {ar : Bool} {ca : Int} (hN : N = 64 * s) (hs : s ≤ 4096) (hg : ∀ x, g x = secV S L (x / 64) (x % 64)) :
    FnTr P G 33 [.ptr 0 0] (DH N S L ar ca) 3 (Gives (By N g) (DH N S L ar ca) 100) := by
  have h1 := image_own (P := P) (G := G) (ar := ar) (ca := ca) hP hN hs hg
  generalize hA : Ar.real = A
  refine FnTr.dat hA h1 _ _ ?_
  (try cbv) <;> (repeat' (first | exact trivial | exact rfl | apply And.intro | exact fun _ => rfl | (intro _ hle; first | refine chunk_le hA rfl hle rfl ?_ | refine cat_le hA ?_ | refine upd_le hA ?_ | refine int_le ?_ | skip)))
  all_goals (subst hA; (try simp only [natCast_eq] at *); (try (simp only [Ar.real, NV.val, Int.ofNat_eq_natCast, Int.toNat_natCast])); first | done | omega | decide | exact inR64 (by omega) (by omega) | (refine ⟨?_, ?_⟩ <;> first | omega | decide | exact inR64 (by omega) (by omega)))
theorem refimage_own {P : Program} {G : Gl} (hP : P = Try.prog) {N s : Nat} {S L : Nat → Nat → Int} {W : Nat → Bool} {c : Int} {g : Nat → Int} (hN : N = 64 * s) (hs : s ≤ 4096) (hg : ∀ x, g x = L (x / 64) (x % 64)) :
    FnTr P G 34 [RD s S L W c] [] 0 (Gives (.sl 1 1 (.l 0) (.s N)) [(1, .row 5 1 (.s N) (fun e => [.int .u8 (g e.val)]))] 100) := by
  obtain ⟨M, hM⟩ : ∃ M : Nat → Nat, ∀ i, M i = 64 * i := ⟨_, fun _ => rfl⟩
  have M0 : M 0 = 0 := by rw [hM]
  have MS : ∀ i, M (i + 1) = M i + 64 := fun i => by rw [hM, hM]; omega
  have Mle : ∀ i, i ≤ s → M i ≤ 262144 := fun i hi => by rw [hM]; omega
  have ME : M s = N := by rw [hM, hN]
  have hcat : ∀ i y, y < 64 → g (M i + y) = L i y := fun i y hy => by rw [hg, hM, show (64 * i + y) / 64 = i by omega, show (64 * i + y) % 64 = y by omega]
  clear hg hM
  have hT : T.Ok P := hP ▸ T_ok
  refine FnTr.intro (fn := Try.f34) (c := bodyOf Try.f34) (by rw [hP]; rfl) rfl rfl hT ?_
  generalize hA : Ar.real = A
  generalize hK : Gives _ _ _ = K
  cbv
  refine LS.ghost 5 1 (.l 0) (fun _ => [.int .u8 0]) rfl ?_
  refine LS.le hT hA 1 (fun (i : Nat) => [(3, .sl 1 1 (.l 0) (.s (M i))), (4, .int .i64 (i : Int))]) (fun i => [(1, .row 5 1 (.s (M i)) (fun e => [.int .u8 (g e.val)])), (0, .cells 44 [Rw64 s S, Rw64 s L, .ro 1 (.s s) (fun e => [.bs (W e.val)]), .int .i64 c])]) (fun i => i ≤ s) (fun i => s - i) 0 [(4, 1)] rfl rfl ?_ ?_ ?_
  · (try cbv) <;> (repeat' (first | exact trivial | exact rfl | apply And.intro | exact fun _ => rfl | (intro _ hle; first | refine chunk_le hA rfl hle rfl ?_ | refine cat_le hA ?_ | refine upd_le hA ?_ | refine int_le ?_ | skip)))
    all_goals first | exact M0.symm | exact M0 | (exfalso; subst hA; exact absurd (ltNV_real.1 hle) (Nat.not_lt_zero _)) | (subst hA; (try simp only [natCast_eq] at *); (try (simp only [Ar.real, NV.val, Int.ofNat_eq_natCast, Int.toNat_natCast])); first | done | omega | decide | exact inR64 (by omega) (by omega) | (refine ⟨?_, ?_⟩ <;> first | omega | decide | exact inR64 (by omega) (by omega))) | trace_state
  · exact Nat.zero_le _
  · intro R hR i hi
    cbv
    refine ⟨fun q1 => ?_, fun q1 => ?_⟩
    · have him : i < s := by clear hR hcat MS Mle; subst hA; simp [Ar.real] at q1; omega
      have hMi := Mle i hi
      have hMS := MS i
      have hct := hcat i
      have kn : A.nat (Int.ofNat i) = i := by clear hR; subst hA; rfl
      clear hcat MS Mle
      cbv
      have hup : ∀ e, ltNV A e (.s (A.addN (M i) 64)) → leL (leSV A 4) (catG A 1 (.s (M i)) (fun e => [.int .u8 (g e.val)]) (fun e => [.int .u8 (L (A.nat (Int.ofNat i)) e.val)]) e) [.int .u8 (g e.val)] := fun e he =>
        cat_le2 hA he rfl (fun x hx => by
          rw [kn]
          by_cases q : x < M i
          · rw [if_pos q]
          · rw [if_neg q, ← hct (x - M i) (by omega)]; congr 1; omega)
      refine ⟨(by (subst hA; (try simp only [natCast_eq] at *); (try (simp only [Ar.real, NV.val, Int.ofNat_eq_natCast, Int.toNat_natCast])); first | done | omega | decide | exact inR64 (by omega) (by omega) | (refine ⟨?_, ?_⟩ <;> first | omega | decide | exact inR64 (by omega) (by omega)))), ⟨(by (subst hA; (try simp only [natCast_eq] at *); (try (simp only [Ar.real, NV.val, Int.ofNat_eq_natCast, Int.toNat_natCast])); first | done | omega | decide | exact inR64 (by omega) (by omega) | (refine ⟨?_, ?_⟩ <;> first | omega | decide | exact inR64 (by omega) (by omega)))), (by (subst hA; (try simp only [natCast_eq] at *); (try (simp only [Ar.real, NV.val, Int.ofNat_eq_natCast, Int.toNat_natCast])); first | done | omega | decide | exact inR64 (by omega) (by omega) | (refine ⟨?_, ?_⟩ <;> first | omega | decide | exact inR64 (by omega) (by omega))))⟩, (by (subst hA; (try simp only [natCast_eq] at *); (try (simp only [Ar.real, NV.val, Int.ofNat_eq_natCast, Int.toNat_natCast])); first | done | omega | decide | exact inR64 (by omega) (by omega) | (refine ⟨?_, ?_⟩ <;> first | omega | decide | exact inR64 (by omega) (by omega)))), hR _ _ ⟨i + 1, 1, [(13, 1)], rfl, rfl, ?_, him, (by show s - (i + 1) < s - i; omega)⟩⟩
      clear hR
      (try cbv) <;> (repeat' (first | exact trivial | exact rfl | apply And.intro | exact fun _ => rfl | (intro _ hle; first | exact hup _ hle | refine chunk_le hA rfl hle rfl ?_ | refine cat_le hA ?_ | refine upd_le hA ?_ | refine int_le ?_ | skip)))
      all_goals first | (subst hA; exact hMS.symm) | (subst hA; (try simp only [natCast_eq] at *); (try (simp only [Ar.real, NV.val, Int.ofNat_eq_natCast, Int.toNat_natCast])); first | done | omega | decide | exact inR64 (by omega) (by omega) | (refine ⟨?_, ?_⟩ <;> first | omega | decide | exact inR64 (by omega) (by omega)))
    · have him : i = s := by clear hR hcat MS Mle; subst hA; simp [Ar.real] at q1; omega
      subst him
      clear hR hcat MS Mle
      cbv
      refine Fin.le hA 1 [(1, 1)] (.sl 1 1 (.l 0) (.s N)) [(1, .row 5 1 (.s N) (fun e => [.int .u8 (g e.val)]))] 100 rfl rfl rfl ?_ ?_ (by rw [← hK]; exact ⟨rfl, rfl, rfl⟩)
      · (try cbv) <;> (repeat' (first | exact trivial | exact rfl | apply And.intro | exact fun _ => rfl | (intro _ hle; first | refine chunk_le hA rfl hle rfl ?_ | refine cat_le hA ?_ | refine upd_le hA ?_ | (try cbv))))
        all_goals exact ME
      · (try cbv) <;> (repeat' (first | exact trivial | exact rfl | apply And.intro | exact fun _ => rfl | (intro _ hle; first | refine chunk_le hA rfl hle rfl ?_ | refine cat_le hA ?_ | refine upd_le hA ?_ | (try cbv))))
        all_goals exact ME
theorem refimage_fn {P : Program} {G : Gl} (hP : P = Try.prog) {N s : Nat} {S L : Nat → Nat → Int} {W : Nat → Bool} {c : Int} {g : Nat → Int} (hN : N = 64 * s) (hs : s ≤ 4096) (hg : ∀ x, g x = L (x / 64) (x % 64)) :
    FnTr P G 34 [RD s S L W c] [] 0 (Gives (By N g) [] 100) := by
  have h1 := refimage_own (P := P) (G := G) (S := S) (W := W) (c := c) hP hN hs hg
  generalize hA : Ar.real = A
  refine FnTr.dat hA h1 _ _ ?_
  (try cbv) <;> (repeat' (first | exact trivial | exact rfl | apply And.intro | exact fun _ => rfl | (intro _ hle; first | refine chunk_le hA rfl hle rfl ?_ | refine cat_le hA ?_ | refine upd_le hA ?_ | refine int_le ?_ | skip)))
  all_goals (subst hA; (try simp only [natCast_eq] at *); (try (simp only [Ar.real, NV.val, Int.ofNat_eq_natCast, Int.toNat_natCast])); first | done | omega | decide | exact inR64 (by omega) (by omega) | (refine ⟨?_, ?_⟩ <;> first | omega | decide | exact inR64 (by omega) (by omega)))
end Go.Proofs.Ytnjjgipblimbfaa.Dsk
