/-
  Records on sectors: how many sectors; what can be asked; blank bytes.
-/
import Derived.Test.YtnjjgipblimbfaaDskF2
set_option linter.unusedVariables false
set_option linter.unusedSimpArgs false
namespace Go.Proofs.Ytnjjgipblimbfaa.Dsk
open Go.Eng
open Go.DskLaw (q64 secV needN need_eq)
set_option maxRecDepth 100000
set_option maxHeartbeats 4000000
set_option linter.unusedVariables false

theorem need_fn {P : Program} {G : Gl} (hP : P = Try.prog) {n : Int} {m : Nat} (h : n ≤ 9223372036854775000) (hm : m = needN n.toNat) : FnTr P G 13 [.int .i64 n] [] 0 (Gives (.int .i64 (m : Int)) [] 0) := by
  obtain ⟨q1, q2, q3⟩ := need_eq n h
  rw [← hm] at q3
  have hT : T.Ok P := hP ▸ T_ok
  refine FnTr.intro (fn := Try.f13) (c := bodyOf Try.f13) (by rw [hP]; rfl) rfl rfl hT ?_
  generalize hA : Ar.real = A
  generalize hK : Gives _ _ _ = K
  cbv
  refine ⟨?_, ?_, ⟨?_, ?_⟩, ?_⟩
  · subst hA
    exact inR64 (by simp only [Ar.real]; omega) (by simp only [Ar.real]; omega)
  · subst hA
    exact inR64 (by simp only [Ar.real]; omega) (by simp only [Ar.real]; omega)
  · subst hA
    simp only [Ar.real]
    decide
  · subst hA
    exact inR64 (Int.le_trans (by decide) q2.1) (Int.le_trans q2.2 (by decide))
  refine Fin.le hA 0 [] (.int .i64 (m : Int)) ([]) 0 rfl rfl rfl ?_ ?_ (by rw [← hK]; exact ⟨rfl, rfl, rfl⟩)
  · (try cbv) <;> (repeat' (first | exact trivial | exact rfl | apply And.intro | exact fun _ => rfl | (intro _ hle; first | refine chunk_le hA rfl hle rfl ?_ | refine cat_le hA ?_ | refine upd_le hA ?_ | (try cbv))))
    subst hA
    exact q3
  · (try cbv) <;> (repeat' (first | exact trivial | exact rfl | apply And.intro | exact fun _ => rfl | (intro _ hle; first | refine chunk_le hA rfl hle rfl ?_ | refine cat_le hA ?_ | refine upd_le hA ?_ | (try cbv))))
theorem sasked_nil {P : Program} {G : Gl} (hP : P = Try.prog) {a b : Int} : FnTr P G 38 [.nilp, .int .i64 a, .int .i64 b] [] 0 (Gives (.lit .i64 7) [] 0) := by
  have hT : T.Ok P := hP ▸ T_ok
  refine FnTr.intro (fn := Try.f38) (c := bodyOf Try.f38) (by rw [hP]; rfl) rfl rfl hT ?_
  generalize hA : Ar.real = A
  generalize hK : Gives _ _ _ = K
  cbv
  refine Fin.le hA 0 [] (.lit .i64 7) ([]) 0 rfl rfl rfl ?_ ?_ (by rw [← hK]; exact ⟨rfl, rfl, rfl⟩)
  · (try cbv) <;> (repeat' (first | exact trivial | exact rfl | apply And.intro | exact fun _ => rfl | (intro _ hle; first | refine chunk_le hA rfl hle rfl ?_ | refine cat_le hA ?_ | refine upd_le hA ?_ | (try cbv))))
  · (try cbv) <;> (repeat' (first | exact trivial | exact rfl | apply And.intro | exact fun _ => rfl | (intro _ hle; first | refine chunk_le hA rfl hle rfl ?_ | refine cat_le hA ?_ | refine upd_le hA ?_ | (try cbv))))
theorem sasked_arg {P : Program} {G : Gl} (hP : P = Try.prog) {N s : Nat} {S : Nat → Int} {L : Int → Option (Nat → Int)} {ar : Bool} {ca a b : Int} (hN : N = 64 * s) (hs : s ≤ 4096) (h : a < 0 ∨ b < a ∨ (s : Int) < b) :
    FnTr P G 38 [.ptr 0 0, .int .i64 a, .int .i64 b] (DH N S L ar ca) 3 (Gives (.lit .i64 1) (DH N S L ar ca) 3) := by
  have c2 := len_fn (P := P) (G := G) (S := S) (L := L) (ar := ar) (ca := ca) hP hN hs
  by_cases h0 : a < 0
  · skip
    have hT : T.Ok P := hP ▸ T_ok
    refine FnTr.intro (fn := Try.f38) (c := bodyOf Try.f38) (by rw [hP]; rfl) rfl rfl hT ?_
    generalize hA : Ar.real = A
    generalize hK : Gives _ _ _ = K
    cbv
    have k1 : A.lt a 0 = true := by subst hA; simpa [Ar.real] using h0
    repeat' (first | (refine ⟨fun h => absurd (h.symm.trans k1) (by decide), fun _ => ?_⟩; cbv) | (refine ⟨fun _ => ?_, fun h => absurd (h.symm.trans k1) (by decide)⟩; cbv))
    refine Fin.le hA 3 [] (.lit .i64 1) (DH N S L ar ca) 3 rfl rfl rfl ?_ ?_ (by rw [← hK]; exact ⟨rfl, rfl, rfl⟩)
    · (try cbv) <;> (repeat' (first | exact trivial | exact rfl | apply And.intro | exact fun _ => rfl | (intro _ hle; first | refine chunk_le hA rfl hle rfl ?_ | refine cat_le hA ?_ | refine upd_le hA ?_ | (try cbv))))
    · (try cbv) <;> (repeat' (first | exact trivial | exact rfl | apply And.intro | exact fun _ => rfl | (intro _ hle; first | refine chunk_le hA rfl hle rfl ?_ | refine cat_le hA ?_ | refine upd_le hA ?_ | (try cbv))))
  by_cases h1 : b < a
  · skip
    have hT : T.Ok P := hP ▸ T_ok
    refine FnTr.intro (fn := Try.f38) (c := bodyOf Try.f38) (by rw [hP]; rfl) rfl rfl hT ?_
    generalize hA : Ar.real = A
    generalize hK : Gives _ _ _ = K
    cbv
    have k1 : A.lt a 0 = false := by subst hA; simpa [Ar.real] using h0
    have k2 : A.lt b a = true := by subst hA; simpa [Ar.real] using h1
    repeat' (first | (refine ⟨fun h => absurd (h.symm.trans k1) (by decide), fun _ => ?_⟩; cbv) | (refine ⟨fun _ => ?_, fun h => absurd (h.symm.trans k1) (by decide)⟩; cbv) | (refine ⟨fun h => absurd (h.symm.trans k2) (by decide), fun _ => ?_⟩; cbv) | (refine ⟨fun _ => ?_, fun h => absurd (h.symm.trans k2) (by decide)⟩; cbv))
    refine Fin.le hA 3 [] (.lit .i64 1) (DH N S L ar ca) 3 rfl rfl rfl ?_ ?_ (by rw [← hK]; exact ⟨rfl, rfl, rfl⟩)
    · (try cbv) <;> (repeat' (first | exact trivial | exact rfl | apply And.intro | exact fun _ => rfl | (intro _ hle; first | refine chunk_le hA rfl hle rfl ?_ | refine cat_le hA ?_ | refine upd_le hA ?_ | (try cbv))))
    · (try cbv) <;> (repeat' (first | exact trivial | exact rfl | apply And.intro | exact fun _ => rfl | (intro _ hle; first | refine chunk_le hA rfl hle rfl ?_ | refine cat_le hA ?_ | refine upd_le hA ?_ | (try cbv))))
  have h2 : (s : Int) < b := by omega
  have hT : T.Ok P := hP ▸ T_ok
  refine FnTr.intro (fn := Try.f38) (c := bodyOf Try.f38) (by rw [hP]; rfl) rfl rfl hT ?_
  generalize hA : Ar.real = A
  generalize hK : Gives _ _ _ = K
  cbv
  have k1 : A.lt a 0 = false := by subst hA; simpa [Ar.real] using h0
  have k2 : A.lt b a = false := by subst hA; simpa [Ar.real] using h1
  repeat' (first | (refine ⟨fun h => absurd (h.symm.trans k1) (by decide), fun _ => ?_⟩; cbv) | (refine ⟨fun _ => ?_, fun h => absurd (h.symm.trans k1) (by decide)⟩; cbv) | (refine ⟨fun h => absurd (h.symm.trans k2) (by decide), fun _ => ?_⟩; cbv) | (refine ⟨fun _ => ?_, fun h => absurd (h.symm.trans k2) (by decide)⟩; cbv))
  refine CS.le hA (c2) [(0, 0), (1, 1), (2, 2)] rfl rfl rfl ?_ ?_ ?_
  · (try cbv) <;> (repeat' (first | exact trivial | exact rfl | apply And.intro | exact fun _ => rfl | (intro _ hle; first | refine chunk_le hA rfl hle rfl ?_ | refine cat_le hA ?_ | refine upd_le hA ?_ | (try cbv)))) <;> (try (subst hA; (try simp only [natCast_eq] at *); (try (simp only [Ar.real, NV.val, Int.ofNat_eq_natCast, Int.toNat_natCast])); first | done | omega | decide | exact inR64 (by omega) (by omega) | (refine ⟨?_, ?_⟩ <;> first | omega | decide | exact inR64 (by omega) (by omega))))
  · (try cbv) <;> (repeat' (first | exact trivial | exact rfl | apply And.intro | exact fun _ => rfl | (intro _ hle; first | refine chunk_le hA rfl hle rfl ?_ | refine cat_le hA ?_ | refine upd_le hA ?_ | (try cbv))))
  cbv
  have k3 : A.gt b (s : Int) = true := by subst hA; simp only [natCast_eq] at *; simp [Ar.real]; omega
  repeat' (first | (refine ⟨fun h => absurd (h.symm.trans k3) (by decide), fun _ => ?_⟩; cbv) | (refine ⟨fun _ => ?_, fun h => absurd (h.symm.trans k3) (by decide)⟩; cbv))
  refine Fin.le hA 3 [] (.lit .i64 1) (DH N S L ar ca) 3 rfl rfl rfl ?_ ?_ (by rw [← hK]; exact ⟨rfl, rfl, rfl⟩)
  · (try cbv) <;> (repeat' (first | exact trivial | exact rfl | apply And.intro | exact fun _ => rfl | (intro _ hle; first | refine chunk_le hA rfl hle rfl ?_ | refine cat_le hA ?_ | refine upd_le hA ?_ | (try cbv))))
  · (try cbv) <;> (repeat' (first | exact trivial | exact rfl | apply And.intro | exact fun _ => rfl | (intro _ hle; first | refine chunk_le hA rfl hle rfl ?_ | refine cat_le hA ?_ | refine upd_le hA ?_ | (try cbv))))
theorem sasked_ok {P : Program} {G : Gl} (hP : P = Try.prog) {N s : Nat} {S : Nat → Int} {L : Int → Option (Nat → Int)} {ar : Bool} {ca a b : Int} (hN : N = 64 * s) (hs : s ≤ 4096) (h : 0 ≤ a ∧ a ≤ b ∧ b ≤ (s : Int)) :
    FnTr P G 38 [.ptr 0 0, .int .i64 a, .int .i64 b] (DH N S L ar ca) 3 (Gives (.lit .i64 0) (DH N S L ar ca) 3) := by
  have c2 := len_fn (P := P) (G := G) (S := S) (L := L) (ar := ar) (ca := ca) hP hN hs
  have hT : T.Ok P := hP ▸ T_ok
  refine FnTr.intro (fn := Try.f38) (c := bodyOf Try.f38) (by rw [hP]; rfl) rfl rfl hT ?_
  generalize hA : Ar.real = A
  generalize hK : Gives _ _ _ = K
  cbv
  have k1 : A.lt a 0 = false := by subst hA; simp [Ar.real]; omega
  have k2 : A.lt b a = false := by subst hA; simp [Ar.real]; omega
  repeat' (first | (refine ⟨fun h => absurd (h.symm.trans k1) (by decide), fun _ => ?_⟩; cbv) | (refine ⟨fun _ => ?_, fun h => absurd (h.symm.trans k1) (by decide)⟩; cbv) | (refine ⟨fun h => absurd (h.symm.trans k2) (by decide), fun _ => ?_⟩; cbv) | (refine ⟨fun _ => ?_, fun h => absurd (h.symm.trans k2) (by decide)⟩; cbv))
  refine CS.le hA (c2) [(0, 0), (1, 1), (2, 2)] rfl rfl rfl ?_ ?_ ?_
  · (try cbv) <;> (repeat' (first | exact trivial | exact rfl | apply And.intro | exact fun _ => rfl | (intro _ hle; first | refine chunk_le hA rfl hle rfl ?_ | refine cat_le hA ?_ | refine upd_le hA ?_ | (try cbv)))) <;> (try (subst hA; (try simp only [natCast_eq] at *); (try (simp only [Ar.real, NV.val, Int.ofNat_eq_natCast, Int.toNat_natCast])); first | done | omega | decide | exact inR64 (by omega) (by omega) | (refine ⟨?_, ?_⟩ <;> first | omega | decide | exact inR64 (by omega) (by omega))))
  · (try cbv) <;> (repeat' (first | exact trivial | exact rfl | apply And.intro | exact fun _ => rfl | (intro _ hle; first | refine chunk_le hA rfl hle rfl ?_ | refine cat_le hA ?_ | refine upd_le hA ?_ | (try cbv))))
  cbv
  have k3 : A.gt b (s : Int) = false := by subst hA; simp only [natCast_eq] at *; simp [Ar.real]; omega
  repeat' (first | (refine ⟨fun h => absurd (h.symm.trans k3) (by decide), fun _ => ?_⟩; cbv) | (refine ⟨fun _ => ?_, fun h => absurd (h.symm.trans k3) (by decide)⟩; cbv))
  refine Fin.le hA 3 [] (.lit .i64 0) (DH N S L ar ca) 3 rfl rfl rfl ?_ ?_ (by rw [← hK]; exact ⟨rfl, rfl, rfl⟩)
  · (try cbv) <;> (repeat' (first | exact trivial | exact rfl | apply And.intro | exact fun _ => rfl | (intro _ hle; first | refine chunk_le hA rfl hle rfl ?_ | refine cat_le hA ?_ | refine upd_le hA ?_ | (try cbv))))
  · (try cbv) <;> (repeat' (first | exact trivial | exact rfl | apply And.intro | exact fun _ => rfl | (intro _ hle; first | refine chunk_le hA rfl hle rfl ?_ | refine cat_le hA ?_ | refine upd_le hA ?_ | (try cbv))))
theorem blank_fn {P : Program} {G : Gl} (hP : P = Try.prog) {n : Nat} {f : Nat → Int} {r : Bool} (hn : n ≤ 1000000) (hr : r = true ↔ ∀ i, i < n → f i = 0) :
    FnTr P G 58 [By n f] [] 0 (Gives (.bs r) [] 0) := by
  have hT : T.Ok P := hP ▸ T_ok
  refine FnTr.intro (fn := Try.f58) (c := bodyOf Try.f58) (by rw [hP]; rfl) rfl rfl hT ?_
  generalize hA : Ar.real = A
  generalize hK : Gives _ _ _ = K
  cbv
  refine LS.le hT hA 0 (fun (i : Nat) => [(7, .int .i64 (i : Int))]) (fun _ => []) (fun i => i ≤ n ∧ ∀ j, j < i → f j = 0) (fun i => n - i) 0 [] rfl rfl ?_ ?_ ?_
  · (try cbv) <;> (repeat' (first | exact trivial | exact rfl | apply And.intro | exact fun _ => rfl | (intro _ hle; first | refine chunk_le hA rfl hle rfl ?_ | refine cat_le hA ?_ | refine upd_le hA ?_ | (try cbv))))
  · exact ⟨Nat.zero_le _, fun j hj => absurd hj (Nat.not_lt_zero _)⟩
  · intro R hR i hi
    cbv
    refine ⟨fun h1 => ?_, fun h1 => ?_⟩
    · have him : i < n := by subst hA; simp [Ar.real] at h1; omega
      cbv
      refine ⟨(by (subst hA; (try simp only [natCast_eq] at *); (try (simp only [Ar.real, NV.val, Int.ofNat_eq_natCast, Int.toNat_natCast])); first | done | omega | decide | exact inR64 (by omega) (by omega) | (refine ⟨?_, ?_⟩ <;> first | omega | decide | exact inR64 (by omega) (by omega)))), ?_⟩
      refine ⟨fun h2 => ?_, fun h2 => ?_⟩
      · have hf : f i ≠ 0 := by subst hA; simpa [Ar.real, NV.val] using h2
        have hr' : r = false := by
          cases r with
          | false => rfl
          | true => exact absurd (hr.1 rfl i him) hf
        clear hR
        cbv
        refine Fin.le hA 0 [] (.bs r) ([]) 0 rfl rfl rfl ?_ ?_ (by rw [← hK]; exact ⟨rfl, rfl, rfl⟩)
        · (try cbv) <;> (repeat' (first | exact trivial | exact rfl | apply And.intro | exact fun _ => rfl | (intro _ hle; first | refine chunk_le hA rfl hle rfl ?_ | refine cat_le hA ?_ | refine upd_le hA ?_ | (try cbv))))
          exact hr'.symm
        · (try cbv) <;> (repeat' (first | exact trivial | exact rfl | apply And.intro | exact fun _ => rfl | (intro _ hle; first | refine chunk_le hA rfl hle rfl ?_ | refine cat_le hA ?_ | refine upd_le hA ?_ | (try cbv))))
      · have hf : f i = 0 := by subst hA; simpa [Ar.real, NV.val] using h2
        cbv
        refine ⟨(by (subst hA; (try simp only [natCast_eq] at *); (try (simp only [Ar.real, NV.val, Int.ofNat_eq_natCast, Int.toNat_natCast])); first | done | omega | decide | exact inR64 (by omega) (by omega) | (refine ⟨?_, ?_⟩ <;> first | omega | decide | exact inR64 (by omega) (by omega)))), hR _ _ ⟨i + 1, 0, [], rfl, rfl, ?_, ⟨him, fun j hj => ?_⟩, (by show n - (i + 1) < n - i; omega)⟩⟩
        · clear hR
          (try cbv) <;> (repeat' (first | exact trivial | exact rfl | apply And.intro | exact fun _ => rfl | (intro _ hle; first | refine chunk_le hA rfl hle rfl ?_ | refine cat_le hA ?_ | refine upd_le hA ?_ | (try cbv))))
          (subst hA; (try simp only [natCast_eq] at *); (try (simp only [Ar.real, NV.val, Int.ofNat_eq_natCast, Int.toNat_natCast])); first | done | omega | decide | exact inR64 (by omega) (by omega) | (refine ⟨?_, ?_⟩ <;> first | omega | decide | exact inR64 (by omega) (by omega)))
        · rcases Nat.lt_or_ge j i with q | q
          · exact hi.2 j q
          · rw [show j = i by omega]; exact hf
    · have him : i = n := by subst hA; simp [Ar.real] at h1; omega
      subst him
      have hr' : r = true := hr.2 hi.2
      clear hR
      cbv
      refine Fin.le hA 0 [] (.bs r) ([]) 0 rfl rfl rfl ?_ ?_ (by rw [← hK]; exact ⟨rfl, rfl, rfl⟩)
      · (try cbv) <;> (repeat' (first | exact trivial | exact rfl | apply And.intro | exact fun _ => rfl | (intro _ hle; first | refine chunk_le hA rfl hle rfl ?_ | refine cat_le hA ?_ | refine upd_le hA ?_ | (try cbv))))
        exact hr'.symm
      · (try cbv) <;> (repeat' (first | exact trivial | exact rfl | apply And.intro | exact fun _ => rfl | (intro _ hle; first | refine chunk_le hA rfl hle rfl ?_ | refine cat_le hA ?_ | refine upd_le hA ?_ | (try cbv))))
end Go.Proofs.Ytnjjgipblimbfaa.Dsk
