/-
  Records on sectors: the law SlabReads, as the code runs it.
-/
import Derived.Test.YtnjjgipblimbfaaDskF16
import Derived.Test.YtnjjgipblimbfaaDskD
set_option linter.unusedVariables false
set_option linter.unusedSimpArgs false
namespace Go.Proofs.Ytnjjgipblimbfaa.Dsk
open Go.Eng
open Go.DskLaw (q64 secV needN pcs padOk isB usedP getP scanP getP_next getP_isB scanP_isB scanP_le)
set_option maxRecDepth 100000
set_option maxHeartbeats 4000000
set_option linter.unusedVariables false

/-- An act. -/
abbrev OpG (k : Int) (a b : Int) : SV := .agg [.lit .i64 k, .int .i64 a, .int .i64 b, .nils, .nils]
theorem scan_bad {P : Program} {G : Gl} (hP : P = Try.prog) {N s : Nat} {S : Nat → Int} {L : Int → Option (Nat → Int)} {ar : Bool} {ca a b r : Int} (hN : N = 64 * s) (hs : s ≤ 4096) (h : ((a < 0 ∨ b < a ∨ (s : Int) < b) ∧ r = 1) ∨ ((0 ≤ a ∧ a ≤ b ∧ b ≤ (s : Int)) ∧ (ar = true ∧ ca = 0) ∧ r = 6)) :
    FnTr P G 14 [.ptr 0 0, .int .i64 a, .int .i64 b] (DH N S L ar ca) 3 (Gives (.tup [.nils, .lit .i64 0, .int .i64 r]) (DH N S L ar ca) 3) := by
  rcases h with ⟨h, rfl⟩ | ⟨h, hc, rfl⟩
  · have c1 := get_arg (P := P) (G := G) (S := S) (L := L) (ar := ar) (ca := ca) hP hN hs h
    have hT : T.Ok P := hP ▸ T_ok
    refine FnTr.intro (fn := Try.f14) (c := bodyOf Try.f14) (by rw [hP]; rfl) rfl rfl hT ?_
    generalize hA : Ar.real = A
    generalize hK : Gives _ _ _ = K
    cbv
    refine LS.rounds hA 1 hT ?_
    cbv
    refine CS.le hA (c1) [(0, 0), (1, 1), (2, 2)] rfl rfl rfl ?_ ?_ ?_
    · (try cbv) <;> (repeat' (first | exact trivial | exact rfl | apply And.intro | exact fun _ => rfl | (intro _ hle; first | refine chunk_le hA rfl hle rfl ?_ | refine cat_le hA ?_ | refine upd_le hA ?_ | (try cbv)))) <;> (try (subst hA; (try simp only [natCast_eq] at *); (try (simp only [Ar.real, NV.val, Int.ofNat_eq_natCast, Int.toNat_natCast])); first | done | omega | decide | exact inR64 (by omega) (by omega) | (refine ⟨?_, ?_⟩ <;> first | omega | decide | exact inR64 (by omega) (by omega))))
    · (try cbv) <;> (repeat' (first | exact trivial | exact rfl | apply And.intro | exact fun _ => rfl | (intro _ hle; first | refine chunk_le hA rfl hle rfl ?_ | refine cat_le hA ?_ | refine upd_le hA ?_ | (try cbv))))
    cbv
    refine Fin.le hA 3 [] (.tup [.nils, .lit .i64 0, .int .i64 1]) (DH N S L ar ca) 3 rfl rfl rfl ?_ ?_ (by rw [← hK]; exact ⟨rfl, rfl, rfl⟩)
    · (try cbv) <;> (repeat' (first | exact trivial | exact rfl | apply And.intro | exact fun _ => rfl | (intro _ hle; first | refine chunk_le hA rfl hle rfl ?_ | refine cat_le hA ?_ | refine upd_le hA ?_ | (try cbv))))
    · (try cbv) <;> (repeat' (first | exact trivial | exact rfl | apply And.intro | exact fun _ => rfl | (intro _ hle; first | refine chunk_le hA rfl hle rfl ?_ | refine cat_le hA ?_ | refine upd_le hA ?_ | (try cbv))))
  · have c1 := get_off (P := P) (G := G) (S := S) (L := L) (ar := ar) (ca := ca) hP hN hs h hc
    have hT : T.Ok P := hP ▸ T_ok
    refine FnTr.intro (fn := Try.f14) (c := bodyOf Try.f14) (by rw [hP]; rfl) rfl rfl hT ?_
    generalize hA : Ar.real = A
    generalize hK : Gives _ _ _ = K
    cbv
    refine LS.rounds hA 1 hT ?_
    cbv
    refine CS.le hA (c1) [(0, 0), (1, 1), (2, 2)] rfl rfl rfl ?_ ?_ ?_
    · (try cbv) <;> (repeat' (first | exact trivial | exact rfl | apply And.intro | exact fun _ => rfl | (intro _ hle; first | refine chunk_le hA rfl hle rfl ?_ | refine cat_le hA ?_ | refine upd_le hA ?_ | (try cbv)))) <;> (try (subst hA; (try simp only [natCast_eq] at *); (try (simp only [Ar.real, NV.val, Int.ofNat_eq_natCast, Int.toNat_natCast])); first | done | omega | decide | exact inR64 (by omega) (by omega) | (refine ⟨?_, ?_⟩ <;> first | omega | decide | exact inR64 (by omega) (by omega))))
    · (try cbv) <;> (repeat' (first | exact trivial | exact rfl | apply And.intro | exact fun _ => rfl | (intro _ hle; first | refine chunk_le hA rfl hle rfl ?_ | refine cat_le hA ?_ | refine upd_le hA ?_ | (try cbv))))
    cbv
    refine Fin.le hA 3 [] (.tup [.nils, .lit .i64 0, .int .i64 6]) (DH N S L ar ca) 3 rfl rfl rfl ?_ ?_ (by rw [← hK]; exact ⟨rfl, rfl, rfl⟩)
    · (try cbv) <;> (repeat' (first | exact trivial | exact rfl | apply And.intro | exact fun _ => rfl | (intro _ hle; first | refine chunk_le hA rfl hle rfl ?_ | refine cat_le hA ?_ | refine upd_le hA ?_ | (try cbv))))
    · (try cbv) <;> (repeat' (first | exact trivial | exact rfl | apply And.intro | exact fun _ => rfl | (intro _ hle; first | refine chunk_le hA rfl hle rfl ?_ | refine cat_le hA ?_ | refine upd_le hA ?_ | (try cbv))))
theorem do_get {P : Program} {G : Gl} (hP : P = Try.prog) {N s : Nat} {S : Nat → Int} {L : Int → Option (Nat → Int)} {a b : Int} {RS V : Nat → Nat → Int} {W : Nat → Bool} (hN : N = 64 * s) (hs : s ≤ 4096) (hV : ∀ i, i < s → V i = secV S L i ∧ isB (V i)) :
    FnTr P G 21 [.ptr 0 0, RD s RS V W (-1), OpG 1 a b] (DH N S L false 0) 3 (Gives (.tup [RD s RS V W (-1), .bl true]) (DH N S L false 0) 3) := by
  have off : ¬ (false = true ∧ (0 : Int) = 0) := fun h => by cases h.1
  by_cases hbad : a < 0 ∨ b < a ∨ (s : Int) < b
  · have c1 := refget_arg (P := P) (G := G) (S := RS) (L := V) (W := W) (c := -1) hP hbad
    have c2 := get_arg (P := P) (G := G) (S := S) (L := L) (ar := false) (ca := 0) hP hN hs hbad
    have c3 := same_fn (P := P) (G := G) (n := 0) (m := 0) (f := fun _ => 0) (g := fun _ => 0) (res := true) hP (fun i hi => by omega) (fun i hi => by omega) ⟨fun _ => ⟨rfl, fun _ _ => rfl⟩, fun _ => rfl⟩
    clear hV
    have hT : T.Ok P := hP ▸ T_ok
    refine FnTr.intro (fn := Try.f21) (c := bodyOf Try.f21) (by rw [hP]; rfl) rfl rfl hT ?_
    generalize hA : Ar.real = A
    generalize hK : Gives _ _ _ = K
    cbv
    refine CS.le hA (c1) [] rfl rfl rfl ?_ ?_ ?_
    · (try cbv) <;> (repeat' (first | exact trivial | exact rfl | apply And.intro | exact fun _ => rfl | (intro _ hle; first | refine chunk_le hA rfl hle rfl ?_ | refine cat_le hA ?_ | refine upd_le hA ?_ | (try cbv)))) <;> (try (subst hA; (try simp only [natCast_eq] at *); (try (simp only [Ar.real, NV.val, Int.ofNat_eq_natCast, Int.toNat_natCast])); first | done | omega | decide | exact inR64 (by omega) (by omega) | (refine ⟨?_, ?_⟩ <;> first | omega | decide | exact inR64 (by omega) (by omega))))
    · (try cbv) <;> (repeat' (first | exact trivial | exact rfl | apply And.intro | exact fun _ => rfl | (intro _ hle; first | refine chunk_le hA rfl hle rfl ?_ | refine cat_le hA ?_ | refine upd_le hA ?_ | (try cbv))))
    cbv
    refine CS.le hA (c2) [(0, 0), (1, 1), (2, 2)] rfl rfl rfl ?_ ?_ ?_
    · (try cbv) <;> (repeat' (first | exact trivial | exact rfl | apply And.intro | exact fun _ => rfl | (intro _ hle; first | refine chunk_le hA rfl hle rfl ?_ | refine cat_le hA ?_ | refine upd_le hA ?_ | (try cbv)))) <;> (try (subst hA; (try simp only [natCast_eq] at *); (try (simp only [Ar.real, NV.val, Int.ofNat_eq_natCast, Int.toNat_natCast])); first | done | omega | decide | exact inR64 (by omega) (by omega) | (refine ⟨?_, ?_⟩ <;> first | omega | decide | exact inR64 (by omega) (by omega))))
    · (try cbv) <;> (repeat' (first | exact trivial | exact rfl | apply And.intro | exact fun _ => rfl | (intro _ hle; first | refine chunk_le hA rfl hle rfl ?_ | refine cat_le hA ?_ | refine upd_le hA ?_ | (try cbv))))
    cbv
    refine DS.runK hA hT (by rw [hP]; exact P_mixed) 700 rfl ?_
    cbv
    refine CD.pass hA (FnTr.res hA c3 (.bl true) rfl) [] [] rfl ⟨rfl, rfl, rfl, rfl, ?_, ?_⟩ rfl (.inl rfl) ?_
    · (try cbv) <;> (repeat' (first | exact trivial | exact rfl | apply And.intro | exact fun _ => rfl | (intro _ hle; first | refine chunk_le hA rfl hle rfl ?_ | refine cat_le hA ?_ | refine upd_le hA ?_ | (try cbv))))
    · (try cbv) <;> (repeat' (first | exact trivial | exact rfl | apply And.intro | exact fun _ => rfl | (intro _ hle; first | refine chunk_le hA rfl hle rfl ?_ | refine cat_le hA ?_ | refine upd_le hA ?_ | (try cbv))))
    cbv
    refine DF.fin (by kernel_rfl) (by kernel_rfl) ?_
    cbv
    refine Fin.le hA 3 [] (.tup [RD s RS V W (-1), .bl true]) (DH N S L false 0) 3 rfl rfl rfl ?_ ?_ (by rw [← hK]; exact ⟨rfl, rfl, rfl⟩)
    · (try cbv) <;> (repeat' (first | exact trivial | exact rfl | apply And.intro | exact fun _ => rfl | (intro _ hle; first | refine chunk_le hA rfl hle rfl ?_ | refine cat_le hA ?_ | refine upd_le hA ?_ | (try cbv))))
    · (try cbv) <;> (repeat' (first | exact trivial | exact rfl | apply And.intro | exact fun _ => rfl | (intro _ hle; first | refine chunk_le hA rfl hle rfl ?_ | refine cat_le hA ?_ | refine upd_le hA ?_ | (try cbv))))
  obtain ⟨a', ha⟩ : ∃ a' : Nat, a = (a' : Int) := ⟨a.toNat, by omega⟩
  obtain ⟨b', hb⟩ : ∃ b' : Nat, b = (b' : Int) := ⟨b.toNat, by omega⟩
  subst ha
  subst hb
  cases hg : getP V a' b' (b' - a') a' 0 (fun _ => 0) with
  | none =>
    have c1 := refget_none (P := P) (G := G) (S := RS) (L := V) (W := W) (c := -1) hP hs (show a' ≤ b' ∧ b' ≤ s by omega) (by decide) (fun i hi => ⟨rfl, (hV i hi).2⟩) hg
    have c2 := get_none (P := P) (G := G) (S := S) (L := L) (ar := false) (ca := 0) hP hN hs (show a' ≤ b' ∧ b' ≤ s by omega) off hV hg
    have c3 := same_fn (P := P) (G := G) (n := 0) (m := 0) (f := fun _ => 0) (g := fun _ => 0) (res := true) hP (fun i hi => by omega) (fun i hi => by omega) ⟨fun _ => ⟨rfl, fun _ _ => rfl⟩, fun _ => rfl⟩
    clear hV
    have hT : T.Ok P := hP ▸ T_ok
    refine FnTr.intro (fn := Try.f21) (c := bodyOf Try.f21) (by rw [hP]; rfl) rfl rfl hT ?_
    generalize hA : Ar.real = A
    generalize hK : Gives _ _ _ = K
    cbv
    refine CS.le hA (c1) [] rfl rfl rfl ?_ ?_ ?_
    · (try cbv) <;> (repeat' (first | exact trivial | exact rfl | apply And.intro | exact fun _ => rfl | (intro _ hle; first | refine chunk_le hA rfl hle rfl ?_ | refine cat_le hA ?_ | refine upd_le hA ?_ | (try cbv)))) <;> (try (subst hA; (try simp only [natCast_eq] at *); (try (simp only [Ar.real, NV.val, Int.ofNat_eq_natCast, Int.toNat_natCast])); first | done | omega | decide | exact inR64 (by omega) (by omega) | (refine ⟨?_, ?_⟩ <;> first | omega | decide | exact inR64 (by omega) (by omega))))
    · (try cbv) <;> (repeat' (first | exact trivial | exact rfl | apply And.intro | exact fun _ => rfl | (intro _ hle; first | refine chunk_le hA rfl hle rfl ?_ | refine cat_le hA ?_ | refine upd_le hA ?_ | (try cbv))))
    cbv
    refine CS.le hA (c2) [(0, 0), (1, 1), (2, 2)] rfl rfl rfl ?_ ?_ ?_
    · (try cbv) <;> (repeat' (first | exact trivial | exact rfl | apply And.intro | exact fun _ => rfl | (intro _ hle; first | refine chunk_le hA rfl hle rfl ?_ | refine cat_le hA ?_ | refine upd_le hA ?_ | (try cbv)))) <;> (try (subst hA; (try simp only [natCast_eq] at *); (try (simp only [Ar.real, NV.val, Int.ofNat_eq_natCast, Int.toNat_natCast])); first | done | omega | decide | exact inR64 (by omega) (by omega) | (refine ⟨?_, ?_⟩ <;> first | omega | decide | exact inR64 (by omega) (by omega))))
    · (try cbv) <;> (repeat' (first | exact trivial | exact rfl | apply And.intro | exact fun _ => rfl | (intro _ hle; first | refine chunk_le hA rfl hle rfl ?_ | refine cat_le hA ?_ | refine upd_le hA ?_ | (try cbv))))
    cbv
    refine DS.runK hA hT (by rw [hP]; exact P_mixed) 700 rfl ?_
    cbv
    refine CD.pass hA (FnTr.res hA c3 (.bl true) rfl) [] [] rfl ⟨rfl, rfl, rfl, rfl, ?_, ?_⟩ rfl (.inl rfl) ?_
    · (try cbv) <;> (repeat' (first | exact trivial | exact rfl | apply And.intro | exact fun _ => rfl | (intro _ hle; first | refine chunk_le hA rfl hle rfl ?_ | refine cat_le hA ?_ | refine upd_le hA ?_ | (try cbv))))
    · (try cbv) <;> (repeat' (first | exact trivial | exact rfl | apply And.intro | exact fun _ => rfl | (intro _ hle; first | refine chunk_le hA rfl hle rfl ?_ | refine cat_le hA ?_ | refine upd_le hA ?_ | (try cbv))))
    cbv
    refine DF.fin (by kernel_rfl) (by kernel_rfl) ?_
    cbv
    refine Fin.le hA 3 [] (.tup [RD s RS V W (-1), .bl true]) (DH N S L false 0) 3 rfl rfl rfl ?_ ?_ (by rw [← hK]; exact ⟨rfl, rfl, rfl⟩)
    · (try cbv) <;> (repeat' (first | exact trivial | exact rfl | apply And.intro | exact fun _ => rfl | (intro _ hle; first | refine chunk_le hA rfl hle rfl ?_ | refine cat_le hA ?_ | refine upd_le hA ?_ | (try cbv))))
    · (try cbv) <;> (repeat' (first | exact trivial | exact rfl | apply And.intro | exact fun _ => rfl | (intro _ hle; first | refine chunk_le hA rfl hle rfl ?_ | refine cat_le hA ?_ | refine upd_le hA ?_ | (try cbv))))
  | some r =>
    obtain ⟨n, f, next⟩ := r
    have hB := getP_isB (V := V) (first := a') (fin := b') (fun i hi => (hV i (by omega)).2) _ _ _ _ _ _ _ (fun i hi => by omega) hg
    have c1 := refget_fn (P := P) (G := G) (S := RS) (L := V) (W := W) (c := -1) hP hs (show a' ≤ b' ∧ b' ≤ s by omega) (by decide) (fun i hi => ⟨rfl, (hV i hi).2⟩) hg
    have c2 := get_fn (P := P) (G := G) (S := S) (L := L) (ar := false) (ca := 0) hP hN hs (show a' ≤ b' ∧ b' ≤ s by omega) off hV hg
    have c3 := same_fn (P := P) (G := G) (n := n) (m := n) (f := f) (g := f) (res := true) hP (fun i hi => by have := hB i hi; omega) (fun i hi => by have := hB i hi; omega) ⟨fun _ => ⟨rfl, fun _ _ => rfl⟩, fun _ => rfl⟩
    clear hV hB hg
    have hT : T.Ok P := hP ▸ T_ok
    refine FnTr.intro (fn := Try.f21) (c := bodyOf Try.f21) (by rw [hP]; rfl) rfl rfl hT ?_
    generalize hA : Ar.real = A
    generalize hK : Gives _ _ _ = K
    cbv
    refine CS.le hA (c1) [] rfl rfl rfl ?_ ?_ ?_
    · (try cbv) <;> (repeat' (first | exact trivial | exact rfl | apply And.intro | exact fun _ => rfl | (intro _ hle; first | refine chunk_le hA rfl hle rfl ?_ | refine cat_le hA ?_ | refine upd_le hA ?_ | (try cbv)))) <;> (try (subst hA; (try simp only [natCast_eq] at *); (try (simp only [Ar.real, NV.val, Int.ofNat_eq_natCast, Int.toNat_natCast])); first | done | omega | decide | exact inR64 (by omega) (by omega) | (refine ⟨?_, ?_⟩ <;> first | omega | decide | exact inR64 (by omega) (by omega))))
    · (try cbv) <;> (repeat' (first | exact trivial | exact rfl | apply And.intro | exact fun _ => rfl | (intro _ hle; first | refine chunk_le hA rfl hle rfl ?_ | refine cat_le hA ?_ | refine upd_le hA ?_ | (try cbv))))
    cbv
    refine CS.le hA (c2) [(0, 0), (1, 1), (2, 2)] rfl rfl rfl ?_ ?_ ?_
    · (try cbv) <;> (repeat' (first | exact trivial | exact rfl | apply And.intro | exact fun _ => rfl | (intro _ hle; first | refine chunk_le hA rfl hle rfl ?_ | refine cat_le hA ?_ | refine upd_le hA ?_ | (try cbv)))) <;> (try (subst hA; (try simp only [natCast_eq] at *); (try (simp only [Ar.real, NV.val, Int.ofNat_eq_natCast, Int.toNat_natCast])); first | done | omega | decide | exact inR64 (by omega) (by omega) | (refine ⟨?_, ?_⟩ <;> first | omega | decide | exact inR64 (by omega) (by omega))))
    · (try cbv) <;> (repeat' (first | exact trivial | exact rfl | apply And.intro | exact fun _ => rfl | (intro _ hle; first | refine chunk_le hA rfl hle rfl ?_ | refine cat_le hA ?_ | refine upd_le hA ?_ | (try cbv))))
    cbv
    have k1 : A.eq (Int.ofNat next) (Int.ofNat next) = true := by subst hA; simp [Ar.real]
    refine DS.runK hA hT (by rw [hP]; exact P_mixed) 700 rfl ?_
    cbv
    refine CD.pass hA (FnTr.res hA c3 (.bl true) rfl) [] [] rfl ⟨rfl, rfl, rfl, rfl, ?_, ?_⟩ rfl (.inl rfl) ?_
    · (try cbv) <;> (repeat' (first | exact trivial | exact rfl | apply And.intro | exact fun _ => rfl | (intro _ hle; first | refine chunk_le hA rfl hle rfl ?_ | refine cat_le hA ?_ | refine upd_le hA ?_ | (try cbv))))
    · (try cbv) <;> (repeat' (first | exact trivial | exact rfl | apply And.intro | exact fun _ => rfl | (intro _ hle; first | refine chunk_le hA rfl hle rfl ?_ | refine cat_le hA ?_ | refine upd_le hA ?_ | (try cbv))))
    cbv
    first | refine testR k1 rfl ?_ | refine testL k1 rfl ?_
    cbv
    refine DF.fin (by kernel_rfl) (by kernel_rfl) ?_
    cbv
    refine Fin.le hA 3 [] (.tup [RD s RS V W (-1), .bl true]) (DH N S L false 0) 3 rfl rfl rfl ?_ ?_ (by rw [← hK]; exact ⟨rfl, rfl, rfl⟩)
    · (try cbv) <;> (repeat' (first | exact trivial | exact rfl | apply And.intro | exact fun _ => rfl | (intro _ hle; first | refine chunk_le hA rfl hle rfl ?_ | refine cat_le hA ?_ | refine upd_le hA ?_ | (try cbv))))
    · (try cbv) <;> (repeat' (first | exact trivial | exact rfl | apply And.intro | exact fun _ => rfl | (intro _ hle; first | refine chunk_le hA rfl hle rfl ?_ | refine cat_le hA ?_ | refine upd_le hA ?_ | (try cbv))))
theorem do_scan {P : Program} {G : Gl} (hP : P = Try.prog) {N s : Nat} {S : Nat → Int} {L : Int → Option (Nat → Int)} {a b : Int} {RS V : Nat → Nat → Int} {W : Nat → Bool} (hN : N = 64 * s) (hs : s ≤ 4096) (hV : ∀ i, i < s → V i = secV S L i ∧ isB (V i)) :
    FnTr P G 21 [.ptr 0 0, RD s RS V W (-1), OpG 6 a b] (DH N S L false 0) 3 (Gives (.tup [RD s RS V W (-1), .bl true]) (DH N S L false 0) 3) := by
  have off : ¬ (false = true ∧ (0 : Int) = 0) := fun h => by cases h.1
  by_cases hbad : a < 0 ∨ b < a ∨ (s : Int) < b
  · have c1 := refscan_bad (P := P) (G := G) (S := RS) (L := V) (W := W) (c := -1) (r := 1) hP (.inl ⟨hbad, rfl⟩)
    have c2 := scan_bad (P := P) (G := G) (S := S) (L := L) (ar := false) (ca := 0) (r := 1) hP hN hs (.inl ⟨hbad, rfl⟩)
    have c3 := sameall_fn (P := P) (G := G) (n := 0) (m := 0) (lf := fun _ => 0) (lg := fun _ => 0) (f := fun _ _ => 0) (g := fun _ _ => 0) hP rfl (by omega) (fun i hi => by omega)
    clear hV
    have hT : T.Ok P := hP ▸ T_ok
    refine FnTr.intro (fn := Try.f21) (c := bodyOf Try.f21) (by rw [hP]; rfl) rfl rfl hT ?_
    generalize hA : Ar.real = A
    generalize hK : Gives _ _ _ = K
    cbv
    refine CS.leR hA (c1) (.tup [.nils, .lit .i64 0, .lit .i64 1]) [] rfl rfl rfl ?_ ?_ ?_ ?_
    · (try cbv) <;> (repeat' (first | exact trivial | exact rfl | apply And.intro | exact fun _ => rfl | (intro _ hle; first | refine chunk_le hA rfl hle rfl ?_ | refine cat_le hA ?_ | refine upd_le hA ?_ | (try cbv)))) <;> (try (subst hA; (try simp only [natCast_eq] at *); (try (simp only [Ar.real, NV.val, Int.ofNat_eq_natCast, Int.toNat_natCast])); first | done | omega | decide | exact inR64 (by omega) (by omega) | (refine ⟨?_, ?_⟩ <;> first | omega | decide | exact inR64 (by omega) (by omega))))
    · (try cbv) <;> (repeat' (first | exact trivial | exact rfl | apply And.intro | exact fun _ => rfl | (intro _ hle; first | refine chunk_le hA rfl hle rfl ?_ | refine cat_le hA ?_ | refine upd_le hA ?_ | (try cbv)))) <;> (try (subst hA; (try simp only [natCast_eq] at *); (try (simp only [Ar.real, NV.val, Int.ofNat_eq_natCast, Int.toNat_natCast])); first | done | omega | decide | exact inR64 (by omega) (by omega) | (refine ⟨?_, ?_⟩ <;> first | omega | decide | exact inR64 (by omega) (by omega))))
    · (try cbv) <;> (repeat' (first | exact trivial | exact rfl | apply And.intro | exact fun _ => rfl | (intro _ hle; first | refine chunk_le hA rfl hle rfl ?_ | refine cat_le hA ?_ | refine upd_le hA ?_ | (try cbv))))
    cbv
    refine CS.leR hA (c2) (.tup [.nils, .lit .i64 0, .lit .i64 1]) [(0, 0), (1, 1), (2, 2)] rfl rfl rfl ?_ ?_ ?_ ?_
    · (try cbv) <;> (repeat' (first | exact trivial | exact rfl | apply And.intro | exact fun _ => rfl | (intro _ hle; first | refine chunk_le hA rfl hle rfl ?_ | refine cat_le hA ?_ | refine upd_le hA ?_ | (try cbv)))) <;> (try (subst hA; (try simp only [natCast_eq] at *); (try (simp only [Ar.real, NV.val, Int.ofNat_eq_natCast, Int.toNat_natCast])); first | done | omega | decide | exact inR64 (by omega) (by omega) | (refine ⟨?_, ?_⟩ <;> first | omega | decide | exact inR64 (by omega) (by omega))))
    · (try cbv) <;> (repeat' (first | exact trivial | exact rfl | apply And.intro | exact fun _ => rfl | (intro _ hle; first | refine chunk_le hA rfl hle rfl ?_ | refine cat_le hA ?_ | refine upd_le hA ?_ | (try cbv)))) <;> (try (subst hA; (try simp only [natCast_eq] at *); (try (simp only [Ar.real, NV.val, Int.ofNat_eq_natCast, Int.toNat_natCast])); first | done | omega | decide | exact inR64 (by omega) (by omega) | (refine ⟨?_, ?_⟩ <;> first | omega | decide | exact inR64 (by omega) (by omega))))
    · (try cbv) <;> (repeat' (first | exact trivial | exact rfl | apply And.intro | exact fun _ => rfl | (intro _ hle; first | refine chunk_le hA rfl hle rfl ?_ | refine cat_le hA ?_ | refine upd_le hA ?_ | (try cbv))))
    cbv
    refine DS.runK hA hT (by rw [hP]; exact P_mixed) 700 rfl ?_
    cbv
    refine CD.pass hA c3 [] [] rfl ⟨rfl, rfl, rfl, rfl, ?_, ?_⟩ rfl (.inl rfl) ?_
    · (try cbv) <;> (repeat' (first | exact trivial | exact rfl | apply And.intro | exact fun _ => rfl | (intro _ hle; first | refine chunk_le hA rfl hle rfl ?_ | refine cat_le hA ?_ | refine upd_le hA ?_ | (try cbv))))
    · (try cbv) <;> (repeat' (first | exact trivial | exact rfl | apply And.intro | exact fun _ => rfl | (intro _ hle; first | refine chunk_le hA rfl hle rfl ?_ | refine cat_le hA ?_ | refine upd_le hA ?_ | (try cbv))))
    cbv
    refine DF.fin (by kernel_rfl) (by kernel_rfl) ?_
    cbv
    refine Fin.le hA 3 [] (.tup [RD s RS V W (-1), .bl true]) (DH N S L false 0) 3 rfl rfl rfl ?_ ?_ (by rw [← hK]; exact ⟨rfl, rfl, rfl⟩)
    · (try cbv) <;> (repeat' (first | exact trivial | exact rfl | apply And.intro | exact fun _ => rfl | (intro _ hle; first | refine chunk_le hA rfl hle rfl ?_ | refine cat_le hA ?_ | refine upd_le hA ?_ | (try cbv))))
    · (try cbv) <;> (repeat' (first | exact trivial | exact rfl | apply And.intro | exact fun _ => rfl | (intro _ hle; first | refine chunk_le hA rfl hle rfl ?_ | refine cat_le hA ?_ | refine upd_le hA ?_ | (try cbv))))
  obtain ⟨a', ha⟩ : ∃ a' : Nat, a = (a' : Int) := ⟨a.toNat, by omega⟩
  obtain ⟨b', hb⟩ : ∃ b' : Nat, b = (b' : Int) := ⟨b.toNat, by omega⟩
  subst ha
  subst hb
  obtain ⟨c0, gs, last, hsc⟩ : ∃ c0 gs last, scanP V b' (b' - a' + 1) a' 0 (fun _ => (0, fun _ => 0)) = (c0, gs, last) := ⟨_, _, _, rfl⟩
  have hB := scanP_isB (V := V) (fin := b') (fun i hi => (hV i (by omega)).2) _ _ _ _ _ _ _ (fun i hi => by omega) hsc
  have hc0 := scanP_le _ _ _ _ _ _ _ (show a' ≤ b' by omega) hsc
  have c1 := refscan_fn (P := P) (G := G) (S := RS) (L := V) (W := W) (c := -1) hP hs (show a' ≤ b' ∧ b' ≤ s by omega) (by decide) (fun i hi => ⟨rfl, (hV i hi).2⟩) hsc
  have c2 := scan_fn (P := P) (G := G) (S := S) (L := L) (ar := false) (ca := 0) hP hN hs (show a' ≤ b' ∧ b' ≤ s by omega) off hV hsc
  have c3 := sameall_fn (P := P) (G := G) (n := c0) (m := c0) (lf := fun i => (gs i).1) (lg := fun i => (gs i).1) (f := fun i => (gs i).2) (g := fun i => (gs i).2) hP rfl (by omega) (fun i hi => ⟨rfl, fun j hj => ⟨rfl, by have := hB i hi j hj; omega⟩⟩)
  clear hV hB hsc
  have hT : T.Ok P := hP ▸ T_ok
  refine FnTr.intro (fn := Try.f21) (c := bodyOf Try.f21) (by rw [hP]; rfl) rfl rfl hT ?_
  generalize hA : Ar.real = A
  generalize hK : Gives _ _ _ = K
  cbv
  refine CS.le hA (c1) [] rfl rfl rfl ?_ ?_ ?_
  · (try cbv) <;> (repeat' (first | exact trivial | exact rfl | apply And.intro | exact fun _ => rfl | (intro _ hle; first | refine chunk_le hA rfl hle rfl ?_ | refine cat_le hA ?_ | refine upd_le hA ?_ | (try cbv)))) <;> (try (subst hA; (try simp only [natCast_eq] at *); (try (simp only [Ar.real, NV.val, Int.ofNat_eq_natCast, Int.toNat_natCast])); first | done | omega | decide | exact inR64 (by omega) (by omega) | (refine ⟨?_, ?_⟩ <;> first | omega | decide | exact inR64 (by omega) (by omega))))
  · (try cbv) <;> (repeat' (first | exact trivial | exact rfl | apply And.intro | exact fun _ => rfl | (intro _ hle; first | refine chunk_le hA rfl hle rfl ?_ | refine cat_le hA ?_ | refine upd_le hA ?_ | (try cbv))))
  cbv
  refine CS.le hA (c2) [(0, 0), (1, 1), (2, 2)] rfl rfl rfl ?_ ?_ ?_
  · (try cbv) <;> (repeat' (first | exact trivial | exact rfl | apply And.intro | exact fun _ => rfl | (intro _ hle; first | refine chunk_le hA rfl hle rfl ?_ | refine cat_le hA ?_ | refine upd_le hA ?_ | (try cbv)))) <;> (try (subst hA; (try simp only [natCast_eq] at *); (try (simp only [Ar.real, NV.val, Int.ofNat_eq_natCast, Int.toNat_natCast])); first | done | omega | decide | exact inR64 (by omega) (by omega) | (refine ⟨?_, ?_⟩ <;> first | omega | decide | exact inR64 (by omega) (by omega))))
  · (try cbv) <;> (repeat' (first | exact trivial | exact rfl | apply And.intro | exact fun _ => rfl | (intro _ hle; first | refine chunk_le hA rfl hle rfl ?_ | refine cat_le hA ?_ | refine upd_le hA ?_ | (try cbv))))
  cbv
  have k1 : A.eq (Int.ofNat last) (Int.ofNat last) = true := by subst hA; simp [Ar.real]
  refine DS.runK hA hT (by rw [hP]; exact P_mixed) 1000 rfl ?_
  cbv
  refine CD.pass hA c3 [] [] rfl ⟨rfl, rfl, rfl, rfl, ?_, ?_⟩ rfl (.inl rfl) ?_
  · (try cbv) <;> (repeat' (first | exact trivial | exact rfl | apply And.intro | exact fun _ => rfl | (intro _ hle; first | refine chunk_le hA rfl hle rfl ?_ | refine cat_le hA ?_ | refine upd_le hA ?_ | (try cbv))))
  · (try cbv) <;> (repeat' (first | exact trivial | exact rfl | apply And.intro | exact fun _ => rfl | (intro _ hle; first | refine chunk_le hA rfl hle rfl ?_ | refine cat_le hA ?_ | refine upd_le hA ?_ | (try cbv))))
  cbv
  first | refine testR k1 rfl ?_ | refine testL k1 rfl ?_
  cbv
  refine DF.fin (by kernel_rfl) (by kernel_rfl) ?_
  cbv
  refine Fin.le hA 3 [] (.tup [RD s RS V W (-1), .bl true]) (DH N S L false 0) 3 rfl rfl rfl ?_ ?_ (by rw [← hK]; exact ⟨rfl, rfl, rfl⟩)
  · (try cbv) <;> (repeat' (first | exact trivial | exact rfl | apply And.intro | exact fun _ => rfl | (intro _ hle; first | refine chunk_le hA rfl hle rfl ?_ | refine cat_le hA ?_ | refine upd_le hA ?_ | (try cbv))))
  · (try cbv) <;> (repeat' (first | exact trivial | exact rfl | apply And.intro | exact fun _ => rfl | (intro _ hle; first | refine chunk_le hA rfl hle rfl ?_ | refine cat_le hA ?_ | refine upd_le hA ?_ | (try cbv))))

theorem reads_law {P : Program} {G : Gl} (hP : P = Try.prog) {n : Nat} {f : Nat → Int} {a b : Int} (hn : n ≤ 9223372036854775807) (hf : ∀ i, i < n → 0 ≤ f i ∧ f i ≤ 255) :
    FnTr P G 5 [By n f, .int .i64 a, .int .i64 b] [] 0 (Gives (.bl true) [] 3000) := by
  have cl := lives26_fn (P := P) (G := G) hP
  by_cases h2000 : 2000 < n
  · skip
    have hT : T.Ok P := hP ▸ T_ok
    refine FnTr.intro (fn := Try.f5) (c := bodyOf Try.f5) (by rw [hP]; rfl) rfl rfl hT ?_
    generalize hA : Ar.real = A
    generalize hK : Gives _ _ _ = K
    cbv
    have k1 : A.gt (A.i2 n) 2000 = true := by subst hA; simp [Ar.real]; omega
    first | refine testR k1 rfl ?_ | refine testL k1 rfl ?_
    cbv
    refine CS.le hA (cl) [] rfl rfl rfl ?_ ?_ ?_
    · (try cbv) <;> (repeat' (first | exact trivial | exact rfl | apply And.intro | exact fun _ => rfl | (intro _ hle; first | refine chunk_le hA rfl hle rfl ?_ | refine cat_le hA ?_ | refine upd_le hA ?_ | (try cbv)))) <;> (try (subst hA; (try simp only [natCast_eq] at *); (try (simp only [Ar.real, NV.val, Int.ofNat_eq_natCast, Int.toNat_natCast])); first | done | omega | decide | exact inR64 (by omega) (by omega) | (refine ⟨?_, ?_⟩ <;> first | omega | decide | exact inR64 (by omega) (by omega))))
    · (try cbv) <;> (repeat' (first | exact trivial | exact rfl | apply And.intro | exact fun _ => rfl | (intro _ hle; first | refine chunk_le hA rfl hle rfl ?_ | refine cat_le hA ?_ | refine upd_le hA ?_ | (try cbv))))
    cbv
    refine Fin.le hA 0 [] (.bl true) ([]) 3000 rfl rfl rfl ?_ ?_ (by rw [← hK]; exact ⟨rfl, rfl, rfl⟩)
    · (try cbv) <;> (repeat' (first | exact trivial | exact rfl | apply And.intro | exact fun _ => rfl | (intro _ hle; first | refine chunk_le hA rfl hle rfl ?_ | refine cat_le hA ?_ | refine upd_le hA ?_ | (try cbv))))
    · (try cbv) <;> (repeat' (first | exact trivial | exact rfl | apply And.intro | exact fun _ => rfl | (intro _ hle; first | refine chunk_le hA rfl hle rfl ?_ | refine cat_le hA ?_ | refine upd_le hA ?_ | (try cbv))))
  by_cases hbad : n / 64 < 1 ∨ 4096 < n / 64 ∨ n % 64 ≠ 0
  · have c1 := of_bad (P := P) (G := G) (n := n) (f := f) hP (by omega) hbad
    have c2 := refof_bad (P := P) (G := G) (n := n) (f := f) hP (by omega) hbad
    have hT : T.Ok P := hP ▸ T_ok
    refine FnTr.intro (fn := Try.f5) (c := bodyOf Try.f5) (by rw [hP]; rfl) rfl rfl hT ?_
    generalize hA : Ar.real = A
    generalize hK : Gives _ _ _ = K
    cbv
    have k1 : A.gt (A.i2 n) 2000 = false := by subst hA; simp [Ar.real]; omega
    first | refine testR k1 rfl ?_ | refine testL k1 rfl ?_
    cbv
    refine CS.le hA (c1) [] rfl rfl rfl ?_ ?_ ?_
    · (try cbv) <;> (repeat' (first | exact trivial | exact rfl | apply And.intro | exact fun _ => rfl | (intro _ hle; first | refine chunk_le hA rfl hle rfl ?_ | refine cat_le hA ?_ | refine upd_le hA ?_ | (try cbv)))) <;> (try (subst hA; (try simp only [natCast_eq] at *); (try (simp only [Ar.real, NV.val, Int.ofNat_eq_natCast, Int.toNat_natCast])); first | done | omega | decide | exact inR64 (by omega) (by omega) | (refine ⟨?_, ?_⟩ <;> first | omega | decide | exact inR64 (by omega) (by omega))))
    · (try cbv) <;> (repeat' (first | exact trivial | exact rfl | apply And.intro | exact fun _ => rfl | (intro _ hle; first | refine chunk_le hA rfl hle rfl ?_ | refine cat_le hA ?_ | refine upd_le hA ?_ | (try cbv))))
    cbv
    refine CS.le hA (c2) [] rfl rfl rfl ?_ ?_ ?_
    · (try cbv) <;> (repeat' (first | exact trivial | exact rfl | apply And.intro | exact fun _ => rfl | (intro _ hle; first | refine chunk_le hA rfl hle rfl ?_ | refine cat_le hA ?_ | refine upd_le hA ?_ | (try cbv)))) <;> (try (subst hA; (try simp only [natCast_eq] at *); (try (simp only [Ar.real, NV.val, Int.ofNat_eq_natCast, Int.toNat_natCast])); first | done | omega | decide | exact inR64 (by omega) (by omega) | (refine ⟨?_, ?_⟩ <;> first | omega | decide | exact inR64 (by omega) (by omega))))
    · (try cbv) <;> (repeat' (first | exact trivial | exact rfl | apply And.intro | exact fun _ => rfl | (intro _ hle; first | refine chunk_le hA rfl hle rfl ?_ | refine cat_le hA ?_ | refine upd_le hA ?_ | (try cbv))))
    cbv
    refine CS.le hA (cl) [] rfl rfl rfl ?_ ?_ ?_
    · (try cbv) <;> (repeat' (first | exact trivial | exact rfl | apply And.intro | exact fun _ => rfl | (intro _ hle; first | refine chunk_le hA rfl hle rfl ?_ | refine cat_le hA ?_ | refine upd_le hA ?_ | (try cbv)))) <;> (try (subst hA; (try simp only [natCast_eq] at *); (try (simp only [Ar.real, NV.val, Int.ofNat_eq_natCast, Int.toNat_natCast])); first | done | omega | decide | exact inR64 (by omega) (by omega) | (refine ⟨?_, ?_⟩ <;> first | omega | decide | exact inR64 (by omega) (by omega))))
    · (try cbv) <;> (repeat' (first | exact trivial | exact rfl | apply And.intro | exact fun _ => rfl | (intro _ hle; first | refine chunk_le hA rfl hle rfl ?_ | refine cat_le hA ?_ | refine upd_le hA ?_ | (try cbv))))
    cbv
    refine Fin.le hA 0 [] (.bl true) ([]) 3000 rfl rfl rfl ?_ ?_ (by rw [← hK]; exact ⟨rfl, rfl, rfl⟩)
    · (try cbv) <;> (repeat' (first | exact trivial | exact rfl | apply And.intro | exact fun _ => rfl | (intro _ hle; first | refine chunk_le hA rfl hle rfl ?_ | refine cat_le hA ?_ | refine upd_le hA ?_ | (try cbv))))
    · (try cbv) <;> (repeat' (first | exact trivial | exact rfl | apply And.intro | exact fun _ => rfl | (intro _ hle; first | refine chunk_le hA rfl hle rfl ?_ | refine cat_le hA ?_ | refine upd_le hA ?_ | (try cbv))))
  obtain ⟨s, hs⟩ : ∃ s, n = 64 * s := ⟨n / 64, by omega⟩
  obtain ⟨L, hL⟩ : ∃ L : Int → Option (Nat → Int), ∀ k, L k = none := ⟨fun _ => none, fun _ => rfl⟩
  obtain ⟨V, hV⟩ : ∃ V : Nat → Nat → Int, ∀ i x, V i x = f (64 * i + x) := ⟨fun i x => f (64 * i + x), fun _ _ => rfl⟩
  obtain ⟨W, hW⟩ : ∃ W : Nat → Bool, ∀ i, W i = false := ⟨fun _ => false, fun _ => rfl⟩
  have hVs : ∀ i, i < s → V i = secV f L i ∧ isB (V i) := fun i hi => ⟨by
    funext x; rw [hV]; unfold secV; rw [hL], fun x hx => by rw [hV]; exact hf _ (by omega)⟩
  have c1 := of_ok (P := P) (G := G) (n := n) (s := s) (f := f) (L := L) hP hs (by omega) hL
  have c2 := refof_ok (P := P) (G := G) (n := n) (s := s) (f := f) (S := V) (L := V) (W := W) hP hs (by omega) (fun i x _ _ => hV i x) (fun i x _ _ => hV i x) hW
  have c3 := do_get (P := P) (G := G) (S := f) (L := L) (a := a) (b := b) (RS := V) (V := V) (W := W) hP hs (by omega) hVs
  have c4 := do_scan (P := P) (G := G) (S := f) (L := L) (a := a) (b := b) (RS := V) (V := V) (W := W) hP hs (by omega) hVs
  have c5 := do_scan (P := P) (G := G) (S := f) (L := L) (a := 0) (b := (s : Int)) (RS := V) (V := V) (W := W) hP hs (by omega) hVs
  have e1 : Int.tdiv (n : Int) 64 = (s : Int) := by rw [hs]; exact q64 s
  clear hf hVs hV
  have hT : T.Ok P := hP ▸ T_ok
  refine FnTr.intro (fn := Try.f5) (c := bodyOf Try.f5) (by rw [hP]; rfl) rfl rfl hT ?_
  generalize hA : Ar.real = A
  generalize hK : Gives _ _ _ = K
  cbv
  have k1 : A.gt (A.i2 n) 2000 = false := by subst hA; simp [Ar.real]; omega
  first | refine testR k1 rfl ?_ | refine testL k1 rfl ?_
  cbv
  refine CS.le hA (c1) [] rfl rfl rfl ?_ ?_ ?_
  · (try cbv) <;> (repeat' (first | exact trivial | exact rfl | apply And.intro | exact fun _ => rfl | (intro _ hle; first | refine chunk_le hA rfl hle rfl ?_ | refine cat_le hA ?_ | refine upd_le hA ?_ | (try cbv)))) <;> (try (subst hA; (try simp only [natCast_eq] at *); (try (simp only [Ar.real, NV.val, Int.ofNat_eq_natCast, Int.toNat_natCast])); first | done | omega | decide | exact inR64 (by omega) (by omega) | (refine ⟨?_, ?_⟩ <;> first | omega | decide | exact inR64 (by omega) (by omega))))
  · (try cbv) <;> (repeat' (first | exact trivial | exact rfl | apply And.intro | exact fun _ => rfl | (intro _ hle; first | refine chunk_le hA rfl hle rfl ?_ | refine cat_le hA ?_ | refine upd_le hA ?_ | (try cbv))))
  cbv
  refine CS.le hA (c2) [] rfl rfl rfl ?_ ?_ ?_
  · (try cbv) <;> (repeat' (first | exact trivial | exact rfl | apply And.intro | exact fun _ => rfl | (intro _ hle; first | refine chunk_le hA rfl hle rfl ?_ | refine cat_le hA ?_ | refine upd_le hA ?_ | (try cbv)))) <;> (try (subst hA; (try simp only [natCast_eq] at *); (try (simp only [Ar.real, NV.val, Int.ofNat_eq_natCast, Int.toNat_natCast])); first | done | omega | decide | exact inR64 (by omega) (by omega) | (refine ⟨?_, ?_⟩ <;> first | omega | decide | exact inR64 (by omega) (by omega))))
  · (try cbv) <;> (repeat' (first | exact trivial | exact rfl | apply And.intro | exact fun _ => rfl | (intro _ hle; first | refine chunk_le hA rfl hle rfl ?_ | refine cat_le hA ?_ | refine upd_le hA ?_ | (try cbv))))
  cbv
  refine CS.le hA (c3) [(5, 0), (6, 1), (7, 2)] rfl rfl rfl ?_ ?_ ?_
  · (try cbv) <;> (repeat' (first | exact trivial | exact rfl | apply And.intro | exact fun _ => rfl | (intro _ hle; first | refine chunk_le hA rfl hle rfl ?_ | refine cat_le hA ?_ | refine upd_le hA ?_ | (try cbv)))) <;> (try (subst hA; (try simp only [natCast_eq] at *); (try (simp only [Ar.real, NV.val, Int.ofNat_eq_natCast, Int.toNat_natCast])); first | done | omega | decide | exact inR64 (by omega) (by omega) | (refine ⟨?_, ?_⟩ <;> first | omega | decide | exact inR64 (by omega) (by omega))))
  · (try cbv) <;> (repeat' (first | exact trivial | exact rfl | apply And.intro | exact fun _ => rfl | (intro _ hle; first | refine chunk_le hA rfl hle rfl ?_ | refine cat_le hA ?_ | refine upd_le hA ?_ | (try cbv))))
  cbv
  refine CS.le hA (c4) [(5, 0), (6, 1), (7, 2)] rfl rfl rfl ?_ ?_ ?_
  · (try cbv) <;> (repeat' (first | exact trivial | exact rfl | apply And.intro | exact fun _ => rfl | (intro _ hle; first | refine chunk_le hA rfl hle rfl ?_ | refine cat_le hA ?_ | refine upd_le hA ?_ | (try cbv)))) <;> (try (subst hA; (try simp only [natCast_eq] at *); (try (simp only [Ar.real, NV.val, Int.ofNat_eq_natCast, Int.toNat_natCast])); first | done | omega | decide | exact inR64 (by omega) (by omega) | (refine ⟨?_, ?_⟩ <;> first | omega | decide | exact inR64 (by omega) (by omega))))
  · (try cbv) <;> (repeat' (first | exact trivial | exact rfl | apply And.intro | exact fun _ => rfl | (intro _ hle; first | refine chunk_le hA rfl hle rfl ?_ | refine cat_le hA ?_ | refine upd_le hA ?_ | (try cbv))))
  cbv
  have kq : A.quo (A.i2 n) 64 = Int.ofNat s := by subst hA; exact e1
  have kq2 : A.inR .i64 (A.quo (A.i2 n) 64) := by rw [kq]; subst hA; exact inR64 (by simp only [Int.ofNat_eq_natCast]; omega) (by simp only [Int.ofNat_eq_natCast]; omega)
  refine ⟨⟨by subst hA; show (64 : Int) ≠ 0; decide, kq2⟩, ?_⟩
  refine CS.le hA c5 [(5, 0), (6, 1), (7, 2)] rfl rfl rfl ?_ ?_ ?_
  · (try cbv) <;> (repeat' (first | exact trivial | exact rfl | apply And.intro | exact fun _ => rfl | (intro _ hle; first | refine chunk_le hA rfl hle rfl ?_ | refine cat_le hA ?_ | refine upd_le hA ?_ | (try cbv))))
    exact kq
  · (try cbv) <;> (repeat' (first | exact trivial | exact rfl | apply And.intro | exact fun _ => rfl | (intro _ hle; first | refine chunk_le hA rfl hle rfl ?_ | refine cat_le hA ?_ | refine upd_le hA ?_ | (try cbv))))
  cbv
  refine CS.le hA (cl) [] rfl rfl rfl ?_ ?_ ?_
  · (try cbv) <;> (repeat' (first | exact trivial | exact rfl | apply And.intro | exact fun _ => rfl | (intro _ hle; first | refine chunk_le hA rfl hle rfl ?_ | refine cat_le hA ?_ | refine upd_le hA ?_ | (try cbv)))) <;> (try (subst hA; (try simp only [natCast_eq] at *); (try (simp only [Ar.real, NV.val, Int.ofNat_eq_natCast, Int.toNat_natCast])); first | done | omega | decide | exact inR64 (by omega) (by omega) | (refine ⟨?_, ?_⟩ <;> first | omega | decide | exact inR64 (by omega) (by omega))))
  · (try cbv) <;> (repeat' (first | exact trivial | exact rfl | apply And.intro | exact fun _ => rfl | (intro _ hle; first | refine chunk_le hA rfl hle rfl ?_ | refine cat_le hA ?_ | refine upd_le hA ?_ | (try cbv))))
  cbv
  refine Fin.le hA 0 [] (.bl true) ([]) 3000 rfl rfl rfl ?_ ?_ (by rw [← hK]; exact ⟨rfl, rfl, rfl⟩)
  · (try cbv) <;> (repeat' (first | exact trivial | exact rfl | apply And.intro | exact fun _ => rfl | (intro _ hle; first | refine chunk_le hA rfl hle rfl ?_ | refine cat_le hA ?_ | refine upd_le hA ?_ | (try cbv))))
  · (try cbv) <;> (repeat' (first | exact trivial | exact rfl | apply And.intro | exact fun _ => rfl | (intro _ hle; first | refine chunk_le hA rfl hle rfl ?_ | refine cat_le hA ?_ | refine upd_le hA ?_ | (try cbv))))
end Go.Proofs.Ytnjjgipblimbfaa.Dsk
