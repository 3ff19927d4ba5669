/-
  The document's disks: whether the power is gone; a read; a new one; bytes as a disk.
-/
import Derived.Test.YtnjjgipblimbfaaDskF12
import Derived.Test.YtnjjgipblimbfaaEngThree
set_option linter.unusedVariables false
set_option linter.unusedSimpArgs false
namespace Go.Proofs.Ytnjjgipblimbfaa.Dsk
open Go.Eng
open Go.DskLaw (q64 secV)
set_option maxRecDepth 100000
set_option maxHeartbeats 4000000
set_option linter.unusedVariables false

/-- Rows of 64 bytes. -/
abbrev Rw64 (s : Nat) (F : Nat → Nat → Int) : SV := .ro 1 (.s s) (fun e => [.ro 1 (.s 64) (fun x => [.int .u8 (F e.val x.val)])])
/-- A disk of the document's. -/
abbrev RD (s : Nat) (S L : Nat → Nat → Int) (W : Nat → Bool) (c : Int) : SV := .agg [Rw64 s S, Rw64 s L, .ro 1 (.s s) (fun e => [.bs (W e.val)]), .int .i64 c]

theorem refoff_fn {P : Program} {G : Gl} (hP : P = Try.prog) {s : Nat} {S L : Nat → Nat → Int} {W : Nat → Bool} {c : Int} {r : Bool} (hr : r = true ↔ c = 0) : FnTr P G 27 [RD s S L W c] [] 0 (Gives (.bs r) [] 1) := by
  have hT : T.Ok P := hP ▸ T_ok
  refine FnTr.intro (fn := Try.f27) (c := bodyOf Try.f27) (by rw [hP]; rfl) rfl rfl hT ?_
  generalize hA : Ar.real = A
  generalize hK : Gives _ _ _ = K
  cbv
  refine Fin.le hA 0 [] (.bs r) ([]) 1 rfl rfl rfl ?_ ?_ (by rw [← hK]; exact ⟨rfl, rfl, rfl⟩)
  · (try cbv) <;> (repeat' (first | exact trivial | exact rfl | apply And.intro | exact fun _ => rfl | (intro _ hle; first | refine chunk_le hA rfl hle rfl ?_ | refine cat_le hA ?_ | refine upd_le hA ?_ | (try cbv))))
    subst hA
    rw [Bool.eq_iff_iff, hr]; simp [Ar.real]
  · (try cbv) <;> (repeat' (first | exact trivial | exact rfl | apply And.intro | exact fun _ => rfl | (intro _ hle; first | refine chunk_le hA rfl hle rfl ?_ | refine cat_le hA ?_ | refine upd_le hA ?_ | (try cbv))))
theorem refread_off {P : Program} {G : Gl} (hP : P = Try.prog) {s : Nat} {S L : Nat → Nat → Int} {W : Nat → Bool} {c i : Int} (h : c = 0) : FnTr P G 53 [RD s S L W c, .int .i64 i] [] 0 (Gives (.tup [.nils, .lit .i64 6]) [] 2) := by
  have c1 := refoff_fn (P := P) (G := G) (s := s) (S := S) (L := L) (W := W) (c := c) (r := true) hP ⟨fun _ => h, fun _ => rfl⟩
  have hT : T.Ok P := hP ▸ T_ok
  refine FnTr.intro (fn := Try.f53) (c := bodyOf Try.f53) (by rw [hP]; rfl) rfl rfl hT ?_
  generalize hA : Ar.real = A
  generalize hK : Gives _ _ _ = K
  cbv
  refine CS.leR hA (c1) (.bl true) [] rfl rfl rfl ?_ ?_ ?_ ?_
  · (try cbv) <;> (repeat' (first | exact trivial | exact rfl | apply And.intro | exact fun _ => rfl | (intro _ hle; first | refine chunk_le hA rfl hle rfl ?_ | refine cat_le hA ?_ | refine upd_le hA ?_ | (try cbv)))) <;> (try (subst hA; (try simp only [natCast_eq] at *); (try (simp only [Ar.real, NV.val, Int.ofNat_eq_natCast, Int.toNat_natCast])); first | done | omega | decide | exact inR64 (by omega) (by omega) | (refine ⟨?_, ?_⟩ <;> first | omega | decide | exact inR64 (by omega) (by omega))))
  · (try cbv) <;> (repeat' (first | exact trivial | exact rfl | apply And.intro | exact fun _ => rfl | (intro _ hle; first | refine chunk_le hA rfl hle rfl ?_ | refine cat_le hA ?_ | refine upd_le hA ?_ | (try cbv)))) <;> (try (subst hA; (try simp only [natCast_eq] at *); (try (simp only [Ar.real, NV.val, Int.ofNat_eq_natCast, Int.toNat_natCast])); first | done | omega | decide | exact inR64 (by omega) (by omega) | (refine ⟨?_, ?_⟩ <;> first | omega | decide | exact inR64 (by omega) (by omega))))
  · (try cbv) <;> (repeat' (first | exact trivial | exact rfl | apply And.intro | exact fun _ => rfl | (intro _ hle; first | refine chunk_le hA rfl hle rfl ?_ | refine cat_le hA ?_ | refine upd_le hA ?_ | (try cbv))))
  cbv
  refine Fin.le hA 0 [] (.tup [.nils, .lit .i64 6]) ([]) 2 rfl rfl rfl ?_ ?_ (by rw [← hK]; exact ⟨rfl, rfl, rfl⟩)
  · (try cbv) <;> (repeat' (first | exact trivial | exact rfl | apply And.intro | exact fun _ => rfl | (intro _ hle; first | refine chunk_le hA rfl hle rfl ?_ | refine cat_le hA ?_ | refine upd_le hA ?_ | (try cbv))))
  · (try cbv) <;> (repeat' (first | exact trivial | exact rfl | apply And.intro | exact fun _ => rfl | (intro _ hle; first | refine chunk_le hA rfl hle rfl ?_ | refine cat_le hA ?_ | refine upd_le hA ?_ | (try cbv))))
theorem refread_arg {P : Program} {G : Gl} (hP : P = Try.prog) {s : Nat} {S L : Nat → Nat → Int} {W : Nat → Bool} {c i : Int} (h : c ≠ 0) (hi : i < 0 ∨ (s : Int) ≤ i) : FnTr P G 53 [RD s S L W c, .int .i64 i] [] 0 (Gives (.tup [.nils, .lit .i64 1]) [] 2) := by
  have c1 := refoff_fn (P := P) (G := G) (s := s) (S := S) (L := L) (W := W) (c := c) (r := false) hP ⟨fun q => (by cases q), fun q => absurd q h⟩
  by_cases h0 : i < 0
  · skip
    have hT : T.Ok P := hP ▸ T_ok
    refine FnTr.intro (fn := Try.f53) (c := bodyOf Try.f53) (by rw [hP]; rfl) rfl rfl hT ?_
    generalize hA : Ar.real = A
    generalize hK : Gives _ _ _ = K
    cbv
    refine CS.leR hA (c1) (.bl false) [] rfl rfl rfl ?_ ?_ ?_ ?_
    · (try cbv) <;> (repeat' (first | exact trivial | exact rfl | apply And.intro | exact fun _ => rfl | (intro _ hle; first | refine chunk_le hA rfl hle rfl ?_ | refine cat_le hA ?_ | refine upd_le hA ?_ | (try cbv)))) <;> (try (subst hA; (try simp only [natCast_eq] at *); (try (simp only [Ar.real, NV.val, Int.ofNat_eq_natCast, Int.toNat_natCast])); first | done | omega | decide | exact inR64 (by omega) (by omega) | (refine ⟨?_, ?_⟩ <;> first | omega | decide | exact inR64 (by omega) (by omega))))
    · (try cbv) <;> (repeat' (first | exact trivial | exact rfl | apply And.intro | exact fun _ => rfl | (intro _ hle; first | refine chunk_le hA rfl hle rfl ?_ | refine cat_le hA ?_ | refine upd_le hA ?_ | (try cbv)))) <;> (try (subst hA; (try simp only [natCast_eq] at *); (try (simp only [Ar.real, NV.val, Int.ofNat_eq_natCast, Int.toNat_natCast])); first | done | omega | decide | exact inR64 (by omega) (by omega) | (refine ⟨?_, ?_⟩ <;> first | omega | decide | exact inR64 (by omega) (by omega))))
    · (try cbv) <;> (repeat' (first | exact trivial | exact rfl | apply And.intro | exact fun _ => rfl | (intro _ hle; first | refine chunk_le hA rfl hle rfl ?_ | refine cat_le hA ?_ | refine upd_le hA ?_ | (try cbv))))
    cbv
    have k1 : A.lt i 0 = true := by subst hA; simpa [Ar.real] using h0
    first | refine testR k1 rfl ?_ | refine testL k1 rfl ?_
    cbv
    refine Fin.le hA 0 [] (.tup [.nils, .lit .i64 1]) ([]) 2 rfl rfl rfl ?_ ?_ (by rw [← hK]; exact ⟨rfl, rfl, rfl⟩)
    · (try cbv) <;> (repeat' (first | exact trivial | exact rfl | apply And.intro | exact fun _ => rfl | (intro _ hle; first | refine chunk_le hA rfl hle rfl ?_ | refine cat_le hA ?_ | refine upd_le hA ?_ | (try cbv))))
    · (try cbv) <;> (repeat' (first | exact trivial | exact rfl | apply And.intro | exact fun _ => rfl | (intro _ hle; first | refine chunk_le hA rfl hle rfl ?_ | refine cat_le hA ?_ | refine upd_le hA ?_ | (try cbv))))
  · skip
    have hT : T.Ok P := hP ▸ T_ok
    refine FnTr.intro (fn := Try.f53) (c := bodyOf Try.f53) (by rw [hP]; rfl) rfl rfl hT ?_
    generalize hA : Ar.real = A
    generalize hK : Gives _ _ _ = K
    cbv
    refine CS.leR hA (c1) (.bl false) [] rfl rfl rfl ?_ ?_ ?_ ?_
    · (try cbv) <;> (repeat' (first | exact trivial | exact rfl | apply And.intro | exact fun _ => rfl | (intro _ hle; first | refine chunk_le hA rfl hle rfl ?_ | refine cat_le hA ?_ | refine upd_le hA ?_ | (try cbv)))) <;> (try (subst hA; (try simp only [natCast_eq] at *); (try (simp only [Ar.real, NV.val, Int.ofNat_eq_natCast, Int.toNat_natCast])); first | done | omega | decide | exact inR64 (by omega) (by omega) | (refine ⟨?_, ?_⟩ <;> first | omega | decide | exact inR64 (by omega) (by omega))))
    · (try cbv) <;> (repeat' (first | exact trivial | exact rfl | apply And.intro | exact fun _ => rfl | (intro _ hle; first | refine chunk_le hA rfl hle rfl ?_ | refine cat_le hA ?_ | refine upd_le hA ?_ | (try cbv)))) <;> (try (subst hA; (try simp only [natCast_eq] at *); (try (simp only [Ar.real, NV.val, Int.ofNat_eq_natCast, Int.toNat_natCast])); first | done | omega | decide | exact inR64 (by omega) (by omega) | (refine ⟨?_, ?_⟩ <;> first | omega | decide | exact inR64 (by omega) (by omega))))
    · (try cbv) <;> (repeat' (first | exact trivial | exact rfl | apply And.intro | exact fun _ => rfl | (intro _ hle; first | refine chunk_le hA rfl hle rfl ?_ | refine cat_le hA ?_ | refine upd_le hA ?_ | (try cbv))))
    cbv
    have k1 : A.lt i 0 = false := by subst hA; simpa [Ar.real] using h0
    have k2 : A.ge i (A.i2 s) = true := by subst hA; simp only [natCast_eq] at *; simp [Ar.real]; omega
    first | refine testR k1 rfl ?_ | refine testL k1 rfl ?_
    cbv
    first | refine testR k2 rfl ?_ | refine testL k2 rfl ?_
    cbv
    refine Fin.le hA 0 [] (.tup [.nils, .lit .i64 1]) ([]) 2 rfl rfl rfl ?_ ?_ (by rw [← hK]; exact ⟨rfl, rfl, rfl⟩)
    · (try cbv) <;> (repeat' (first | exact trivial | exact rfl | apply And.intro | exact fun _ => rfl | (intro _ hle; first | refine chunk_le hA rfl hle rfl ?_ | refine cat_le hA ?_ | refine upd_le hA ?_ | (try cbv))))
    · (try cbv) <;> (repeat' (first | exact trivial | exact rfl | apply And.intro | exact fun _ => rfl | (intro _ hle; first | refine chunk_le hA rfl hle rfl ?_ | refine cat_le hA ?_ | refine upd_le hA ?_ | (try cbv))))
theorem refread_ok {P : Program} {G : Gl} (hP : P = Try.prog) {s i : Nat} {S L : Nat → Nat → Int} {v : Nat → Int} {W : Nat → Bool} {c : Int} (h : c ≠ 0) (hi : i < s) (hv : v = L i) : FnTr P G 53 [RD s S L W c, .int .i64 (i : Int)] [] 0 (Gives (.tup [.ro 1 (.s 64) (fun e => [.int .u8 (v e.val)]), .lit .i64 0]) [] 2) := by
  have c1 := refoff_fn (P := P) (G := G) (s := s) (S := S) (L := L) (W := W) (c := c) (r := false) hP ⟨fun q => (by cases q), fun q => absurd q h⟩
  have hT : T.Ok P := hP ▸ T_ok
  refine FnTr.intro (fn := Try.f53) (c := bodyOf Try.f53) (by rw [hP]; rfl) rfl rfl hT ?_
  generalize hA : Ar.real = A
  generalize hK : Gives _ _ _ = K
  cbv
  refine CS.leR hA (c1) (.bl false) [] rfl rfl rfl ?_ ?_ ?_ ?_
  · (try cbv) <;> (repeat' (first | exact trivial | exact rfl | apply And.intro | exact fun _ => rfl | (intro _ hle; first | refine chunk_le hA rfl hle rfl ?_ | refine cat_le hA ?_ | refine upd_le hA ?_ | (try cbv)))) <;> (try (subst hA; (try simp only [natCast_eq] at *); (try (simp only [Ar.real, NV.val, Int.ofNat_eq_natCast, Int.toNat_natCast])); first | done | omega | decide | exact inR64 (by omega) (by omega) | (refine ⟨?_, ?_⟩ <;> first | omega | decide | exact inR64 (by omega) (by omega))))
  · (try cbv) <;> (repeat' (first | exact trivial | exact rfl | apply And.intro | exact fun _ => rfl | (intro _ hle; first | refine chunk_le hA rfl hle rfl ?_ | refine cat_le hA ?_ | refine upd_le hA ?_ | (try cbv)))) <;> (try (subst hA; (try simp only [natCast_eq] at *); (try (simp only [Ar.real, NV.val, Int.ofNat_eq_natCast, Int.toNat_natCast])); first | done | omega | decide | exact inR64 (by omega) (by omega) | (refine ⟨?_, ?_⟩ <;> first | omega | decide | exact inR64 (by omega) (by omega))))
  · (try cbv) <;> (repeat' (first | exact trivial | exact rfl | apply And.intro | exact fun _ => rfl | (intro _ hle; first | refine chunk_le hA rfl hle rfl ?_ | refine cat_le hA ?_ | refine upd_le hA ?_ | (try cbv))))
  cbv
  have k1 : A.lt (Int.ofNat i) 0 = false := by subst hA; simp [Ar.real]
  have k2 : A.ge (Int.ofNat i) (A.i2 s) = false := by subst hA; simp [Ar.real]; omega
  first | refine testR k1 rfl ?_ | refine testL k1 rfl ?_
  cbv
  first | refine testR k2 rfl ?_ | refine testL k2 rfl ?_
  cbv
  refine ⟨(by (subst hA; (try simp only [natCast_eq] at *); (try (simp only [Ar.real, NV.val, Int.ofNat_eq_natCast, Int.toNat_natCast])); first | done | omega | decide | exact inR64 (by omega) (by omega) | (refine ⟨?_, ?_⟩ <;> first | omega | decide | exact inR64 (by omega) (by omega)))), ?_⟩
  refine Fin.le hA 0 [] (.tup [.ro 1 (.s 64) (fun e => [.int .u8 (v e.val)]), .lit .i64 0]) ([]) 2 rfl rfl rfl ?_ ?_ (by rw [← hK]; exact ⟨rfl, rfl, rfl⟩)
  · (try cbv) <;> (repeat' (first | exact trivial | exact rfl | apply And.intro | exact fun _ => rfl | (intro _ hle; first | refine chunk_le hA rfl hle rfl ?_ | refine cat_le hA ?_ | refine upd_le hA ?_ | (try cbv))))
    subst hA; rw [hv]; rfl
  · (try cbv) <;> (repeat' (first | exact trivial | exact rfl | apply And.intro | exact fun _ => rfl | (intro _ hle; first | refine chunk_le hA rfl hle rfl ?_ | refine cat_le hA ?_ | refine upd_le hA ?_ | (try cbv))))
/-- No disk. -/
abbrev RD0 : SV := .agg [.nils, .nils, .nils, .lit .i64 0]
theorem refnew_bad {P : Program} {G : Gl} (hP : P = Try.prog) {n : Int} (hn : n < 1 ∨ 4096 < n) : FnTr P G 24 [.int .i64 n] [] 0 (Gives (.tup [RD0, .lit .i64 1]) [] 60) := by
  by_cases h0 : n < 1
  · skip
    have hT : T.Ok P := hP ▸ T_ok
    refine FnTr.intro (fn := Try.f24) (c := bodyOf Try.f24) (by rw [hP]; rfl) rfl rfl hT ?_
    generalize hA : Ar.real = A
    generalize hK : Gives _ _ _ = K
    cbv
    have k1 : A.lt n 1 = true := by subst hA; simpa [Ar.real] using h0
    first | refine testR k1 rfl ?_ | refine testL k1 rfl ?_
    cbv
    refine Fin.le hA 0 [] (.tup [RD0, .lit .i64 1]) ([]) 60 rfl rfl rfl ?_ ?_ (by rw [← hK]; exact ⟨rfl, rfl, rfl⟩)
    · (try cbv) <;> (repeat' (first | exact trivial | exact rfl | apply And.intro | exact fun _ => rfl | (intro _ hle; first | refine chunk_le hA rfl hle rfl ?_ | refine cat_le hA ?_ | refine upd_le hA ?_ | (try cbv))))
    · (try cbv) <;> (repeat' (first | exact trivial | exact rfl | apply And.intro | exact fun _ => rfl | (intro _ hle; first | refine chunk_le hA rfl hle rfl ?_ | refine cat_le hA ?_ | refine upd_le hA ?_ | (try cbv))))
  · skip
    have hT : T.Ok P := hP ▸ T_ok
    refine FnTr.intro (fn := Try.f24) (c := bodyOf Try.f24) (by rw [hP]; rfl) rfl rfl hT ?_
    generalize hA : Ar.real = A
    generalize hK : Gives _ _ _ = K
    cbv
    have k1 : A.lt n 1 = false := by subst hA; simpa [Ar.real] using h0
    have k2 : A.gt n 4096 = true := by subst hA; simp [Ar.real]; omega
    first | refine testR k1 rfl ?_ | refine testL k1 rfl ?_
    cbv
    first | refine testR k2 rfl ?_ | refine testL k2 rfl ?_
    cbv
    refine Fin.le hA 0 [] (.tup [RD0, .lit .i64 1]) ([]) 60 rfl rfl rfl ?_ ?_ (by rw [← hK]; exact ⟨rfl, rfl, rfl⟩)
    · (try cbv) <;> (repeat' (first | exact trivial | exact rfl | apply And.intro | exact fun _ => rfl | (intro _ hle; first | refine chunk_le hA rfl hle rfl ?_ | refine cat_le hA ?_ | refine upd_le hA ?_ | (try cbv))))
    · (try cbv) <;> (repeat' (first | exact trivial | exact rfl | apply And.intro | exact fun _ => rfl | (intro _ hle; first | refine chunk_le hA rfl hle rfl ?_ | refine cat_le hA ?_ | refine upd_le hA ?_ | (try cbv))))
theorem push0 {A : Ar} (hA : Ar.real = A) {n d : Nat} {F : Nat → Nat → Int} {Z : NV → List SV} (hZ : ∀ x, ∃ t, Z x = [t] ∧ intOfSV t = some (.u8, 0)) (hF : ∀ i x, F i x = 0) {e N : NV} (he : ltNV A e N) (hN : N.val = A.addN n 1) :
    leL (leSV A (d + 2)) (catG A 1 (.s n) (fun e => [.ro 1 (.s 64) (fun x => [.int .u8 (F e.val x.val)])]) (fun x => chunkS A 1 [.ro 1 (.l 64) (fun e => Z (addNV A (.l 0) e))] (addNV A (.l 0) x)) e) [.ro 1 (.s 64) (fun x => [.int .u8 (F e.val x.val)])] :=
  Rws.le hA (g := F) (Rws.push hA rfl (v := fun _ => 0) (f := F) (len := 64) (kd := .u8) ⟨_, _, rfl, rfl, fun x _ => hZ _⟩ (fun k => ⟨_, rfl, RowOf.base .u8 64 (F k.val)⟩)) he (by subst hA; rw [hN]; exact Nat.le_refl _) rfl (fun x _ => by split <;> simp [hF])
theorem pushF {A : Ar} (hA : Ar.real = A) {n d : Nat} {W : Nat → Bool} (hW : ∀ i, W i = false) {e N : NV} (he : ltNV A e N) (hN : N.val = A.addN n 1) :
    leL (leSV A (d + 1)) (catG A 1 (.s n) (fun e => [.bs (W e.val)]) (fun x => chunkS A 1 [.bl false] (addNV A (.l 0) x)) e) [.bs (W e.val)] :=
  Bls.le hA (g := W) (Bls.push hA (v := false) (f := W) rfl (fun k => ⟨_, rfl, rfl⟩)) he (by subst hA; rw [hN]; exact Nat.le_refl _) (by split <;> simp [hW])
theorem refnew_own {P : Program} {G : Gl} (hP : P = Try.prog) {n : Int} {s : Nat} {S L : Nat → Nat → Int} {W : Nat → Bool} (hn : n = (s : Int)) (h1 : 1 ≤ s ∧ s ≤ 4096) (hS : ∀ i x, S i x = 0) (hL : ∀ i x, L i x = 0) (hW : ∀ i, W i = false) :
    FnTr P G 24 [.int .i64 n] [] 0 (Gives (.tup [.agg [.sl 0 1 (.l 0) (.s s), .sl 1 1 (.l 0) (.s s), .sl 2 1 (.l 0) (.s s), .lit .i64 (-1)], .lit .i64 0])
      [(0, .row 23 1 (.s s) (fun e => [.ro 1 (.s 64) (fun x => [.int .u8 (S e.val x.val)])])), (1, .row 23 1 (.s s) (fun e => [.ro 1 (.s 64) (fun x => [.int .u8 (L e.val x.val)])])), (2, .row 4 1 (.s s) (fun e => [.bs (W e.val)]))] 60) := by
  subst hn
  have hT : T.Ok P := hP ▸ T_ok
  refine FnTr.intro (fn := Try.f24) (c := bodyOf Try.f24) (by rw [hP]; rfl) rfl rfl hT ?_
  generalize hA : Ar.real = A
  generalize hK : Gives _ _ _ = K
  cbv
  have k1 : A.lt (Int.ofNat s) 1 = false := by subst hA; simp [Ar.real]; omega
  have k2 : A.gt (Int.ofNat s) 4096 = false := by subst hA; simp [Ar.real]; omega
  first | refine testR k1 rfl ?_ | refine testL k1 rfl ?_
  cbv
  first | refine testR k2 rfl ?_ | refine testL k2 rfl ?_
  cbv
  refine LS.ghost 23 1 (.l 0) (fun _ => [.nils]) rfl ?_
  refine LS.ghost 23 1 (.l 0) (fun _ => [.nils]) rfl ?_
  refine LS.ghost 4 1 (.l 0) (fun _ => [.bs false]) rfl ?_
  refine LS.le hT hA 15 (fun (i : Nat) => [(5, .int .i64 (i : Int))]) (fun i => [(9, .cells 44 [.sl 12 1 (.l 0) (.s i), .sl 13 1 (.l 0) (.s i), .sl 14 1 (.l 0) (.s i), .lit .i64 (-1)]), (0, .cells 44 [.nils, .nils, .nils, .lit .i64 0]),
    (12, .row 23 1 (.s i) (fun e => [.ro 1 (.s 64) (fun x => [.int .u8 (S e.val x.val)])])), (13, .row 23 1 (.s i) (fun e => [.ro 1 (.s 64) (fun x => [.int .u8 (L e.val x.val)])])), (14, .row 4 1 (.s i) (fun e => [.bs (W e.val)]))]) (fun i => i ≤ s) (fun i => s - i) 0 [] rfl rfl ?_ ?_ ?_
  · (try cbv) <;> (repeat' (first | exact trivial | exact rfl | apply And.intro | exact fun _ => rfl | (intro _ hle; first | refine chunk_le hA rfl hle rfl ?_ | refine cat_le hA ?_ | refine upd_le hA ?_ | refine int_le ?_ | skip)))
    all_goals first | (exfalso; subst hA; exact absurd (ltNV_real.1 hle) (Nat.not_lt_zero _)) | trace_state
  · exact Nat.zero_le _
  · intro R hR i hi
    cbv
    refine ⟨fun h2 => ?_, fun h2 => ?_⟩
    · have him : i < s := by clear hR; subst hA; simp [Ar.real] at h2; omega
      cbv
      refine DS.runK hA hT (by rw [hP]; exact P_mixed) 4 rfl ?_
      cbv
      refine ⟨⟨(by (subst hA; (try simp only [natCast_eq] at *); (try (simp only [Ar.real, NV.val, Int.ofNat_eq_natCast, Int.toNat_natCast])); first | done | omega | decide | exact inR64 (by omega) (by omega) | (refine ⟨?_, ?_⟩ <;> first | omega | decide | exact inR64 (by omega) (by omega)))), (by (subst hA; (try simp only [natCast_eq] at *); (try (simp only [Ar.real, NV.val, Int.ofNat_eq_natCast, Int.toNat_natCast])); first | done | omega | decide | exact inR64 (by omega) (by omega) | (refine ⟨?_, ?_⟩ <;> first | omega | decide | exact inR64 (by omega) (by omega)))), (by (subst hA; (try simp only [natCast_eq] at *); (try (simp only [Ar.real, NV.val, Int.ofNat_eq_natCast, Int.toNat_natCast])); first | done | omega | decide | exact inR64 (by omega) (by omega) | (refine ⟨?_, ?_⟩ <;> first | omega | decide | exact inR64 (by omega) (by omega)))), (by (subst hA; (try simp only [natCast_eq] at *); (try (simp only [Ar.real, NV.val, Int.ofNat_eq_natCast, Int.toNat_natCast])); first | done | omega | decide | exact inR64 (by omega) (by omega) | (refine ⟨?_, ?_⟩ <;> first | omega | decide | exact inR64 (by omega) (by omega))))⟩, ⟨(by (subst hA; (try simp only [natCast_eq] at *); (try (simp only [Ar.real, NV.val, Int.ofNat_eq_natCast, Int.toNat_natCast])); first | done | omega | decide | exact inR64 (by omega) (by omega) | (refine ⟨?_, ?_⟩ <;> first | omega | decide | exact inR64 (by omega) (by omega)))), trivial⟩, ⟨(by (subst hA; (try simp only [natCast_eq] at *); (try (simp only [Ar.real, NV.val, Int.ofNat_eq_natCast, Int.toNat_natCast])); first | done | omega | decide | exact inR64 (by omega) (by omega) | (refine ⟨?_, ?_⟩ <;> first | omega | decide | exact inR64 (by omega) (by omega)))), (by (subst hA; (try simp only [natCast_eq] at *); (try (simp only [Ar.real, NV.val, Int.ofNat_eq_natCast, Int.toNat_natCast])); first | done | omega | decide | exact inR64 (by omega) (by omega) | (refine ⟨?_, ?_⟩ <;> first | omega | decide | exact inR64 (by omega) (by omega)))), (by (subst hA; (try simp only [natCast_eq] at *); (try (simp only [Ar.real, NV.val, Int.ofNat_eq_natCast, Int.toNat_natCast])); first | done | omega | decide | exact inR64 (by omega) (by omega) | (refine ⟨?_, ?_⟩ <;> first | omega | decide | exact inR64 (by omega) (by omega))))⟩, ?_⟩
      refine DF.fin (by kernel_rfl) (by kernel_rfl) ?_
      cbv
      refine DS.runK hA hT (by rw [hP]; exact P_mixed) 4 rfl ?_
      cbv
      refine ⟨⟨(by (subst hA; (try simp only [natCast_eq] at *); (try (simp only [Ar.real, NV.val, Int.ofNat_eq_natCast, Int.toNat_natCast])); first | done | omega | decide | exact inR64 (by omega) (by omega) | (refine ⟨?_, ?_⟩ <;> first | omega | decide | exact inR64 (by omega) (by omega)))), (by (subst hA; (try simp only [natCast_eq] at *); (try (simp only [Ar.real, NV.val, Int.ofNat_eq_natCast, Int.toNat_natCast])); first | done | omega | decide | exact inR64 (by omega) (by omega) | (refine ⟨?_, ?_⟩ <;> first | omega | decide | exact inR64 (by omega) (by omega)))), (by (subst hA; (try simp only [natCast_eq] at *); (try (simp only [Ar.real, NV.val, Int.ofNat_eq_natCast, Int.toNat_natCast])); first | done | omega | decide | exact inR64 (by omega) (by omega) | (refine ⟨?_, ?_⟩ <;> first | omega | decide | exact inR64 (by omega) (by omega)))), (by (subst hA; (try simp only [natCast_eq] at *); (try (simp only [Ar.real, NV.val, Int.ofNat_eq_natCast, Int.toNat_natCast])); first | done | omega | decide | exact inR64 (by omega) (by omega) | (refine ⟨?_, ?_⟩ <;> first | omega | decide | exact inR64 (by omega) (by omega))))⟩, ⟨(by (subst hA; (try simp only [natCast_eq] at *); (try (simp only [Ar.real, NV.val, Int.ofNat_eq_natCast, Int.toNat_natCast])); first | done | omega | decide | exact inR64 (by omega) (by omega) | (refine ⟨?_, ?_⟩ <;> first | omega | decide | exact inR64 (by omega) (by omega)))), trivial⟩, ⟨(by (subst hA; (try simp only [natCast_eq] at *); (try (simp only [Ar.real, NV.val, Int.ofNat_eq_natCast, Int.toNat_natCast])); first | done | omega | decide | exact inR64 (by omega) (by omega) | (refine ⟨?_, ?_⟩ <;> first | omega | decide | exact inR64 (by omega) (by omega)))), (by (subst hA; (try simp only [natCast_eq] at *); (try (simp only [Ar.real, NV.val, Int.ofNat_eq_natCast, Int.toNat_natCast])); first | done | omega | decide | exact inR64 (by omega) (by omega) | (refine ⟨?_, ?_⟩ <;> first | omega | decide | exact inR64 (by omega) (by omega)))), (by (subst hA; (try simp only [natCast_eq] at *); (try (simp only [Ar.real, NV.val, Int.ofNat_eq_natCast, Int.toNat_natCast])); first | done | omega | decide | exact inR64 (by omega) (by omega) | (refine ⟨?_, ?_⟩ <;> first | omega | decide | exact inR64 (by omega) (by omega))))⟩, ?_⟩
      refine DF.fin (by kernel_rfl) (by kernel_rfl) ?_
      cbv
      refine ⟨⟨(by (subst hA; (try simp only [natCast_eq] at *); (try (simp only [Ar.real, NV.val, Int.ofNat_eq_natCast, Int.toNat_natCast])); first | done | omega | decide | exact inR64 (by omega) (by omega) | (refine ⟨?_, ?_⟩ <;> first | omega | decide | exact inR64 (by omega) (by omega)))), (by (subst hA; (try simp only [natCast_eq] at *); (try (simp only [Ar.real, NV.val, Int.ofNat_eq_natCast, Int.toNat_natCast])); first | done | omega | decide | exact inR64 (by omega) (by omega) | (refine ⟨?_, ?_⟩ <;> first | omega | decide | exact inR64 (by omega) (by omega)))), (by (subst hA; (try simp only [natCast_eq] at *); (try (simp only [Ar.real, NV.val, Int.ofNat_eq_natCast, Int.toNat_natCast])); first | done | omega | decide | exact inR64 (by omega) (by omega) | (refine ⟨?_, ?_⟩ <;> first | omega | decide | exact inR64 (by omega) (by omega))))⟩, (by (subst hA; (try simp only [natCast_eq] at *); (try (simp only [Ar.real, NV.val, Int.ofNat_eq_natCast, Int.toNat_natCast])); first | done | omega | decide | exact inR64 (by omega) (by omega) | (refine ⟨?_, ?_⟩ <;> first | omega | decide | exact inR64 (by omega) (by omega)))), hR _ _ ⟨i + 1, 15, [(34, 12), (62, 13), (77, 14)], rfl, rfl, ?_, him, (by show s - (i + 1) < s - i; omega)⟩⟩
      clear hR
      (try cbv) <;> (repeat' (first | exact trivial | exact rfl | apply And.intro | exact fun _ => rfl | (intro _ hle; first | refine chunk_le hA rfl hle rfl ?_ | refine cat_le hA ?_ | refine upd_le hA ?_ | refine int_le ?_ | skip)))
      all_goals first | exact push0 hA (fun x => ⟨_, rfl, rfl⟩) hS hle rfl | exact push0 hA (fun x => ⟨_, rfl, rfl⟩) hL hle rfl | exact pushF hA hW hle rfl | (subst hA; (try simp only [natCast_eq] at *); (try (simp only [Ar.real, NV.val, Int.ofNat_eq_natCast, Int.toNat_natCast])); first | done | omega | decide | exact inR64 (by omega) (by omega) | (refine ⟨?_, ?_⟩ <;> first | omega | decide | exact inR64 (by omega) (by omega)))
    · have him : i = s := by clear hR; subst hA; simp [Ar.real] at h2; omega
      subst him
      clear hR
      cbv
      refine Fin.le hA 0 [(12, 0), (13, 1), (14, 2)] (.tup [.agg [.sl 0 1 (.l 0) (.s i), .sl 1 1 (.l 0) (.s i), .sl 2 1 (.l 0) (.s i), .lit .i64 (-1)], .lit .i64 0]) _ 60 rfl rfl rfl ?_ ?_ (by rw [← hK]; exact ⟨rfl, rfl, rfl⟩)
      · (try cbv) <;> (repeat' (first | exact trivial | exact rfl | apply And.intro | exact fun _ => rfl | (intro _ hle; first | refine chunk_le hA rfl hle rfl ?_ | refine cat_le hA ?_ | refine upd_le hA ?_ | (try cbv))))
      · (try cbv) <;> (repeat' (first | exact trivial | exact rfl | apply And.intro | exact fun _ => rfl | (intro _ hle; first | refine chunk_le hA rfl hle rfl ?_ | refine cat_le hA ?_ | refine upd_le hA ?_ | (try cbv))))
theorem refnew_fn {P : Program} {G : Gl} (hP : P = Try.prog) {n : Int} {s : Nat} {S L : Nat → Nat → Int} {W : Nat → Bool} (hn : n = (s : Int)) (h1 : 1 ≤ s ∧ s ≤ 4096) (hS : ∀ i x, S i x = 0) (hL : ∀ i x, L i x = 0) (hW : ∀ i, W i = false) :
    FnTr P G 24 [.int .i64 n] [] 0 (Gives (.tup [RD s S L W (-1), .lit .i64 0]) [] 60) := by
  have h1 := refnew_own (P := P) (G := G) hP hn h1 hS hL hW
  generalize hA : Ar.real = A
  refine FnTr.dat hA h1 _ _ ?_
  (try cbv) <;> (repeat' (first | exact trivial | exact rfl | apply And.intro | exact fun _ => rfl | (intro _ hle; first | refine chunk_le hA rfl hle rfl ?_ | refine cat_le hA ?_ | refine upd_le hA ?_ | refine int_le ?_ | skip)))
  all_goals (subst hA; (try simp only [natCast_eq] at *); (try (simp only [Ar.real, NV.val, Int.ofNat_eq_natCast, Int.toNat_natCast])); first | done | omega | decide | exact inR64 (by omega) (by omega) | (refine ⟨?_, ?_⟩ <;> first | omega | decide | exact inR64 (by omega) (by omega)))

theorem refof_bad {P : Program} {G : Gl} (hP : P = Try.prog) {n : Nat} {f : Nat → Int} (hn : n ≤ 1000000) (h : n / 64 < 1 ∨ 4096 < n / 64 ∨ n % 64 ≠ 0) : FnTr P G 20 [By n f] [] 0 (Gives (.tup [RD0, .lit .i64 1]) [] 100) := by
  obtain ⟨q, hq⟩ : ∃ q, q = n / 64 := ⟨_, rfl⟩
  have e1 : Int.tdiv (n : Int) 64 = (q : Int) := by rw [hq]; exact quo_nat n 64
  have e2 : Int.tmod (n : Int) 64 = ((n % 64 : Nat) : Int) := rem_nat n 64
  have hq2 : q ≤ 1000000 := by omega
  by_cases h0 : n % 64 = 0
  · have c1 := refnew_bad (P := P) (G := G) (n := (q : Int)) hP (by omega)
    have hT : T.Ok P := hP ▸ T_ok
    refine FnTr.intro (fn := Try.f20) (c := bodyOf Try.f20) (by rw [hP]; rfl) rfl rfl hT ?_
    generalize hA : Ar.real = A
    generalize hK : Gives _ _ _ = K
    cbv
    have kr : A.ne (A.rem (A.i2 n) 64) 0 = false := by
      subst hA
      show (Int.tmod (n : Int) 64 != 0) = false
      rw [e2, h0]; rfl
    refine ⟨by subst hA; show (64 : Int) ≠ 0; decide, ?_⟩
    first | refine testR kr rfl ?_ | refine testL kr rfl ?_
    cbv
    have kq : A.quo (A.i2 n) 64 = (q : Int) := by subst hA; exact e1
    refine ⟨⟨by subst hA; show (64 : Int) ≠ 0; decide, by have : A.inR .i64 (A.quo (A.i2 n) 64) := by { rw [kq]; subst hA; exact inR64 (by omega) (by omega) }; exact this⟩, ?_⟩
    refine CS.le hA c1 [] rfl rfl rfl ?_ ?_ ?_
    · (try cbv) <;> (repeat' (first | exact trivial | exact rfl | apply And.intro | exact fun _ => rfl | (intro _ hle; first | refine chunk_le hA rfl hle rfl ?_ | refine cat_le hA ?_ | refine upd_le hA ?_ | (try cbv))))
      exact kq
    · (try cbv) <;> (repeat' (first | exact trivial | exact rfl | apply And.intro | exact fun _ => rfl | (intro _ hle; first | refine chunk_le hA rfl hle rfl ?_ | refine cat_le hA ?_ | refine upd_le hA ?_ | (try cbv))))
    cbv
    refine LS.rounds hA 1 hT ?_
    cbv
    have k3 : A.lt 0 (A.i2 0) = false := by subst hA; rfl
    refine Fin.le hA 0 [] (.tup [RD0, .lit .i64 1]) ([]) 100 rfl rfl rfl ?_ ?_ (by rw [← hK]; exact ⟨rfl, rfl, rfl⟩)
    · (try cbv) <;> (repeat' (first | exact trivial | exact rfl | apply And.intro | exact fun _ => rfl | (intro _ hle; first | refine chunk_le hA rfl hle rfl ?_ | refine cat_le hA ?_ | refine upd_le hA ?_ | (try cbv))))
    · (try cbv) <;> (repeat' (first | exact trivial | exact rfl | apply And.intro | exact fun _ => rfl | (intro _ hle; first | refine chunk_le hA rfl hle rfl ?_ | refine cat_le hA ?_ | refine upd_le hA ?_ | (try cbv))))
  · skip
    have hT : T.Ok P := hP ▸ T_ok
    refine FnTr.intro (fn := Try.f20) (c := bodyOf Try.f20) (by rw [hP]; rfl) rfl rfl hT ?_
    generalize hA : Ar.real = A
    generalize hK : Gives _ _ _ = K
    cbv
    have kr : A.ne (A.rem (A.i2 n) 64) 0 = true := by
      subst hA
      show (Int.tmod (n : Int) 64 != 0) = true
      rw [e2]
      simp; omega
    refine ⟨by subst hA; show (64 : Int) ≠ 0; decide, ?_⟩
    first | refine testR kr rfl ?_ | refine testL kr rfl ?_
    cbv
    refine Fin.le hA 0 [] (.tup [RD0, .lit .i64 1]) ([]) 100 rfl rfl rfl ?_ ?_ (by rw [← hK]; exact ⟨rfl, rfl, rfl⟩)
    · (try cbv) <;> (repeat' (first | exact trivial | exact rfl | apply And.intro | exact fun _ => rfl | (intro _ hle; first | refine chunk_le hA rfl hle rfl ?_ | refine cat_le hA ?_ | refine upd_le hA ?_ | (try cbv))))
    · (try cbv) <;> (repeat' (first | exact trivial | exact rfl | apply And.intro | exact fun _ => rfl | (intro _ hle; first | refine chunk_le hA rfl hle rfl ?_ | refine cat_le hA ?_ | refine upd_le hA ?_ | (try cbv))))
theorem upd_rows {A : Ar} (hA : Ar.real = A) {n p d : Nat} {F F' : Nat → Nat → Int} {v : Nat → Int} {s : SV} (hs : RowOf .u8 64 v s) (h : ∀ i x, i < n → x < 64 → F' i x = if i = p then v x else F i x) {e N : NV} (he : ltNV A e N) (hN : N.val = n) :
    leL (leSV A (d + 2)) (updF A 1 (.s p) 0 [s] (fun e => [.ro 1 (.s 64) (fun x => [.int .u8 (F e.val x.val)])]) e) [.ro 1 (.s 64) (fun x => [.int .u8 (F' e.val x.val)])] :=
  Rws.le hA (g := F') (Rws.upd hA p hs (Rws.base .u8 64 F n)) he (by omega) rfl (fun x hx => by
    have he : e.val < N.val := by subst hA; exact ltNV_real.1 he
    rw [h _ _ (by omega) hx]; split <;> rfl)
/-- Bytes as a disk of the document's. -/
theorem refof_ok {P : Program} {G : Gl} (hP : P = Try.prog) {n s : Nat} {f : Nat → Int} {S L : Nat → Nat → Int} {W : Nat → Bool} (hn : n = 64 * s) (h : 1 ≤ s ∧ s ≤ 4096) (hS : ∀ i x, i < s → x < 64 → S i x = f (64 * i + x)) (hL : ∀ i x, i < s → x < 64 → L i x = f (64 * i + x)) (hW : ∀ i, W i = false) :
    FnTr P G 20 [By n f] [] 0 (Gives (.tup [RD s S L W (-1), .lit .i64 0]) [] 400) := by
  have e1 : Int.tdiv (n : Int) 64 = (s : Int) := by rw [hn]; exact q64 s
  have e2 : Int.tmod (n : Int) 64 = 0 := by
    have := rem_nat n 64
    rw [show n % 64 = 0 by omega] at this
    exact this
  obtain ⟨Si, hSi⟩ : ∃ Si : Nat → Nat → Nat → Int, ∀ i t x, Si i t x = if t < i then f (64 * t + x) else 0 := ⟨_, fun _ _ _ => rfl⟩
  have c1 := refnew_own (P := P) (G := G) (n := (s : Int)) (S := Si 0) (L := Si 0) (W := W) hP rfl h (fun i x => by rw [hSi, if_neg (by omega)]) (fun i x => by rw [hSi, if_neg (by omega)]) hW
  have hstep : ∀ i t x, Si (i + 1) t x = if t = i then f (64 * i + x) else Si i t x := fun i t x => by
    rw [hSi, hSi]
    by_cases q : t = i
    · subst q; rw [if_pos (by omega), if_pos rfl]
    · rw [if_neg q]
      by_cases q2 : t < i
      · rw [if_pos q2, if_pos (by omega)]
      · rw [if_neg q2, if_neg (by omega)]
  have hlast : ∀ t x, t < s → Si s t x = f (64 * t + x) := fun t x h => by rw [hSi, if_pos h]
  clear hSi
  have h0 : FnTr P G 20 [By n f] [] 0 (Gives (.tup [.agg [.sl 0 1 (.l 0) (.s s), .sl 1 1 (.l 0) (.s s), .sl 2 1 (.l 0) (.s s), .lit .i64 (-1)], .lit .i64 0])
      [(0, .row 23 1 (.s s) (fun e => [.ro 1 (.s 64) (fun x => [.int .u8 (S e.val x.val)])])), (1, .row 23 1 (.s s) (fun e => [.ro 1 (.s 64) (fun x => [.int .u8 (L e.val x.val)])])), (2, .row 4 1 (.s s) (fun e => [.bs (W e.val)]))] 400) := by
    have hT : T.Ok P := hP ▸ T_ok
    refine FnTr.intro (fn := Try.f20) (c := bodyOf Try.f20) (by rw [hP]; rfl) rfl rfl hT ?_
    generalize hA : Ar.real = A
    generalize hK : Gives _ _ _ = K
    cbv
    have kr : A.ne (A.rem (A.i2 n) 64) 0 = false := by
      subst hA
      show (Int.tmod (n : Int) 64 != 0) = false
      rw [e2]; rfl
    refine ⟨by subst hA; show (64 : Int) ≠ 0; decide, ?_⟩
    first | refine testR kr rfl ?_ | refine testL kr rfl ?_
    cbv
    have kq : A.quo (A.i2 n) 64 = (s : Int) := by subst hA; exact e1
    refine ⟨⟨by subst hA; show (64 : Int) ≠ 0; decide, by have : A.inR .i64 (A.quo (A.i2 n) 64) := by { rw [kq]; subst hA; exact inR64 (by omega) (by omega) }; exact this⟩, ?_⟩
    refine CS.le hA c1 [] rfl rfl rfl ?_ ?_ ?_
    · (try cbv) <;> (repeat' (first | exact trivial | exact rfl | apply And.intro | exact fun _ => rfl | (intro _ hle; first | refine chunk_le hA rfl hle rfl ?_ | refine cat_le hA ?_ | refine upd_le hA ?_ | (try cbv))))
      exact kq
    · (try cbv) <;> (repeat' (first | exact trivial | exact rfl | apply And.intro | exact fun _ => rfl | (intro _ hle; first | refine chunk_le hA rfl hle rfl ?_ | refine cat_le hA ?_ | refine upd_le hA ?_ | (try cbv))))
    cbv
    refine LS.leU hT hA 73 (fun (i : Nat) => [(6, .int .i64 (i : Int))]) [] (fun i => [(9, .row 23 1 (.s s) (fun e => [.ro 1 (.s 64) (fun x => [.int .u8 (Si i e.val x.val)])])), (10, .row 23 1 (.s s) (fun e => [.ro 1 (.s 64) (fun x => [.int .u8 (Si i e.val x.val)])]))]) (fun i => i ≤ s) (fun i => s - i) 0 [] rfl rfl ?_ ?_ ?_
    · (try cbv) <;> (repeat' (first | exact trivial | exact rfl | apply And.intro | exact fun _ => rfl | (intro _ hle; first | refine chunk_le hA rfl hle rfl ?_ | refine cat_le hA ?_ | refine upd_le hA ?_ | refine int_le ?_ | skip)))
    · exact Nat.zero_le _
    · intro R hR i hi
      cbv
      refine ⟨fun h2 => ?_, fun h2 => ?_⟩
      · have him : i < s := by clear hR; subst hA; simp [Ar.real] at h2; omega
        cbv
        refine DS.runK hA hT (by rw [hP]; exact P_mixed) 2 rfl ?_
        cbv
        have hrow : RowOf .u8 64 (fun x => f (64 * i + x)) (.ro 1 (.s (A.subN (A.nat (A.add (A.mul 64 (Int.ofNat i)) 64)) (A.nat (A.mul 64 (Int.ofNat i))))) (fun x => [.int .u8 (f (addNV A (.s (A.nat (A.mul 64 (Int.ofNat i)))) x).val)])) := by
          clear hR
          subst hA
          refine ⟨_, _, rfl, ?_, fun x hx => ⟨_, rfl, ?_⟩⟩
          · show (64 * (i : Int) + 64).toNat - (64 * (i : Int)).toNat = 64; omega
          · show some _ = some _
            rw [addNV_val]
            show some (IntKind.u8, f ((64 * (i : Int)).toNat + x.val)) = _
            rw [show (64 * (i : Int)).toNat = 64 * i by omega]
        refine ⟨(by (subst hA; (try simp only [natCast_eq] at *); (try (simp only [Ar.real, NV.val, Int.ofNat_eq_natCast, Int.toNat_natCast])); first | done | omega | decide | exact inR64 (by omega) (by omega) | (refine ⟨?_, ?_⟩ <;> first | omega | decide | exact inR64 (by omega) (by omega)))), (by (subst hA; (try simp only [natCast_eq] at *); (try (simp only [Ar.real, NV.val, Int.ofNat_eq_natCast, Int.toNat_natCast])); first | done | omega | decide | exact inR64 (by omega) (by omega) | (refine ⟨?_, ?_⟩ <;> first | omega | decide | exact inR64 (by omega) (by omega)))), (by (subst hA; (try simp only [natCast_eq] at *); (try (simp only [Ar.real, NV.val, Int.ofNat_eq_natCast, Int.toNat_natCast])); first | done | omega | decide | exact inR64 (by omega) (by omega) | (refine ⟨?_, ?_⟩ <;> first | omega | decide | exact inR64 (by omega) (by omega)))), ⟨(by (subst hA; (try simp only [natCast_eq] at *); (try (simp only [Ar.real, NV.val, Int.ofNat_eq_natCast, Int.toNat_natCast])); first | done | omega | decide | exact inR64 (by omega) (by omega) | (refine ⟨?_, ?_⟩ <;> first | omega | decide | exact inR64 (by omega) (by omega)))), (by (subst hA; (try simp only [natCast_eq] at *); (try (simp only [Ar.real, NV.val, Int.ofNat_eq_natCast, Int.toNat_natCast])); first | done | omega | decide | exact inR64 (by omega) (by omega) | (refine ⟨?_, ?_⟩ <;> first | omega | decide | exact inR64 (by omega) (by omega)))), (by (subst hA; (try simp only [natCast_eq] at *); (try (simp only [Ar.real, NV.val, Int.ofNat_eq_natCast, Int.toNat_natCast])); first | done | omega | decide | exact inR64 (by omega) (by omega) | (refine ⟨?_, ?_⟩ <;> first | omega | decide | exact inR64 (by omega) (by omega)))), (by (subst hA; (try simp only [natCast_eq] at *); (try (simp only [Ar.real, NV.val, Int.ofNat_eq_natCast, Int.toNat_natCast])); first | done | omega | decide | exact inR64 (by omega) (by omega) | (refine ⟨?_, ?_⟩ <;> first | omega | decide | exact inR64 (by omega) (by omega))))⟩, (by (subst hA; (try simp only [natCast_eq] at *); (try (simp only [Ar.real, NV.val, Int.ofNat_eq_natCast, Int.toNat_natCast])); first | done | omega | decide | exact inR64 (by omega) (by omega) | (refine ⟨?_, ?_⟩ <;> first | omega | decide | exact inR64 (by omega) (by omega)))), (by (subst hA; (try simp only [natCast_eq] at *); (try (simp only [Ar.real, NV.val, Int.ofNat_eq_natCast, Int.toNat_natCast])); first | done | omega | decide | exact inR64 (by omega) (by omega) | (refine ⟨?_, ?_⟩ <;> first | omega | decide | exact inR64 (by omega) (by omega)))), ?_⟩
        refine DF.fin (by kernel_rfl) (by kernel_rfl) ?_
        cbv
        have kn : A.nat (Int.ofNat i) = i := by subst hA; rfl
        refine DS.blk hA 9 (.row 23 1 (.s s) (fun e => [.ro 1 (.s 64) (fun x => [.int .u8 (Si (i + 1) e.val x.val)])])) ?_ ?_
        · have hup : ∀ e, ltNV A e (.s s) → leL (leSV A 4) _ [.ro 1 (.s 64) (fun x => [.int .u8 (Si (i + 1) e.val x.val)])] := fun e he => upd_rows (p := A.nat (Int.ofNat i)) (F := Si i) (F' := Si (i + 1)) hA hrow (fun t x _ _ => by rw [kn]; exact hstep i t x) he rfl
          (try cbv) <;> (repeat' (first | exact trivial | exact rfl | apply And.intro | exact fun _ => rfl | (intro _ hle; first | exact hup _ hle | refine chunk_le hA rfl hle rfl ?_ | refine cat_le hA ?_ | refine upd_le hA ?_ | refine int_le ?_ | skip)))
        refine DS.runK hA hT (by rw [hP]; exact P_mixed) 2 rfl ?_
        cbv
        refine ⟨(by (subst hA; (try simp only [natCast_eq] at *); (try (simp only [Ar.real, NV.val, Int.ofNat_eq_natCast, Int.toNat_natCast])); first | done | omega | decide | exact inR64 (by omega) (by omega) | (refine ⟨?_, ?_⟩ <;> first | omega | decide | exact inR64 (by omega) (by omega)))), (by (subst hA; (try simp only [natCast_eq] at *); (try (simp only [Ar.real, NV.val, Int.ofNat_eq_natCast, Int.toNat_natCast])); first | done | omega | decide | exact inR64 (by omega) (by omega) | (refine ⟨?_, ?_⟩ <;> first | omega | decide | exact inR64 (by omega) (by omega)))), (by (subst hA; (try simp only [natCast_eq] at *); (try (simp only [Ar.real, NV.val, Int.ofNat_eq_natCast, Int.toNat_natCast])); first | done | omega | decide | exact inR64 (by omega) (by omega) | (refine ⟨?_, ?_⟩ <;> first | omega | decide | exact inR64 (by omega) (by omega)))), (by (subst hA; (try simp only [natCast_eq] at *); (try (simp only [Ar.real, NV.val, Int.ofNat_eq_natCast, Int.toNat_natCast])); first | done | omega | decide | exact inR64 (by omega) (by omega) | (refine ⟨?_, ?_⟩ <;> first | omega | decide | exact inR64 (by omega) (by omega)))), ?_⟩
        refine DF.fin (by kernel_rfl) (by kernel_rfl) ?_
        cbv
        refine ⟨(by (subst hA; (try simp only [natCast_eq] at *); (try (simp only [Ar.real, NV.val, Int.ofNat_eq_natCast, Int.toNat_natCast])); first | done | omega | decide | exact inR64 (by omega) (by omega) | (refine ⟨?_, ?_⟩ <;> first | omega | decide | exact inR64 (by omega) (by omega)))), hR _ _ ⟨i + 1, 73, [], rfl, rfl, ?_, him, (by show s - (i + 1) < s - i; omega)⟩⟩
        have hup : ∀ e, ltNV A e (.s s) → leL (leSV A 4) _ [.ro 1 (.s 64) (fun x => [.int .u8 (Si (i + 1) e.val x.val)])] := fun e he => upd_rows (p := A.nat (Int.ofNat i)) (F := Si i) (F' := Si (i + 1)) hA (RowOf.base .u8 64 (fun x => Si (i + 1) (A.nat (Int.ofNat i)) x)) (fun t x _ _ => by
          rw [kn, hstep i t x, hstep i i x, if_pos rfl]) he rfl
        clear hR
        (try cbv) <;> (repeat' (first | exact trivial | exact rfl | apply And.intro | exact fun _ => rfl | (intro _ hle; first | exact hup _ hle | refine chunk_le hA rfl hle rfl ?_ | refine cat_le hA ?_ | refine upd_le hA ?_ | refine int_le ?_ | skip)))
        all_goals (subst hA; (try simp only [natCast_eq] at *); (try (simp only [Ar.real, NV.val, Int.ofNat_eq_natCast, Int.toNat_natCast])); first | done | omega | decide | exact inR64 (by omega) (by omega) | (refine ⟨?_, ?_⟩ <;> first | omega | decide | exact inR64 (by omega) (by omega)))
      · have him : i = s := by clear hR; subst hA; simp [Ar.real] at h2; omega
        subst him
        clear hR
        cbv
        refine Fin.le hA 0 [(9, 0), (10, 1), (11, 2)] (.tup [.agg [.sl 0 1 (.l 0) (.s i), .sl 1 1 (.l 0) (.s i), .sl 2 1 (.l 0) (.s i), .lit .i64 (-1)], .lit .i64 0]) _ 400 rfl rfl rfl ?_ ?_ (by rw [← hK]; exact ⟨rfl, rfl, rfl⟩)
        · (try cbv) <;> (repeat' (first | exact trivial | exact rfl | apply And.intro | exact fun _ => rfl | (intro _ hle; first | refine chunk_le hA rfl hle rfl ?_ | refine cat_le hA ?_ | refine upd_le hA ?_ | (try cbv))))
        · (try cbv) <;> (repeat' (first | exact trivial | exact rfl | apply And.intro | exact fun _ => rfl | (intro _ hle; first | refine chunk_le hA rfl hle rfl ?_ | refine cat_le hA ?_ | refine upd_le hA ?_ | refine int_le ?_ | skip)))
          · rename_i e1 h1 e2
            have q1 : e1.val < i := by subst hA; exact ltNV_real.1 h1
            have q2 : e2.val < 64 := by subst hA; exact ltNV_real.1 hle
            rw [hlast _ _ q1, hS _ _ q1 q2]
          · rename_i e1 h1 e2
            have q1 : e1.val < i := by subst hA; exact ltNV_real.1 h1
            have q2 : e2.val < 64 := by subst hA; exact ltNV_real.1 hle
            rw [hlast _ _ q1, hL _ _ q1 q2]
  generalize hA : Ar.real = A
  refine FnTr.dat hA h0 _ _ ?_
  (try cbv) <;> (repeat' (first | exact trivial | exact rfl | apply And.intro | exact fun _ => rfl | (intro _ hle; first | refine chunk_le hA rfl hle rfl ?_ | refine cat_le hA ?_ | refine upd_le hA ?_ | refine int_le ?_ | skip)))
  all_goals (subst hA; (try simp only [natCast_eq] at *); (try (simp only [Ar.real, NV.val, Int.ofNat_eq_natCast, Int.toNat_natCast])); first | done | omega | decide | exact inR64 (by omega) (by omega) | (refine ⟨?_, ?_⟩ <;> first | omega | decide | exact inR64 (by omega) (by omega)))
end Go.Proofs.Ytnjjgipblimbfaa.Dsk
