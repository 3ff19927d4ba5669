/-
  The document's disks: a copy; a write; a flush; a stop.
-/
import Derived.Test.YtnjjgipblimbfaaDskF15
set_option linter.unusedVariables false
set_option linter.unusedSimpArgs false
namespace Go.Proofs.Ytnjjgipblimbfaa.Dsk
open Go.Eng
open Go.DskLaw (q64 secV)
set_option maxRecDepth 100000
set_option maxHeartbeats 4000000
set_option linter.unusedVariables false

/-- The three rows of a disk of the document's, as own rows. -/
abbrev RH (a b c : Nat) (s : Nat) (S L : Nat → Nat → Int) (W : Nat → Bool) : Hl :=
  [(a, .row 23 1 (.s s) (fun e => [.ro 1 (.s 64) (fun x => [.int .u8 (S e.val x.val)])])), (b, .row 23 1 (.s s) (fun e => [.ro 1 (.s 64) (fun x => [.int .u8 (L e.val x.val)])])), (c, .row 4 1 (.s s) (fun e => [.bs (W e.val)]))]
theorem copied_own {P : Program} {G : Gl} (hP : P = Try.prog) {s : Nat} {S L : Nat → Nat → Int} {W : Nat → Bool} {c : Int} (hs : s ≤ 4096) :
    FnTr P G 63 [RD s S L W c] [] 0 (Gives (.agg [.sl 0 1 (.l 0) (.s s), .sl 1 1 (.l 0) (.s s), .sl 2 1 (.l 0) (.s s), .int .i64 c]) (RH 0 1 2 s S L W) 40) := by
  have hT : T.Ok P := hP ▸ T_ok
  refine FnTr.intro (fn := Try.f63) (c := bodyOf Try.f63) (by rw [hP]; rfl) rfl rfl hT ?_
  generalize hA : Ar.real = A
  generalize hK : Gives _ _ _ = K
  cbv
  refine ⟨(by (subst hA; (try simp only [natCast_eq] at *); (try (simp only [Ar.real, NV.val, Int.ofNat_eq_natCast, Int.toNat_natCast])); first | done | omega | decide | exact inR64 (by omega) (by omega) | (refine ⟨?_, ?_⟩ <;> first | omega | decide | exact inR64 (by omega) (by omega)))), (by (subst hA; (try simp only [natCast_eq] at *); (try (simp only [Ar.real, NV.val, Int.ofNat_eq_natCast, Int.toNat_natCast])); first | done | omega | decide | exact inR64 (by omega) (by omega) | (refine ⟨?_, ?_⟩ <;> first | omega | decide | exact inR64 (by omega) (by omega)))), (by (subst hA; (try simp only [natCast_eq] at *); (try (simp only [Ar.real, NV.val, Int.ofNat_eq_natCast, Int.toNat_natCast])); first | done | omega | decide | exact inR64 (by omega) (by omega) | (refine ⟨?_, ?_⟩ <;> first | omega | decide | exact inR64 (by omega) (by omega)))), ?_⟩
  refine Fin.le hA 0 [(11, 0), (18, 1), (25, 2)] (.agg [.sl 0 1 (.l 0) (.s s), .sl 1 1 (.l 0) (.s s), .sl 2 1 (.l 0) (.s s), .int .i64 c]) _ 40 rfl rfl rfl ?_ ?_ (by rw [← hK]; exact ⟨rfl, rfl, rfl⟩)
  · (try cbv) <;> (repeat' (first | exact trivial | exact rfl | apply And.intro | exact fun _ => rfl | (intro _ hle; first | refine chunk_le hA rfl hle rfl ?_ | refine cat_le hA ?_ | refine upd_le hA ?_ | (try cbv))))
  · (try cbv) <;> (repeat' (first | exact trivial | exact rfl | apply And.intro | exact fun _ => rfl | (intro _ hle; first | refine chunk_le hA rfl hle rfl ?_ | refine cat_le hA ?_ | refine upd_le hA ?_ | (try cbv))))

theorem refwrite_off {P : Program} {G : Gl} (hP : P = Try.prog) {s n : Nat} {S L : Nat → Nat → Int} {f : Nat → Int} {W : Nat → Bool} {c i : Int} (h : c = 0) :
    FnTr P G 52 [RD s S L W c, .int .i64 i, By n f] [] 0 (Gives (.tup [RD s S L W c, .lit .i64 6]) [] 100) := by
  have c1 := refoff_fn (P := P) (G := G) (s := s) (S := S) (L := L) (W := W) (c := c) (r := true) hP ⟨fun _ => h, fun _ => rfl⟩
  have hT : T.Ok P := hP ▸ T_ok
  refine FnTr.intro (fn := Try.f52) (c := bodyOf Try.f52) (by rw [hP]; rfl) rfl rfl hT ?_
  generalize hA : Ar.real = A
  generalize hK : Gives _ _ _ = K
  cbv
  refine CS.leR hA (c1) (.bl true) [] rfl rfl rfl ?_ ?_ ?_ ?_
  · (try cbv) <;> (repeat' (first | exact trivial | exact rfl | apply And.intro | exact fun _ => rfl | (intro _ hle; first | refine chunk_le hA rfl hle rfl ?_ | refine cat_le hA ?_ | refine upd_le hA ?_ | (try cbv)))) <;> (try (subst hA; (try simp only [natCast_eq] at *); (try (simp only [Ar.real, NV.val, Int.ofNat_eq_natCast, Int.toNat_natCast])); first | done | omega | decide | exact inR64 (by omega) (by omega) | (refine ⟨?_, ?_⟩ <;> first | omega | decide | exact inR64 (by omega) (by omega))))
  · (try cbv) <;> (repeat' (first | exact trivial | exact rfl | apply And.intro | exact fun _ => rfl | (intro _ hle; first | refine chunk_le hA rfl hle rfl ?_ | refine cat_le hA ?_ | refine upd_le hA ?_ | (try cbv)))) <;> (try (subst hA; (try simp only [natCast_eq] at *); (try (simp only [Ar.real, NV.val, Int.ofNat_eq_natCast, Int.toNat_natCast])); first | done | omega | decide | exact inR64 (by omega) (by omega) | (refine ⟨?_, ?_⟩ <;> first | omega | decide | exact inR64 (by omega) (by omega))))
  · (try cbv) <;> (repeat' (first | exact trivial | exact rfl | apply And.intro | exact fun _ => rfl | (intro _ hle; first | refine chunk_le hA rfl hle rfl ?_ | refine cat_le hA ?_ | refine upd_le hA ?_ | (try cbv))))
  cbv
  refine Fin.le hA 0 [] (.tup [RD s S L W c, .lit .i64 6]) ([]) 100 rfl rfl rfl ?_ ?_ (by rw [← hK]; exact ⟨rfl, rfl, rfl⟩)
  · (try cbv) <;> (repeat' (first | exact trivial | exact rfl | apply And.intro | exact fun _ => rfl | (intro _ hle; first | refine chunk_le hA rfl hle rfl ?_ | refine cat_le hA ?_ | refine upd_le hA ?_ | (try cbv))))
  · (try cbv) <;> (repeat' (first | exact trivial | exact rfl | apply And.intro | exact fun _ => rfl | (intro _ hle; first | refine chunk_le hA rfl hle rfl ?_ | refine cat_le hA ?_ | refine upd_le hA ?_ | (try cbv))))
theorem refwrite_arg {P : Program} {G : Gl} (hP : P = Try.prog) {s n : Nat} {S L : Nat → Nat → Int} {f : Nat → Int} {W : Nat → Bool} {c i : Int} (h : c ≠ 0) (hi : i < 0 ∨ (s : Int) ≤ i ∨ n ≠ 64) :
    FnTr P G 52 [RD s S L W c, .int .i64 i, By n f] [] 0 (Gives (.tup [RD s S L W c, .lit .i64 1]) [] 100) := by
  have c1 := refoff_fn (P := P) (G := G) (s := s) (S := S) (L := L) (W := W) (c := c) (r := false) hP ⟨fun q => (by cases q), fun q => absurd q h⟩
  by_cases h0 : i < 0
  · skip
    have hT : T.Ok P := hP ▸ T_ok
    refine FnTr.intro (fn := Try.f52) (c := bodyOf Try.f52) (by rw [hP]; rfl) rfl rfl hT ?_
    generalize hA : Ar.real = A
    generalize hK : Gives _ _ _ = K
    cbv
    refine CS.leR hA (c1) (.bl false) [] rfl rfl rfl ?_ ?_ ?_ ?_
    · (try cbv) <;> (repeat' (first | exact trivial | exact rfl | apply And.intro | exact fun _ => rfl | (intro _ hle; first | refine chunk_le hA rfl hle rfl ?_ | refine cat_le hA ?_ | refine upd_le hA ?_ | (try cbv)))) <;> (try (subst hA; (try simp only [natCast_eq] at *); (try (simp only [Ar.real, NV.val, Int.ofNat_eq_natCast, Int.toNat_natCast])); first | done | omega | decide | exact inR64 (by omega) (by omega) | (refine ⟨?_, ?_⟩ <;> first | omega | decide | exact inR64 (by omega) (by omega))))
    · (try cbv) <;> (repeat' (first | exact trivial | exact rfl | apply And.intro | exact fun _ => rfl | (intro _ hle; first | refine chunk_le hA rfl hle rfl ?_ | refine cat_le hA ?_ | refine upd_le hA ?_ | (try cbv)))) <;> (try (subst hA; (try simp only [natCast_eq] at *); (try (simp only [Ar.real, NV.val, Int.ofNat_eq_natCast, Int.toNat_natCast])); first | done | omega | decide | exact inR64 (by omega) (by omega) | (refine ⟨?_, ?_⟩ <;> first | omega | decide | exact inR64 (by omega) (by omega))))
    · (try cbv) <;> (repeat' (first | exact trivial | exact rfl | apply And.intro | exact fun _ => rfl | (intro _ hle; first | refine chunk_le hA rfl hle rfl ?_ | refine cat_le hA ?_ | refine upd_le hA ?_ | (try cbv))))
    cbv
    have k1 : A.lt i 0 = true := by subst hA; simpa [Ar.real] using h0
    first | refine testR k1 rfl ?_ | refine testL k1 rfl ?_
    cbv
    refine Fin.le hA 0 [] (.tup [RD s S L W c, .lit .i64 1]) ([]) 100 rfl rfl rfl ?_ ?_ (by rw [← hK]; exact ⟨rfl, rfl, rfl⟩)
    · (try cbv) <;> (repeat' (first | exact trivial | exact rfl | apply And.intro | exact fun _ => rfl | (intro _ hle; first | refine chunk_le hA rfl hle rfl ?_ | refine cat_le hA ?_ | refine upd_le hA ?_ | (try cbv))))
    · (try cbv) <;> (repeat' (first | exact trivial | exact rfl | apply And.intro | exact fun _ => rfl | (intro _ hle; first | refine chunk_le hA rfl hle rfl ?_ | refine cat_le hA ?_ | refine upd_le hA ?_ | (try cbv))))
  by_cases h1 : (s : Int) ≤ i
  · skip
    have hT : T.Ok P := hP ▸ T_ok
    refine FnTr.intro (fn := Try.f52) (c := bodyOf Try.f52) (by rw [hP]; rfl) rfl rfl hT ?_
    generalize hA : Ar.real = A
    generalize hK : Gives _ _ _ = K
    cbv
    refine CS.leR hA (c1) (.bl false) [] rfl rfl rfl ?_ ?_ ?_ ?_
    · (try cbv) <;> (repeat' (first | exact trivial | exact rfl | apply And.intro | exact fun _ => rfl | (intro _ hle; first | refine chunk_le hA rfl hle rfl ?_ | refine cat_le hA ?_ | refine upd_le hA ?_ | (try cbv)))) <;> (try (subst hA; (try simp only [natCast_eq] at *); (try (simp only [Ar.real, NV.val, Int.ofNat_eq_natCast, Int.toNat_natCast])); first | done | omega | decide | exact inR64 (by omega) (by omega) | (refine ⟨?_, ?_⟩ <;> first | omega | decide | exact inR64 (by omega) (by omega))))
    · (try cbv) <;> (repeat' (first | exact trivial | exact rfl | apply And.intro | exact fun _ => rfl | (intro _ hle; first | refine chunk_le hA rfl hle rfl ?_ | refine cat_le hA ?_ | refine upd_le hA ?_ | (try cbv)))) <;> (try (subst hA; (try simp only [natCast_eq] at *); (try (simp only [Ar.real, NV.val, Int.ofNat_eq_natCast, Int.toNat_natCast])); first | done | omega | decide | exact inR64 (by omega) (by omega) | (refine ⟨?_, ?_⟩ <;> first | omega | decide | exact inR64 (by omega) (by omega))))
    · (try cbv) <;> (repeat' (first | exact trivial | exact rfl | apply And.intro | exact fun _ => rfl | (intro _ hle; first | refine chunk_le hA rfl hle rfl ?_ | refine cat_le hA ?_ | refine upd_le hA ?_ | (try cbv))))
    cbv
    have k1 : A.lt i 0 = false := by subst hA; simpa [Ar.real] using h0
    have k2 : A.ge i (A.i2 s) = true := by subst hA; simp only [natCast_eq] at *; simp [Ar.real]; omega
    first | refine testR k1 rfl ?_ | refine testL k1 rfl ?_
    cbv
    first | refine testR k2 rfl ?_ | refine testL k2 rfl ?_
    cbv
    refine Fin.le hA 0 [] (.tup [RD s S L W c, .lit .i64 1]) ([]) 100 rfl rfl rfl ?_ ?_ (by rw [← hK]; exact ⟨rfl, rfl, rfl⟩)
    · (try cbv) <;> (repeat' (first | exact trivial | exact rfl | apply And.intro | exact fun _ => rfl | (intro _ hle; first | refine chunk_le hA rfl hle rfl ?_ | refine cat_le hA ?_ | refine upd_le hA ?_ | (try cbv))))
    · (try cbv) <;> (repeat' (first | exact trivial | exact rfl | apply And.intro | exact fun _ => rfl | (intro _ hle; first | refine chunk_le hA rfl hle rfl ?_ | refine cat_le hA ?_ | refine upd_le hA ?_ | (try cbv))))
  · have hn : n ≠ 64 := by omega
    have hT : T.Ok P := hP ▸ T_ok
    refine FnTr.intro (fn := Try.f52) (c := bodyOf Try.f52) (by rw [hP]; rfl) rfl rfl hT ?_
    generalize hA : Ar.real = A
    generalize hK : Gives _ _ _ = K
    cbv
    refine CS.leR hA (c1) (.bl false) [] rfl rfl rfl ?_ ?_ ?_ ?_
    · (try cbv) <;> (repeat' (first | exact trivial | exact rfl | apply And.intro | exact fun _ => rfl | (intro _ hle; first | refine chunk_le hA rfl hle rfl ?_ | refine cat_le hA ?_ | refine upd_le hA ?_ | (try cbv)))) <;> (try (subst hA; (try simp only [natCast_eq] at *); (try (simp only [Ar.real, NV.val, Int.ofNat_eq_natCast, Int.toNat_natCast])); first | done | omega | decide | exact inR64 (by omega) (by omega) | (refine ⟨?_, ?_⟩ <;> first | omega | decide | exact inR64 (by omega) (by omega))))
    · (try cbv) <;> (repeat' (first | exact trivial | exact rfl | apply And.intro | exact fun _ => rfl | (intro _ hle; first | refine chunk_le hA rfl hle rfl ?_ | refine cat_le hA ?_ | refine upd_le hA ?_ | (try cbv)))) <;> (try (subst hA; (try simp only [natCast_eq] at *); (try (simp only [Ar.real, NV.val, Int.ofNat_eq_natCast, Int.toNat_natCast])); first | done | omega | decide | exact inR64 (by omega) (by omega) | (refine ⟨?_, ?_⟩ <;> first | omega | decide | exact inR64 (by omega) (by omega))))
    · (try cbv) <;> (repeat' (first | exact trivial | exact rfl | apply And.intro | exact fun _ => rfl | (intro _ hle; first | refine chunk_le hA rfl hle rfl ?_ | refine cat_le hA ?_ | refine upd_le hA ?_ | (try cbv))))
    cbv
    have k1 : A.lt i 0 = false := by subst hA; simpa [Ar.real] using h0
    have k2 : A.ge i (A.i2 s) = false := by subst hA; simp only [natCast_eq] at *; simp [Ar.real]; omega
    have k3 : A.ne (A.i2 n) 64 = true := by subst hA; simp [Ar.real]; omega
    first | refine testR k1 rfl ?_ | refine testL k1 rfl ?_
    cbv
    first | refine testR k2 rfl ?_ | refine testL k2 rfl ?_
    cbv
    first | refine testR k3 rfl ?_ | refine testL k3 rfl ?_
    cbv
    refine Fin.le hA 0 [] (.tup [RD s S L W c, .lit .i64 1]) ([]) 100 rfl rfl rfl ?_ ?_ (by rw [← hK]; exact ⟨rfl, rfl, rfl⟩)
    · (try cbv) <;> (repeat' (first | exact trivial | exact rfl | apply And.intro | exact fun _ => rfl | (intro _ hle; first | refine chunk_le hA rfl hle rfl ?_ | refine cat_le hA ?_ | refine upd_le hA ?_ | (try cbv))))
    · (try cbv) <;> (repeat' (first | exact trivial | exact rfl | apply And.intro | exact fun _ => rfl | (intro _ hle; first | refine chunk_le hA rfl hle rfl ?_ | refine cat_le hA ?_ | refine upd_le hA ?_ | (try cbv))))
theorem refwrite_ok {P : Program} {G : Gl} (hP : P = Try.prog) {s n i : Nat} {S L L' : Nat → Nat → Int} {f : Nat → Int} {W W' : Nat → Bool} {c c' : Int} (hs : s ≤ 4096) (h : c ≠ 0) (hcr : -1 ≤ c ∧ c ≤ 9223372036854775807) (hi : i < s) (hn : n = 64)
    (hL : ∀ t x, t < s → x < 64 → L' t x = if t = i then f x else L t x) (hW : ∀ t, t < s → W' t = if t = i then true else W t) (hc : c' = if 0 < c then c - 1 else c) :
    FnTr P G 52 [RD s S L W c, .int .i64 (i : Int), By n f] [] 0 (Gives (.tup [RD s S L' W' c', .lit .i64 0]) [] 200) := by
  have c1 := refoff_fn (P := P) (G := G) (s := s) (S := S) (L := L) (W := W) (c := c) (r := false) hP ⟨fun q => (by cases q), fun q => absurd q h⟩
  have c2 := copied_own (P := P) (G := G) (S := S) (L := L) (W := W) (c := c) hP hs
  have h0 : FnTr P G 52 [RD s S L W c, .int .i64 (i : Int), By n f] [] 0 (Gives (.tup [.agg [.sl 0 1 (.l 0) (.s s), .sl 1 1 (.l 0) (.s s), .sl 2 1 (.l 0) (.s s), .int .i64 c'], .lit .i64 0]) (RH 0 1 2 s S L' W') 200) := by
    have hT : T.Ok P := hP ▸ T_ok
    refine FnTr.intro (fn := Try.f52) (c := bodyOf Try.f52) (by rw [hP]; rfl) rfl rfl hT ?_
    generalize hA : Ar.real = A
    generalize hK : Gives _ _ _ = K
    cbv
    refine CS.leR hA (c1) (.bl false) [] rfl rfl rfl ?_ ?_ ?_ ?_
    · (try cbv) <;> (repeat' (first | exact trivial | exact rfl | apply And.intro | exact fun _ => rfl | (intro _ hle; first | refine chunk_le hA rfl hle rfl ?_ | refine cat_le hA ?_ | refine upd_le hA ?_ | (try cbv)))) <;> (try (subst hA; (try simp only [natCast_eq] at *); (try (simp only [Ar.real, NV.val, Int.ofNat_eq_natCast, Int.toNat_natCast])); first | done | omega | decide | exact inR64 (by omega) (by omega) | (refine ⟨?_, ?_⟩ <;> first | omega | decide | exact inR64 (by omega) (by omega))))
    · (try cbv) <;> (repeat' (first | exact trivial | exact rfl | apply And.intro | exact fun _ => rfl | (intro _ hle; first | refine chunk_le hA rfl hle rfl ?_ | refine cat_le hA ?_ | refine upd_le hA ?_ | (try cbv)))) <;> (try (subst hA; (try simp only [natCast_eq] at *); (try (simp only [Ar.real, NV.val, Int.ofNat_eq_natCast, Int.toNat_natCast])); first | done | omega | decide | exact inR64 (by omega) (by omega) | (refine ⟨?_, ?_⟩ <;> first | omega | decide | exact inR64 (by omega) (by omega))))
    · (try cbv) <;> (repeat' (first | exact trivial | exact rfl | apply And.intro | exact fun _ => rfl | (intro _ hle; first | refine chunk_le hA rfl hle rfl ?_ | refine cat_le hA ?_ | refine upd_le hA ?_ | (try cbv))))
    cbv
    have k1 : A.lt (Int.ofNat i) 0 = false := by subst hA; simp [Ar.real]
    have k2 : A.ge (Int.ofNat i) (A.i2 s) = false := by subst hA; simp [Ar.real]; omega
    have k3 : A.ne (A.i2 n) 64 = false := by subst hA; simp [Ar.real]; omega
    first | refine testR k1 rfl ?_ | refine testL k1 rfl ?_
    cbv
    first | refine testR k2 rfl ?_ | refine testL k2 rfl ?_
    cbv
    first | refine testR k3 rfl ?_ | refine testL k3 rfl ?_
    cbv
    refine CS.le hA (c2) [] rfl rfl rfl ?_ ?_ ?_
    · (try cbv) <;> (repeat' (first | exact trivial | exact rfl | apply And.intro | exact fun _ => rfl | (intro _ hle; first | refine chunk_le hA rfl hle rfl ?_ | refine cat_le hA ?_ | refine upd_le hA ?_ | (try cbv)))) <;> (try (subst hA; (try simp only [natCast_eq] at *); (try (simp only [Ar.real, NV.val, Int.ofNat_eq_natCast, Int.toNat_natCast])); first | done | omega | decide | exact inR64 (by omega) (by omega) | (refine ⟨?_, ?_⟩ <;> first | omega | decide | exact inR64 (by omega) (by omega))))
    · (try cbv) <;> (repeat' (first | exact trivial | exact rfl | apply And.intro | exact fun _ => rfl | (intro _ hle; first | refine chunk_le hA rfl hle rfl ?_ | refine cat_le hA ?_ | refine upd_le hA ?_ | (try cbv))))
    cbv
    have kn : A.nat (Int.ofNat i) = i := by subst hA; rfl
    have hup : ∀ e, ltNV A e (.s s) → leL (leSV A 4) (updF A 1 (.s (A.nat (Int.ofNat i))) 0 [.ro 1 (.s n) fun e => (fun e => [.int .u8 (f e.val)]) (addNV A (.l 0) e)] (fun e => [.ro 1 (.s 64) fun x => [.int .u8 (L e.val x.val)]]) e) [.ro 1 (.s 64) (fun x => [.int .u8 (L' e.val x.val)])] := fun e he =>
      upd_rows (F := L) (F' := L') (v := f) hA ⟨.s n, _, rfl, hn, fun x _ => ⟨_, rfl, by subst hA; rfl⟩⟩ (fun t x h1 h2 => by rw [kn]; exact hL t x h1 h2) he rfl
    have hup2 : ∀ e, ltNV A e (.s s) → leL (leSV A 4) (updF A 1 (.s (A.nat (Int.ofNat i))) 0 [.bl true] (fun e => [.bs (W e.val)]) e) [.bs (W' e.val)] := fun e he =>
      Bls.le hA (g := W') (Bls.upd hA (A.nat (Int.ofNat i)) (v := true) rfl (Bls.base W s)) he (Nat.le_refl _) (by
        have he : e.val < s := by subst hA; exact ltNV_real.1 he
        rw [kn]; exact (hW _ he).symm)
    refine DS.runK hA hT (by rw [hP]; exact P_mixed) 4 rfl ?_
    cbv
    refine ⟨⟨(by (subst hA; (try simp only [natCast_eq] at *); (try (simp only [Ar.real, NV.val, Int.ofNat_eq_natCast, Int.toNat_natCast])); first | done | omega | decide | exact inR64 (by omega) (by omega) | (refine ⟨?_, ?_⟩ <;> first | omega | decide | exact inR64 (by omega) (by omega)))), (by (subst hA; (try simp only [natCast_eq] at *); (try (simp only [Ar.real, NV.val, Int.ofNat_eq_natCast, Int.toNat_natCast])); first | done | omega | decide | exact inR64 (by omega) (by omega) | (refine ⟨?_, ?_⟩ <;> first | omega | decide | exact inR64 (by omega) (by omega))))⟩, (by (subst hA; (try simp only [natCast_eq] at *); (try (simp only [Ar.real, NV.val, Int.ofNat_eq_natCast, Int.toNat_natCast])); first | done | omega | decide | exact inR64 (by omega) (by omega) | (refine ⟨?_, ?_⟩ <;> first | omega | decide | exact inR64 (by omega) (by omega)))), ⟨⟨(by (subst hA; (try simp only [natCast_eq] at *); (try (simp only [Ar.real, NV.val, Int.ofNat_eq_natCast, Int.toNat_natCast])); first | done | omega | decide | exact inR64 (by omega) (by omega) | (refine ⟨?_, ?_⟩ <;> first | omega | decide | exact inR64 (by omega) (by omega)))), trivial⟩, (by (subst hA; (try simp only [natCast_eq] at *); (try (simp only [Ar.real, NV.val, Int.ofNat_eq_natCast, Int.toNat_natCast])); first | done | omega | decide | exact inR64 (by omega) (by omega) | (refine ⟨?_, ?_⟩ <;> first | omega | decide | exact inR64 (by omega) (by omega))))⟩, ?_⟩
    refine DF.fin (by kernel_rfl) (by kernel_rfl) ?_
    cbv
    by_cases hc0 : 0 < c
    · have k4 : A.gt c 0 = true := by subst hA; simpa [Ar.real] using hc0
      have k5 : A.sub c 1 = c' := by subst hA; rw [hc, if_pos hc0]; rfl
      have k6 : A.inR .i64 (A.sub c 1) := by subst hA; exact inR64 (by simp only [Ar.real]; omega) (by simp only [Ar.real]; omega)
      refine ⟨(by (subst hA; (try simp only [natCast_eq] at *); (try (simp only [Ar.real, NV.val, Int.ofNat_eq_natCast, Int.toNat_natCast])); first | done | omega | decide | exact inR64 (by omega) (by omega) | (refine ⟨?_, ?_⟩ <;> first | omega | decide | exact inR64 (by omega) (by omega)))), (by (subst hA; (try simp only [natCast_eq] at *); (try (simp only [Ar.real, NV.val, Int.ofNat_eq_natCast, Int.toNat_natCast])); first | done | omega | decide | exact inR64 (by omega) (by omega) | (refine ⟨?_, ?_⟩ <;> first | omega | decide | exact inR64 (by omega) (by omega)))), ?_⟩
      first | refine testR k4 rfl ?_ | refine testL k4 rfl ?_
      cbv
      refine ⟨k6, ?_⟩
      refine Fin.le hA 0 [(20, 0), (21, 1), (22, 2)] (.tup [.agg [.sl 0 1 (.l 0) (.s s), .sl 1 1 (.l 0) (.s s), .sl 2 1 (.l 0) (.s s), .int .i64 c'], .lit .i64 0]) _ 200 rfl rfl rfl ?_ ?_ (by rw [← hK]; exact ⟨rfl, rfl, rfl⟩)
      · (try cbv) <;> (repeat' (first | exact trivial | exact rfl | apply And.intro | exact fun _ => rfl | (intro _ hle; first | refine chunk_le hA rfl hle rfl ?_ | refine cat_le hA ?_ | refine upd_le hA ?_ | (try cbv))))
        exact k5
      · (try cbv) <;> (repeat' (first | exact trivial | exact rfl | apply And.intro | exact fun _ => rfl | (intro _ hle; first | exact hup _ hle | exact hup2 _ hle | refine chunk_le hA rfl hle rfl ?_ | refine cat_le hA ?_ | refine upd_le hA ?_ | refine int_le ?_ | skip)))
    · have k4 : A.gt c 0 = false := by subst hA; simpa [Ar.real] using hc0
      refine ⟨(by (subst hA; (try simp only [natCast_eq] at *); (try (simp only [Ar.real, NV.val, Int.ofNat_eq_natCast, Int.toNat_natCast])); first | done | omega | decide | exact inR64 (by omega) (by omega) | (refine ⟨?_, ?_⟩ <;> first | omega | decide | exact inR64 (by omega) (by omega)))), (by (subst hA; (try simp only [natCast_eq] at *); (try (simp only [Ar.real, NV.val, Int.ofNat_eq_natCast, Int.toNat_natCast])); first | done | omega | decide | exact inR64 (by omega) (by omega) | (refine ⟨?_, ?_⟩ <;> first | omega | decide | exact inR64 (by omega) (by omega)))), ?_⟩
      first | refine testR k4 rfl ?_ | refine testL k4 rfl ?_
      cbv
      refine Fin.le hA 0 [(20, 0), (21, 1), (22, 2)] (.tup [.agg [.sl 0 1 (.l 0) (.s s), .sl 1 1 (.l 0) (.s s), .sl 2 1 (.l 0) (.s s), .int .i64 c'], .lit .i64 0]) _ 200 rfl rfl rfl ?_ ?_ (by rw [← hK]; exact ⟨rfl, rfl, rfl⟩)
      · (try cbv) <;> (repeat' (first | exact trivial | exact rfl | apply And.intro | exact fun _ => rfl | (intro _ hle; first | refine chunk_le hA rfl hle rfl ?_ | refine cat_le hA ?_ | refine upd_le hA ?_ | (try cbv))))
        rw [hc, if_neg hc0]
      · (try cbv) <;> (repeat' (first | exact trivial | exact rfl | apply And.intro | exact fun _ => rfl | (intro _ hle; first | exact hup _ hle | exact hup2 _ hle | refine chunk_le hA rfl hle rfl ?_ | refine cat_le hA ?_ | refine upd_le hA ?_ | refine int_le ?_ | skip)))
  generalize hA : Ar.real = A
  refine FnTr.dat hA h0 _ _ ?_
  (try cbv) <;> (repeat' (first | exact trivial | exact rfl | apply And.intro | exact fun _ => rfl | (intro _ hle; first | refine chunk_le hA rfl hle rfl ?_ | refine cat_le hA ?_ | refine upd_le hA ?_ | refine int_le ?_ | skip)))
  all_goals (subst hA; (try simp only [natCast_eq] at *); (try (simp only [Ar.real, NV.val, Int.ofNat_eq_natCast, Int.toNat_natCast])); first | done | omega | decide | exact inR64 (by omega) (by omega) | (refine ⟨?_, ?_⟩ <;> first | omega | decide | exact inR64 (by omega) (by omega)))

theorem refstop_fn {P : Program} {G : Gl} (hP : P = Try.prog) {s : Nat} {S L : Nat → Nat → Int} {W : Nat → Bool} {c c' n : Int} (hc : c' = if c = 0 then c else if n < 0 then -1 else n) :
    FnTr P G 47 [RD s S L W c, .int .i64 n] [] 0 (Gives (RD s S L W c') [] 20) := by
  by_cases h0 : c = 0
  · have c1 := refoff_fn (P := P) (G := G) (s := s) (S := S) (L := L) (W := W) (c := c) (r := true) hP ⟨fun _ => h0, fun _ => rfl⟩
    have hcc : c' = c := by rw [hc, if_pos h0]
    subst hcc
    have hT : T.Ok P := hP ▸ T_ok
    refine FnTr.intro (fn := Try.f47) (c := bodyOf Try.f47) (by rw [hP]; rfl) rfl rfl hT ?_
    generalize hA : Ar.real = A
    generalize hK : Gives _ _ _ = K
    cbv
    refine CS.leR hA (c1) (.bl true) [] rfl rfl rfl ?_ ?_ ?_ ?_
    · (try cbv) <;> (repeat' (first | exact trivial | exact rfl | apply And.intro | exact fun _ => rfl | (intro _ hle; first | refine chunk_le hA rfl hle rfl ?_ | refine cat_le hA ?_ | refine upd_le hA ?_ | (try cbv)))) <;> (try (subst hA; (try simp only [natCast_eq] at *); (try (simp only [Ar.real, NV.val, Int.ofNat_eq_natCast, Int.toNat_natCast])); first | done | omega | decide | exact inR64 (by omega) (by omega) | (refine ⟨?_, ?_⟩ <;> first | omega | decide | exact inR64 (by omega) (by omega))))
    · (try cbv) <;> (repeat' (first | exact trivial | exact rfl | apply And.intro | exact fun _ => rfl | (intro _ hle; first | refine chunk_le hA rfl hle rfl ?_ | refine cat_le hA ?_ | refine upd_le hA ?_ | (try cbv)))) <;> (try (subst hA; (try simp only [natCast_eq] at *); (try (simp only [Ar.real, NV.val, Int.ofNat_eq_natCast, Int.toNat_natCast])); first | done | omega | decide | exact inR64 (by omega) (by omega) | (refine ⟨?_, ?_⟩ <;> first | omega | decide | exact inR64 (by omega) (by omega))))
    · (try cbv) <;> (repeat' (first | exact trivial | exact rfl | apply And.intro | exact fun _ => rfl | (intro _ hle; first | refine chunk_le hA rfl hle rfl ?_ | refine cat_le hA ?_ | refine upd_le hA ?_ | (try cbv))))
    cbv
    refine Fin.le hA 0 [] (RD s S L W c') ([]) 20 rfl rfl rfl ?_ ?_ (by rw [← hK]; exact ⟨rfl, rfl, rfl⟩)
    · (try cbv) <;> (repeat' (first | exact trivial | exact rfl | apply And.intro | exact fun _ => rfl | (intro _ hle; first | refine chunk_le hA rfl hle rfl ?_ | refine cat_le hA ?_ | refine upd_le hA ?_ | (try cbv))))
    · (try cbv) <;> (repeat' (first | exact trivial | exact rfl | apply And.intro | exact fun _ => rfl | (intro _ hle; first | refine chunk_le hA rfl hle rfl ?_ | refine cat_le hA ?_ | refine upd_le hA ?_ | (try cbv))))
  · have c1 := refoff_fn (P := P) (G := G) (s := s) (S := S) (L := L) (W := W) (c := c) (r := false) hP ⟨fun q => (by cases q), fun q => absurd q h0⟩
    rw [if_neg h0] at hc
    by_cases h1 : n < 0
    · rw [if_pos h1] at hc
      have hT : T.Ok P := hP ▸ T_ok
      refine FnTr.intro (fn := Try.f47) (c := bodyOf Try.f47) (by rw [hP]; rfl) rfl rfl hT ?_
      generalize hA : Ar.real = A
      generalize hK : Gives _ _ _ = K
      cbv
      refine CS.leR hA (c1) (.bl false) [] rfl rfl rfl ?_ ?_ ?_ ?_
      · (try cbv) <;> (repeat' (first | exact trivial | exact rfl | apply And.intro | exact fun _ => rfl | (intro _ hle; first | refine chunk_le hA rfl hle rfl ?_ | refine cat_le hA ?_ | refine upd_le hA ?_ | (try cbv)))) <;> (try (subst hA; (try simp only [natCast_eq] at *); (try (simp only [Ar.real, NV.val, Int.ofNat_eq_natCast, Int.toNat_natCast])); first | done | omega | decide | exact inR64 (by omega) (by omega) | (refine ⟨?_, ?_⟩ <;> first | omega | decide | exact inR64 (by omega) (by omega))))
      · (try cbv) <;> (repeat' (first | exact trivial | exact rfl | apply And.intro | exact fun _ => rfl | (intro _ hle; first | refine chunk_le hA rfl hle rfl ?_ | refine cat_le hA ?_ | refine upd_le hA ?_ | (try cbv)))) <;> (try (subst hA; (try simp only [natCast_eq] at *); (try (simp only [Ar.real, NV.val, Int.ofNat_eq_natCast, Int.toNat_natCast])); first | done | omega | decide | exact inR64 (by omega) (by omega) | (refine ⟨?_, ?_⟩ <;> first | omega | decide | exact inR64 (by omega) (by omega))))
      · (try cbv) <;> (repeat' (first | exact trivial | exact rfl | apply And.intro | exact fun _ => rfl | (intro _ hle; first | refine chunk_le hA rfl hle rfl ?_ | refine cat_le hA ?_ | refine upd_le hA ?_ | (try cbv))))
      cbv
      have k1 : A.lt n 0 = true := by subst hA; simpa [Ar.real] using h1
      first | refine testR k1 rfl ?_ | refine testL k1 rfl ?_
      cbv
      refine Fin.le hA 0 [] (RD s S L W c') ([]) 20 rfl rfl rfl ?_ ?_ (by rw [← hK]; exact ⟨rfl, rfl, rfl⟩)
      · (try cbv) <;> (repeat' (first | exact trivial | exact rfl | apply And.intro | exact fun _ => rfl | (intro _ hle; first | refine chunk_le hA rfl hle rfl ?_ | refine cat_le hA ?_ | refine upd_le hA ?_ | (try cbv))))
        exact hc.symm
      · (try cbv) <;> (repeat' (first | exact trivial | exact rfl | apply And.intro | exact fun _ => rfl | (intro _ hle; first | refine chunk_le hA rfl hle rfl ?_ | refine cat_le hA ?_ | refine upd_le hA ?_ | (try cbv))))
    · rw [if_neg h1] at hc
      have hT : T.Ok P := hP ▸ T_ok
      refine FnTr.intro (fn := Try.f47) (c := bodyOf Try.f47) (by rw [hP]; rfl) rfl rfl hT ?_
      generalize hA : Ar.real = A
      generalize hK : Gives _ _ _ = K
      cbv
      refine CS.leR hA (c1) (.bl false) [] rfl rfl rfl ?_ ?_ ?_ ?_
      · (try cbv) <;> (repeat' (first | exact trivial | exact rfl | apply And.intro | exact fun _ => rfl | (intro _ hle; first | refine chunk_le hA rfl hle rfl ?_ | refine cat_le hA ?_ | refine upd_le hA ?_ | (try cbv)))) <;> (try (subst hA; (try simp only [natCast_eq] at *); (try (simp only [Ar.real, NV.val, Int.ofNat_eq_natCast, Int.toNat_natCast])); first | done | omega | decide | exact inR64 (by omega) (by omega) | (refine ⟨?_, ?_⟩ <;> first | omega | decide | exact inR64 (by omega) (by omega))))
      · (try cbv) <;> (repeat' (first | exact trivial | exact rfl | apply And.intro | exact fun _ => rfl | (intro _ hle; first | refine chunk_le hA rfl hle rfl ?_ | refine cat_le hA ?_ | refine upd_le hA ?_ | (try cbv)))) <;> (try (subst hA; (try simp only [natCast_eq] at *); (try (simp only [Ar.real, NV.val, Int.ofNat_eq_natCast, Int.toNat_natCast])); first | done | omega | decide | exact inR64 (by omega) (by omega) | (refine ⟨?_, ?_⟩ <;> first | omega | decide | exact inR64 (by omega) (by omega))))
      · (try cbv) <;> (repeat' (first | exact trivial | exact rfl | apply And.intro | exact fun _ => rfl | (intro _ hle; first | refine chunk_le hA rfl hle rfl ?_ | refine cat_le hA ?_ | refine upd_le hA ?_ | (try cbv))))
      cbv
      have k1 : A.lt n 0 = false := by subst hA; simpa [Ar.real] using h1
      first | refine testR k1 rfl ?_ | refine testL k1 rfl ?_
      cbv
      refine Fin.le hA 0 [] (RD s S L W c') ([]) 20 rfl rfl rfl ?_ ?_ (by rw [← hK]; exact ⟨rfl, rfl, rfl⟩)
      · (try cbv) <;> (repeat' (first | exact trivial | exact rfl | apply And.intro | exact fun _ => rfl | (intro _ hle; first | refine chunk_le hA rfl hle rfl ?_ | refine cat_le hA ?_ | refine upd_le hA ?_ | (try cbv))))
        exact hc.symm
      · (try cbv) <;> (repeat' (first | exact trivial | exact rfl | apply And.intro | exact fun _ => rfl | (intro _ hle; first | refine chunk_le hA rfl hle rfl ?_ | refine cat_le hA ?_ | refine upd_le hA ?_ | (try cbv))))
theorem refflush_off {P : Program} {G : Gl} (hP : P = Try.prog) {s : Nat} {S L : Nat → Nat → Int} {W : Nat → Bool} {c : Int} (h : c = 0) :
    FnTr P G 46 [RD s S L W c] [] 0 (Gives (.tup [RD s S L W c, .lit .i64 6]) [] 100) := by
  have c1 := refoff_fn (P := P) (G := G) (s := s) (S := S) (L := L) (W := W) (c := c) (r := true) hP ⟨fun _ => h, fun _ => rfl⟩
  have hT : T.Ok P := hP ▸ T_ok
  refine FnTr.intro (fn := Try.f46) (c := bodyOf Try.f46) (by rw [hP]; rfl) rfl rfl hT ?_
  generalize hA : Ar.real = A
  generalize hK : Gives _ _ _ = K
  cbv
  refine CS.leR hA (c1) (.bl true) [] rfl rfl rfl ?_ ?_ ?_ ?_
  · (try cbv) <;> (repeat' (first | exact trivial | exact rfl | apply And.intro | exact fun _ => rfl | (intro _ hle; first | refine chunk_le hA rfl hle rfl ?_ | refine cat_le hA ?_ | refine upd_le hA ?_ | (try cbv)))) <;> (try (subst hA; (try simp only [natCast_eq] at *); (try (simp only [Ar.real, NV.val, Int.ofNat_eq_natCast, Int.toNat_natCast])); first | done | omega | decide | exact inR64 (by omega) (by omega) | (refine ⟨?_, ?_⟩ <;> first | omega | decide | exact inR64 (by omega) (by omega))))
  · (try cbv) <;> (repeat' (first | exact trivial | exact rfl | apply And.intro | exact fun _ => rfl | (intro _ hle; first | refine chunk_le hA rfl hle rfl ?_ | refine cat_le hA ?_ | refine upd_le hA ?_ | (try cbv)))) <;> (try (subst hA; (try simp only [natCast_eq] at *); (try (simp only [Ar.real, NV.val, Int.ofNat_eq_natCast, Int.toNat_natCast])); first | done | omega | decide | exact inR64 (by omega) (by omega) | (refine ⟨?_, ?_⟩ <;> first | omega | decide | exact inR64 (by omega) (by omega))))
  · (try cbv) <;> (repeat' (first | exact trivial | exact rfl | apply And.intro | exact fun _ => rfl | (intro _ hle; first | refine chunk_le hA rfl hle rfl ?_ | refine cat_le hA ?_ | refine upd_le hA ?_ | (try cbv))))
  cbv
  refine Fin.le hA 0 [] (.tup [RD s S L W c, .lit .i64 6]) ([]) 100 rfl rfl rfl ?_ ?_ (by rw [← hK]; exact ⟨rfl, rfl, rfl⟩)
  · (try cbv) <;> (repeat' (first | exact trivial | exact rfl | apply And.intro | exact fun _ => rfl | (intro _ hle; first | refine chunk_le hA rfl hle rfl ?_ | refine cat_le hA ?_ | refine upd_le hA ?_ | (try cbv))))
  · (try cbv) <;> (repeat' (first | exact trivial | exact rfl | apply And.intro | exact fun _ => rfl | (intro _ hle; first | refine chunk_le hA rfl hle rfl ?_ | refine cat_le hA ?_ | refine upd_le hA ?_ | (try cbv))))
theorem refflush_ok {P : Program} {G : Gl} (hP : P = Try.prog) {s : Nat} {S L S' L' : Nat → Nat → Int} {W W' : Nat → Bool} {c c' : Int} (hs : s ≤ 4096) (h : c ≠ 0) (hcr : -1 ≤ c ∧ c ≤ 9223372036854775807)
    (hS : ∀ t x, t < s → x < 64 → S' t x = L t x) (hL : ∀ t x, t < s → x < 64 → L' t x = L t x) (hW : ∀ t, W' t = false) (hc : c' = if 0 < c then c - 1 else c) :
    FnTr P G 46 [RD s S L W c] [] 0 (Gives (.tup [RD s S' L' W' c', .lit .i64 0]) [] 200) := by
  have c1 := refoff_fn (P := P) (G := G) (s := s) (S := S) (L := L) (W := W) (c := c) (r := false) hP ⟨fun q => (by cases q), fun q => absurd q h⟩
  have c2 := copied_own (P := P) (G := G) (S := S) (L := L) (W := W) (c := c) hP hs
  obtain ⟨Si, hSi⟩ : ∃ Si : Nat → Nat → Nat → Int, ∀ i t x, Si i t x = if t < i then L t x else S t x := ⟨_, fun _ _ _ => rfl⟩
  obtain ⟨Wi, hWi⟩ : ∃ Wi : Nat → Nat → Bool, ∀ i t, Wi i t = if t < i then false else W t := ⟨_, fun _ _ => rfl⟩
  have s0 : ∀ t x, S t x = Si 0 t x := fun t x => by rw [hSi, if_neg (by omega)]
  have w0 : ∀ t, W t = Wi 0 t := fun t => by rw [hWi, if_neg (by omega)]
  have sS : ∀ i t x, Si (i + 1) t x = if t = i then L i x else Si i t x := fun i t x => by
    rw [hSi, hSi]
    by_cases q : t = i
    · subst q; rw [if_pos (by omega), if_pos rfl]
    · rw [if_neg q]
      by_cases q2 : t < i
      · rw [if_pos q2, if_pos (by omega)]
      · rw [if_neg q2, if_neg (by omega)]
  have wS : ∀ i t, Wi (i + 1) t = if t = i then false else Wi i t := fun i t => by
    rw [hWi, hWi]
    by_cases q : t = i
    · subst q; rw [if_pos (by omega), if_pos rfl]
    · rw [if_neg q]
      by_cases q2 : t < i
      · rw [if_pos q2, if_pos (by omega)]
      · rw [if_neg q2, if_neg (by omega)]
  have sE : ∀ t x, t < s → x < 64 → Si s t x = S' t x := fun t x h1 h2 => by rw [hSi, if_pos h1, hS t x h1 h2]
  have wE : ∀ t, t < s → Wi s t = W' t := fun t h1 => by rw [hWi, if_pos h1, hW]
  clear hSi hWi
  have h0 : FnTr P G 46 [RD s S L W c] [] 0 (Gives (.tup [.agg [.sl 0 1 (.l 0) (.s s), .sl 1 1 (.l 0) (.s s), .sl 2 1 (.l 0) (.s s), .int .i64 c'], .lit .i64 0]) (RH 0 1 2 s S' L' W') 200) := by
    have hT : T.Ok P := hP ▸ T_ok
    refine FnTr.intro (fn := Try.f46) (c := bodyOf Try.f46) (by rw [hP]; rfl) rfl rfl hT ?_
    generalize hA : Ar.real = A
    generalize hK : Gives _ _ _ = K
    cbv
    refine CS.leR hA (c1) (.bl false) [] rfl rfl rfl ?_ ?_ ?_ ?_
    · (try cbv) <;> (repeat' (first | exact trivial | exact rfl | apply And.intro | exact fun _ => rfl | (intro _ hle; first | refine chunk_le hA rfl hle rfl ?_ | refine cat_le hA ?_ | refine upd_le hA ?_ | (try cbv)))) <;> (try (subst hA; (try simp only [natCast_eq] at *); (try (simp only [Ar.real, NV.val, Int.ofNat_eq_natCast, Int.toNat_natCast])); first | done | omega | decide | exact inR64 (by omega) (by omega) | (refine ⟨?_, ?_⟩ <;> first | omega | decide | exact inR64 (by omega) (by omega))))
    · (try cbv) <;> (repeat' (first | exact trivial | exact rfl | apply And.intro | exact fun _ => rfl | (intro _ hle; first | refine chunk_le hA rfl hle rfl ?_ | refine cat_le hA ?_ | refine upd_le hA ?_ | (try cbv)))) <;> (try (subst hA; (try simp only [natCast_eq] at *); (try (simp only [Ar.real, NV.val, Int.ofNat_eq_natCast, Int.toNat_natCast])); first | done | omega | decide | exact inR64 (by omega) (by omega) | (refine ⟨?_, ?_⟩ <;> first | omega | decide | exact inR64 (by omega) (by omega))))
    · (try cbv) <;> (repeat' (first | exact trivial | exact rfl | apply And.intro | exact fun _ => rfl | (intro _ hle; first | refine chunk_le hA rfl hle rfl ?_ | refine cat_le hA ?_ | refine upd_le hA ?_ | (try cbv))))
    cbv
    refine CS.le hA (c2) [] rfl rfl rfl ?_ ?_ ?_
    · (try cbv) <;> (repeat' (first | exact trivial | exact rfl | apply And.intro | exact fun _ => rfl | (intro _ hle; first | refine chunk_le hA rfl hle rfl ?_ | refine cat_le hA ?_ | refine upd_le hA ?_ | (try cbv)))) <;> (try (subst hA; (try simp only [natCast_eq] at *); (try (simp only [Ar.real, NV.val, Int.ofNat_eq_natCast, Int.toNat_natCast])); first | done | omega | decide | exact inR64 (by omega) (by omega) | (refine ⟨?_, ?_⟩ <;> first | omega | decide | exact inR64 (by omega) (by omega))))
    · (try cbv) <;> (repeat' (first | exact trivial | exact rfl | apply And.intro | exact fun _ => rfl | (intro _ hle; first | refine chunk_le hA rfl hle rfl ?_ | refine cat_le hA ?_ | refine upd_le hA ?_ | (try cbv))))
    cbv
    refine LS.leU hT hA 47 (fun (i : Nat) => [(5, .int .i64 (i : Int))]) [] (fun i => [(6, .row 23 1 (.s s) (fun e => [.ro 1 (.s 64) (fun x => [.int .u8 (Si i e.val x.val)])])), (8, .row 4 1 (.s s) (fun e => [.bs (Wi i e.val)]))]) (fun i => i ≤ s) (fun i => s - i) 0 [] rfl rfl ?_ ?_ ?_
    · (try cbv) <;> (repeat' (first | exact trivial | exact rfl | apply And.intro | exact fun _ => rfl | (intro _ hle; first | refine chunk_le hA rfl hle rfl ?_ | refine cat_le hA ?_ | refine upd_le hA ?_ | refine int_le ?_ | skip)))
      all_goals first | exact s0 _ _ | exact w0 _ | (subst hA; (try simp only [natCast_eq] at *); (try (simp only [Ar.real, NV.val, Int.ofNat_eq_natCast, Int.toNat_natCast])); first | done | omega | decide | exact inR64 (by omega) (by omega) | (refine ⟨?_, ?_⟩ <;> first | omega | decide | exact inR64 (by omega) (by omega)))
    · exact Nat.zero_le _
    · intro R hR i hi
      cbv
      refine ⟨fun q1 => ?_, fun q1 => ?_⟩
      · have him : i < s := by clear hR; subst hA; simp [Ar.real] at q1; omega
        have kn : A.nat (Int.ofNat i) = i := by clear hR; subst hA; rfl
        cbv
        have hup : ∀ e, ltNV A e (.s s) → leL (leSV A 4) (updF A 1 (.s (A.nat (Int.ofNat i))) 0 [.ro 1 (.s 64) fun x => [.int .u8 (L (A.nat (Int.ofNat i)) x.val)]] (fun e => [.ro 1 (.s 64) fun x => [.int .u8 (Si i e.val x.val)]]) e) [.ro 1 (.s 64) (fun x => [.int .u8 (Si (i + 1) e.val x.val)])] := fun e he =>
          upd_rows (F := Si i) (F' := Si (i + 1)) (v := L i) hA (by rw [kn]; exact RowOf.base .u8 64 (L i)) (fun t x h1 h2 => by rw [kn]; exact sS i t x) he rfl
        have hup2 : ∀ e, ltNV A e (.s s) → leL (leSV A 4) (updF A 1 (.s (A.nat (Int.ofNat i))) 0 [.bl false] (fun e => [.bs (Wi i e.val)]) e) [.bs (Wi (i + 1) e.val)] := fun e he =>
          Bls.le hA (g := Wi (i + 1)) (Bls.upd hA (A.nat (Int.ofNat i)) (v := false) rfl (Bls.base (Wi i) s)) he (Nat.le_refl _) (by
            rw [kn]; exact (wS _ _).symm)
        refine DS.runK hA hT (by rw [hP]; exact P_mixed) 4 rfl ?_
        cbv
        refine ⟨(by (subst hA; (try simp only [natCast_eq] at *); (try (simp only [Ar.real, NV.val, Int.ofNat_eq_natCast, Int.toNat_natCast])); first | done | omega | decide | exact inR64 (by omega) (by omega) | (refine ⟨?_, ?_⟩ <;> first | omega | decide | exact inR64 (by omega) (by omega)))), (by (subst hA; (try simp only [natCast_eq] at *); (try (simp only [Ar.real, NV.val, Int.ofNat_eq_natCast, Int.toNat_natCast])); first | done | omega | decide | exact inR64 (by omega) (by omega) | (refine ⟨?_, ?_⟩ <;> first | omega | decide | exact inR64 (by omega) (by omega)))), (by (subst hA; (try simp only [natCast_eq] at *); (try (simp only [Ar.real, NV.val, Int.ofNat_eq_natCast, Int.toNat_natCast])); first | done | omega | decide | exact inR64 (by omega) (by omega) | (refine ⟨?_, ?_⟩ <;> first | omega | decide | exact inR64 (by omega) (by omega)))), (by (subst hA; (try simp only [natCast_eq] at *); (try (simp only [Ar.real, NV.val, Int.ofNat_eq_natCast, Int.toNat_natCast])); first | done | omega | decide | exact inR64 (by omega) (by omega) | (refine ⟨?_, ?_⟩ <;> first | omega | decide | exact inR64 (by omega) (by omega)))), ?_⟩
        refine DF.fin (by kernel_rfl) (by kernel_rfl) ?_
        cbv
        refine ⟨(by (subst hA; (try simp only [natCast_eq] at *); (try (simp only [Ar.real, NV.val, Int.ofNat_eq_natCast, Int.toNat_natCast])); first | done | omega | decide | exact inR64 (by omega) (by omega) | (refine ⟨?_, ?_⟩ <;> first | omega | decide | exact inR64 (by omega) (by omega)))), (by (subst hA; (try simp only [natCast_eq] at *); (try (simp only [Ar.real, NV.val, Int.ofNat_eq_natCast, Int.toNat_natCast])); first | done | omega | decide | exact inR64 (by omega) (by omega) | (refine ⟨?_, ?_⟩ <;> first | omega | decide | exact inR64 (by omega) (by omega)))), (by (subst hA; (try simp only [natCast_eq] at *); (try (simp only [Ar.real, NV.val, Int.ofNat_eq_natCast, Int.toNat_natCast])); first | done | omega | decide | exact inR64 (by omega) (by omega) | (refine ⟨?_, ?_⟩ <;> first | omega | decide | exact inR64 (by omega) (by omega)))), hR _ _ ⟨i + 1, 47, [], rfl, rfl, ?_, him, (by show s - (i + 1) < s - i; omega)⟩⟩
        clear hR
        (try cbv) <;> (repeat' (first | exact trivial | exact rfl | apply And.intro | exact fun _ => rfl | (intro _ hle; first | exact hup _ hle | exact hup2 _ hle | refine chunk_le hA rfl hle rfl ?_ | refine cat_le hA ?_ | refine upd_le hA ?_ | refine int_le ?_ | skip)))
        all_goals (subst hA; (try simp only [natCast_eq] at *); (try (simp only [Ar.real, NV.val, Int.ofNat_eq_natCast, Int.toNat_natCast])); first | done | omega | decide | exact inR64 (by omega) (by omega) | (refine ⟨?_, ?_⟩ <;> first | omega | decide | exact inR64 (by omega) (by omega)))
      · have him : i = s := by clear hR; subst hA; simp [Ar.real] at q1; omega
        subst him
        clear hR
        cbv
        have hS2 : ∀ e, ltNV A e (.s i) → leL (leSV A 4) [.ro 1 (.s 64) (fun x => [.int .u8 (Si i e.val x.val)])] [.ro 1 (.s 64) (fun x => [.int .u8 (S' e.val x.val)])] := fun e he =>
          Rws.le hA (f := Si i) (g := S') (len := 64) (n := i) (Rws.base .u8 64 (Si i) i) he (Nat.le_refl _) rfl (fun x hx => sE _ x (by subst hA; exact ltNV_real.1 he) hx)
        have hL2 : ∀ e, ltNV A e (.s i) → leL (leSV A 4) [.ro 1 (.s 64) (fun x => [.int .u8 (L e.val x.val)])] [.ro 1 (.s 64) (fun x => [.int .u8 (L' e.val x.val)])] := fun e he =>
          Rws.le hA (f := L) (g := L') (len := 64) (n := i) (Rws.base .u8 64 L i) he (Nat.le_refl _) rfl (fun x hx => (hL _ x (by subst hA; exact ltNV_real.1 he) hx).symm)
        have hW2 : ∀ e, ltNV A e (.s i) → leL (leSV A 4) [.bs (Wi i e.val)] [.bs (W' e.val)] := fun e he =>
          Bls.le hA (f := Wi i) (g := W') (Bls.base (Wi i) i) he (Nat.le_refl _) (wE _ (by subst hA; exact ltNV_real.1 he))
        by_cases hc0 : 0 < c
        · have k4 : A.gt c 0 = true := by subst hA; simpa [Ar.real] using hc0
          have k5 : A.sub c 1 = c' := by subst hA; rw [hc, if_pos hc0]; rfl
          have k6 : A.inR .i64 (A.sub c 1) := by subst hA; exact inR64 (by simp only [Ar.real]; omega) (by simp only [Ar.real]; omega)
          first | refine testR k4 rfl ?_ | refine testL k4 rfl ?_
          cbv
          refine ⟨k6, ?_⟩
          refine Fin.le hA 0 [(6, 0), (7, 1), (8, 2)] (.tup [.agg [.sl 0 1 (.l 0) (.s i), .sl 1 1 (.l 0) (.s i), .sl 2 1 (.l 0) (.s i), .int .i64 c'], .lit .i64 0]) _ 200 rfl rfl rfl ?_ ?_ (by rw [← hK]; exact ⟨rfl, rfl, rfl⟩)
          · (try cbv) <;> (repeat' (first | exact trivial | exact rfl | apply And.intro | exact fun _ => rfl | (intro _ hle; first | refine chunk_le hA rfl hle rfl ?_ | refine cat_le hA ?_ | refine upd_le hA ?_ | (try cbv))))
            exact k5
          · (try cbv) <;> (repeat' (first | exact trivial | exact rfl | apply And.intro | exact fun _ => rfl | (intro _ hle; first | exact hS2 _ hle | exact hL2 _ hle | exact hW2 _ hle | refine chunk_le hA rfl hle rfl ?_ | refine cat_le hA ?_ | refine upd_le hA ?_ | refine int_le ?_ | skip)))
        · have k4 : A.gt c 0 = false := by subst hA; simpa [Ar.real] using hc0
          first | refine testR k4 rfl ?_ | refine testL k4 rfl ?_
          cbv
          refine Fin.le hA 0 [(6, 0), (7, 1), (8, 2)] (.tup [.agg [.sl 0 1 (.l 0) (.s i), .sl 1 1 (.l 0) (.s i), .sl 2 1 (.l 0) (.s i), .int .i64 c'], .lit .i64 0]) _ 200 rfl rfl rfl ?_ ?_ (by rw [← hK]; exact ⟨rfl, rfl, rfl⟩)
          · (try cbv) <;> (repeat' (first | exact trivial | exact rfl | apply And.intro | exact fun _ => rfl | (intro _ hle; first | refine chunk_le hA rfl hle rfl ?_ | refine cat_le hA ?_ | refine upd_le hA ?_ | (try cbv))))
            rw [hc, if_neg hc0]
          · (try cbv) <;> (repeat' (first | exact trivial | exact rfl | apply And.intro | exact fun _ => rfl | (intro _ hle; first | exact hS2 _ hle | exact hL2 _ hle | exact hW2 _ hle | refine chunk_le hA rfl hle rfl ?_ | refine cat_le hA ?_ | refine upd_le hA ?_ | refine int_le ?_ | skip)))
  generalize hA : Ar.real = A
  refine FnTr.dat hA h0 _ _ ?_
  (try cbv) <;> (repeat' (first | exact trivial | exact rfl | apply And.intro | exact fun _ => rfl | (intro _ hle; first | refine chunk_le hA rfl hle rfl ?_ | refine cat_le hA ?_ | refine upd_le hA ?_ | refine int_le ?_ | skip)))
  all_goals (subst hA; (try simp only [natCast_eq] at *); (try (simp only [Ar.real, NV.val, Int.ofNat_eq_natCast, Int.toNat_natCast])); first | done | omega | decide | exact inR64 (by omega) (by omega) | (refine ⟨?_, ?_⟩ <;> first | omega | decide | exact inR64 (by omega) (by omega)))
end Go.Proofs.Ytnjjgipblimbfaa.Dsk
