/-
  Disks: the law DiskSure, as the code runs it.
-/
import Derived.Test.YtnjjgipblimbfaaDskF26
set_option linter.unusedVariables false
set_option linter.unusedSimpArgs false
namespace Go.Proofs.Ytnjjgipblimbfaa.Dsk
open Go.Eng
open Go.DskLaw (q64 secV secV_none' secV_some' Sim crashP crashP_eq secC keptB secV_all crashP_none sure_front)
set_option maxRecDepth 100000
set_option maxHeartbeats 4000000
set_option linter.unusedVariables false

/-- What waits is bytes of sectors below 6. -/
structure Wt6 (L : Int → Option (Nat → Int)) : Prop where
  key : ∀ k g, L k = some g → 0 ≤ k ∧ k < ((6 : Nat) : Int)
  lb : ∀ k g, L k = some g → ∀ x, x < 64 → 0 ≤ g x ∧ g x ≤ 255
theorem sure_law {P : Program} {G : Gl} (hP : P = Try.prog) {n m nk : Nat} {l mo : Nat → OpD} {ks kb : Nat → Int} (hn : n ≤ 9223372036854775807) (hm : m ≤ 9223372036854775807) (hnk : nk ≤ 9223372036854775807)
    (hl : ∀ i, i < n → ((l i).bn ≤ 9223372036854775807 ∧ (l i).kn ≤ 9223372036854775807) ∧ (l i).a ≤ 9223372036854775807 ∧ ∀ x, x < (l i).bn → 0 ≤ (l i).b x ∧ (l i).b x ≤ 255)
    (hmo : ∀ i, i < m → ((mo i).bn ≤ 9223372036854775807 ∧ (mo i).kn ≤ 9223372036854775807) ∧ (mo i).a ≤ 9223372036854775807 ∧ ∀ x, x < (mo i).bn → 0 ≤ (mo i).b x ∧ (mo i).b x ≤ 255) :
    FnTr P G 8 [OpsS n l, OpsS m mo, .ro 2 (.s nk) (fun e => [.int .i64 (ks e.val), .int .i64 (kb e.val)])] [] 0 (Gives (.bl true) [] 9000) := by
  have cl := lives25_fn (P := P) (G := G) hP
  obtain ⟨r1, hr1⟩ := lightD_ex n l
  obtain ⟨r2, hr2⟩ := lightD_ex m mo
  have c0 := light25_fn (P := P) (G := G) (n := n) (l := l) (r := r1) hP hn (fun i hi => (hl i hi).1) hr1
  have c0' := light25_fn (P := P) (G := G) (n := m) (l := mo) (r := r2) hP hm (fun i hi => (hmo i hi).1) hr2
  cases r1 with
  | false =>
    clear hl hr1 hmo hr2
    have hT : T.Ok P := hP ▸ T_ok
    refine FnTr.intro (fn := Try.f8) (c := bodyOf Try.f8) (by rw [hP]; rfl) rfl rfl hT ?_
    generalize hA : Ar.real = A
    generalize hK : Gives _ _ _ = K
    cbv
    refine CS.leR hA (c0) (.bl false) [] rfl rfl rfl ?_ ?_ ?_ ?_
    · (try cbv) <;> (repeat' (first | exact trivial | exact rfl | apply And.intro | exact fun _ => rfl | (intro _ hle; first | refine chunk_le hA rfl hle rfl ?_ | refine cat_le hA ?_ | refine upd_le hA ?_ | (try cbv)))) <;> (try (subst hA; (try simp only [natCast_eq] at *); (try (simp only [Ar.real, NV.val, Int.ofNat_eq_natCast, Int.toNat_natCast])); first | done | omega | decide | exact inR64 (by omega) (by omega) | (refine ⟨?_, ?_⟩ <;> first | omega | decide | exact inR64 (by omega) (by omega))))
    · (try cbv) <;> (repeat' (first | exact trivial | exact rfl | apply And.intro | exact fun _ => rfl | (intro _ hle; first | refine chunk_le hA rfl hle rfl ?_ | refine cat_le hA ?_ | refine upd_le hA ?_ | (try cbv)))) <;> (try (subst hA; (try simp only [natCast_eq] at *); (try (simp only [Ar.real, NV.val, Int.ofNat_eq_natCast, Int.toNat_natCast])); first | done | omega | decide | exact inR64 (by omega) (by omega) | (refine ⟨?_, ?_⟩ <;> first | omega | decide | exact inR64 (by omega) (by omega))))
    · (try cbv) <;> (repeat' (first | exact trivial | exact rfl | apply And.intro | exact fun _ => rfl | (intro _ hle; first | refine chunk_le hA rfl hle rfl ?_ | refine cat_le hA ?_ | refine upd_le hA ?_ | (try cbv))))
    cbv
    refine CS.le hA (cl) [] rfl rfl rfl ?_ ?_ ?_
    · (try cbv) <;> (repeat' (first | exact trivial | exact rfl | apply And.intro | exact fun _ => rfl | (intro _ hle; first | refine chunk_le hA rfl hle rfl ?_ | refine cat_le hA ?_ | refine upd_le hA ?_ | (try cbv)))) <;> (try (subst hA; (try simp only [natCast_eq] at *); (try (simp only [Ar.real, NV.val, Int.ofNat_eq_natCast, Int.toNat_natCast])); first | done | omega | decide | exact inR64 (by omega) (by omega) | (refine ⟨?_, ?_⟩ <;> first | omega | decide | exact inR64 (by omega) (by omega))))
    · (try cbv) <;> (repeat' (first | exact trivial | exact rfl | apply And.intro | exact fun _ => rfl | (intro _ hle; first | refine chunk_le hA rfl hle rfl ?_ | refine cat_le hA ?_ | refine upd_le hA ?_ | (try cbv))))
    cbv
    refine Fin.le hA 0 [] (.bl true) ([]) 9000 rfl rfl rfl ?_ ?_ (by rw [← hK]; exact ⟨rfl, rfl, rfl⟩)
    · (try cbv) <;> (repeat' (first | exact trivial | exact rfl | apply And.intro | exact fun _ => rfl | (intro _ hle; first | refine chunk_le hA rfl hle rfl ?_ | refine cat_le hA ?_ | refine upd_le hA ?_ | (try cbv))))
    · (try cbv) <;> (repeat' (first | exact trivial | exact rfl | apply And.intro | exact fun _ => rfl | (intro _ hle; first | refine chunk_le hA rfl hle rfl ?_ | refine cat_le hA ?_ | refine upd_le hA ?_ | (try cbv))))
  | true =>
  cases r2 with
  | false =>
    clear hl hr1 hmo hr2
    have hT : T.Ok P := hP ▸ T_ok
    refine FnTr.intro (fn := Try.f8) (c := bodyOf Try.f8) (by rw [hP]; rfl) rfl rfl hT ?_
    generalize hA : Ar.real = A
    generalize hK : Gives _ _ _ = K
    cbv
    refine CS.leR hA (c0) (.bl true) [] rfl rfl rfl ?_ ?_ ?_ ?_
    · (try cbv) <;> (repeat' (first | exact trivial | exact rfl | apply And.intro | exact fun _ => rfl | (intro _ hle; first | refine chunk_le hA rfl hle rfl ?_ | refine cat_le hA ?_ | refine upd_le hA ?_ | (try cbv)))) <;> (try (subst hA; (try simp only [natCast_eq] at *); (try (simp only [Ar.real, NV.val, Int.ofNat_eq_natCast, Int.toNat_natCast])); first | done | omega | decide | exact inR64 (by omega) (by omega) | (refine ⟨?_, ?_⟩ <;> first | omega | decide | exact inR64 (by omega) (by omega))))
    · (try cbv) <;> (repeat' (first | exact trivial | exact rfl | apply And.intro | exact fun _ => rfl | (intro _ hle; first | refine chunk_le hA rfl hle rfl ?_ | refine cat_le hA ?_ | refine upd_le hA ?_ | (try cbv)))) <;> (try (subst hA; (try simp only [natCast_eq] at *); (try (simp only [Ar.real, NV.val, Int.ofNat_eq_natCast, Int.toNat_natCast])); first | done | omega | decide | exact inR64 (by omega) (by omega) | (refine ⟨?_, ?_⟩ <;> first | omega | decide | exact inR64 (by omega) (by omega))))
    · (try cbv) <;> (repeat' (first | exact trivial | exact rfl | apply And.intro | exact fun _ => rfl | (intro _ hle; first | refine chunk_le hA rfl hle rfl ?_ | refine cat_le hA ?_ | refine upd_le hA ?_ | (try cbv))))
    cbv
    refine CS.leR hA (c0') (.bl false) [] rfl rfl rfl ?_ ?_ ?_ ?_
    · (try cbv) <;> (repeat' (first | exact trivial | exact rfl | apply And.intro | exact fun _ => rfl | (intro _ hle; first | refine chunk_le hA rfl hle rfl ?_ | refine cat_le hA ?_ | refine upd_le hA ?_ | (try cbv)))) <;> (try (subst hA; (try simp only [natCast_eq] at *); (try (simp only [Ar.real, NV.val, Int.ofNat_eq_natCast, Int.toNat_natCast])); first | done | omega | decide | exact inR64 (by omega) (by omega) | (refine ⟨?_, ?_⟩ <;> first | omega | decide | exact inR64 (by omega) (by omega))))
    · (try cbv) <;> (repeat' (first | exact trivial | exact rfl | apply And.intro | exact fun _ => rfl | (intro _ hle; first | refine chunk_le hA rfl hle rfl ?_ | refine cat_le hA ?_ | refine upd_le hA ?_ | (try cbv)))) <;> (try (subst hA; (try simp only [natCast_eq] at *); (try (simp only [Ar.real, NV.val, Int.ofNat_eq_natCast, Int.toNat_natCast])); first | done | omega | decide | exact inR64 (by omega) (by omega) | (refine ⟨?_, ?_⟩ <;> first | omega | decide | exact inR64 (by omega) (by omega))))
    · (try cbv) <;> (repeat' (first | exact trivial | exact rfl | apply And.intro | exact fun _ => rfl | (intro _ hle; first | refine chunk_le hA rfl hle rfl ?_ | refine cat_le hA ?_ | refine upd_le hA ?_ | (try cbv))))
    cbv
    refine CS.le hA (cl) [] rfl rfl rfl ?_ ?_ ?_
    · (try cbv) <;> (repeat' (first | exact trivial | exact rfl | apply And.intro | exact fun _ => rfl | (intro _ hle; first | refine chunk_le hA rfl hle rfl ?_ | refine cat_le hA ?_ | refine upd_le hA ?_ | (try cbv)))) <;> (try (subst hA; (try simp only [natCast_eq] at *); (try (simp only [Ar.real, NV.val, Int.ofNat_eq_natCast, Int.toNat_natCast])); first | done | omega | decide | exact inR64 (by omega) (by omega) | (refine ⟨?_, ?_⟩ <;> first | omega | decide | exact inR64 (by omega) (by omega))))
    · (try cbv) <;> (repeat' (first | exact trivial | exact rfl | apply And.intro | exact fun _ => rfl | (intro _ hle; first | refine chunk_le hA rfl hle rfl ?_ | refine cat_le hA ?_ | refine upd_le hA ?_ | (try cbv))))
    cbv
    refine Fin.le hA 0 [] (.bl true) ([]) 9000 rfl rfl rfl ?_ ?_ (by rw [← hK]; exact ⟨rfl, rfl, rfl⟩)
    · (try cbv) <;> (repeat' (first | exact trivial | exact rfl | apply And.intro | exact fun _ => rfl | (intro _ hle; first | refine chunk_le hA rfl hle rfl ?_ | refine cat_le hA ?_ | refine upd_le hA ?_ | (try cbv))))
    · (try cbv) <;> (repeat' (first | exact trivial | exact rfl | apply And.intro | exact fun _ => rfl | (intro _ hle; first | refine chunk_le hA rfl hle rfl ?_ | refine cat_le hA ?_ | refine upd_le hA ?_ | (try cbv))))
  | true =>
  by_cases hk30 : 30 < nk
  · clear hl hr1 hmo hr2
    have hT : T.Ok P := hP ▸ T_ok
    refine FnTr.intro (fn := Try.f8) (c := bodyOf Try.f8) (by rw [hP]; rfl) rfl rfl hT ?_
    generalize hA : Ar.real = A
    generalize hK : Gives _ _ _ = K
    cbv
    have k1 : A.gt (A.i2 nk) 30 = true := by subst hA; simp [Ar.real]; omega
    refine CS.leR hA (c0) (.bl true) [] rfl rfl rfl ?_ ?_ ?_ ?_
    · (try cbv) <;> (repeat' (first | exact trivial | exact rfl | apply And.intro | exact fun _ => rfl | (intro _ hle; first | refine chunk_le hA rfl hle rfl ?_ | refine cat_le hA ?_ | refine upd_le hA ?_ | (try cbv)))) <;> (try (subst hA; (try simp only [natCast_eq] at *); (try (simp only [Ar.real, NV.val, Int.ofNat_eq_natCast, Int.toNat_natCast])); first | done | omega | decide | exact inR64 (by omega) (by omega) | (refine ⟨?_, ?_⟩ <;> first | omega | decide | exact inR64 (by omega) (by omega))))
    · (try cbv) <;> (repeat' (first | exact trivial | exact rfl | apply And.intro | exact fun _ => rfl | (intro _ hle; first | refine chunk_le hA rfl hle rfl ?_ | refine cat_le hA ?_ | refine upd_le hA ?_ | (try cbv)))) <;> (try (subst hA; (try simp only [natCast_eq] at *); (try (simp only [Ar.real, NV.val, Int.ofNat_eq_natCast, Int.toNat_natCast])); first | done | omega | decide | exact inR64 (by omega) (by omega) | (refine ⟨?_, ?_⟩ <;> first | omega | decide | exact inR64 (by omega) (by omega))))
    · (try cbv) <;> (repeat' (first | exact trivial | exact rfl | apply And.intro | exact fun _ => rfl | (intro _ hle; first | refine chunk_le hA rfl hle rfl ?_ | refine cat_le hA ?_ | refine upd_le hA ?_ | (try cbv))))
    cbv
    refine CS.leR hA (c0') (.bl true) [] rfl rfl rfl ?_ ?_ ?_ ?_
    · (try cbv) <;> (repeat' (first | exact trivial | exact rfl | apply And.intro | exact fun _ => rfl | (intro _ hle; first | refine chunk_le hA rfl hle rfl ?_ | refine cat_le hA ?_ | refine upd_le hA ?_ | (try cbv)))) <;> (try (subst hA; (try simp only [natCast_eq] at *); (try (simp only [Ar.real, NV.val, Int.ofNat_eq_natCast, Int.toNat_natCast])); first | done | omega | decide | exact inR64 (by omega) (by omega) | (refine ⟨?_, ?_⟩ <;> first | omega | decide | exact inR64 (by omega) (by omega))))
    · (try cbv) <;> (repeat' (first | exact trivial | exact rfl | apply And.intro | exact fun _ => rfl | (intro _ hle; first | refine chunk_le hA rfl hle rfl ?_ | refine cat_le hA ?_ | refine upd_le hA ?_ | (try cbv)))) <;> (try (subst hA; (try simp only [natCast_eq] at *); (try (simp only [Ar.real, NV.val, Int.ofNat_eq_natCast, Int.toNat_natCast])); first | done | omega | decide | exact inR64 (by omega) (by omega) | (refine ⟨?_, ?_⟩ <;> first | omega | decide | exact inR64 (by omega) (by omega))))
    · (try cbv) <;> (repeat' (first | exact trivial | exact rfl | apply And.intro | exact fun _ => rfl | (intro _ hle; first | refine chunk_le hA rfl hle rfl ?_ | refine cat_le hA ?_ | refine upd_le hA ?_ | (try cbv))))
    cbv
    first | refine testR k1 rfl ?_ | refine testL k1 rfl ?_
    cbv
    refine CS.le hA (cl) [] rfl rfl rfl ?_ ?_ ?_
    · (try cbv) <;> (repeat' (first | exact trivial | exact rfl | apply And.intro | exact fun _ => rfl | (intro _ hle; first | refine chunk_le hA rfl hle rfl ?_ | refine cat_le hA ?_ | refine upd_le hA ?_ | (try cbv)))) <;> (try (subst hA; (try simp only [natCast_eq] at *); (try (simp only [Ar.real, NV.val, Int.ofNat_eq_natCast, Int.toNat_natCast])); first | done | omega | decide | exact inR64 (by omega) (by omega) | (refine ⟨?_, ?_⟩ <;> first | omega | decide | exact inR64 (by omega) (by omega))))
    · (try cbv) <;> (repeat' (first | exact trivial | exact rfl | apply And.intro | exact fun _ => rfl | (intro _ hle; first | refine chunk_le hA rfl hle rfl ?_ | refine cat_le hA ?_ | refine upd_le hA ?_ | (try cbv))))
    cbv
    refine Fin.le hA 0 [] (.bl true) ([]) 9000 rfl rfl rfl ?_ ?_ (by rw [← hK]; exact ⟨rfl, rfl, rfl⟩)
    · (try cbv) <;> (repeat' (first | exact trivial | exact rfl | apply And.intro | exact fun _ => rfl | (intro _ hle; first | refine chunk_le hA rfl hle rfl ?_ | refine cat_le hA ?_ | refine upd_le hA ?_ | (try cbv))))
    · (try cbv) <;> (repeat' (first | exact trivial | exact rfl | apply And.intro | exact fun _ => rfl | (intro _ hle; first | refine chunk_le hA rfl hle rfl ?_ | refine cat_le hA ?_ | refine upd_le hA ?_ | (try cbv))))
  have hlt := hr1.1 rfl
  have hmt := hr2.1 rfl
  obtain ⟨z0, hz0⟩ : ∃ z0 : Nat → Int, ∀ x, z0 x = 0 := ⟨fun _ => 0, fun _ => rfl⟩
  obtain ⟨L0, hL0⟩ : ∃ L0 : Int → Option (Nat → Int), ∀ k, L0 k = none := ⟨fun _ => none, fun _ => rfl⟩
  obtain ⟨R0, hR0⟩ : ∃ R0 : Nat → Nat → Int, ∀ t x, R0 t x = 0 := ⟨fun _ _ => 0, fun _ _ => rfl⟩
  obtain ⟨W0, hW0⟩ : ∃ W0 : Nat → Bool, ∀ t, W0 t = false := ⟨fun _ => false, fun _ => rfl⟩
  have c1 := new_ok (P := P) (G := G) (n := 6) (s := 6) (N := 384) (S := z0) (L := L0) hP rfl (by omega) rfl hz0 hL0
  have c2 := refnew_fn (P := P) (G := G) (n := 6) (s := 6) (S := R0) (L := R0) (W := W0) hP rfl (by omega) hR0 hR0 hW0
  have hsim : SimB 6 384 ⟨z0, L0, false, 0, R0, R0, W0, -1⟩ := Sim.start rfl (by omega) hz0 hL0 hR0 hR0 hW0
  have hstep : ∀ i, i < n → ∀ z, SimB 6 384 z → _ := fun i hi z hz => do_step (P := P) (G := G) hP hz (l i) (hl i hi).2.1 (hl i hi).2.2 (by have := (hlt.2 i hi).2; omega)
  have hn60 := hlt.1
  have hm60 := hmt.1
  have hSl : SlTy P 23 := hP ▸ sl_ty
  have foff : ∀ z : BSt, (z.ar = true ∧ z.ca = 0) → FnTr P G 17 [.ptr 0 0] (DH 384 z.S z.L z.ar z.ca) 3 (Gives (.lit .i64 6) (DH 384 z.S z.L z.ar z.ca) 3) ∧ FnTr P G 26 [.ptr 0 0] (DH 384 z.S z.L z.ar z.ca) 3 (Gives (.bs true) (DH 384 z.S z.L z.ar z.ca) 3) := fun z hz => ⟨flush_off hP hz, off_fn hP ⟨fun _ => hz, fun _ => rfl⟩⟩
  clear hl hr1 hr2 hlt hz0 hR0 hW0
  have hT : T.Ok P := hP ▸ T_ok
  refine FnTr.intro (fn := Try.f8) (c := bodyOf Try.f8) (by rw [hP]; rfl) rfl rfl hT ?_
  generalize hA : Ar.real = A
  generalize hK : Gives _ _ _ = K
  cbv
  have k1 : A.gt (A.i2 nk) 30 = false := by subst hA; simp [Ar.real]; omega
  refine CS.leR hA (c0) (.bl true) [] rfl rfl rfl ?_ ?_ ?_ ?_
  · (try cbv) <;> (repeat' (first | exact trivial | exact rfl | apply And.intro | exact fun _ => rfl | (intro _ hle; first | refine chunk_le hA rfl hle rfl ?_ | refine cat_le hA ?_ | refine upd_le hA ?_ | (try cbv)))) <;> (try (subst hA; (try simp only [natCast_eq] at *); (try (simp only [Ar.real, NV.val, Int.ofNat_eq_natCast, Int.toNat_natCast])); first | done | omega | decide | exact inR64 (by omega) (by omega) | (refine ⟨?_, ?_⟩ <;> first | omega | decide | exact inR64 (by omega) (by omega))))
  · (try cbv) <;> (repeat' (first | exact trivial | exact rfl | apply And.intro | exact fun _ => rfl | (intro _ hle; first | refine chunk_le hA rfl hle rfl ?_ | refine cat_le hA ?_ | refine upd_le hA ?_ | (try cbv)))) <;> (try (subst hA; (try simp only [natCast_eq] at *); (try (simp only [Ar.real, NV.val, Int.ofNat_eq_natCast, Int.toNat_natCast])); first | done | omega | decide | exact inR64 (by omega) (by omega) | (refine ⟨?_, ?_⟩ <;> first | omega | decide | exact inR64 (by omega) (by omega))))
  · (try cbv) <;> (repeat' (first | exact trivial | exact rfl | apply And.intro | exact fun _ => rfl | (intro _ hle; first | refine chunk_le hA rfl hle rfl ?_ | refine cat_le hA ?_ | refine upd_le hA ?_ | (try cbv))))
  cbv
  refine CS.leR hA (c0') (.bl true) [] rfl rfl rfl ?_ ?_ ?_ ?_
  · (try cbv) <;> (repeat' (first | exact trivial | exact rfl | apply And.intro | exact fun _ => rfl | (intro _ hle; first | refine chunk_le hA rfl hle rfl ?_ | refine cat_le hA ?_ | refine upd_le hA ?_ | (try cbv)))) <;> (try (subst hA; (try simp only [natCast_eq] at *); (try (simp only [Ar.real, NV.val, Int.ofNat_eq_natCast, Int.toNat_natCast])); first | done | omega | decide | exact inR64 (by omega) (by omega) | (refine ⟨?_, ?_⟩ <;> first | omega | decide | exact inR64 (by omega) (by omega))))
  · (try cbv) <;> (repeat' (first | exact trivial | exact rfl | apply And.intro | exact fun _ => rfl | (intro _ hle; first | refine chunk_le hA rfl hle rfl ?_ | refine cat_le hA ?_ | refine upd_le hA ?_ | (try cbv)))) <;> (try (subst hA; (try simp only [natCast_eq] at *); (try (simp only [Ar.real, NV.val, Int.ofNat_eq_natCast, Int.toNat_natCast])); first | done | omega | decide | exact inR64 (by omega) (by omega) | (refine ⟨?_, ?_⟩ <;> first | omega | decide | exact inR64 (by omega) (by omega))))
  · (try cbv) <;> (repeat' (first | exact trivial | exact rfl | apply And.intro | exact fun _ => rfl | (intro _ hle; first | refine chunk_le hA rfl hle rfl ?_ | refine cat_le hA ?_ | refine upd_le hA ?_ | (try cbv))))
  cbv
  first | refine testR k1 rfl ?_ | refine testL k1 rfl ?_
  cbv
  refine CS.le hA (c1) [] rfl rfl rfl ?_ ?_ ?_
  · (try cbv) <;> (repeat' (first | exact trivial | exact rfl | apply And.intro | exact fun _ => rfl | (intro _ hle; first | refine chunk_le hA rfl hle rfl ?_ | refine cat_le hA ?_ | refine upd_le hA ?_ | (try cbv)))) <;> (try (subst hA; (try simp only [natCast_eq] at *); (try (simp only [Ar.real, NV.val, Int.ofNat_eq_natCast, Int.toNat_natCast])); first | done | omega | decide | exact inR64 (by omega) (by omega) | (refine ⟨?_, ?_⟩ <;> first | omega | decide | exact inR64 (by omega) (by omega))))
  · (try cbv) <;> (repeat' (first | exact trivial | exact rfl | apply And.intro | exact fun _ => rfl | (intro _ hle; first | refine chunk_le hA rfl hle rfl ?_ | refine cat_le hA ?_ | refine upd_le hA ?_ | (try cbv))))
  cbv
  refine CS.le hA (c2) [] rfl rfl rfl ?_ ?_ ?_
  · (try cbv) <;> (repeat' (first | exact trivial | exact rfl | apply And.intro | exact fun _ => rfl | (intro _ hle; first | refine chunk_le hA rfl hle rfl ?_ | refine cat_le hA ?_ | refine upd_le hA ?_ | (try cbv)))) <;> (try (subst hA; (try simp only [natCast_eq] at *); (try (simp only [Ar.real, NV.val, Int.ofNat_eq_natCast, Int.toNat_natCast])); first | done | omega | decide | exact inR64 (by omega) (by omega) | (refine ⟨?_, ?_⟩ <;> first | omega | decide | exact inR64 (by omega) (by omega))))
  · (try cbv) <;> (repeat' (first | exact trivial | exact rfl | apply And.intro | exact fun _ => rfl | (intro _ hle; first | refine chunk_le hA rfl hle rfl ?_ | refine cat_le hA ?_ | refine upd_le hA ?_ | (try cbv))))
  cbv
  refine LS.clr [43, 44] ?_
  refine LS.le2 hT hA 90 (fun (i : Nat) (z : BSt) => [(11, .int .i64 (i : Int))]) (fun i z => (89, .cells 44 (RDz 6 z)) :: DHn 12 13 14 384 z.S z.L z.ar z.ca) (fun i z => i ≤ n ∧ SimB 6 384 z) (fun i _ => n - i) 0 ⟨z0, L0, false, 0, R0, R0, W0, -1⟩ [] rfl rfl ?_ ?_ ?_
  · (try cbv) <;> (repeat' (first | exact trivial | exact rfl | apply And.intro | exact fun _ => rfl | (intro _ hle; first | refine chunk_le hA rfl hle rfl ?_ | refine cat_le hA ?_ | refine upd_le hA ?_ | refine int_le ?_ | skip)))
  · exact ⟨Nat.zero_le _, hsim⟩
  · intro R hR i z hp
    have hi := hp.1
    have hz := hp.2
    clear hp hsim
    cbv
    refine ⟨fun q1 => ?_, fun q1 => ?_⟩
    · have him : i < n := by clear hR hstep hmo hmt foff hz; subst hA; simp [Ar.real] at q1; omega
      obtain ⟨z', hz', a1⟩ := hstep i him z hz
      clear hstep hz hmo hmt foff
      cbv
      refine DS.runK hA hT (by rw [hP]; exact P_mixed) 300 rfl ?_
      cbv
      refine ⟨(by (subst hA; (try simp only [natCast_eq] at *); (try (simp only [Ar.real, NV.val, Int.ofNat_eq_natCast, Int.toNat_natCast])); first | done | omega | decide | exact inR64 (by omega) (by omega) | (refine ⟨?_, ?_⟩ <;> first | omega | decide | exact inR64 (by omega) (by omega)))), ?_⟩
      refine CD.pass hA a1 [(12, 0), (13, 1), (14, 2)] [] rfl ⟨rfl, rfl, rfl, rfl, ?_, ?_⟩ rfl (.inl rfl) ?_
      · clear hR
        (try cbv) <;> (repeat' (first | exact trivial | exact rfl | apply And.intro | exact fun _ => rfl | (intro _ hle; first | refine chunk_le hA rfl hle rfl ?_ | refine cat_le hA ?_ | refine upd_le hA ?_ | refine int_le ?_ | skip)))
        all_goals (subst hA; rfl)
      · clear hR
        (try cbv) <;> (repeat' (first | exact trivial | exact rfl | apply And.intro | exact fun _ => rfl | (intro _ hle; first | refine chunk_le hA rfl hle rfl ?_ | refine cat_le hA ?_ | refine upd_le hA ?_ | refine int_le ?_ | skip)))
      cbv
      refine DF.fin (by kernel_rfl) (by kernel_rfl) ?_
      cbv
      refine ⟨(by (subst hA; (try simp only [natCast_eq] at *); (try (simp only [Ar.real, NV.val, Int.ofNat_eq_natCast, Int.toNat_natCast])); first | done | omega | decide | exact inR64 (by omega) (by omega) | (refine ⟨?_, ?_⟩ <;> first | omega | decide | exact inR64 (by omega) (by omega)))), hR _ _ _ ⟨i + 1, z', 90, [], rfl, rfl, ?_, ⟨him, hz'⟩, (by show n - (i + 1) < n - i; omega)⟩⟩
      clear hR
      (try cbv) <;> (repeat' (first | exact trivial | exact rfl | apply And.intro | exact fun _ => rfl | (intro _ hle; first | refine chunk_le hA rfl hle rfl ?_ | refine cat_le hA ?_ | refine upd_le hA ?_ | refine int_le ?_ | skip)))
      all_goals (subst hA; (try simp only [natCast_eq] at *); (try (simp only [Ar.real, NV.val, Int.ofNat_eq_natCast, Int.toNat_natCast])); first | done | omega | decide | exact inR64 (by omega) (by omega) | (refine ⟨?_, ?_⟩ <;> first | omega | decide | exact inR64 (by omega) (by omega)))
    · have him : i = n := by clear hR hstep hmo hmt foff hz; subst hA; simp [Ar.real] at q1; omega
      clear hR hstep
      obtain ⟨zS, zL, zar, zca, zRS, zRL, zW, zc⟩ := z
      have hz : Sim 6 384 zS zL zar zca zRS zRL zW zc := hz
      by_cases hoff : zar = true ∧ zca = 0
      · obtain ⟨d1, d2⟩ := foff ⟨zS, zL, zar, zca, zRS, zRL, zW, zc⟩ hoff
        clear foff hmo hmt
        cbv
        refine CS.le hA (d1) [(12, 0), (13, 1), (14, 2)] rfl rfl rfl ?_ ?_ ?_
        · (try cbv) <;> (repeat' (first | exact trivial | exact rfl | apply And.intro | exact fun _ => rfl | (intro _ hle; first | refine chunk_le hA rfl hle rfl ?_ | refine cat_le hA ?_ | refine upd_le hA ?_ | (try cbv)))) <;> (try (subst hA; (try simp only [natCast_eq] at *); (try (simp only [Ar.real, NV.val, Int.ofNat_eq_natCast, Int.toNat_natCast])); first | done | omega | decide | exact inR64 (by omega) (by omega) | (refine ⟨?_, ?_⟩ <;> first | omega | decide | exact inR64 (by omega) (by omega))))
        · (try cbv) <;> (repeat' (first | exact trivial | exact rfl | apply And.intro | exact fun _ => rfl | (intro _ hle; first | refine chunk_le hA rfl hle rfl ?_ | refine cat_le hA ?_ | refine upd_le hA ?_ | (try cbv))))
        cbv
        refine CS.leR hA (d2) (.bl true) [(12, 0), (13, 1), (14, 2)] rfl rfl rfl ?_ ?_ ?_ ?_
        · (try cbv) <;> (repeat' (first | exact trivial | exact rfl | apply And.intro | exact fun _ => rfl | (intro _ hle; first | refine chunk_le hA rfl hle rfl ?_ | refine cat_le hA ?_ | refine upd_le hA ?_ | (try cbv)))) <;> (try (subst hA; (try simp only [natCast_eq] at *); (try (simp only [Ar.real, NV.val, Int.ofNat_eq_natCast, Int.toNat_natCast])); first | done | omega | decide | exact inR64 (by omega) (by omega) | (refine ⟨?_, ?_⟩ <;> first | omega | decide | exact inR64 (by omega) (by omega))))
        · (try cbv) <;> (repeat' (first | exact trivial | exact rfl | apply And.intro | exact fun _ => rfl | (intro _ hle; first | refine chunk_le hA rfl hle rfl ?_ | refine cat_le hA ?_ | refine upd_le hA ?_ | (try cbv)))) <;> (try (subst hA; (try simp only [natCast_eq] at *); (try (simp only [Ar.real, NV.val, Int.ofNat_eq_natCast, Int.toNat_natCast])); first | done | omega | decide | exact inR64 (by omega) (by omega) | (refine ⟨?_, ?_⟩ <;> first | omega | decide | exact inR64 (by omega) (by omega))))
        · (try cbv) <;> (repeat' (first | exact trivial | exact rfl | apply And.intro | exact fun _ => rfl | (intro _ hle; first | refine chunk_le hA rfl hle rfl ?_ | refine cat_le hA ?_ | refine upd_le hA ?_ | (try cbv))))
        cbv
        refine CS.le hA (cl) [] rfl rfl rfl ?_ ?_ ?_
        · (try cbv) <;> (repeat' (first | exact trivial | exact rfl | apply And.intro | exact fun _ => rfl | (intro _ hle; first | refine chunk_le hA rfl hle rfl ?_ | refine cat_le hA ?_ | refine upd_le hA ?_ | (try cbv)))) <;> (try (subst hA; (try simp only [natCast_eq] at *); (try (simp only [Ar.real, NV.val, Int.ofNat_eq_natCast, Int.toNat_natCast])); first | done | omega | decide | exact inR64 (by omega) (by omega) | (refine ⟨?_, ?_⟩ <;> first | omega | decide | exact inR64 (by omega) (by omega))))
        · (try cbv) <;> (repeat' (first | exact trivial | exact rfl | apply And.intro | exact fun _ => rfl | (intro _ hle; first | refine chunk_le hA rfl hle rfl ?_ | refine cat_le hA ?_ | refine upd_le hA ?_ | (try cbv))))
        cbv
        refine Fin.le hA 0 [] (.bl true) ([]) 9000 rfl rfl rfl ?_ ?_ (by rw [← hK]; exact ⟨rfl, rfl, rfl⟩)
        · (try cbv) <;> (repeat' (first | exact trivial | exact rfl | apply And.intro | exact fun _ => rfl | (intro _ hle; first | refine chunk_le hA rfl hle rfl ?_ | refine cat_le hA ?_ | refine upd_le hA ?_ | (try cbv))))
        · (try cbv) <;> (repeat' (first | exact trivial | exact rfl | apply And.intro | exact fun _ => rfl | (intro _ hle; first | refine chunk_le hA rfl hle rfl ?_ | refine cat_le hA ?_ | refine upd_le hA ?_ | (try cbv))))
      obtain ⟨S1, hS1⟩ : ∃ S1 : Nat → Int, ∀ x, S1 x = secV zS zL (x / 64) (x % 64) := ⟨_, fun _ => rfl⟩
      obtain ⟨ca1, hca1⟩ : ∃ ca1, ca1 = if zar then zca - 1 else zca := ⟨_, rfl⟩
      have hB1 : ∀ x, x < 384 → 0 ≤ S1 x ∧ S1 x ≤ 255 := fun x hx => by rw [hS1]; exact hz.bytes (x / 64) (by omega) (x % 64) (by omega)
      have d1 := flush_ok (P := P) (G := G) (N := 384) (s := 6) (S := zS) (S' := S1) (L := zL) (L' := L0) hP hoff rfl (by omega) hca1 hz.hca hz.key (fun x _ => hS1 x) hL0
      have d2 := image_fn (P := P) (G := G) (N := 384) (s := 6) (S := S1) (g := S1) (L := L0) (ar := zar) (ca := ca1) hP rfl (by omega) (fun x => secV_all hL0 x)
      have d3 := crash_fn (P := P) (G := G) (N := 384) (s := 6) (n := nk) (S := S1) (S' := S1) (L := L0) (L' := L0) (ar := zar) (ca := ca1) (ks := ks) (kb := kb) hP rfl (by omega) (by omega) (fun k g h => (by rw [hL0] at h; cases h)) (fun x _ => crashP_none hL0 x) hL0
      have d4 := image_fn (P := P) (G := G) (N := 384) (s := 6) (S := S1) (g := S1) (L := L0) (ar := false) (ca := 0) hP rfl (by omega) (fun x => secV_all hL0 x)
      have d5 := same_fn (P := P) (G := G) (n := 384) (m := 384) (f := S1) (g := S1) (res := true) hP (fun x hx => by have := hB1 x hx; omega) (fun x hx => by have := hB1 x hx; omega) ⟨fun _ => ⟨rfl, fun _ _ => rfl⟩, fun _ => rfl⟩
      obtain ⟨lastF, hlF⟩ : ∃ lastF : (Int → Option (Nat → Int)) → Nat → Int, ∀ L x, lastF L x = secV S1 L (x / 64) (x % 64) := ⟨_, fun _ _ => rfl⟩
      have hl0 : ∀ x, S1 x = lastF L0 x := fun x => by rw [hlF]; exact secV_all hL0 x
      have hlS : ∀ (L L' : Int → Option (Nat → Int)) (k : Nat) (f : Nat → Int), (∀ j, L' j = if j = (k : Int) then some f else L j) → ∀ x, lastF L' x = if 64 * k ≤ x ∧ x < 64 * k + 64 then f (x - 64 * k) else lastF L x := fun L L' k f h x => by
        rw [hlF, hlF]
        by_cases q : x / 64 = k
        · rw [if_pos (by omega), secV_some' (by rw [h, if_pos (by omega)])]; congr 1; omega
        · rw [if_neg (by omega)]; unfold secV; rw [h, if_neg (by omega)]
      have hw0 : Wt6 L0 := ⟨fun k g h => (by rw [hL0] at h; cases h), fun k g h => (by rw [hL0] at h; cases h)⟩
      have off : ¬ (false = true ∧ (0 : Int) = 0) := fun h => by cases h.1
      have hwr : ∀ (L L' : Int → Option (Nat → Int)) (k bn : Nat) (f : Nat → Int), k < 6 → bn = 64 → (∀ j, L' j = if j = (k : Int) then some f else L j) → FnTr P G 35 [.ptr 0 0, .int .i64 (k : Int), By bn f] (DH 384 S1 L false 0) 3 (Gives (.lit .i64 0) (DH 384 S1 L' false 0) 3) := fun L L' k bn f hk hb h => write_ok (s := 6) hP off rfl (by omega) hk hb h rfl (by omega)
      have hcrash : ∀ L, Wt6 L → ∃ S2 : Nat → Int, (∀ x, S2 x = (crashP S1 L ks kb nk).1 x) ∧ FnTr P G 18 [.ptr 0 0, .ro 2 (.s nk) (fun e => [.int .i64 (ks e.val), .int .i64 (kb e.val)])] (DH 384 S1 L false 0) 3 (Gives (.tup []) (DH 384 S2 L0 false 0) 3) ∧ FnTr P G 33 [.ptr 0 0] (DH 384 S2 L0 false 0) 3 (Gives (By 384 S2) (DH 384 S2 L0 false 0) 100) := fun L hL => ⟨_, fun _ => rfl, crash_fn (s := 6) hP rfl (by omega) (by omega) hL.key (fun x _ => rfl) hL0, image_fn (s := 6) hP rfl (by omega) (fun x => secV_all hL0 x)⟩
      clear foff hz hS1 hca1 hL0
      cbv
      refine CS.le hA (d1) [(12, 0), (13, 1), (14, 2)] rfl rfl rfl ?_ ?_ ?_
      · (try cbv) <;> (repeat' (first | exact trivial | exact rfl | apply And.intro | exact fun _ => rfl | (intro _ hle; first | refine chunk_le hA rfl hle rfl ?_ | refine cat_le hA ?_ | refine upd_le hA ?_ | (try cbv)))) <;> (try (subst hA; (try simp only [natCast_eq] at *); (try (simp only [Ar.real, NV.val, Int.ofNat_eq_natCast, Int.toNat_natCast])); first | done | omega | decide | exact inR64 (by omega) (by omega) | (refine ⟨?_, ?_⟩ <;> first | omega | decide | exact inR64 (by omega) (by omega))))
      · (try cbv) <;> (repeat' (first | exact trivial | exact rfl | apply And.intro | exact fun _ => rfl | (intro _ hle; first | refine chunk_le hA rfl hle rfl ?_ | refine cat_le hA ?_ | refine upd_le hA ?_ | (try cbv))))
      cbv
      refine CS.le hA (d2) [(12, 0), (13, 1), (14, 2)] rfl rfl rfl ?_ ?_ ?_
      · (try cbv) <;> (repeat' (first | exact trivial | exact rfl | apply And.intro | exact fun _ => rfl | (intro _ hle; first | refine chunk_le hA rfl hle rfl ?_ | refine cat_le hA ?_ | refine upd_le hA ?_ | (try cbv)))) <;> (try (subst hA; (try simp only [natCast_eq] at *); (try (simp only [Ar.real, NV.val, Int.ofNat_eq_natCast, Int.toNat_natCast])); first | done | omega | decide | exact inR64 (by omega) (by omega) | (refine ⟨?_, ?_⟩ <;> first | omega | decide | exact inR64 (by omega) (by omega))))
      · (try cbv) <;> (repeat' (first | exact trivial | exact rfl | apply And.intro | exact fun _ => rfl | (intro _ hle; first | refine chunk_le hA rfl hle rfl ?_ | refine cat_le hA ?_ | refine upd_le hA ?_ | (try cbv))))
      cbv
      refine CS.le hA (d3) [(12, 0), (13, 1), (14, 2)] rfl rfl rfl ?_ ?_ ?_
      · (try cbv) <;> (repeat' (first | exact trivial | exact rfl | apply And.intro | exact fun _ => rfl | (intro _ hle; first | refine chunk_le hA rfl hle rfl ?_ | refine cat_le hA ?_ | refine upd_le hA ?_ | (try cbv)))) <;> (try (subst hA; (try simp only [natCast_eq] at *); (try (simp only [Ar.real, NV.val, Int.ofNat_eq_natCast, Int.toNat_natCast])); first | done | omega | decide | exact inR64 (by omega) (by omega) | (refine ⟨?_, ?_⟩ <;> first | omega | decide | exact inR64 (by omega) (by omega))))
      · (try cbv) <;> (repeat' (first | exact trivial | exact rfl | apply And.intro | exact fun _ => rfl | (intro _ hle; first | refine chunk_le hA rfl hle rfl ?_ | refine cat_le hA ?_ | refine upd_le hA ?_ | (try cbv))))
      cbv
      refine CS.le hA (d4) [(12, 0), (13, 1), (14, 2)] rfl rfl rfl ?_ ?_ ?_
      · (try cbv) <;> (repeat' (first | exact trivial | exact rfl | apply And.intro | exact fun _ => rfl | (intro _ hle; first | refine chunk_le hA rfl hle rfl ?_ | refine cat_le hA ?_ | refine upd_le hA ?_ | (try cbv)))) <;> (try (subst hA; (try simp only [natCast_eq] at *); (try (simp only [Ar.real, NV.val, Int.ofNat_eq_natCast, Int.toNat_natCast])); first | done | omega | decide | exact inR64 (by omega) (by omega) | (refine ⟨?_, ?_⟩ <;> first | omega | decide | exact inR64 (by omega) (by omega))))
      · (try cbv) <;> (repeat' (first | exact trivial | exact rfl | apply And.intro | exact fun _ => rfl | (intro _ hle; first | refine chunk_le hA rfl hle rfl ?_ | refine cat_le hA ?_ | refine upd_le hA ?_ | (try cbv))))
      cbv
      refine CS.leR hA (d5) (.bl true) [] rfl rfl rfl ?_ ?_ ?_ ?_
      · (try cbv) <;> (repeat' (first | exact trivial | exact rfl | apply And.intro | exact fun _ => rfl | (intro _ hle; first | refine chunk_le hA rfl hle rfl ?_ | refine cat_le hA ?_ | refine upd_le hA ?_ | (try cbv)))) <;> (try (subst hA; (try simp only [natCast_eq] at *); (try (simp only [Ar.real, NV.val, Int.ofNat_eq_natCast, Int.toNat_natCast])); first | done | omega | decide | exact inR64 (by omega) (by omega) | (refine ⟨?_, ?_⟩ <;> first | omega | decide | exact inR64 (by omega) (by omega))))
      · (try cbv) <;> (repeat' (first | exact trivial | exact rfl | apply And.intro | exact fun _ => rfl | (intro _ hle; first | refine chunk_le hA rfl hle rfl ?_ | refine cat_le hA ?_ | refine upd_le hA ?_ | (try cbv)))) <;> (try (subst hA; (try simp only [natCast_eq] at *); (try (simp only [Ar.real, NV.val, Int.ofNat_eq_natCast, Int.toNat_natCast])); first | done | omega | decide | exact inR64 (by omega) (by omega) | (refine ⟨?_, ?_⟩ <;> first | omega | decide | exact inR64 (by omega) (by omega))))
      · (try cbv) <;> (repeat' (first | exact trivial | exact rfl | apply And.intro | exact fun _ => rfl | (intro _ hle; first | refine chunk_le hA rfl hle rfl ?_ | refine cat_le hA ?_ | refine upd_le hA ?_ | (try cbv))))
      cbv
      refine ⟨⟨(by (subst hA; (try simp only [natCast_eq] at *); (try (simp only [Ar.real, NV.val, Int.ofNat_eq_natCast, Int.toNat_natCast])); first | done | omega | decide | exact inR64 (by omega) (by omega) | (refine ⟨?_, ?_⟩ <;> first | omega | decide | exact inR64 (by omega) (by omega)))), (by (subst hA; (try simp only [natCast_eq] at *); (try (simp only [Ar.real, NV.val, Int.ofNat_eq_natCast, Int.toNat_natCast])); first | done | omega | decide | exact inR64 (by omega) (by omega) | (refine ⟨?_, ?_⟩ <;> first | omega | decide | exact inR64 (by omega) (by omega))))⟩, ?_⟩
      refine LS.le2 hT hA 312 (fun (i : Nat) (L : Int → Option (Nat → Int)) => [(14, .int .i64 (i : Int))]) (fun i L => (311, .row 5 1 (.s 384) (fun e => [.int .u8 (lastF L e.val)])) :: DHn 12 13 14 384 S1 L false 0) (fun i L => i ≤ m ∧ Wt6 L) (fun i _ => m - i) 0 L0 [] rfl rfl ?_ ?_ ?_
      · (try cbv) <;> (repeat' (first | exact trivial | exact rfl | apply And.intro | exact fun _ => rfl | (intro _ hle; first | refine chunk_le hA rfl hle rfl ?_ | refine cat_le hA ?_ | refine upd_le hA ?_ | refine int_le ?_ | skip)))
        all_goals first | exact hl0 _ | (subst hA; (try simp only [natCast_eq] at *); (try (simp only [Ar.real, NV.val, Int.ofNat_eq_natCast, Int.toNat_natCast])); first | done | omega | decide | exact inR64 (by omega) (by omega) | (refine ⟨?_, ?_⟩ <;> first | omega | decide | exact inR64 (by omega) (by omega)))
      · exact ⟨Nat.zero_le _, hw0⟩
      · intro R hR j L hp
        have hj := hp.1
        have hL := hp.2
        clear hp
        cbv
        refine ⟨fun q1 => ?_, fun q1 => ?_⟩
        · have hjm : j < m := by clear hR hmo hmt hwr hcrash hL hlS; subst hA; simp [Ar.real] at q1; omega
          have kn : A.nat (Int.ofNat j) = j := by clear hR; subst hA; rfl
          have hob := hmo j hjm
          have hol := hmt.2 j hjm
          clear hmo hmt hcrash
          by_cases hd : ¬ (mo j).d = 0
          · have k1 : A.eq (mo (A.nat (Int.ofNat j))).d 0 = false := by rw [kn]; clear hR; subst hA; simp [Ar.real]; exact hd
            cbv
            refine ⟨(by (subst hA; (try simp only [natCast_eq] at *); (try (simp only [Ar.real, NV.val, Int.ofNat_eq_natCast, Int.toNat_natCast])); first | done | omega | decide | exact inR64 (by omega) (by omega) | (refine ⟨?_, ?_⟩ <;> first | omega | decide | exact inR64 (by omega) (by omega)))), (by (subst hA; (try simp only [natCast_eq] at *); (try (simp only [Ar.real, NV.val, Int.ofNat_eq_natCast, Int.toNat_natCast])); first | done | omega | decide | exact inR64 (by omega) (by omega) | (refine ⟨?_, ?_⟩ <;> first | omega | decide | exact inR64 (by omega) (by omega)))), ?_⟩
            first | refine testR k1 rfl ?_ | refine testL k1 rfl ?_
            cbv
            refine ⟨(by (subst hA; (try simp only [natCast_eq] at *); (try (simp only [Ar.real, NV.val, Int.ofNat_eq_natCast, Int.toNat_natCast])); first | done | omega | decide | exact inR64 (by omega) (by omega) | (refine ⟨?_, ?_⟩ <;> first | omega | decide | exact inR64 (by omega) (by omega)))), hR _ _ _ ⟨j + 1, L, 312, [], rfl, rfl, ?_, ⟨hjm, hL⟩, (by show m - (j + 1) < m - j; omega)⟩⟩
            clear hR
            (try cbv) <;> (repeat' (first | exact trivial | exact rfl | apply And.intro | exact fun _ => rfl | (intro _ hle; first | refine chunk_le hA rfl hle rfl ?_ | refine cat_le hA ?_ | refine upd_le hA ?_ | refine int_le ?_ | skip)))
            all_goals (subst hA; (try simp only [natCast_eq] at *); (try (simp only [Ar.real, NV.val, Int.ofNat_eq_natCast, Int.toNat_natCast])); first | done | omega | decide | exact inR64 (by omega) (by omega) | (refine ⟨?_, ?_⟩ <;> first | omega | decide | exact inR64 (by omega) (by omega)))
          have hd := Decidable.not_not.1 hd
          by_cases ha0 : ¬ 0 ≤ (mo j).a
          · have k1 : A.eq (mo (A.nat (Int.ofNat j))).d 0 = true := by rw [kn]; clear hR; subst hA; simp [Ar.real]; exact hd
            have k2 : A.ge (mo (A.nat (Int.ofNat j))).a 0 = false := by rw [kn]; clear hR; subst hA; simp [Ar.real]; omega
            cbv
            refine ⟨(by (subst hA; (try simp only [natCast_eq] at *); (try (simp only [Ar.real, NV.val, Int.ofNat_eq_natCast, Int.toNat_natCast])); first | done | omega | decide | exact inR64 (by omega) (by omega) | (refine ⟨?_, ?_⟩ <;> first | omega | decide | exact inR64 (by omega) (by omega)))), (by (subst hA; (try simp only [natCast_eq] at *); (try (simp only [Ar.real, NV.val, Int.ofNat_eq_natCast, Int.toNat_natCast])); first | done | omega | decide | exact inR64 (by omega) (by omega) | (refine ⟨?_, ?_⟩ <;> first | omega | decide | exact inR64 (by omega) (by omega)))), ?_⟩
            first | refine testR k1 rfl ?_ | refine testL k1 rfl ?_
            cbv
            first | refine testR k2 rfl ?_ | refine testL k2 rfl ?_
            cbv
            refine ⟨(by (subst hA; (try simp only [natCast_eq] at *); (try (simp only [Ar.real, NV.val, Int.ofNat_eq_natCast, Int.toNat_natCast])); first | done | omega | decide | exact inR64 (by omega) (by omega) | (refine ⟨?_, ?_⟩ <;> first | omega | decide | exact inR64 (by omega) (by omega)))), hR _ _ _ ⟨j + 1, L, 312, [], rfl, rfl, ?_, ⟨hjm, hL⟩, (by show m - (j + 1) < m - j; omega)⟩⟩
            clear hR
            (try cbv) <;> (repeat' (first | exact trivial | exact rfl | apply And.intro | exact fun _ => rfl | (intro _ hle; first | refine chunk_le hA rfl hle rfl ?_ | refine cat_le hA ?_ | refine upd_le hA ?_ | refine int_le ?_ | skip)))
            all_goals (subst hA; (try simp only [natCast_eq] at *); (try (simp only [Ar.real, NV.val, Int.ofNat_eq_natCast, Int.toNat_natCast])); first | done | omega | decide | exact inR64 (by omega) (by omega) | (refine ⟨?_, ?_⟩ <;> first | omega | decide | exact inR64 (by omega) (by omega)))
          have ha0 := Decidable.not_not.1 ha0
          by_cases ha6 : ¬ (mo j).a < 6
          · have k1 : A.eq (mo (A.nat (Int.ofNat j))).d 0 = true := by rw [kn]; clear hR; subst hA; simp [Ar.real]; exact hd
            have k2 : A.ge (mo (A.nat (Int.ofNat j))).a 0 = true := by rw [kn]; clear hR; subst hA; simp [Ar.real]; omega
            have k3 : A.lt (mo (A.nat (Int.ofNat j))).a 6 = false := by rw [kn]; clear hR; subst hA; simp [Ar.real]; omega
            cbv
            refine ⟨(by (subst hA; (try simp only [natCast_eq] at *); (try (simp only [Ar.real, NV.val, Int.ofNat_eq_natCast, Int.toNat_natCast])); first | done | omega | decide | exact inR64 (by omega) (by omega) | (refine ⟨?_, ?_⟩ <;> first | omega | decide | exact inR64 (by omega) (by omega)))), (by (subst hA; (try simp only [natCast_eq] at *); (try (simp only [Ar.real, NV.val, Int.ofNat_eq_natCast, Int.toNat_natCast])); first | done | omega | decide | exact inR64 (by omega) (by omega) | (refine ⟨?_, ?_⟩ <;> first | omega | decide | exact inR64 (by omega) (by omega)))), ?_⟩
            first | refine testR k1 rfl ?_ | refine testL k1 rfl ?_
            cbv
            first | refine testR k2 rfl ?_ | refine testL k2 rfl ?_
            cbv
            first | refine testR k3 rfl ?_ | refine testL k3 rfl ?_
            cbv
            refine ⟨(by (subst hA; (try simp only [natCast_eq] at *); (try (simp only [Ar.real, NV.val, Int.ofNat_eq_natCast, Int.toNat_natCast])); first | done | omega | decide | exact inR64 (by omega) (by omega) | (refine ⟨?_, ?_⟩ <;> first | omega | decide | exact inR64 (by omega) (by omega)))), hR _ _ _ ⟨j + 1, L, 312, [], rfl, rfl, ?_, ⟨hjm, hL⟩, (by show m - (j + 1) < m - j; omega)⟩⟩
            clear hR
            (try cbv) <;> (repeat' (first | exact trivial | exact rfl | apply And.intro | exact fun _ => rfl | (intro _ hle; first | refine chunk_le hA rfl hle rfl ?_ | refine cat_le hA ?_ | refine upd_le hA ?_ | refine int_le ?_ | skip)))
            all_goals (subst hA; (try simp only [natCast_eq] at *); (try (simp only [Ar.real, NV.val, Int.ofNat_eq_natCast, Int.toNat_natCast])); first | done | omega | decide | exact inR64 (by omega) (by omega) | (refine ⟨?_, ?_⟩ <;> first | omega | decide | exact inR64 (by omega) (by omega)))
          have ha6 := Decidable.not_not.1 ha6
          have k1 : A.eq (mo (A.nat (Int.ofNat j))).d 0 = true := by rw [kn]; clear hR; subst hA; simp [Ar.real]; exact hd
          have k2 : A.ge (mo (A.nat (Int.ofNat j))).a 0 = true := by rw [kn]; clear hR; subst hA; simp [Ar.real]; omega
          have k3 : A.lt (mo (A.nat (Int.ofNat j))).a 6 = true := by rw [kn]; clear hR; subst hA; simp [Ar.real]; omega
          by_cases hb : ¬ (mo j).bn = 64
          · have k4 : A.eq (A.i2 (mo (A.nat (Int.ofNat j))).bn) 64 = false := by rw [kn]; clear hR; subst hA; simp [Ar.real]; omega
            cbv
            refine ⟨(by (subst hA; (try simp only [natCast_eq] at *); (try (simp only [Ar.real, NV.val, Int.ofNat_eq_natCast, Int.toNat_natCast])); first | done | omega | decide | exact inR64 (by omega) (by omega) | (refine ⟨?_, ?_⟩ <;> first | omega | decide | exact inR64 (by omega) (by omega)))), (by (subst hA; (try simp only [natCast_eq] at *); (try (simp only [Ar.real, NV.val, Int.ofNat_eq_natCast, Int.toNat_natCast])); first | done | omega | decide | exact inR64 (by omega) (by omega) | (refine ⟨?_, ?_⟩ <;> first | omega | decide | exact inR64 (by omega) (by omega)))), ?_⟩
            first | refine testR k1 rfl ?_ | refine testL k1 rfl ?_
            cbv
            first | refine testR k2 rfl ?_ | refine testL k2 rfl ?_
            cbv
            first | refine testR k3 rfl ?_ | refine testL k3 rfl ?_
            cbv
            refine ⟨(by (subst hA; (try simp only [natCast_eq] at *); (try (simp only [Ar.real, NV.val, Int.ofNat_eq_natCast, Int.toNat_natCast])); first | done | omega | decide | exact inR64 (by omega) (by omega) | (refine ⟨?_, ?_⟩ <;> first | omega | decide | exact inR64 (by omega) (by omega)))), ?_⟩
            first | refine testR k4 rfl ?_ | refine testL k4 rfl ?_
            cbv
            refine ⟨(by (subst hA; (try simp only [natCast_eq] at *); (try (simp only [Ar.real, NV.val, Int.ofNat_eq_natCast, Int.toNat_natCast])); first | done | omega | decide | exact inR64 (by omega) (by omega) | (refine ⟨?_, ?_⟩ <;> first | omega | decide | exact inR64 (by omega) (by omega)))), hR _ _ _ ⟨j + 1, L, 312, [], rfl, rfl, ?_, ⟨hjm, hL⟩, (by show m - (j + 1) < m - j; omega)⟩⟩
            clear hR
            (try cbv) <;> (repeat' (first | exact trivial | exact rfl | apply And.intro | exact fun _ => rfl | (intro _ hle; first | refine chunk_le hA rfl hle rfl ?_ | refine cat_le hA ?_ | refine upd_le hA ?_ | refine int_le ?_ | skip)))
            all_goals (subst hA; (try simp only [natCast_eq] at *); (try (simp only [Ar.real, NV.val, Int.ofNat_eq_natCast, Int.toNat_natCast])); first | done | omega | decide | exact inR64 (by omega) (by omega) | (refine ⟨?_, ?_⟩ <;> first | omega | decide | exact inR64 (by omega) (by omega)))
          have hb := Decidable.not_not.1 hb
          have k4 : A.eq (A.i2 (mo (A.nat (Int.ofNat j))).bn) 64 = true := by rw [kn]; clear hR; subst hA; simp [Ar.real]; omega
          obtain ⟨k, hk⟩ : ∃ k : Nat, (mo j).a = (k : Int) := ⟨(mo j).a.toNat, by omega⟩
          have hk6 : k < 6 := by omega
          obtain ⟨L', hL'⟩ : ∃ L' : Int → Option (Nat → Int), ∀ x, L' x = if x = (k : Int) then some (mo j).b else L x := ⟨_, fun _ => rfl⟩
          have hwL : Wt6 L' := ⟨fun x g h => by
            rw [hL'] at h
            by_cases q : x = (k : Int)
            · omega
            · rw [if_neg q] at h; exact hL.key x g h, fun x g h => by
            rw [hL'] at h
            by_cases q : x = (k : Int)
            · rw [if_pos q] at h; cases h; intro y hy; exact hob.2.2 y (by omega)
            · rw [if_neg q] at h; exact hL.lb x g h⟩
          have a1 := hwr L L' k (mo j).bn (mo j).b hk6 hb hL'
          have a2 := hlS L L' k (mo j).b hL'
          clear hwr hlS hL hL' hob hol
          cbv
          refine ⟨(by (subst hA; (try simp only [natCast_eq] at *); (try (simp only [Ar.real, NV.val, Int.ofNat_eq_natCast, Int.toNat_natCast])); first | done | omega | decide | exact inR64 (by omega) (by omega) | (refine ⟨?_, ?_⟩ <;> first | omega | decide | exact inR64 (by omega) (by omega)))), (by (subst hA; (try simp only [natCast_eq] at *); (try (simp only [Ar.real, NV.val, Int.ofNat_eq_natCast, Int.toNat_natCast])); first | done | omega | decide | exact inR64 (by omega) (by omega) | (refine ⟨?_, ?_⟩ <;> first | omega | decide | exact inR64 (by omega) (by omega)))), ?_⟩
          first | refine testR k1 rfl ?_ | refine testL k1 rfl ?_
          cbv
          first | refine testR k2 rfl ?_ | refine testL k2 rfl ?_
          cbv
          first | refine testR k3 rfl ?_ | refine testL k3 rfl ?_
          cbv
          refine ⟨(by (subst hA; (try simp only [natCast_eq] at *); (try (simp only [Ar.real, NV.val, Int.ofNat_eq_natCast, Int.toNat_natCast])); first | done | omega | decide | exact inR64 (by omega) (by omega) | (refine ⟨?_, ?_⟩ <;> first | omega | decide | exact inR64 (by omega) (by omega)))), ?_⟩
          first | refine testR k4 rfl ?_ | refine testL k4 rfl ?_
          cbv
          refine ⟨(by (subst hA; (try simp only [natCast_eq] at *); (try (simp only [Ar.real, NV.val, Int.ofNat_eq_natCast, Int.toNat_natCast])); first | done | omega | decide | exact inR64 (by omega) (by omega) | (refine ⟨?_, ?_⟩ <;> first | omega | decide | exact inR64 (by omega) (by omega)))), ?_⟩
          refine CS.le hA a1 [(12, 0), (13, 1), (14, 2)] rfl rfl rfl ?_ ?_ ?_
          · clear hR
            (try cbv) <;> (repeat' (first | exact trivial | exact rfl | apply And.intro | exact fun _ => rfl | (intro _ hle; first | refine chunk_le hA rfl hle rfl ?_ | refine cat_le hA ?_ | refine upd_le hA ?_ | refine int_le ?_ | skip)))
            all_goals first | (rw [kn]; exact hk) | (rw [kn]; done) | (subst hA; rfl)
          · clear hR
            (try cbv) <;> (repeat' (first | exact trivial | exact rfl | apply And.intro | exact fun _ => rfl | (intro _ hle; first | refine chunk_le hA rfl hle rfl ?_ | refine cat_le hA ?_ | refine upd_le hA ?_ | refine int_le ?_ | skip)))
          cbv
          refine DS.runK hA hT (by rw [hP]; exact P_mixed) 4 rfl ?_
          cbv
          have m0 : A.mul 64 (mo (A.nat (Int.ofNat j))).a = ((64 * k : Nat) : Int) := by rw [kn, hk]; clear hR; subst hA; simp [Ar.real]
          have m1 : A.nat (A.mul 64 (mo (A.nat (Int.ofNat j))).a) = 64 * k := by rw [m0]; clear hR; subst hA; simp [Ar.real]; omega
          refine ⟨by (show A.inR _ (A.mul 64 (mo (A.nat (Int.ofNat j))).a)); rw [m0]; clear hR; (subst hA; (try simp only [natCast_eq] at *); (try (simp only [Ar.real, NV.val, Int.ofNat_eq_natCast, Int.toNat_natCast])); first | done | omega | decide | exact inR64 (by omega) (by omega) | (refine ⟨?_, ?_⟩ <;> first | omega | decide | exact inR64 (by omega) (by omega))), ⟨by (show A.nn (A.mul 64 (mo (A.nat (Int.ofNat j))).a)); rw [m0]; clear hR; (subst hA; (try simp only [natCast_eq] at *); (try (simp only [Ar.real, NV.val, Int.ofNat_eq_natCast, Int.toNat_natCast])); first | done | omega | decide | exact inR64 (by omega) (by omega) | (refine ⟨?_, ?_⟩ <;> first | omega | decide | exact inR64 (by omega) (by omega))), by (show A.leN (A.nat (A.mul 64 (mo (A.nat (Int.ofNat j))).a)) _); rw [m1]; clear hR; (subst hA; (try simp only [natCast_eq] at *); (try (simp only [Ar.real, NV.val, Int.ofNat_eq_natCast, Int.toNat_natCast])); first | done | omega | decide | exact inR64 (by omega) (by omega) | (refine ⟨?_, ?_⟩ <;> first | omega | decide | exact inR64 (by omega) (by omega))), (by (subst hA; (try simp only [natCast_eq] at *); (try (simp only [Ar.real, NV.val, Int.ofNat_eq_natCast, Int.toNat_natCast])); first | done | omega | decide | exact inR64 (by omega) (by omega) | (refine ⟨?_, ?_⟩ <;> first | omega | decide | exact inR64 (by omega) (by omega))))⟩, (by (subst hA; (try simp only [natCast_eq] at *); (try (simp only [Ar.real, NV.val, Int.ofNat_eq_natCast, Int.toNat_natCast])); first | done | omega | decide | exact inR64 (by omega) (by omega) | (refine ⟨?_, ?_⟩ <;> first | omega | decide | exact inR64 (by omega) (by omega)))), ?_⟩
          refine OD.did [311] rfl (copy_did (S := lastF L) (S' := lastF L') hSl rfl rfl rfl rfl (Ints.base .u8 (lastF L) 384) rfl (Ints.base .u8 (mo (A.nat (Int.ofNat j))).b (mo (A.nat (Int.ofNat j))).bn) ?_ ?_) rfl ?_
          · show A.nat (A.mul 64 (mo (A.nat (Int.ofNat j))).a) + A.subN 384 (A.nat (A.mul 64 (mo (A.nat (Int.ofNat j))).a)) ≤ 384
            rw [m1]; clear hR; subst hA; show 64 * k + (384 - 64 * k) ≤ 384; omega
          · intro x hx
            show lastF L' x = if A.nat (A.mul 64 (mo (A.nat (Int.ofNat j))).a) ≤ x ∧ x < A.nat (A.mul 64 (mo (A.nat (Int.ofNat j))).a) + min (mo (A.nat (Int.ofNat j))).bn (A.subN 384 (A.nat (A.mul 64 (mo (A.nat (Int.ofNat j))).a))) then (mo (A.nat (Int.ofNat j))).b (x - A.nat (A.mul 64 (mo (A.nat (Int.ofNat j))).a)) else lastF L x
            have m2 : min 64 (A.subN 384 (64 * k)) = 64 := by clear hR; subst hA; show min 64 (384 - 64 * k) = 64; omega
            rw [m1, a2 x, kn, hb, m2]
          cbv
          refine DF.fin (by kernel_rfl) (by kernel_rfl) ?_
          cbv
          refine ⟨(by (subst hA; (try simp only [natCast_eq] at *); (try (simp only [Ar.real, NV.val, Int.ofNat_eq_natCast, Int.toNat_natCast])); first | done | omega | decide | exact inR64 (by omega) (by omega) | (refine ⟨?_, ?_⟩ <;> first | omega | decide | exact inR64 (by omega) (by omega)))), hR _ _ _ ⟨j + 1, L', 312, [], rfl, rfl, ?_, ⟨hjm, hwL⟩, (by show m - (j + 1) < m - j; omega)⟩⟩
          clear hR
          (try cbv) <;> (repeat' (first | exact trivial | exact rfl | apply And.intro | exact fun _ => rfl | (intro _ hle; first | refine chunk_le hA rfl hle rfl ?_ | refine cat_le hA ?_ | refine upd_le hA ?_ | refine int_le ?_ | skip)))
          all_goals (subst hA; (try simp only [natCast_eq] at *); (try (simp only [Ar.real, NV.val, Int.ofNat_eq_natCast, Int.toNat_natCast])); first | done | omega | decide | exact inR64 (by omega) (by omega) | (refine ⟨?_, ?_⟩ <;> first | omega | decide | exact inR64 (by omega) (by omega)))
        · have hjm : j = m := by clear hR hmo hmt hwr hcrash hL hlS; subst hA; simp [Ar.real] at q1; omega
          clear hR hmo hmt hwr hlS
          obtain ⟨S2, hS2, e1, e2⟩ := hcrash L hL
          cbv
          refine CS.le hA (e1) [(12, 0), (13, 1), (14, 2)] rfl rfl rfl ?_ ?_ ?_
          · (try cbv) <;> (repeat' (first | exact trivial | exact rfl | apply And.intro | exact fun _ => rfl | (intro _ hle; first | refine chunk_le hA rfl hle rfl ?_ | refine cat_le hA ?_ | refine upd_le hA ?_ | (try cbv)))) <;> (try (subst hA; (try simp only [natCast_eq] at *); (try (simp only [Ar.real, NV.val, Int.ofNat_eq_natCast, Int.toNat_natCast])); first | done | omega | decide | exact inR64 (by omega) (by omega) | (refine ⟨?_, ?_⟩ <;> first | omega | decide | exact inR64 (by omega) (by omega))))
          · (try cbv) <;> (repeat' (first | exact trivial | exact rfl | apply And.intro | exact fun _ => rfl | (intro _ hle; first | refine chunk_le hA rfl hle rfl ?_ | refine cat_le hA ?_ | refine upd_le hA ?_ | (try cbv))))
          cbv
          refine CS.le hA (e2) [(12, 0), (13, 1), (14, 2)] rfl rfl rfl ?_ ?_ ?_
          · (try cbv) <;> (repeat' (first | exact trivial | exact rfl | apply And.intro | exact fun _ => rfl | (intro _ hle; first | refine chunk_le hA rfl hle rfl ?_ | refine cat_le hA ?_ | refine upd_le hA ?_ | (try cbv)))) <;> (try (subst hA; (try simp only [natCast_eq] at *); (try (simp only [Ar.real, NV.val, Int.ofNat_eq_natCast, Int.toNat_natCast])); first | done | omega | decide | exact inR64 (by omega) (by omega) | (refine ⟨?_, ?_⟩ <;> first | omega | decide | exact inR64 (by omega) (by omega))))
          · (try cbv) <;> (repeat' (first | exact trivial | exact rfl | apply And.intro | exact fun _ => rfl | (intro _ hle; first | refine chunk_le hA rfl hle rfl ?_ | refine cat_le hA ?_ | refine upd_le hA ?_ | (try cbv))))
          cbv
          have hfin : ∀ i κ : Nat, 64 * i ≤ κ → κ ≤ 64 * i + 64 → (∀ x, 64 * i ≤ x → x < κ → S2 x = lastF L x) → (κ = 64 * i + 64 ∨ ¬ S2 κ = lastF L κ) → ∀ x, κ + x < 64 * i + 64 → S2 (κ + x) = S1 (κ + x) := fun i κ h1 h2 h3 h4 x h5 => by
            have hq := sure_front (fun k g h => (hL.key k g h).1) hS2 i (κ - 64 * i) (by omega) (fun u hu => by
              rw [h3 (64 * i + u) (by omega) (by omega), hlF, show (64 * i + u) / 64 = i by omega, show (64 * i + u) % 64 = u by omega]) (by
              rcases h4 with h | h
              · exact .inl (by omega)
              · by_cases q : κ = 64 * i + 64
                · exact .inl (by omega)
                · refine .inr ?_
                  rw [hlF, show κ / 64 = i by omega, show κ % 64 = κ - 64 * i by omega] at h
                  rw [show 64 * i + (κ - 64 * i) = κ by omega]; exact h) (κ + x - 64 * i) (by omega) (by omega)
            rw [show 64 * i + (κ + x - 64 * i) = κ + x by omega] at hq
            exact hq
          clear hlF hL hS2 hcrash e1 e2 hl0
          have k1 : A.ne (A.i2 384) (A.i2 384) = false := by subst hA; simp [Ar.real]
          have k2 : A.ne (A.i2 384) 384 = false := by subst hA; simp [Ar.real]
          first | refine testR k1 rfl ?_ | refine testL k1 rfl ?_
          cbv
          first | refine testR k2 rfl ?_ | refine testL k2 rfl ?_
          cbv
          refine LS.le hT hA 430 (fun (i : Nat) => [(17, .int .i64 (i : Int))]) (fun _ => [(311, .row 5 1 (.s 384) (fun e => [.int .u8 (lastF L e.val)]))]) (fun i => i ≤ 6) (fun i => 6 - i) 0 [] rfl rfl ?_ ?_ ?_
          · (try cbv) <;> (repeat' (first | exact trivial | exact rfl | apply And.intro | exact fun _ => rfl | (intro _ hle; first | refine chunk_le hA rfl hle rfl ?_ | refine cat_le hA ?_ | refine upd_le hA ?_ | (try cbv))))
          · exact Nat.zero_le _
          · intro R hR i hi
            cbv
            refine ⟨fun q1 => ?_, fun q1 => ?_⟩
            · have hi6 : i < 6 := by clear hR hfin; subst hA; simp [Ar.real] at q1; omega
              obtain ⟨o, ho⟩ : ∃ o, o = 64 * i := ⟨_, rfl⟩
              cbv
              refine ⟨(by (subst hA; (try simp only [natCast_eq] at *); (try (simp only [Ar.real, NV.val, Int.ofNat_eq_natCast, Int.toNat_natCast])); first | done | omega | decide | exact inR64 (by omega) (by omega) | (refine ⟨?_, ?_⟩ <;> first | omega | decide | exact inR64 (by omega) (by omega)))), ?_⟩
              refine LS.le hT hA 430 (fun (κ : Nat) => [(18, .int .i64 (κ : Int))]) (fun _ => [(311, .row 5 1 (.s 384) (fun e => [.int .u8 (lastF L e.val)]))]) (fun κ => (o ≤ κ ∧ κ ≤ o + 64) ∧ ∀ x, o ≤ x → x < κ → S2 x = lastF L x) (fun κ => o + 64 - κ) o [] rfl rfl ?_ ?_ ?_
              · (try cbv) <;> (repeat' (first | exact trivial | exact rfl | apply And.intro | exact fun _ => rfl | (intro _ hle; first | refine chunk_le hA rfl hle rfl ?_ | refine cat_le hA ?_ | refine upd_le hA ?_ | (try cbv))))
                all_goals (clear hR hfin; subst hA; show (64 : Int) * (i : Int) = (o : Int); omega)
              · exact ⟨⟨Nat.le_refl _, by omega⟩, fun x h1 h2 => by omega⟩
              · intro R2 hR2 κ hκ
                cbv
                have hκ1 := hκ.1
                have hκ2 := hκ.2
                clear hκ
                have kn : A.nat (Int.ofNat κ) = κ := by clear hR hR2 hfin hκ2 hB1; subst hA; rfl
                have m2 : A.nat (A.add (A.mul 64 (Int.ofNat i)) 64) = o + 64 := by clear hR hR2 hfin hκ2 hB1; subst hA; simp [Ar.real]; omega
                obtain ⟨w, hw⟩ : ∃ w, w = o + 64 - κ := ⟨_, rfl⟩
                have hadd : ∀ e, (addNV Ar.real (NV.s (Ar.real.nat (Int.ofNat κ))) e).val = κ + e.val := fun e => by cases e <;> rfl
                have d6 : (∀ x, κ + x < o + 64 → S2 (κ + x) = S1 (κ + x)) → FnTr P G 32 [.ro 1 (.s w) (fun e => [.int .u8 (S2 (κ + e.val))]), .ro 1 (.s w) (fun e => [.int .u8 (S1 (κ + e.val))])] [] 0 (Gives (.bs true) [] 0) := fun k5 => same_fn (f := fun x => S2 (κ + x)) (g := fun x => S1 (κ + x)) hP (fun x hx => by have := hB1 (κ + x) (by omega); have e := k5 x (by omega); show 0 ≤ S2 (κ + x) ∧ S2 (κ + x) < 256; rw [e]; omega) (fun x hx => by have := hB1 (κ + x) (by omega); show 0 ≤ S1 (κ + x) ∧ S1 (κ + x) < 256; omega) ⟨fun _ => ⟨rfl, fun x hx => k5 x (by omega)⟩, fun _ => rfl⟩
                have hf2 : (κ = o + 64 ∨ ¬ S2 κ = lastF L κ) → ∀ x, κ + x < o + 64 → S2 (κ + x) = S1 (κ + x) := by
                  rw [ho] at *
                  exact hfin i κ hκ1.1 hκ1.2 hκ2
                clear hfin hB1
                by_cases g1 : ¬ κ < o + 64
                · have k3 : A.lt (Int.ofNat κ) (A.add (A.mul 64 (Int.ofNat i)) 64) = false := by clear hR hR2 hκ2 d6 hf2; subst hA; simp [Ar.real]; omega
                  have d6 := d6 (hf2 (.inl (by omega)))
                  clear hκ2 hf2 hR2
                  refine DS.runK hA hT (by rw [hP]; exact P_mixed) 12 rfl ?_
                  cbv
                  refine ⟨(by (subst hA; (try simp only [natCast_eq] at *); (try (simp only [Ar.real, NV.val, Int.ofNat_eq_natCast, Int.toNat_natCast])); first | done | omega | decide | exact inR64 (by omega) (by omega) | (refine ⟨?_, ?_⟩ <;> first | omega | decide | exact inR64 (by omega) (by omega)))), (by (subst hA; (try simp only [natCast_eq] at *); (try (simp only [Ar.real, NV.val, Int.ofNat_eq_natCast, Int.toNat_natCast])); first | done | omega | decide | exact inR64 (by omega) (by omega) | (refine ⟨?_, ?_⟩ <;> first | omega | decide | exact inR64 (by omega) (by omega)))), ?_⟩
                  first | refine testR k3 rfl ?_ | refine testL k3 rfl ?_
                  cbv
                  refine DF.fin (by kernel_rfl) (by kernel_rfl) ?_
                  cbv
                  refine DS.runK hA hT (by rw [hP]; exact P_mixed) 12 rfl ?_
                  cbv
                  refine ⟨(by (subst hA; (try simp only [natCast_eq] at *); (try (simp only [Ar.real, NV.val, Int.ofNat_eq_natCast, Int.toNat_natCast])); first | done | omega | decide | exact inR64 (by omega) (by omega) | (refine ⟨?_, ?_⟩ <;> first | omega | decide | exact inR64 (by omega) (by omega)))), (by (subst hA; (try simp only [natCast_eq] at *); (try (simp only [Ar.real, NV.val, Int.ofNat_eq_natCast, Int.toNat_natCast])); first | done | omega | decide | exact inR64 (by omega) (by omega) | (refine ⟨?_, ?_⟩ <;> first | omega | decide | exact inR64 (by omega) (by omega)))), ⟨(by (subst hA; (try simp only [natCast_eq] at *); (try (simp only [Ar.real, NV.val, Int.ofNat_eq_natCast, Int.toNat_natCast])); first | done | omega | decide | exact inR64 (by omega) (by omega) | (refine ⟨?_, ?_⟩ <;> first | omega | decide | exact inR64 (by omega) (by omega)))), (by (subst hA; (try simp only [natCast_eq] at *); (try (simp only [Ar.real, NV.val, Int.ofNat_eq_natCast, Int.toNat_natCast])); first | done | omega | decide | exact inR64 (by omega) (by omega) | (refine ⟨?_, ?_⟩ <;> first | omega | decide | exact inR64 (by omega) (by omega)))), (by (show A.leN (A.nat (Int.ofNat κ)) (A.nat (A.add (A.mul 64 (Int.ofNat i)) 64))); rw [m2, kn]; clear hR; subst hA; (show κ ≤ o + 64); omega), (by (show A.leN (A.nat (A.add (A.mul 64 (Int.ofNat i)) 64)) 384); rw [m2]; clear hR; subst hA; (show o + 64 ≤ 384); omega)⟩, (by (subst hA; (try simp only [natCast_eq] at *); (try (simp only [Ar.real, NV.val, Int.ofNat_eq_natCast, Int.toNat_natCast])); first | done | omega | decide | exact inR64 (by omega) (by omega) | (refine ⟨?_, ?_⟩ <;> first | omega | decide | exact inR64 (by omega) (by omega)))), (by (subst hA; (try simp only [natCast_eq] at *); (try (simp only [Ar.real, NV.val, Int.ofNat_eq_natCast, Int.toNat_natCast])); first | done | omega | decide | exact inR64 (by omega) (by omega) | (refine ⟨?_, ?_⟩ <;> first | omega | decide | exact inR64 (by omega) (by omega)))), ⟨(by (subst hA; (try simp only [natCast_eq] at *); (try (simp only [Ar.real, NV.val, Int.ofNat_eq_natCast, Int.toNat_natCast])); first | done | omega | decide | exact inR64 (by omega) (by omega) | (refine ⟨?_, ?_⟩ <;> first | omega | decide | exact inR64 (by omega) (by omega)))), (by (subst hA; (try simp only [natCast_eq] at *); (try (simp only [Ar.real, NV.val, Int.ofNat_eq_natCast, Int.toNat_natCast])); first | done | omega | decide | exact inR64 (by omega) (by omega) | (refine ⟨?_, ?_⟩ <;> first | omega | decide | exact inR64 (by omega) (by omega)))), (by (show A.leN (A.nat (Int.ofNat κ)) (A.nat (A.add (A.mul 64 (Int.ofNat i)) 64))); rw [m2, kn]; clear hR; subst hA; (show κ ≤ o + 64); omega), (by (show A.leN (A.nat (A.add (A.mul 64 (Int.ofNat i)) 64)) 384); rw [m2]; clear hR; subst hA; (show o + 64 ≤ 384); omega)⟩, ?_⟩
                  refine CD.pass hA d6 [] [] rfl ⟨rfl, rfl, rfl, rfl, ?_, ?_⟩ rfl (.inl rfl) ?_
                  · clear hR
                    (try cbv) <;> (repeat' (first | exact trivial | exact rfl | apply And.intro | exact fun _ => rfl | (intro _ hle; first | refine chunk_le hA rfl hle rfl ?_ | refine cat_le hA ?_ | refine upd_le hA ?_ | (try cbv))))
                    all_goals first | (show A.subN (A.nat (A.add (A.mul 64 (Int.ofNat i)) 64)) (A.nat (Int.ofNat κ)) = w; rw [m2, kn, hw]; subst hA; rfl) | (subst hA; rw [hadd]; done) | (subst hA; rw [hadd])
                  · (try cbv) <;> (repeat' (first | exact trivial | exact rfl | apply And.intro | exact fun _ => rfl | (intro _ hle; first | refine chunk_le hA rfl hle rfl ?_ | refine cat_le hA ?_ | refine upd_le hA ?_ | (try cbv))))
                  cbv
                  refine DF.fin (by kernel_rfl) (by kernel_rfl) ?_
                  cbv
                  have k7 : A.not true = false := by clear hR; subst hA; rfl
                  first | refine testR k7 rfl ?_ | refine testL k7 rfl ?_
                  cbv
                  refine ⟨(by (subst hA; (try simp only [natCast_eq] at *); (try (simp only [Ar.real, NV.val, Int.ofNat_eq_natCast, Int.toNat_natCast])); first | done | omega | decide | exact inR64 (by omega) (by omega) | (refine ⟨?_, ?_⟩ <;> first | omega | decide | exact inR64 (by omega) (by omega)))), hR _ _ ⟨i + 1, 430, [], rfl, rfl, ?_, (by omega), (by show 6 - (i + 1) < 6 - i; omega)⟩⟩
                  clear hR
                  (try cbv) <;> (repeat' (first | exact trivial | exact rfl | apply And.intro | exact fun _ => rfl | (intro _ hle; first | refine chunk_le hA rfl hle rfl ?_ | refine cat_le hA ?_ | refine upd_le hA ?_ | (try cbv))))
                  all_goals (subst hA; (try simp only [natCast_eq] at *); (try (simp only [Ar.real, NV.val, Int.ofNat_eq_natCast, Int.toNat_natCast])); first | done | omega | decide | exact inR64 (by omega) (by omega) | (refine ⟨?_, ?_⟩ <;> first | omega | decide | exact inR64 (by omega) (by omega)))
                have g1 := Decidable.not_not.1 g1
                have k3 : A.lt (Int.ofNat κ) (A.add (A.mul 64 (Int.ofNat i)) 64) = true := by clear hR hR2 hκ2 d6 hf2; subst hA; simp [Ar.real]; omega
                by_cases g2 : ¬ S2 κ = lastF L κ
                · have k4 : A.eq (S2 (A.nat (Int.ofNat κ))) (lastF L (A.nat (Int.ofNat κ))) = false := by rw [kn]; clear hR hR2 hκ2 d6 hf2; subst hA; simp [Ar.real]; exact g2
                  have d6 := d6 (hf2 (.inr g2))
                  clear hκ2 hf2 hR2
                  refine DS.runK hA hT (by rw [hP]; exact P_mixed) 12 rfl ?_
                  cbv
                  refine ⟨(by (subst hA; (try simp only [natCast_eq] at *); (try (simp only [Ar.real, NV.val, Int.ofNat_eq_natCast, Int.toNat_natCast])); first | done | omega | decide | exact inR64 (by omega) (by omega) | (refine ⟨?_, ?_⟩ <;> first | omega | decide | exact inR64 (by omega) (by omega)))), (by (subst hA; (try simp only [natCast_eq] at *); (try (simp only [Ar.real, NV.val, Int.ofNat_eq_natCast, Int.toNat_natCast])); first | done | omega | decide | exact inR64 (by omega) (by omega) | (refine ⟨?_, ?_⟩ <;> first | omega | decide | exact inR64 (by omega) (by omega)))), ?_⟩
                  first | refine testR k3 rfl ?_ | refine testL k3 rfl ?_
                  cbv
                  refine ⟨(by (subst hA; (try simp only [natCast_eq] at *); (try (simp only [Ar.real, NV.val, Int.ofNat_eq_natCast, Int.toNat_natCast])); first | done | omega | decide | exact inR64 (by omega) (by omega) | (refine ⟨?_, ?_⟩ <;> first | omega | decide | exact inR64 (by omega) (by omega)))), (by (subst hA; (try simp only [natCast_eq] at *); (try (simp only [Ar.real, NV.val, Int.ofNat_eq_natCast, Int.toNat_natCast])); first | done | omega | decide | exact inR64 (by omega) (by omega) | (refine ⟨?_, ?_⟩ <;> first | omega | decide | exact inR64 (by omega) (by omega)))), (by (subst hA; (try simp only [natCast_eq] at *); (try (simp only [Ar.real, NV.val, Int.ofNat_eq_natCast, Int.toNat_natCast])); first | done | omega | decide | exact inR64 (by omega) (by omega) | (refine ⟨?_, ?_⟩ <;> first | omega | decide | exact inR64 (by omega) (by omega)))), ?_⟩
                  refine DF.fin (by kernel_rfl) (by kernel_rfl) ?_
                  cbv
                  first | refine testR k4 rfl ?_ | refine testL k4 rfl ?_
                  cbv
                  refine DS.runK hA hT (by rw [hP]; exact P_mixed) 12 rfl ?_
                  cbv
                  refine ⟨(by (subst hA; (try simp only [natCast_eq] at *); (try (simp only [Ar.real, NV.val, Int.ofNat_eq_natCast, Int.toNat_natCast])); first | done | omega | decide | exact inR64 (by omega) (by omega) | (refine ⟨?_, ?_⟩ <;> first | omega | decide | exact inR64 (by omega) (by omega)))), (by (subst hA; (try simp only [natCast_eq] at *); (try (simp only [Ar.real, NV.val, Int.ofNat_eq_natCast, Int.toNat_natCast])); first | done | omega | decide | exact inR64 (by omega) (by omega) | (refine ⟨?_, ?_⟩ <;> first | omega | decide | exact inR64 (by omega) (by omega)))), ⟨(by (subst hA; (try simp only [natCast_eq] at *); (try (simp only [Ar.real, NV.val, Int.ofNat_eq_natCast, Int.toNat_natCast])); first | done | omega | decide | exact inR64 (by omega) (by omega) | (refine ⟨?_, ?_⟩ <;> first | omega | decide | exact inR64 (by omega) (by omega)))), (by (subst hA; (try simp only [natCast_eq] at *); (try (simp only [Ar.real, NV.val, Int.ofNat_eq_natCast, Int.toNat_natCast])); first | done | omega | decide | exact inR64 (by omega) (by omega) | (refine ⟨?_, ?_⟩ <;> first | omega | decide | exact inR64 (by omega) (by omega)))), (by (show A.leN (A.nat (Int.ofNat κ)) (A.nat (A.add (A.mul 64 (Int.ofNat i)) 64))); rw [m2, kn]; clear hR; subst hA; (show κ ≤ o + 64); omega), (by (show A.leN (A.nat (A.add (A.mul 64 (Int.ofNat i)) 64)) 384); rw [m2]; clear hR; subst hA; (show o + 64 ≤ 384); omega)⟩, (by (subst hA; (try simp only [natCast_eq] at *); (try (simp only [Ar.real, NV.val, Int.ofNat_eq_natCast, Int.toNat_natCast])); first | done | omega | decide | exact inR64 (by omega) (by omega) | (refine ⟨?_, ?_⟩ <;> first | omega | decide | exact inR64 (by omega) (by omega)))), (by (subst hA; (try simp only [natCast_eq] at *); (try (simp only [Ar.real, NV.val, Int.ofNat_eq_natCast, Int.toNat_natCast])); first | done | omega | decide | exact inR64 (by omega) (by omega) | (refine ⟨?_, ?_⟩ <;> first | omega | decide | exact inR64 (by omega) (by omega)))), ⟨(by (subst hA; (try simp only [natCast_eq] at *); (try (simp only [Ar.real, NV.val, Int.ofNat_eq_natCast, Int.toNat_natCast])); first | done | omega | decide | exact inR64 (by omega) (by omega) | (refine ⟨?_, ?_⟩ <;> first | omega | decide | exact inR64 (by omega) (by omega)))), (by (subst hA; (try simp only [natCast_eq] at *); (try (simp only [Ar.real, NV.val, Int.ofNat_eq_natCast, Int.toNat_natCast])); first | done | omega | decide | exact inR64 (by omega) (by omega) | (refine ⟨?_, ?_⟩ <;> first | omega | decide | exact inR64 (by omega) (by omega)))), (by (show A.leN (A.nat (Int.ofNat κ)) (A.nat (A.add (A.mul 64 (Int.ofNat i)) 64))); rw [m2, kn]; clear hR; subst hA; (show κ ≤ o + 64); omega), (by (show A.leN (A.nat (A.add (A.mul 64 (Int.ofNat i)) 64)) 384); rw [m2]; clear hR; subst hA; (show o + 64 ≤ 384); omega)⟩, ?_⟩
                  refine CD.pass hA d6 [] [] rfl ⟨rfl, rfl, rfl, rfl, ?_, ?_⟩ rfl (.inl rfl) ?_
                  · clear hR
                    (try cbv) <;> (repeat' (first | exact trivial | exact rfl | apply And.intro | exact fun _ => rfl | (intro _ hle; first | refine chunk_le hA rfl hle rfl ?_ | refine cat_le hA ?_ | refine upd_le hA ?_ | (try cbv))))
                    all_goals first | (show A.subN (A.nat (A.add (A.mul 64 (Int.ofNat i)) 64)) (A.nat (Int.ofNat κ)) = w; rw [m2, kn, hw]; subst hA; rfl) | (subst hA; rw [hadd]; done) | (subst hA; rw [hadd])
                  · (try cbv) <;> (repeat' (first | exact trivial | exact rfl | apply And.intro | exact fun _ => rfl | (intro _ hle; first | refine chunk_le hA rfl hle rfl ?_ | refine cat_le hA ?_ | refine upd_le hA ?_ | (try cbv))))
                  cbv
                  refine DF.fin (by kernel_rfl) (by kernel_rfl) ?_
                  cbv
                  have k7 : A.not true = false := by clear hR; subst hA; rfl
                  first | refine testR k7 rfl ?_ | refine testL k7 rfl ?_
                  cbv
                  refine ⟨(by (subst hA; (try simp only [natCast_eq] at *); (try (simp only [Ar.real, NV.val, Int.ofNat_eq_natCast, Int.toNat_natCast])); first | done | omega | decide | exact inR64 (by omega) (by omega) | (refine ⟨?_, ?_⟩ <;> first | omega | decide | exact inR64 (by omega) (by omega)))), hR _ _ ⟨i + 1, 430, [], rfl, rfl, ?_, (by omega), (by show 6 - (i + 1) < 6 - i; omega)⟩⟩
                  clear hR
                  (try cbv) <;> (repeat' (first | exact trivial | exact rfl | apply And.intro | exact fun _ => rfl | (intro _ hle; first | refine chunk_le hA rfl hle rfl ?_ | refine cat_le hA ?_ | refine upd_le hA ?_ | (try cbv))))
                  all_goals (subst hA; (try simp only [natCast_eq] at *); (try (simp only [Ar.real, NV.val, Int.ofNat_eq_natCast, Int.toNat_natCast])); first | done | omega | decide | exact inR64 (by omega) (by omega) | (refine ⟨?_, ?_⟩ <;> first | omega | decide | exact inR64 (by omega) (by omega)))
                · have g2 := Decidable.not_not.1 g2
                  have k4 : A.eq (S2 (A.nat (Int.ofNat κ))) (lastF L (A.nat (Int.ofNat κ))) = true := by rw [kn]; clear hR hR2 hκ2 d6 hf2; subst hA; simp [Ar.real]; exact g2
                  clear hR d6 hf2
                  refine DS.runK hA hT (by rw [hP]; exact P_mixed) 12 rfl ?_
                  cbv
                  refine ⟨(by (subst hA; (try simp only [natCast_eq] at *); (try (simp only [Ar.real, NV.val, Int.ofNat_eq_natCast, Int.toNat_natCast])); first | done | omega | decide | exact inR64 (by omega) (by omega) | (refine ⟨?_, ?_⟩ <;> first | omega | decide | exact inR64 (by omega) (by omega)))), (by (subst hA; (try simp only [natCast_eq] at *); (try (simp only [Ar.real, NV.val, Int.ofNat_eq_natCast, Int.toNat_natCast])); first | done | omega | decide | exact inR64 (by omega) (by omega) | (refine ⟨?_, ?_⟩ <;> first | omega | decide | exact inR64 (by omega) (by omega)))), ?_⟩
                  first | refine testR k3 rfl ?_ | refine testL k3 rfl ?_
                  cbv
                  refine ⟨(by (subst hA; (try simp only [natCast_eq] at *); (try (simp only [Ar.real, NV.val, Int.ofNat_eq_natCast, Int.toNat_natCast])); first | done | omega | decide | exact inR64 (by omega) (by omega) | (refine ⟨?_, ?_⟩ <;> first | omega | decide | exact inR64 (by omega) (by omega)))), (by (subst hA; (try simp only [natCast_eq] at *); (try (simp only [Ar.real, NV.val, Int.ofNat_eq_natCast, Int.toNat_natCast])); first | done | omega | decide | exact inR64 (by omega) (by omega) | (refine ⟨?_, ?_⟩ <;> first | omega | decide | exact inR64 (by omega) (by omega)))), (by (subst hA; (try simp only [natCast_eq] at *); (try (simp only [Ar.real, NV.val, Int.ofNat_eq_natCast, Int.toNat_natCast])); first | done | omega | decide | exact inR64 (by omega) (by omega) | (refine ⟨?_, ?_⟩ <;> first | omega | decide | exact inR64 (by omega) (by omega)))), ?_⟩
                  refine DF.fin (by kernel_rfl) (by kernel_rfl) ?_
                  cbv
                  first | refine testR k4 rfl ?_ | refine testL k4 rfl ?_
                  cbv
                  refine ⟨(by (subst hA; (try simp only [natCast_eq] at *); (try (simp only [Ar.real, NV.val, Int.ofNat_eq_natCast, Int.toNat_natCast])); first | done | omega | decide | exact inR64 (by omega) (by omega) | (refine ⟨?_, ?_⟩ <;> first | omega | decide | exact inR64 (by omega) (by omega)))), hR2 _ _ ⟨κ + 1, 430, [], rfl, rfl, ?_, ⟨⟨(by omega), (by omega)⟩, fun x h1 h2 => (by
                    by_cases q : x = κ
                    · rw [q]; exact g2
                    · exact hκ2 x h1 (by omega))⟩, (by show o + 64 - (κ + 1) < o + 64 - κ; omega)⟩⟩
                  clear hR2
                  (try cbv) <;> (repeat' (first | exact trivial | exact rfl | apply And.intro | exact fun _ => rfl | (intro _ hle; first | refine chunk_le hA rfl hle rfl ?_ | refine cat_le hA ?_ | refine upd_le hA ?_ | (try cbv))))
                  all_goals (subst hA; (try simp only [natCast_eq] at *); (try (simp only [Ar.real, NV.val, Int.ofNat_eq_natCast, Int.toNat_natCast])); first | done | omega | decide | exact inR64 (by omega) (by omega) | (refine ⟨?_, ?_⟩ <;> first | omega | decide | exact inR64 (by omega) (by omega)))
            · clear hR
              refine CS.le hA (cl) [] rfl rfl rfl ?_ ?_ ?_
              · (try cbv) <;> (repeat' (first | exact trivial | exact rfl | apply And.intro | exact fun _ => rfl | (intro _ hle; first | refine chunk_le hA rfl hle rfl ?_ | refine cat_le hA ?_ | refine upd_le hA ?_ | (try cbv)))) <;> (try (subst hA; (try simp only [natCast_eq] at *); (try (simp only [Ar.real, NV.val, Int.ofNat_eq_natCast, Int.toNat_natCast])); first | done | omega | decide | exact inR64 (by omega) (by omega) | (refine ⟨?_, ?_⟩ <;> first | omega | decide | exact inR64 (by omega) (by omega))))
              · (try cbv) <;> (repeat' (first | exact trivial | exact rfl | apply And.intro | exact fun _ => rfl | (intro _ hle; first | refine chunk_le hA rfl hle rfl ?_ | refine cat_le hA ?_ | refine upd_le hA ?_ | (try cbv))))
              cbv
              refine Fin.le hA 0 [] (.bl true) ([]) 9000 rfl rfl rfl ?_ ?_ (by rw [← hK]; exact ⟨rfl, rfl, rfl⟩)
              · (try cbv) <;> (repeat' (first | exact trivial | exact rfl | apply And.intro | exact fun _ => rfl | (intro _ hle; first | refine chunk_le hA rfl hle rfl ?_ | refine cat_le hA ?_ | refine upd_le hA ?_ | (try cbv))))
              · (try cbv) <;> (repeat' (first | exact trivial | exact rfl | apply And.intro | exact fun _ => rfl | (intro _ hle; first | refine chunk_le hA rfl hle rfl ?_ | refine cat_le hA ?_ | refine upd_le hA ?_ | (try cbv))))
end Go.Proofs.Ytnjjgipblimbfaa.Dsk
