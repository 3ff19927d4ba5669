/-
  Disks: bytes as a disk.
-/
import Derived.Test.YtnjjgipblimbfaaDskF8
set_option linter.unusedVariables false
set_option linter.unusedSimpArgs false
namespace Go.Proofs.Ytnjjgipblimbfaa.Dsk
open Go.Eng
open Go.DskLaw (q64 secV)
set_option maxRecDepth 100000
set_option maxHeartbeats 4000000
set_option linter.unusedVariables false

theorem of_bad {P : Program} {G : Gl} (hP : P = Try.prog) {n : Nat} {f : Nat → Int} (hn : n ≤ 1000000) (h : n / 64 < 1 ∨ 4096 < n / 64 ∨ n % 64 ≠ 0) : FnTr P G 19 [By n f] [] 0 (Gives (.tup [.nilp, .lit .i64 1]) [] 0) := by
  obtain ⟨q, hq⟩ : ∃ q, q = n / 64 := ⟨_, rfl⟩
  have e1 : Int.tdiv (n : Int) 64 = (q : Int) := by rw [hq]; exact quo_nat n 64
  have e2 : Int.tmod (n : Int) 64 = ((n % 64 : Nat) : Int) := rem_nat n 64
  have hq2 : q ≤ 1000000 := by omega
  by_cases h0 : q < 1 ∨ 4096 < q
  · have c1 := new_bad (P := P) (G := G) (n := (q : Int)) hP (by omega)
    have hT : T.Ok P := hP ▸ T_ok
    refine FnTr.intro (fn := Try.f19) (c := bodyOf Try.f19) (by rw [hP]; rfl) rfl rfl hT ?_
    generalize hA : Ar.real = A
    generalize hK : Gives _ _ _ = K
    cbv
    have kq : A.quo (A.i2 n) 64 = (q : Int) := by subst hA; exact e1
    refine ⟨⟨by subst hA; show (64 : Int) ≠ 0; decide, by have : A.inR .i64 (A.quo (A.i2 n) 64) := by { rw [kq]; subst hA; exact inR64 (by omega) (by omega) }; exact this⟩, ?_⟩
    refine CS.le hA c1 [] rfl rfl rfl ?_ ?_ ?_
    · (try cbv) <;> (repeat' (first | exact trivial | exact rfl | apply And.intro | exact fun _ => rfl | (intro _ hle; first | refine chunk_le hA rfl hle rfl ?_ | refine cat_le hA ?_ | refine upd_le hA ?_ | (try cbv))))
      exact kq
    · (try cbv) <;> (repeat' (first | exact trivial | exact rfl | apply And.intro | exact fun _ => rfl | (intro _ hle; first | refine chunk_le hA rfl hle rfl ?_ | refine cat_le hA ?_ | refine upd_le hA ?_ | (try cbv))))
    cbv
    refine Fin.le hA 0 [] (.tup [.nilp, .lit .i64 1]) ([]) 0 rfl rfl rfl ?_ ?_ (by rw [← hK]; exact ⟨rfl, rfl, rfl⟩)
    · (try cbv) <;> (repeat' (first | exact trivial | exact rfl | apply And.intro | exact fun _ => rfl | (intro _ hle; first | refine chunk_le hA rfl hle rfl ?_ | refine cat_le hA ?_ | refine upd_le hA ?_ | (try cbv))))
    · (try cbv) <;> (repeat' (first | exact trivial | exact rfl | apply And.intro | exact fun _ => rfl | (intro _ hle; first | refine chunk_le hA rfl hle rfl ?_ | refine cat_le hA ?_ | refine upd_le hA ?_ | (try cbv))))
  · obtain ⟨z, hz⟩ : ∃ z : Nat → Int, z = fun _ => 0 := ⟨_, rfl⟩
    obtain ⟨L, hL⟩ : ∃ L : Int → Option (Nat → Int), L = fun _ => none := ⟨_, rfl⟩
    obtain ⟨N, hN⟩ : ∃ N, N = 64 * q := ⟨_, rfl⟩
    have c1 := new_ok (P := P) (G := G) (n := (q : Int)) (S := z) (L := L) hP rfl (by omega) hN (fun x => by rw [hz]) (fun k => by rw [hL])
    clear hz hL
    have hT : T.Ok P := hP ▸ T_ok
    refine FnTr.intro (fn := Try.f19) (c := bodyOf Try.f19) (by rw [hP]; rfl) rfl rfl hT ?_
    generalize hA : Ar.real = A
    generalize hK : Gives _ _ _ = K
    cbv
    have kq : A.quo (A.i2 n) 64 = (q : Int) := by subst hA; exact e1
    refine ⟨⟨by subst hA; show (64 : Int) ≠ 0; decide, by have : A.inR .i64 (A.quo (A.i2 n) 64) := by { rw [kq]; subst hA; exact inR64 (by omega) (by omega) }; exact this⟩, ?_⟩
    refine CS.le hA c1 [] rfl rfl rfl ?_ ?_ ?_
    · (try cbv) <;> (repeat' (first | exact trivial | exact rfl | apply And.intro | exact fun _ => rfl | (intro _ hle; first | refine chunk_le hA rfl hle rfl ?_ | refine cat_le hA ?_ | refine upd_le hA ?_ | (try cbv))))
      exact kq
    · (try cbv) <;> (repeat' (first | exact trivial | exact rfl | apply And.intro | exact fun _ => rfl | (intro _ hle; first | refine chunk_le hA rfl hle rfl ?_ | refine cat_le hA ?_ | refine upd_le hA ?_ | (try cbv))))
    cbv
    have kr : A.ne (A.rem (A.i2 n) 64) 0 = true := by
      subst hA
      show (Int.tmod (n : Int) 64 != 0) = true
      rw [e2]
      simp; omega
    refine ⟨by subst hA; show (64 : Int) ≠ 0; decide, ?_⟩
    first | refine testR kr rfl ?_ | refine testL kr rfl ?_
    cbv
    refine Fin.le hA 0 [] (.tup [.nilp, .lit .i64 1]) ([]) 0 rfl rfl rfl ?_ ?_ (by rw [← hK]; exact ⟨rfl, rfl, rfl⟩)
    · (try cbv) <;> (repeat' (first | exact trivial | exact rfl | apply And.intro | exact fun _ => rfl | (intro _ hle; first | refine chunk_le hA rfl hle rfl ?_ | refine cat_le hA ?_ | refine upd_le hA ?_ | (try cbv))))
    · (try cbv) <;> (repeat' (first | exact trivial | exact rfl | apply And.intro | exact fun _ => rfl | (intro _ hle; first | refine chunk_le hA rfl hle rfl ?_ | refine cat_le hA ?_ | refine upd_le hA ?_ | (try cbv))))
theorem of_ok {P : Program} {G : Gl} (hP : P = Try.prog) {n s : Nat} {f : Nat → Int} {L : Int → Option (Nat → Int)} (hn : n = 64 * s) (h : 1 ≤ s ∧ s ≤ 4096) (hL : ∀ k, L k = none) :
    FnTr P G 19 [By n f] [] 0 (Gives (.tup [.ptr 0 0, .lit .i64 0]) (DH n f L false 0) 3) := by
  have e1 : Int.tdiv (n : Int) 64 = (s : Int) := by rw [hn]; exact q64 s
  have e2 : Int.tmod (n : Int) 64 = 0 := by
    have := rem_nat n 64
    rw [show n % 64 = 0 by omega] at this
    exact this
  obtain ⟨z, hz⟩ : ∃ z : Nat → Int, z = fun _ => 0 := ⟨_, rfl⟩
  have c1 := new_ok (P := P) (G := G) (n := (s : Int)) (S := z) (L := L) hP rfl h hn (fun x => by rw [hz]) hL
  have hSl : SlTy P _ := hP ▸ sl_ty
  clear hz hL
  have hT : T.Ok P := hP ▸ T_ok
  refine FnTr.intro (fn := Try.f19) (c := bodyOf Try.f19) (by rw [hP]; rfl) rfl rfl hT ?_
  generalize hA : Ar.real = A
  generalize hK : Gives _ _ _ = K
  cbv
  have kq : A.quo (A.i2 n) 64 = (s : Int) := by subst hA; exact e1
  refine ⟨⟨by subst hA; show (64 : Int) ≠ 0; decide, by have : A.inR .i64 (A.quo (A.i2 n) 64) := by { rw [kq]; subst hA; exact inR64 (by omega) (by omega) }; exact this⟩, ?_⟩
  refine CS.le hA c1 [] rfl rfl rfl ?_ ?_ ?_
  · (try cbv) <;> (repeat' (first | exact trivial | exact rfl | apply And.intro | exact fun _ => rfl | (intro _ hle; first | refine chunk_le hA rfl hle rfl ?_ | refine cat_le hA ?_ | refine upd_le hA ?_ | (try cbv))))
    exact kq
  · (try cbv) <;> (repeat' (first | exact trivial | exact rfl | apply And.intro | exact fun _ => rfl | (intro _ hle; first | refine chunk_le hA rfl hle rfl ?_ | refine cat_le hA ?_ | refine upd_le hA ?_ | (try cbv))))
  cbv
  have kr : A.ne (A.rem (A.i2 n) 64) 0 = false := by
    subst hA
    show (Int.tmod (n : Int) 64 != 0) = false
    rw [e2]; rfl
  refine ⟨by subst hA; show (64 : Int) ≠ 0; decide, ?_⟩
  first | refine testR kr rfl ?_ | refine testL kr rfl ?_
  cbv
  refine OS.did (copy_did (S := z) (S' := f) hSl rfl rfl rfl rfl (Ints.base .u8 z n) rfl (Ints.base .u8 f n) (by simp [NV.val]) (fun i hi => by
    have hi : i < n := hi
    rw [if_pos (by simp only [NV.val]; omega)]; rfl)) ?_
  cbv
  refine Fin.le hA 0 [(5, 0), (6, 1), (7, 2)] (.tup [.ptr 0 0, .lit .i64 0]) (DH n f L false 0) 3 rfl rfl rfl ?_ ?_ (by rw [← hK]; exact ⟨rfl, rfl, rfl⟩)
  · (try cbv) <;> (repeat' (first | exact trivial | exact rfl | apply And.intro | exact fun _ => rfl | (intro _ hle; first | refine chunk_le hA rfl hle rfl ?_ | refine cat_le hA ?_ | refine upd_le hA ?_ | (try cbv))))
  · (try cbv) <;> (repeat' (first | exact trivial | exact rfl | apply And.intro | exact fun _ => rfl | (intro _ hle; first | refine chunk_le hA rfl hle rfl ?_ | refine cat_le hA ?_ | refine upd_le hA ?_ | (try cbv))))
end Go.Proofs.Ytnjjgipblimbfaa.Dsk
