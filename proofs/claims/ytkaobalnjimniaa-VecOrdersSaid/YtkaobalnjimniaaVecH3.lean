/-
  Vectors: lists of vectors; the box, once more.
-/
import Derived.Test.YtkaobalnjimniaaVecH2
set_option linter.unusedVariables false
set_option linter.unusedSimpArgs false
namespace Go.Proofs.Ytkaobalnjimniaa.Vec
open Go.Eng
open Go.VecLaw (lowV topV dotV gapV OS openV)
set_option maxRecDepth 100000
set_option linter.unusedVariables false

def AllP (k : Nat) (len : Nat → Nat) (g : Nat → Nat → Int) (dim : Int) : Prop := 0 < k ∧ ∀ i, i < k → VecP (len i) (g i) dim

theorem all_fn {P : Program} {G : Gl} (hP : P = Try.prog) {k : Nat} {len : Nat → Nat} {g : Nat → Nat → Int} {dim : Int} {r : Bool} (hk : k ≤ 9223372036854775807) (hl : ∀ i, i < k → len i ≤ 9223372036854775807) (hr : r = true ↔ AllP k len g dim) :
    FnTr P G 76 [LSv k len g, .int .i64 dim] [] 0 (Gives (.bs r) [] 0) := by
  obtain ⟨Q, hQ0, hQs, hQn, hQm⟩ := all_steps (fun i => VecP (len i) (g i) dim)
  have hrn : r = true ↔ (0 < k ∧ Q k) := by rw [hr, hQn]; exact Iff.rfl
  have hrf : ∀ i, i < k → ¬ VecP (len i) (g i) dim → r = false := fun i hi h => by
    cases r with
    | false => rfl
    | true => exact absurd ((hr.1 rfl).2 i hi) h
  have hgood : ∀ i, i < k → VecP (len i) (g i) dim → FnTr P G 46 [.ro 1 (.s (len i)) (fun e => [.int .i64 (g i e.val)]), .int .i64 dim] [] 0 (Gives (.bs true) [] 0) := fun i hi h => refis_fn hP (hl i hi) ⟨fun _ => h, fun _ => rfl⟩
  have hbad : ∀ i, i < k → ¬ VecP (len i) (g i) dim → FnTr P G 46 [.ro 1 (.s (len i)) (fun e => [.int .i64 (g i e.val)]), .int .i64 dim] [] 0 (Gives (.bs false) [] 0) := fun i hi h => refis_fn hP (hl i hi) ⟨fun h' => (by cases h'), fun h' => absurd h' h⟩
  clear hr hQn hQm
  have hT : T.Ok P := hP ▸ T_ok
  refine FnTr.intro (fn := Try.f76) (c := bodyOf Try.f76) (by rw [hP]; rfl) rfl rfl hT ?_
  generalize hA : Ar.real = A
  generalize hK : Gives _ _ _ = K
  cbv
  refine LS.le hT hA 0 (fun (i : Nat) => [(5, .int .i64 (i : Int))]) (fun _ => []) (fun i => i ≤ k ∧ Q i) (fun i => k - i) 0 [] rfl rfl ?_ ?_ ?_
  · (try cbv) <;> (repeat' (first | exact trivial | exact rfl | apply And.intro | (intro _ hle; first | refine chunk_le hA rfl hle rfl ?_ | refine cat_le hA ?_ | refine upd_le hA ?_ | (try cbv))))
  · exact ⟨Nat.zero_le _, hQ0⟩
  · intro R hR i hq
    cbv
    obtain ⟨g1, g2⟩ := hq
    refine ⟨fun h5 => ?_, fun h5 => ?_⟩
    · have hi : i < k := by clear hQs; subst hA; simp only [Ar.real] at h5; simp at h5; omega
      by_cases hok : VecP (len i) (g i) dim
      · have c1 := hgood i hi hok
        have hq : Q (i + 1) := (hQs i).2 ⟨g2, hok⟩
        clear hgood hbad hQs hrf hrn hok
        cbv
        refine ⟨(by (subst hA; (try simp only [natCast_eq] at *); (simp only [Ar.real, NV.val, Int.ofNat_eq_natCast, Int.toNat_natCast]); first | done | omega | decide | exact inR64 (by omega) (by omega) | (refine ⟨?_, ?_⟩ <;> first | omega | decide | exact inR64 (by omega) (by omega)))), ?_⟩
        refine CS.leR hA (c1) (.bl true) [] rfl rfl rfl ?_ ?_ ?_ ?_
        · (try cbv) <;> (repeat' (first | exact trivial | exact rfl | apply And.intro | (intro _ hle; first | refine chunk_le hA rfl hle rfl ?_ | refine cat_le hA ?_ | refine upd_le hA ?_ | (try cbv)))) <;> (try (subst hA; (try simp only [natCast_eq] at *); (simp only [Ar.real, NV.val, Int.ofNat_eq_natCast, Int.toNat_natCast]); first | done | omega | decide | exact inR64 (by omega) (by omega) | (refine ⟨?_, ?_⟩ <;> first | omega | decide | exact inR64 (by omega) (by omega))))
        · (try cbv) <;> (repeat' (first | exact trivial | exact rfl | apply And.intro | (intro _ hle; first | refine chunk_le hA rfl hle rfl ?_ | refine cat_le hA ?_ | refine upd_le hA ?_ | (try cbv)))) <;> (try (subst hA; (try simp only [natCast_eq] at *); (simp only [Ar.real, NV.val, Int.ofNat_eq_natCast, Int.toNat_natCast]); first | done | omega | decide | exact inR64 (by omega) (by omega) | (refine ⟨?_, ?_⟩ <;> first | omega | decide | exact inR64 (by omega) (by omega))))
        · (try cbv) <;> (repeat' (first | exact trivial | exact rfl | apply And.intro | (intro _ hle; first | refine chunk_le hA rfl hle rfl ?_ | refine cat_le hA ?_ | refine upd_le hA ?_ | (try cbv))))
        cbv
        refine ⟨(by (subst hA; (try simp only [natCast_eq] at *); (simp only [Ar.real, NV.val, Int.ofNat_eq_natCast, Int.toNat_natCast]); first | done | omega | decide | exact inR64 (by omega) (by omega) | (refine ⟨?_, ?_⟩ <;> first | omega | decide | exact inR64 (by omega) (by omega)))), hR _ _ ⟨i + 1, 0, [], rfl, rfl, ?_, ⟨hi, hq⟩, (by show k - (i + 1) < k - i; omega)⟩⟩
        clear hR
        (try cbv) <;> (repeat' (first | exact trivial | exact rfl | apply And.intro | (intro _ hle; first | refine chunk_le hA rfl hle rfl ?_ | refine cat_le hA ?_ | refine upd_le hA ?_ | (try cbv))))
        subst hA; simp only [Ar.real, NV.val, Int.ofNat_eq_natCast, Int.toNat_natCast]
        rfl
      · have c1 := hbad i hi hok
        have hrr := hrf i hi hok
        clear hgood hbad hQs hrf hrn hok hR
        cbv
        refine ⟨(by (subst hA; (try simp only [natCast_eq] at *); (simp only [Ar.real, NV.val, Int.ofNat_eq_natCast, Int.toNat_natCast]); first | done | omega | decide | exact inR64 (by omega) (by omega) | (refine ⟨?_, ?_⟩ <;> first | omega | decide | exact inR64 (by omega) (by omega)))), ?_⟩
        refine CS.leR hA (c1) (.bl false) [] rfl rfl rfl ?_ ?_ ?_ ?_
        · (try cbv) <;> (repeat' (first | exact trivial | exact rfl | apply And.intro | (intro _ hle; first | refine chunk_le hA rfl hle rfl ?_ | refine cat_le hA ?_ | refine upd_le hA ?_ | (try cbv)))) <;> (try (subst hA; (try simp only [natCast_eq] at *); (simp only [Ar.real, NV.val, Int.ofNat_eq_natCast, Int.toNat_natCast]); first | done | omega | decide | exact inR64 (by omega) (by omega) | (refine ⟨?_, ?_⟩ <;> first | omega | decide | exact inR64 (by omega) (by omega))))
        · (try cbv) <;> (repeat' (first | exact trivial | exact rfl | apply And.intro | (intro _ hle; first | refine chunk_le hA rfl hle rfl ?_ | refine cat_le hA ?_ | refine upd_le hA ?_ | (try cbv)))) <;> (try (subst hA; (try simp only [natCast_eq] at *); (simp only [Ar.real, NV.val, Int.ofNat_eq_natCast, Int.toNat_natCast]); first | done | omega | decide | exact inR64 (by omega) (by omega) | (refine ⟨?_, ?_⟩ <;> first | omega | decide | exact inR64 (by omega) (by omega))))
        · (try cbv) <;> (repeat' (first | exact trivial | exact rfl | apply And.intro | (intro _ hle; first | refine chunk_le hA rfl hle rfl ?_ | refine cat_le hA ?_ | refine upd_le hA ?_ | (try cbv))))
        cbv
        refine Fin.le hA 0 [] (.bs r) ([]) 0 rfl rfl rfl ?_ ?_ (by rw [← hK]; exact ⟨rfl, rfl, rfl⟩)
        · (try cbv) <;> (repeat' (first | exact trivial | exact rfl | apply And.intro | (intro _ hle; first | refine chunk_le hA rfl hle rfl ?_ | refine cat_le hA ?_ | refine upd_le hA ?_ | (try cbv))))
          exact hrr.symm
        · (try cbv) <;> (repeat' (first | exact trivial | exact rfl | apply And.intro | (intro _ hle; first | refine chunk_le hA rfl hle rfl ?_ | refine cat_le hA ?_ | refine upd_le hA ?_ | (try cbv))))
    · clear hR
      have hi : i = k := by clear hQs; subst hA; simp only [Ar.real] at h5; simp at h5; omega
      subst hi
      have hrr : r = true ↔ 0 < i := by rw [hrn]; exact ⟨fun h => h.1, fun h => ⟨h, g2⟩⟩
      clear hgood hbad hQs hrf hrn
      cbv
      refine Fin.le hA 0 [] (.bs r) ([]) 0 rfl rfl rfl ?_ ?_ (by rw [← hK]; exact ⟨rfl, rfl, rfl⟩)
      · (try cbv) <;> (repeat' (first | exact trivial | exact rfl | apply And.intro | (intro _ hle; first | refine chunk_le hA rfl hle rfl ?_ | refine cat_le hA ?_ | refine upd_le hA ?_ | (try cbv))))
        subst hA
        simp only [Ar.real]
        rw [Bool.eq_iff_iff, hrr]
        simp
      · (try cbv) <;> (repeat' (first | exact trivial | exact rfl | apply And.intro | (intro _ hle; first | refine chunk_le hA rfl hle rfl ?_ | refine cat_le hA ?_ | refine upd_le hA ?_ | (try cbv))))
end Go.Proofs.Ytkaobalnjimniaa.Vec
