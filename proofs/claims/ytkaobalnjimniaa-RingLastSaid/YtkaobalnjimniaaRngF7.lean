/-
  Rings: what the document says: the same events; a push.
-/
import Derived.Test.YtkaobalnjimniaaRngF6
set_option linter.unusedVariables false
set_option linter.unusedSimpArgs false
namespace Go.Proofs.Ytkaobalnjimniaa.Rng
open Go.Eng
open Go.RngLaw (Sn sn zSn rgP manyC firstC)
open Go.Proofs.Ytkaobalnjimniaa.Vec (same_fn all_steps)
set_option maxRecDepth 100000
set_option maxHeartbeats 4000000
set_option linter.unusedVariables false

theorem score_two : ∃ f0 f1, Two Try.prog 32 f0 f1 :=
  ⟨_, _, { und := Try.underlying32, held := by kernel_rfl, grd := by kernel_rfl, n0 := by decide, n1 := by decide, u0 := Try.underlying3, u1 := Try.underlying3, o0 := rfl, o1 := rfl }⟩

def SameS (a b : Sn) : Prop := a.id = b.id ∧ (a.p = b.p ∧ a.q = b.q) ∧ a.b = b.b ∧ (a.xl = b.xl ∧ ∀ i, i < a.xl → a.x i = b.x i)
theorem SameS.refl (a : Sn) : SameS a a := ⟨rfl, ⟨rfl, rfl⟩, rfl, rfl, fun _ _ => rfl⟩

theorem refsame_fn {P : Program} {G : Gl} (hP : P = Try.prog) {a b : Sn} {r : Bool} (ha : a.xl ≤ 1000000) (hb : b.xl ≤ 1000000) (hr : r = true ↔ SameS a b) :
    FnTr P G 21 [.agg (sn a), .agg (sn b)] [] 0 (Gives (.bs r) [] 2) := by
  obtain ⟨f0, f1, h2⟩ := score_two
  have h2 : Two P 32 f0 f1 := hP ▸ h2
  obtain ⟨b4, hb4⟩ : ∃ b4 : Bool, b4 = true ↔ (a.xl = b.xl ∧ ∀ i, i < a.xl → a.x i = b.x i) := by
    by_cases h : (a.xl = b.xl ∧ ∀ i, i < a.xl → a.x i = b.x i)
    · exact ⟨true, fun _ => h, fun _ => rfl⟩
    · exact ⟨false, fun h => by (cases h), fun h' => absurd h' h⟩
  have c1 := same_fn (P := P) (G := G) (n := a.xl) (m := b.xl) (f := a.x) (g := b.x) hP (by omega) (by omega) hb4
  by_cases e1 : a.id = b.id
  · by_cases e2 : a.p = b.p ∧ a.q = b.q
    · by_cases e3 : a.b = b.b
      · have hrr : r = b4 := by rw [Bool.eq_iff_iff, hr, hb4]; exact ⟨fun h => h.2.2.2, fun h => ⟨e1, e2, e3, h⟩⟩
        clear hb4 hr
        have hT : T.Ok P := hP ▸ T_ok
        refine FnTr.intro (fn := Try.f21) (c := bodyOf Try.f21) (by rw [hP]; rfl) rfl rfl hT ?_
        generalize hA : Ar.real = A
        generalize hK : Gives _ _ _ = K
        cbv
        have k1 : A.eq a.id b.id = true := by subst hA; simpa [Ar.real] using e1
        have k2 : A.eqB a.b b.b = true := by subst hA; simpa [Ar.real] using e3
        repeat' (first | (refine ⟨fun h => absurd (h.symm.trans k1) (by decide), fun _ => ?_⟩; cbv) | (refine ⟨fun _ => ?_, fun h => absurd (h.symm.trans k1) (by decide)⟩; cbv))
        refine OS.did (two_did h2 rfl rfl rfl true ⟨fun _ => e2, fun _ => rfl⟩) ?_
        cbv
        repeat' (first | (refine ⟨fun h => absurd (h.symm.trans rfl) (by decide), fun _ => ?_⟩; cbv) | (refine ⟨fun _ => ?_, fun h => absurd (h.symm.trans rfl) (by decide)⟩; cbv) | (refine ⟨fun h => absurd (h.symm.trans k2) (by decide), fun _ => ?_⟩; cbv) | (refine ⟨fun _ => ?_, fun h => absurd (h.symm.trans k2) (by decide)⟩; cbv))
        refine CS.le hA (c1) [] rfl rfl rfl ?_ ?_ ?_
        · (try cbv) <;> (repeat' (first | exact trivial | exact rfl | apply And.intro | (intro _ hle; first | refine chunk_le hA rfl hle rfl ?_ | refine cat_le hA ?_ | refine upd_le hA ?_ | (try cbv)))) <;> (try (subst hA; (try simp only [natCast_eq] at *); (simp only [Ar.real, NV.val, Int.ofNat_eq_natCast, Int.toNat_natCast]); first | done | omega | decide | exact inR64 (by omega) (by omega) | (refine ⟨?_, ?_⟩ <;> first | omega | decide | exact inR64 (by omega) (by omega))))
        · (try cbv) <;> (repeat' (first | exact trivial | exact rfl | apply And.intro | (intro _ hle; first | refine chunk_le hA rfl hle rfl ?_ | refine cat_le hA ?_ | refine upd_le hA ?_ | (try cbv))))
        cbv
        refine Fin.le hA 0 [] (.bs r) ([]) 2 rfl rfl rfl ?_ ?_ (by rw [← hK]; exact ⟨rfl, rfl, rfl⟩)
        · (try cbv) <;> (repeat' (first | exact trivial | exact rfl | apply And.intro | (intro _ hle; first | refine chunk_le hA rfl hle rfl ?_ | refine cat_le hA ?_ | refine upd_le hA ?_ | (try cbv))))
          exact hrr.symm
        · (try cbv) <;> (repeat' (first | exact trivial | exact rfl | apply And.intro | (intro _ hle; first | refine chunk_le hA rfl hle rfl ?_ | refine cat_le hA ?_ | refine upd_le hA ?_ | (try cbv))))
      · have hrr : r = false := by cases r with
          | false => rfl
          | true => exact absurd (hr.1 rfl).2.2.1 e3
        clear hb4 hr
        have hT : T.Ok P := hP ▸ T_ok
        refine FnTr.intro (fn := Try.f21) (c := bodyOf Try.f21) (by rw [hP]; rfl) rfl rfl hT ?_
        generalize hA : Ar.real = A
        generalize hK : Gives _ _ _ = K
        cbv
        have k1 : A.eq a.id b.id = true := by subst hA; simpa [Ar.real] using e1
        have k2 : A.eqB a.b b.b = false := by subst hA; simpa [Ar.real] using e3
        repeat' (first | (refine ⟨fun h => absurd (h.symm.trans k1) (by decide), fun _ => ?_⟩; cbv) | (refine ⟨fun _ => ?_, fun h => absurd (h.symm.trans k1) (by decide)⟩; cbv))
        refine OS.did (two_did h2 rfl rfl rfl true ⟨fun _ => e2, fun _ => rfl⟩) ?_
        cbv
        repeat' (first | (refine ⟨fun h => absurd (h.symm.trans rfl) (by decide), fun _ => ?_⟩; cbv) | (refine ⟨fun _ => ?_, fun h => absurd (h.symm.trans rfl) (by decide)⟩; cbv) | (refine ⟨fun h => absurd (h.symm.trans k2) (by decide), fun _ => ?_⟩; cbv) | (refine ⟨fun _ => ?_, fun h => absurd (h.symm.trans k2) (by decide)⟩; cbv))
        refine Fin.le hA 0 [] (.bs r) ([]) 2 rfl rfl rfl ?_ ?_ (by rw [← hK]; exact ⟨rfl, rfl, rfl⟩)
        · (try cbv) <;> (repeat' (first | exact trivial | exact rfl | apply And.intro | (intro _ hle; first | refine chunk_le hA rfl hle rfl ?_ | refine cat_le hA ?_ | refine upd_le hA ?_ | (try cbv))))
          exact hrr.symm
        · (try cbv) <;> (repeat' (first | exact trivial | exact rfl | apply And.intro | (intro _ hle; first | refine chunk_le hA rfl hle rfl ?_ | refine cat_le hA ?_ | refine upd_le hA ?_ | (try cbv))))
    · have hrr : r = false := by cases r with
        | false => rfl
        | true => exact absurd (hr.1 rfl).2.1 e2
      clear hb4 hr
      have hT : T.Ok P := hP ▸ T_ok
      refine FnTr.intro (fn := Try.f21) (c := bodyOf Try.f21) (by rw [hP]; rfl) rfl rfl hT ?_
      generalize hA : Ar.real = A
      generalize hK : Gives _ _ _ = K
      cbv
      have k1 : A.eq a.id b.id = true := by subst hA; simpa [Ar.real] using e1
      repeat' (first | (refine ⟨fun h => absurd (h.symm.trans k1) (by decide), fun _ => ?_⟩; cbv) | (refine ⟨fun _ => ?_, fun h => absurd (h.symm.trans k1) (by decide)⟩; cbv))
      refine OS.did (two_did h2 rfl rfl rfl false ⟨fun h => by (cases h), fun h => absurd h e2⟩) ?_
      cbv
      repeat' (first | (refine ⟨fun h => absurd (h.symm.trans rfl) (by decide), fun _ => ?_⟩; cbv) | (refine ⟨fun _ => ?_, fun h => absurd (h.symm.trans rfl) (by decide)⟩; cbv))
      refine Fin.le hA 0 [] (.bs r) ([]) 2 rfl rfl rfl ?_ ?_ (by rw [← hK]; exact ⟨rfl, rfl, rfl⟩)
      · (try cbv) <;> (repeat' (first | exact trivial | exact rfl | apply And.intro | (intro _ hle; first | refine chunk_le hA rfl hle rfl ?_ | refine cat_le hA ?_ | refine upd_le hA ?_ | (try cbv))))
        exact hrr.symm
      · (try cbv) <;> (repeat' (first | exact trivial | exact rfl | apply And.intro | (intro _ hle; first | refine chunk_le hA rfl hle rfl ?_ | refine cat_le hA ?_ | refine upd_le hA ?_ | (try cbv))))
  · have hrr : r = false := by cases r with
      | false => rfl
      | true => exact absurd (hr.1 rfl).1 e1
    clear hb4 hr
    have hT : T.Ok P := hP ▸ T_ok
    refine FnTr.intro (fn := Try.f21) (c := bodyOf Try.f21) (by rw [hP]; rfl) rfl rfl hT ?_
    generalize hA : Ar.real = A
    generalize hK : Gives _ _ _ = K
    cbv
    have k1 : A.eq a.id b.id = false := by subst hA; simpa [Ar.real] using e1
    repeat' (first | (refine ⟨fun h => absurd (h.symm.trans k1) (by decide), fun _ => ?_⟩; cbv) | (refine ⟨fun _ => ?_, fun h => absurd (h.symm.trans k1) (by decide)⟩; cbv))
    refine Fin.le hA 0 [] (.bs r) ([]) 2 rfl rfl rfl ?_ ?_ (by rw [← hK]; exact ⟨rfl, rfl, rfl⟩)
    · (try cbv) <;> (repeat' (first | exact trivial | exact rfl | apply And.intro | (intro _ hle; first | refine chunk_le hA rfl hle rfl ?_ | refine cat_le hA ?_ | refine upd_le hA ?_ | (try cbv))))
      exact hrr.symm
    · (try cbv) <;> (repeat' (first | exact trivial | exact rfl | apply And.intro | (intro _ hle; first | refine chunk_le hA rfl hle rfl ?_ | refine cat_le hA ?_ | refine upd_le hA ?_ | (try cbv))))
end Go.Proofs.Ytkaobalnjimniaa.Rng
