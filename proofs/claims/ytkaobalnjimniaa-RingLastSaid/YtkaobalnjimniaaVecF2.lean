/-
  Vectors: which numbers are vectors, once more; which are parts of planes.
-/
import Derived.Test.YtkaobalnjimniaaVecF1
set_option linter.unusedVariables false
set_option linter.unusedSimpArgs false
namespace Go.Proofs.Ytkaobalnjimniaa.Vec
open Go.Eng
set_option maxRecDepth 100000
set_option linter.unusedVariables false

/-- A statement about all below, step by step. -/
theorem all_steps (S : Nat → Prop) : ∃ Q : Nat → Prop, Q 0 ∧ (∀ i, Q (i + 1) ↔ (Q i ∧ S i)) ∧ (∀ n, Q n ↔ ∀ i, i < n → S i) ∧ ∀ n i, i ≤ n → Q n → Q i := by
  refine ⟨fun i => ∀ j, j < i → S j, fun j hj => absurd hj (Nat.not_lt_zero _), fun i => ?_, fun n => Iff.rfl, fun n i hi h j hj => h j (by omega)⟩
  exact ⟨fun h => ⟨fun j hj => h j (by omega), h i (by omega)⟩, fun h j hj => by
    by_cases e : j = i
    · rw [e]; exact h.2
    · exact h.1 j (by omega)⟩

theorem refis_fn {P : Program} {G : Gl} (hP : P = Try.prog) {n : Nat} {f : Nat → Int} {dim : Int} {r : Bool} (hn : n ≤ 9223372036854775807) (hr : r = true ↔ VecP n f dim) :
    FnTr P G 46 [.ro 1 (.s n) (fun e => [.int .i64 (f e.val)]), .int .i64 dim] [] 0 (Gives (.bs r) [] 0) := by
  by_cases hd : 1 ≤ dim ∧ dim ≤ 8 ∧ (n : Int) = dim
  · obtain ⟨Q, hQ0, hQs, hQn, hQm⟩ := all_steps (fun i => In32 (f i))
    have hrn : r = true ↔ Q n := by rw [hr, hQn]; exact ⟨fun h => h.2, fun h => ⟨hd, h⟩⟩
    have hrf : ∀ i, i < n → ¬ In32 (f i) → r = false := fun i hi h => by
      cases r with
      | false => rfl
      | true => exact absurd ((hQs i).1 (hQm n _ hi (hrn.1 rfl))).2 h
    have hin : ∀ i, In32 (f i) ↔ (-2147483648 ≤ f i ∧ f i ≤ 2147483647) := fun _ => Iff.rfl
    clear hr hQn hQm
    have hT : T.Ok P := hP ▸ T_ok
    refine FnTr.intro (fn := Try.f46) (c := bodyOf Try.f46) (by rw [hP]; rfl) rfl rfl hT ?_
    generalize hA : Ar.real = A
    generalize hK : Gives _ _ _ = K
    cbv
    repeat' (first | (apply And.intro) | (intro _; try cbv) | (refine DS.run hA hT (by rw [hP]; exact P_mixed) 1 rfl ?_; cbv))
    all_goals first | (exfalso; clear hQs hrn hrf hin; (subst hA; simp only [Ar.real, NV.val, Int.ofNat_eq_natCast, Int.toNat_natCast, decide_eq_true_eq, decide_eq_false_iff_not, Bool.not_true, Bool.not_false, beq_iff_eq, bne_iff_ne, beq_eq_false_iff_ne, bne_eq_false_iff_eq, ne_eq, Bool.not_eq_true', Bool.not_eq_false', natCast_eq] at *; first | contradiction | omega | (generalize Int.tmod _ _ = qtm at *; omega))) | skip
    refine LS.le hT hA 0 (fun (i : Nat) => [(5, .int .i64 (i : Int))]) (fun _ => []) (fun i => i ≤ n ∧ Q i) (fun i => n - i) 0 [] rfl rfl ?_ ?_ ?_
    · (try cbv) <;> (repeat' (first | exact trivial | exact rfl | apply And.intro | (intro _ hle; first | refine chunk_le hA rfl hle rfl ?_ | refine cat_le hA ?_ | refine upd_le hA ?_ | (try cbv))))
    · exact ⟨Nat.zero_le _, hQ0⟩
    · intro R hR i hp
      cbv
      obtain ⟨h1, h2⟩ := hp
      refine ⟨fun h5 => ?_, fun h5 => ?_⟩
      · have hi : i < n := by subst hA; simp only [Ar.real] at h5; simp at h5; omega
        have hfi : f (Int.toNat (Int.ofNat i)) = f i := rfl
        cbv
        refine ⟨(by (subst hA; (try simp only [natCast_eq] at *); (simp only [Ar.real, NV.val, Int.ofNat_eq_natCast, Int.toNat_natCast]); first | done | omega | decide | exact inR64 (by omega) (by omega) | (refine ⟨?_, ?_⟩ <;> first | omega | decide | exact inR64 (by omega) (by omega)))), fun h6 => ?_, fun h6 => ?_⟩
        · cbv
          refine ⟨(by (subst hA; (try simp only [natCast_eq] at *); (simp only [Ar.real, NV.val, Int.ofNat_eq_natCast, Int.toNat_natCast]); first | done | omega | decide | exact inR64 (by omega) (by omega) | (refine ⟨?_, ?_⟩ <;> first | omega | decide | exact inR64 (by omega) (by omega)))), fun h7 => ?_, fun h7 => ?_⟩
          · have hrr := hrf i hi (fun h => by have h := (hin i).1 h; clear hR; subst hA; simp only [Ar.real, NV.val, hfi] at h7; simp at h7; omega)
            clear hR
            cbv
            refine Fin.le hA 0 [] (.bs r) ([]) 0 rfl rfl rfl ?_ ?_ (by rw [← hK]; exact ⟨rfl, rfl, rfl⟩)
            · (try cbv) <;> (repeat' (first | exact trivial | exact rfl | apply And.intro | (intro _ hle; first | refine chunk_le hA rfl hle rfl ?_ | refine cat_le hA ?_ | refine upd_le hA ?_ | (try cbv))))
              exact hrr.symm
            · (try cbv) <;> (repeat' (first | exact trivial | exact rfl | apply And.intro | (intro _ hle; first | refine chunk_le hA rfl hle rfl ?_ | refine cat_le hA ?_ | refine upd_le hA ?_ | (try cbv))))
          · have hq : Q (i + 1) := (hQs i).2 ⟨h2, (hin i).2 (by clear hR; subst hA; simp only [Ar.real, NV.val, hfi] at h7 h6; simp at h7 h6; omega)⟩
            cbv
            refine ⟨(by (subst hA; (try simp only [natCast_eq] at *); (simp only [Ar.real, NV.val, Int.ofNat_eq_natCast, Int.toNat_natCast]); first | done | omega | decide | exact inR64 (by omega) (by omega) | (refine ⟨?_, ?_⟩ <;> first | omega | decide | exact inR64 (by omega) (by omega)))), hR _ _ ⟨i + 1, 0, [], rfl, rfl, ?_, ⟨hi, hq⟩, (by show n - (i + 1) < n - i; omega)⟩⟩
            clear hR
            (try cbv) <;> (repeat' (first | exact trivial | exact rfl | apply And.intro | (intro _ hle; first | refine chunk_le hA rfl hle rfl ?_ | refine cat_le hA ?_ | refine upd_le hA ?_ | (try cbv))))
            subst hA; simp only [Ar.real, NV.val, Int.ofNat_eq_natCast, Int.toNat_natCast]
            rfl
        · have hrr := hrf i hi (fun h => by have h := (hin i).1 h; clear hR; subst hA; simp only [Ar.real, NV.val, hfi] at h6; simp at h6; omega)
          clear hR
          cbv
          refine Fin.le hA 0 [] (.bs r) ([]) 0 rfl rfl rfl ?_ ?_ (by rw [← hK]; exact ⟨rfl, rfl, rfl⟩)
          · (try cbv) <;> (repeat' (first | exact trivial | exact rfl | apply And.intro | (intro _ hle; first | refine chunk_le hA rfl hle rfl ?_ | refine cat_le hA ?_ | refine upd_le hA ?_ | (try cbv))))
            exact hrr.symm
          · (try cbv) <;> (repeat' (first | exact trivial | exact rfl | apply And.intro | (intro _ hle; first | refine chunk_le hA rfl hle rfl ?_ | refine cat_le hA ?_ | refine upd_le hA ?_ | (try cbv))))
      · clear hR
        have hi : i = n := by subst hA; simp only [Ar.real] at h5; simp at h5; omega
        have hrr := hrn.2 (hi ▸ h2)
        cbv
        refine Fin.le hA 0 [] (.bs r) ([]) 0 rfl rfl rfl ?_ ?_ (by rw [← hK]; exact ⟨rfl, rfl, rfl⟩)
        · (try cbv) <;> (repeat' (first | exact trivial | exact rfl | apply And.intro | (intro _ hle; first | refine chunk_le hA rfl hle rfl ?_ | refine cat_le hA ?_ | refine upd_le hA ?_ | (try cbv))))
          exact hrr.symm
        · (try cbv) <;> (repeat' (first | exact trivial | exact rfl | apply And.intro | (intro _ hle; first | refine chunk_le hA rfl hle rfl ?_ | refine cat_le hA ?_ | refine upd_le hA ?_ | (try cbv))))
  · have hrf : r = false := by
      cases r with
      | false => rfl
      | true => exact absurd (hr.1 rfl).1 hd
    clear hr
    have hT : T.Ok P := hP ▸ T_ok
    refine FnTr.intro (fn := Try.f46) (c := bodyOf Try.f46) (by rw [hP]; rfl) rfl rfl hT ?_
    generalize hA : Ar.real = A
    generalize hK : Gives _ _ _ = K
    cbv
    repeat' (first | (apply And.intro) | (intro _; try cbv) | (refine DS.run hA hT (by rw [hP]; exact P_mixed) 1 rfl ?_; cbv))
    all_goals first | (exfalso; (subst hA; simp only [Ar.real, NV.val, Int.ofNat_eq_natCast, Int.toNat_natCast, decide_eq_true_eq, decide_eq_false_iff_not, Bool.not_true, Bool.not_false, beq_iff_eq, bne_iff_ne, beq_eq_false_iff_ne, bne_eq_false_iff_eq, ne_eq, Bool.not_eq_true', Bool.not_eq_false', natCast_eq] at *; first | contradiction | omega | (generalize Int.tmod _ _ = qtm at *; omega))) | skip
    all_goals (refine Fin.le hA 0 [] (.bs r) [] 0 rfl rfl rfl ?_ ?_ (by rw [← hK]; exact ⟨rfl, rfl, rfl⟩))
    all_goals cbv
    all_goals first | exact trivial | exact ⟨hrf.symm, trivial⟩ | exact hrf.symm | skip
end Go.Proofs.Ytkaobalnjimniaa.Vec
