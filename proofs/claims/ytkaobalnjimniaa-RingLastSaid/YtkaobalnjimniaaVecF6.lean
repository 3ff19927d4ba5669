/-
  Vectors: how rows lie, once more; which places are open.
-/
import Derived.Test.YtkaobalnjimniaaVecF5
import Derived.Test.YtkaobalnjimniaaVecB
set_option linter.unusedVariables false
set_option linter.unusedSimpArgs false
namespace Go.Proofs.Ytkaobalnjimniaa.Vec
open Go.Eng
open Go.VecLaw (lowV topV dotV gapV OS openV)
set_option maxRecDepth 100000
set_option linter.unusedVariables false

theorem reforder_fn {P : Program} {G : Gl} (hP : P = Try.prog) {n m : Nat} {f g : Nat → Int} {r : Int} (hn : n ≤ 9223372036854775807) (hm : m ≤ 9223372036854775807) (hr : OrdIs n f m g r) :
    FnTr P G 58 [.ro 1 (.s n) (fun e => [.int .i64 (f e.val)]), .ro 1 (.s m) (fun e => [.int .i64 (g e.val)])] [] 0 (Gives (.int .i64 r) [] 0) := by
  obtain ⟨Q, hQ0, hQs, hQn, hQm⟩ := all_steps (fun i => f i = g i)
  obtain ⟨k, hk⟩ : ∃ k, k = min n m := ⟨_, rfl⟩
  have h1 : ∀ i, i < k → Q i → f i ≠ g i → r = cmpV (f i) (g i) := fun i hi hq hne => hr.1 i (by omega) (by omega) ((hQn i).1 hq) hne
  have h2 : Q k → r = cmpV n m := fun hq => hr.2 fun j a b => (hQn k).1 hq j (by omega)
  unfold cmpV at h1 h2
  clear hr hQn hQm
  have hT : T.Ok P := hP ▸ T_ok
  refine FnTr.intro (fn := Try.f58) (c := bodyOf Try.f58) (by rw [hP]; rfl) rfl rfl hT ?_
  generalize hA : Ar.real = A
  generalize hK : Gives _ _ _ = K
  cbv
  refine LS.le hT hA 0 (fun (i : Nat) => [(5, .int .i64 (i : Int))]) (fun _ => []) (fun i => i ≤ k ∧ Q i) (fun i => k - i) 0 [] rfl rfl ?_ ?_ ?_
  · (try cbv) <;> (repeat' (first | exact trivial | exact rfl | apply And.intro | (intro _ hle; first | refine chunk_le hA rfl hle rfl ?_ | refine cat_le hA ?_ | refine upd_le hA ?_ | (try cbv))))
  · exact ⟨Nat.zero_le _, hQ0⟩
  · intro R hR i hp
    cbv
    obtain ⟨h3, h4⟩ := hp
    have hend : i = k → (∀ y : Int, y = r → True) := fun _ _ _ => trivial
    have h2' : i = k → r = if (n : Int) < m then -1 else if (m : Int) < n then 1 else 0 := fun e => h2 (e ▸ h4)
    refine ⟨fun h5 => ?_, fun h5 => ?_⟩
    · cbv
      refine ⟨fun h6 => ?_, fun h6 => ?_⟩
      · have hi : i < k := by clear hR hQs h1 h2 h2'; subst hA; simp only [Ar.real, natCast_eq, Int.ofNat_eq_natCast, decide_eq_true_eq] at h5 h6; omega
        have hin : i < n ∧ i < m := by omega
        have hfi : f (Int.toNat (Int.ofNat i)) = f i := rfl
        have hgi : g (Int.toNat (Int.ofNat i)) = g i := rfl
        have h7 := h1 i hi h4
        clear h1 h2 h2'
        cbv
        refine DS.run hA hT (by rw [hP]; exact P_mixed) 1 rfl ?_
        cbv
        refine ⟨(by (subst hA; (try simp only [natCast_eq] at *); (simp only [Ar.real, NV.val, Int.ofNat_eq_natCast, Int.toNat_natCast]); first | done | omega | decide | exact inR64 (by omega) (by omega) | (refine ⟨?_, ?_⟩ <;> first | omega | decide | exact inR64 (by omega) (by omega)))), (by (subst hA; (try simp only [natCast_eq] at *); (simp only [Ar.real, NV.val, Int.ofNat_eq_natCast, Int.toNat_natCast]); first | done | omega | decide | exact inR64 (by omega) (by omega) | (refine ⟨?_, ?_⟩ <;> first | omega | decide | exact inR64 (by omega) (by omega)))), fun h8 => ?_, fun h8 => ?_⟩
        · have h9 : f i < g i := by subst hA; simp only [Ar.real, NV.val, hfi, hgi] at h8; simpa using h8
          have hrr := h7 (by omega)
          rw [if_pos h9] at hrr
          clear hR
          cbv
          refine Fin.le hA 0 [] (.int .i64 r) ([]) 0 rfl rfl rfl ?_ ?_ (by rw [← hK]; exact ⟨rfl, rfl, rfl⟩)
          · (try cbv) <;> (repeat' (first | exact trivial | exact rfl | apply And.intro | (intro _ hle; first | refine chunk_le hA rfl hle rfl ?_ | refine cat_le hA ?_ | refine upd_le hA ?_ | (try cbv))))
            exact hrr.symm
          · (try cbv) <;> (repeat' (first | exact trivial | exact rfl | apply And.intro | (intro _ hle; first | refine chunk_le hA rfl hle rfl ?_ | refine cat_le hA ?_ | refine upd_le hA ?_ | (try cbv))))
        · have h9 : ¬ f i < g i := by subst hA; simp only [Ar.real, NV.val, hfi, hgi] at h8; simpa using h8
          cbv
          refine DS.run hA hT (by rw [hP]; exact P_mixed) 1 rfl ?_
          cbv
          refine ⟨(by (subst hA; (try simp only [natCast_eq] at *); (simp only [Ar.real, NV.val, Int.ofNat_eq_natCast, Int.toNat_natCast]); first | done | omega | decide | exact inR64 (by omega) (by omega) | (refine ⟨?_, ?_⟩ <;> first | omega | decide | exact inR64 (by omega) (by omega)))), (by (subst hA; (try simp only [natCast_eq] at *); (simp only [Ar.real, NV.val, Int.ofNat_eq_natCast, Int.toNat_natCast]); first | done | omega | decide | exact inR64 (by omega) (by omega) | (refine ⟨?_, ?_⟩ <;> first | omega | decide | exact inR64 (by omega) (by omega)))), fun h10 => ?_, fun h10 => ?_⟩
          · have h11 : g i < f i := by subst hA; simp only [Ar.real, NV.val, hfi, hgi] at h10; simpa using h10
            have hrr := h7 (by omega)
            rw [if_neg h9, if_pos h11] at hrr
            clear hR
            cbv
            refine Fin.le hA 0 [] (.int .i64 r) ([]) 0 rfl rfl rfl ?_ ?_ (by rw [← hK]; exact ⟨rfl, rfl, rfl⟩)
            · (try cbv) <;> (repeat' (first | exact trivial | exact rfl | apply And.intro | (intro _ hle; first | refine chunk_le hA rfl hle rfl ?_ | refine cat_le hA ?_ | refine upd_le hA ?_ | (try cbv))))
              exact hrr.symm
            · (try cbv) <;> (repeat' (first | exact trivial | exact rfl | apply And.intro | (intro _ hle; first | refine chunk_le hA rfl hle rfl ?_ | refine cat_le hA ?_ | refine upd_le hA ?_ | (try cbv))))
          · have h11 : ¬ g i < f i := by subst hA; simp only [Ar.real, NV.val, hfi, hgi] at h10; simpa using h10
            have hq : Q (i + 1) := (hQs i).2 ⟨h4, by omega⟩
            cbv
            refine ⟨(by (subst hA; (try simp only [natCast_eq] at *); (simp only [Ar.real, NV.val, Int.ofNat_eq_natCast, Int.toNat_natCast]); first | done | omega | decide | exact inR64 (by omega) (by omega) | (refine ⟨?_, ?_⟩ <;> first | omega | decide | exact inR64 (by omega) (by omega)))), hR _ _ ⟨i + 1, 0, [], rfl, rfl, ?_, ⟨hi, hq⟩, (by show k - (i + 1) < k - i; omega)⟩⟩
            clear hR
            (try cbv) <;> (repeat' (first | exact trivial | exact rfl | apply And.intro | (intro _ hle; first | refine chunk_le hA rfl hle rfl ?_ | refine cat_le hA ?_ | refine upd_le hA ?_ | (try cbv))))
            subst hA; simp only [Ar.real, NV.val, Int.ofNat_eq_natCast, Int.toNat_natCast]
            rfl
      · have hi : i = k := by clear hR hQs h1 h2 h2'; subst hA; simp only [Ar.real, natCast_eq, Int.ofNat_eq_natCast, decide_eq_true_eq, decide_eq_false_iff_not, Bool.not_true, Bool.not_false] at h5 h6; omega
        have h7 := h2' hi
        clear hR h1 h2 h2' hQs
        cbv
        repeat' (first | (apply And.intro) | (intro _; try cbv) | (refine DS.run hA hT (by rw [hP]; exact P_mixed) 1 rfl ?_; cbv))
        all_goals refine Fin.le hA 0 [] (.int .i64 r) [] 0 rfl rfl rfl ?_ ?_ (by rw [← hK]; exact ⟨rfl, rfl, rfl⟩)
        all_goals cbv
        all_goals first | exact trivial | skip
        all_goals (subst hA; simp only [Ar.real, decide_eq_true_eq, decide_eq_false_iff_not, gt_iff_lt, Int.ofNat_eq_natCast, natCast_eq] at *; rw [h7]; split <;> (try split) <;> omega)
    · have hi : i = k := by clear hR hQs h1 h2 h2'; subst hA; simp only [Ar.real, natCast_eq, Int.ofNat_eq_natCast, decide_eq_true_eq, decide_eq_false_iff_not, Bool.not_true, Bool.not_false] at h5; omega
      have h7 := h2' hi
      clear hR h1 h2 h2' hQs
      cbv
      repeat' (first | (apply And.intro) | (intro _; try cbv) | (refine DS.run hA hT (by rw [hP]; exact P_mixed) 1 rfl ?_; cbv))
      all_goals refine Fin.le hA 0 [] (.int .i64 r) [] 0 rfl rfl rfl ?_ ?_ (by rw [← hK]; exact ⟨rfl, rfl, rfl⟩)
      all_goals cbv
      all_goals first | exact trivial | skip
      all_goals (subst hA; simp only [Ar.real, decide_eq_true_eq, decide_eq_false_iff_not, gt_iff_lt, Int.ofNat_eq_natCast, natCast_eq] at *; rw [h7]; split <;> (try split) <;> omega)
end Go.Proofs.Ytkaobalnjimniaa.Vec
