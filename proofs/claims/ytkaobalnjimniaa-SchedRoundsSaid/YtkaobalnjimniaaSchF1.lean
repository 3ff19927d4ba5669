/-
  Schedules: which ways to work are right.
-/
import Derived.Test.YtkaobalnjimniaaSchT
set_option linter.unusedVariables false
set_option linter.unusedSimpArgs false
namespace Go.Proofs.Ytkaobalnjimniaa
open Go.Eng
set_option maxRecDepth 100000
set_option linter.unusedVariables false

theorem in_fn {P : Program} {G : Gl} (hP : P = Try.prog) {n lo hi : Int} {r : Bool} (hr : r = true ↔ (lo ≤ n ∧ n ≤ hi)) :
    FnTr P G 71 [.int .i64 n, .int .i64 lo, .int .i64 hi] [] 0 (Gives (.bs r) [] 0) := by
  have hT : T.Ok P := hP ▸ T_ok
  refine FnTr.intro (fn := Try.f71) (c := bodyOf Try.f71) (by rw [hP]; rfl) rfl rfl hT ?_
  generalize hA : Ar.real = A
  generalize hK : Gives _ _ _ = K
  cbv
  repeat' (first | (apply And.intro) | (intro _; try cbv) | (refine DS.run hA hT (by rw [hP]; exact P_mixed) 1 rfl ?_; cbv))
  all_goals refine Fin.le hA 0 [] (.bs r) [] 0 rfl rfl rfl ?_ ?_ (by rw [← hK]; exact ⟨rfl, rfl, rfl⟩)
  all_goals cbv
  all_goals first | exact trivial | skip
  all_goals (subst hA; simp only [natCast_eq, Ar.real, NV.val, Int.ofNat_eq_natCast, Int.toNat_natCast, decide_eq_true_eq, decide_eq_false_iff_not, Bool.not_true, Bool.not_false, beq_iff_eq, bne_iff_ne, beq_eq_false_iff_ne, bne_eq_false_iff_eq, ne_eq] at *; rw [Bool.eq_iff_iff, hr]; simp only [decide_eq_true_eq, Bool.false_eq_true, false_iff, true_iff, beq_iff_eq, bne_iff_ne, ne_eq]; omega)

/-- Which ways to work are right. -/
def RightP (d w t s e k p h tr ke no : Int) : Prop :=
  (1 ≤ d ∧ d ≤ 8) ∧ (2 ≤ w ∧ w ≤ 256) ∧ (1 ≤ t ∧ t ≤ 16) ∧ (2 ≤ s ∧ s ≤ 64 ∧ s ≤ w) ∧ (1 ≤ e ∧ e ≤ 256) ∧ (1 ≤ k ∧ k ≤ 2) ∧ (2 ≤ h ∧ h ≤ 1000) ∧ (1 ≤ p ∧ p ≤ h - 1) ∧ (1 ≤ tr ∧ tr ≤ 64) ∧ (1 ≤ ke ∧ ke ≤ 64) ∧ (1 ≤ no ∧ no ≤ 256)

theorem right_fn {P : Program} {G : Gl} (hP : P = Try.prog) {d w t s e k p h tr ke no : Int} {r : Bool} (hr : r = true ↔ RightP d w t s e k p h tr ke no) (hh : intWf .i64 h) :
    FnTr P G 33 [.agg [.int .i64 d, .int .i64 w, .int .i64 t, .int .i64 s, .int .i64 e, .int .i64 k, .int .i64 p, .int .i64 h, .int .i64 tr, .int .i64 ke, .int .i64 no]] [] 0 (Gives (.bs r) [] 0) := by
  unfold RightP at hr
  have hh1 : h ≤ 9223372036854775807 := hh.2
  have hh0 : -9223372036854775808 ≤ h := hh.1
  have hT : T.Ok P := hP ▸ T_ok
  refine FnTr.intro (fn := Try.f33) (c := bodyOf Try.f33) (by rw [hP]; rfl) rfl rfl hT ?_
  generalize hA : Ar.real = A
  generalize hK : Gives _ _ _ = K
  cbv
  refine ⟨by subst hA; simp only [Ar.real]; split <;> exact inR64 (by omega) (by omega), LS.rounds hA 12 hT ?_⟩
  cbv
  repeat' (first | (apply And.intro) | (intro _; try cbv) | (refine DS.run hA hT (by rw [hP]; exact P_mixed) 1 rfl ?_; cbv))
  all_goals first | (refine Fin.le hA 0 [] (.bs r) [] 0 rfl rfl rfl ?_ ?_ (by rw [← hK]; exact ⟨rfl, rfl, rfl⟩)) | skip
  all_goals cbv
  all_goals first | exact trivial | skip
  all_goals (subst hA; simp only [natCast_eq, Ar.real, NV.val, Int.ofNat_eq_natCast, Int.toNat_natCast, decide_eq_true_eq, decide_eq_false_iff_not, Bool.not_true, Bool.not_false, beq_iff_eq, bne_iff_ne, beq_eq_false_iff_ne, bne_eq_false_iff_eq, ne_eq] at *; rw [Bool.eq_iff_iff, hr]; simp only [decide_eq_true_eq, Bool.false_eq_true, false_iff, true_iff, beq_iff_eq, bne_iff_ne, ne_eq]; omega)

theorem refright_fn {P : Program} {G : Gl} (hP : P = Try.prog) {d w t s e k p h tr ke no : Int} {r : Bool} (hr : r = true ↔ RightP d w t s e k p h tr ke no) (hh : intWf .i64 h) :
    FnTr P G 34 [.agg [.int .i64 d, .int .i64 w, .int .i64 t, .int .i64 s, .int .i64 e, .int .i64 k, .int .i64 p, .int .i64 h, .int .i64 tr, .int .i64 ke, .int .i64 no]] [] 0 (Gives (.bs r) [] 0) := by
  unfold RightP at hr
  have hh1 : h ≤ 9223372036854775807 := hh.2
  have hh0 : -9223372036854775808 ≤ h := hh.1
  obtain ⟨b1, hb1⟩ : ∃ b : Bool, b = true ↔ (1 ≤ d ∧ d ≤ 8) := ⟨decide _, decide_eq_true_iff⟩
  obtain ⟨b2, hb2⟩ : ∃ b : Bool, b = true ↔ (2 ≤ w ∧ w ≤ 256) := ⟨decide _, decide_eq_true_iff⟩
  obtain ⟨b3, hb3⟩ : ∃ b : Bool, b = true ↔ (1 ≤ t ∧ t ≤ 16) := ⟨decide _, decide_eq_true_iff⟩
  obtain ⟨b4, hb4⟩ : ∃ b : Bool, b = true ↔ (2 ≤ s ∧ s ≤ 64) := ⟨decide _, decide_eq_true_iff⟩
  obtain ⟨b5, hb5⟩ : ∃ b : Bool, b = true ↔ (1 ≤ e ∧ e ≤ 256) := ⟨decide _, decide_eq_true_iff⟩
  obtain ⟨b6, hb6⟩ : ∃ b : Bool, b = true ↔ (1 ≤ k ∧ k ≤ 2) := ⟨decide _, decide_eq_true_iff⟩
  obtain ⟨b7, hb7⟩ : ∃ b : Bool, b = true ↔ (2 ≤ h ∧ h ≤ 1000) := ⟨decide _, decide_eq_true_iff⟩
  obtain ⟨b8, hb8⟩ : ∃ b : Bool, b = true ↔ (1 ≤ p ∧ p ≤ h - 1) := ⟨decide _, decide_eq_true_iff⟩
  obtain ⟨b9, hb9⟩ : ∃ b : Bool, b = true ↔ (1 ≤ tr ∧ tr ≤ 64) := ⟨decide _, decide_eq_true_iff⟩
  obtain ⟨b10, hb10⟩ : ∃ b : Bool, b = true ↔ (1 ≤ ke ∧ ke ≤ 64) := ⟨decide _, decide_eq_true_iff⟩
  obtain ⟨b11, hb11⟩ : ∃ b : Bool, b = true ↔ (1 ≤ no ∧ no ≤ 256) := ⟨decide _, decide_eq_true_iff⟩
  have hT : T.Ok P := hP ▸ T_ok
  refine FnTr.intro (fn := Try.f34) (c := bodyOf Try.f34) (by rw [hP]; rfl) rfl rfl hT ?_
  generalize hA : Ar.real = A
  generalize hK : Gives _ _ _ = K
  cbv
  have c1 := in_fn (P := P) (G := G) hP hb1
  have c2 := in_fn (P := P) (G := G) hP hb2
  have c3 := in_fn (P := P) (G := G) hP hb3
  have c4 := in_fn (P := P) (G := G) hP hb4
  have c5 := in_fn (P := P) (G := G) hP hb5
  have c6 := in_fn (P := P) (G := G) hP hb6
  have c7 := in_fn (P := P) (G := G) hP hb7
  have c8 := in_fn (P := P) (G := G) (hi := A.sub h 1) hP (by subst hA; exact hb8)
  have c9 := in_fn (P := P) (G := G) hP hb9
  have c10 := in_fn (P := P) (G := G) hP hb10
  have c11 := in_fn (P := P) (G := G) hP hb11
  refine CS.le hA c1 [] rfl rfl rfl (by (try cbv) <;> (repeat' (first | exact trivial | exact rfl | apply And.intro | (intro _ hle; first | refine chunk_le hA rfl hle rfl ?_ | refine cat_le hA ?_ | refine upd_le hA ?_ | (try cbv))))) (by (try cbv) <;> (repeat' (first | exact trivial | exact rfl | apply And.intro | (intro _ hle; first | refine chunk_le hA rfl hle rfl ?_ | refine cat_le hA ?_ | refine upd_le hA ?_ | (try cbv))))) ?_
  cbv
  repeat' (first | (apply And.intro) | (intro _; try cbv) | (refine DS.run hA hT (by rw [hP]; exact P_mixed) 1 rfl ?_; cbv) | (refine CS.le hA c2 [] rfl rfl rfl ?_ ?_ ?_; (focus ((try cbv) <;> (repeat' (first | exact trivial | exact rfl | apply And.intro | (intro _ hle; first | refine chunk_le hA rfl hle rfl ?_ | refine cat_le hA ?_ | refine upd_le hA ?_ | (try cbv)))); done)); (focus ((try cbv) <;> (repeat' (first | exact trivial | exact rfl | apply And.intro | (intro _ hle; first | refine chunk_le hA rfl hle rfl ?_ | refine cat_le hA ?_ | refine upd_le hA ?_ | (try cbv)))); done)); cbv) | (refine CS.le hA c3 [] rfl rfl rfl ?_ ?_ ?_; (focus ((try cbv) <;> (repeat' (first | exact trivial | exact rfl | apply And.intro | (intro _ hle; first | refine chunk_le hA rfl hle rfl ?_ | refine cat_le hA ?_ | refine upd_le hA ?_ | (try cbv)))); done)); (focus ((try cbv) <;> (repeat' (first | exact trivial | exact rfl | apply And.intro | (intro _ hle; first | refine chunk_le hA rfl hle rfl ?_ | refine cat_le hA ?_ | refine upd_le hA ?_ | (try cbv)))); done)); cbv) | (refine CS.le hA c4 [] rfl rfl rfl ?_ ?_ ?_; (focus ((try cbv) <;> (repeat' (first | exact trivial | exact rfl | apply And.intro | (intro _ hle; first | refine chunk_le hA rfl hle rfl ?_ | refine cat_le hA ?_ | refine upd_le hA ?_ | (try cbv)))); done)); (focus ((try cbv) <;> (repeat' (first | exact trivial | exact rfl | apply And.intro | (intro _ hle; first | refine chunk_le hA rfl hle rfl ?_ | refine cat_le hA ?_ | refine upd_le hA ?_ | (try cbv)))); done)); cbv) | (refine CS.le hA c5 [] rfl rfl rfl ?_ ?_ ?_; (focus ((try cbv) <;> (repeat' (first | exact trivial | exact rfl | apply And.intro | (intro _ hle; first | refine chunk_le hA rfl hle rfl ?_ | refine cat_le hA ?_ | refine upd_le hA ?_ | (try cbv)))); done)); (focus ((try cbv) <;> (repeat' (first | exact trivial | exact rfl | apply And.intro | (intro _ hle; first | refine chunk_le hA rfl hle rfl ?_ | refine cat_le hA ?_ | refine upd_le hA ?_ | (try cbv)))); done)); cbv) | (refine CS.le hA c6 [] rfl rfl rfl ?_ ?_ ?_; (focus ((try cbv) <;> (repeat' (first | exact trivial | exact rfl | apply And.intro | (intro _ hle; first | refine chunk_le hA rfl hle rfl ?_ | refine cat_le hA ?_ | refine upd_le hA ?_ | (try cbv)))); done)); (focus ((try cbv) <;> (repeat' (first | exact trivial | exact rfl | apply And.intro | (intro _ hle; first | refine chunk_le hA rfl hle rfl ?_ | refine cat_le hA ?_ | refine upd_le hA ?_ | (try cbv)))); done)); cbv) | (refine CS.le hA c7 [] rfl rfl rfl ?_ ?_ ?_; (focus ((try cbv) <;> (repeat' (first | exact trivial | exact rfl | apply And.intro | (intro _ hle; first | refine chunk_le hA rfl hle rfl ?_ | refine cat_le hA ?_ | refine upd_le hA ?_ | (try cbv)))); done)); (focus ((try cbv) <;> (repeat' (first | exact trivial | exact rfl | apply And.intro | (intro _ hle; first | refine chunk_le hA rfl hle rfl ?_ | refine cat_le hA ?_ | refine upd_le hA ?_ | (try cbv)))); done)); cbv) | (refine CS.le hA c8 [] rfl rfl rfl ?_ ?_ ?_; (focus ((try cbv) <;> (repeat' (first | exact trivial | exact rfl | apply And.intro | (intro _ hle; first | refine chunk_le hA rfl hle rfl ?_ | refine cat_le hA ?_ | refine upd_le hA ?_ | (try cbv)))); done)); (focus ((try cbv) <;> (repeat' (first | exact trivial | exact rfl | apply And.intro | (intro _ hle; first | refine chunk_le hA rfl hle rfl ?_ | refine cat_le hA ?_ | refine upd_le hA ?_ | (try cbv)))); done)); cbv) | (refine CS.le hA c9 [] rfl rfl rfl ?_ ?_ ?_; (focus ((try cbv) <;> (repeat' (first | exact trivial | exact rfl | apply And.intro | (intro _ hle; first | refine chunk_le hA rfl hle rfl ?_ | refine cat_le hA ?_ | refine upd_le hA ?_ | (try cbv)))); done)); (focus ((try cbv) <;> (repeat' (first | exact trivial | exact rfl | apply And.intro | (intro _ hle; first | refine chunk_le hA rfl hle rfl ?_ | refine cat_le hA ?_ | refine upd_le hA ?_ | (try cbv)))); done)); cbv) | (refine CS.le hA c10 [] rfl rfl rfl ?_ ?_ ?_; (focus ((try cbv) <;> (repeat' (first | exact trivial | exact rfl | apply And.intro | (intro _ hle; first | refine chunk_le hA rfl hle rfl ?_ | refine cat_le hA ?_ | refine upd_le hA ?_ | (try cbv)))); done)); (focus ((try cbv) <;> (repeat' (first | exact trivial | exact rfl | apply And.intro | (intro _ hle; first | refine chunk_le hA rfl hle rfl ?_ | refine cat_le hA ?_ | refine upd_le hA ?_ | (try cbv)))); done)); cbv) | (refine CS.le hA c11 [] rfl rfl rfl ?_ ?_ ?_; (focus ((try cbv) <;> (repeat' (first | exact trivial | exact rfl | apply And.intro | (intro _ hle; first | refine chunk_le hA rfl hle rfl ?_ | refine cat_le hA ?_ | refine upd_le hA ?_ | (try cbv)))); done)); (focus ((try cbv) <;> (repeat' (first | exact trivial | exact rfl | apply And.intro | (intro _ hle; first | refine chunk_le hA rfl hle rfl ?_ | refine cat_le hA ?_ | refine upd_le hA ?_ | (try cbv)))); done)); cbv))
  all_goals first | (refine Fin.le hA 0 [] (.bs r) [] 0 rfl rfl rfl ?_ ?_ (by rw [← hK]; exact ⟨rfl, rfl, rfl⟩)) | skip
  all_goals cbv
  all_goals first | exact trivial | skip
  all_goals clear c1 c2 c3 c4 c5 c6 c7 c8 c9 c10 c11 hT hK
  all_goals (subst hA; simp only [Ar.real, Bool.not_eq_true', Bool.not_eq_false', Bool.not_true, Bool.not_false, decide_eq_true_eq, decide_eq_false_iff_not] at *)
  all_goals (try (rw [Bool.eq_iff_iff, hr]; try rw [hb11]))
  all_goals (try simp_all only [true_iff, false_iff, Bool.false_eq_true, iff_true, iff_false, and_true, true_and, and_false, false_and, not_false_eq_true, not_true])
  all_goals first | omega | exact inR64 (by omega) (by omega)
end Go.Proofs.Ytkaobalnjimniaa
