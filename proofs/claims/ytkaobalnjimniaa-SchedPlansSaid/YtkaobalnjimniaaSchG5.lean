/-
  Schedules: what must come of every program.
-/
import Derived.Test.YtkaobalnjimniaaSchG4
set_option linter.unusedVariables false
set_option linter.unusedSimpArgs false
namespace Go.Proofs.Ytkaobalnjimniaa
open Go.Eng
open Go.SchLaw (minAt nextV upV PS atOf stepP planP)
set_option maxRecDepth 100000
set_option linter.unusedVariables false

theorem lives_fn {P : Program} {G : Gl} (hP : P = Try.prog) :
    FnTr P G 30 [] [] 0 (Gives (.bl true) [] 0) := by
  have hR : RightP 2 16 2 8 5 1 1 10 4 3 9 := by unfold RightP; omega
  have hB : ¬ RightP 2 16 2 8 5 1 10 10 4 3 9 := by unfold RightP; omega
  have hh : intWf .i64 10 := ⟨by decide, by decide⟩
  have c1 := Next_fn (P := P) (G := G) (c := 10) (r := 15) (er := 0) hP hh (.inr (.inr ⟨hR, by omega, rfl, by decide⟩))
  have c2 := Turns_fn (P := P) (G := G) (a := 0) (b := 20) (r := 3) (er := 0) hP hh (.inr (.inr ⟨hR, by omega, rfl, by decide⟩))
  obtain ⟨z, hz⟩ : ∃ z : Nat → Int, z = fun _ => 0 := ⟨_, rfl⟩
  obtain ⟨x, hx⟩ : ∃ x, x = planP 8 5 2 ⟨0, 0, z, fun _ => 0⟩ 3 := ⟨_, rfl⟩
  have hxn : x.n = 2 := by rw [hx, hz]; decide +kernel
  obtain ⟨pr, hpr⟩ : ∃ pr : Nat → Int, ∀ i, pr i = x.p i := ⟨_, fun _ => rfl⟩
  obtain ⟨nr, hnr⟩ : ∃ nr : Nat → Int, ∀ i, nr i = x.b i := ⟨_, fun _ => rfl⟩
  have c3 := Plan_fn (P := P) (G := G) (c := 0) (turns := 3) (n := 0) (f := z) (m1 := 3) (m2 := 2) (pr := pr) (nr := nr) (er := 0) hP hh (by omega) (.inr (.inr ⟨hR, ⟨by omega, by omega, by omega, fun i hi => by omega⟩, rfl, rfl, x, hx, hxn.symm, hpr, hnr⟩))
  have hp3 : ∀ i, i < 3 → pr i = ofL [0, 1, 0] i := by
    have : ∀ i, i < 3 → x.p i = ofL [0, 1, 0] i := by rw [hx, hz]; decide +kernel
    intro i hi; rw [hpr]; exact this i hi
  have hn2 : ∀ i, i < 2 → nr i = ofL [20, 15] i := by
    have : ∀ i, i < 2 → x.b i = ofL [20, 15] i := by rw [hx, hz]; decide +kernel
    intro i hi; rw [hnr]; exact this i hi
  obtain ⟨q1, hq1⟩ : ∃ q, q = ofL [0, 1, 0] := ⟨_, rfl⟩
  obtain ⟨q2, hq2⟩ : ∃ q, q = ofL [20, 15] := ⟨_, rfl⟩
  obtain ⟨q3, hq3⟩ : ∃ q, q = ofL [10, 5] := ⟨_, rfl⟩
  have e1 : ∀ i, q1 i = [0, 1, 0].getD i 0 := fun i => by rw [hq1]; rfl
  have e2 : ∀ i, q2 i = [20, 15].getD i 0 := fun i => by rw [hq2]; rfl
  have e3 : ∀ i, q3 i = [10, 5].getD i 0 := fun i => by rw [hq3]; rfl
  have c4 := same_fn (P := P) (G := G) (n := 3) (m := 3) (f := pr) (g := q1) (r := true) hP (by omega) (by omega) ⟨fun _ => ⟨rfl, fun i hi => by rw [hq1]; exact hp3 i hi⟩, fun _ => rfl⟩
  have c5 := same_fn (P := P) (G := G) (n := 2) (m := 2) (f := nr) (g := q2) (r := true) hP (by omega) (by omega) ⟨fun _ => ⟨rfl, fun i hi => by rw [hq2]; exact hn2 i hi⟩, fun _ => rfl⟩
  have c6 := due_fn (P := P) (G := G) (c := 10) (n := 2) (f := q3) (at' := 1) (ok := true) hP (by omega) hh (.inl ⟨hR, by omega, by omega, by decide, rfl, by rw [hq3]; decide +kernel⟩)
  have c7 := due_fn (P := P) (G := G) (d := 2) (w := 16) (t := 2) (s := 8) (e := 5) (k := 1) (p := 1) (h := 10) (tr := 4) (ke := 3) (no := 9) (c := 5) (n := 0) (f := z) (at' := 0) (ok := false) hP (by omega) hh (.inr ⟨fun h => by have := h.2.2.1; omega, rfl, rfl⟩)
  have c8 := Next_fn (P := P) (G := G) (c := 0) (r := 0) (er := 200) hP hh (.inl ⟨hB, rfl, rfl⟩)
  have c9 := right_fn (P := P) (G := G) (r := true) hP ⟨fun _ => hR, fun _ => rfl⟩ hh
  have c10 := right_fn (P := P) (G := G) (r := false) hP ⟨fun h => by (cases h), fun h => absurd h hB⟩ hh
  clear hpr hnr hp3 hn2 hx hxn hR hB
  have hT : T.Ok P := hP ▸ T_ok
  refine FnTr.intro (fn := Try.f30) (c := bodyOf Try.f30) (by rw [hP]; rfl) rfl rfl hT ?_
  generalize hA : Ar.real = A
  generalize hK : Gives _ _ _ = K
  cbv
  refine CS.le hA (usual_fn hP) [] rfl rfl rfl ?_ ?_ ?_
  · (try cbv) <;> (repeat' (first | exact trivial | exact rfl | apply And.intro | (intro _ hle; first | refine chunk_le hA rfl hle rfl ?_ | refine cat_le hA ?_ | refine upd_le hA ?_ | (try cbv))))
  · (try cbv) <;> (repeat' (first | exact trivial | exact rfl | apply And.intro | (intro _ hle; first | refine chunk_le hA rfl hle rfl ?_ | refine cat_le hA ?_ | refine upd_le hA ?_ | (try cbv))))
  cbv
  refine CS.leR hA c1 (.tup [.lit .i64 15, .lit .i64 0]) [] rfl rfl rfl ?_ ?_ ?_ ?_
  · (try cbv) <;> (repeat' (first | exact trivial | exact rfl | apply And.intro | (intro _ hle; first | refine chunk_le hA rfl hle rfl ?_ | refine cat_le hA ?_ | refine upd_le hA ?_ | (try cbv))))
  · (try cbv) <;> (repeat' (first | exact trivial | exact rfl | apply And.intro | (intro _ hle; first | refine chunk_le hA rfl hle rfl ?_ | refine cat_le hA ?_ | refine upd_le hA ?_ | (try cbv))))
  · (try cbv) <;> (repeat' (first | exact trivial | exact rfl | apply And.intro | (intro _ hle; first | refine chunk_le hA rfl hle rfl ?_ | refine cat_le hA ?_ | refine upd_le hA ?_ | (try cbv))))
  cbv
  refine CS.leR hA c2 (.tup [.lit .i64 3, .lit .i64 0]) [] rfl rfl rfl ?_ ?_ ?_ ?_
  · (try cbv) <;> (repeat' (first | exact trivial | exact rfl | apply And.intro | (intro _ hle; first | refine chunk_le hA rfl hle rfl ?_ | refine cat_le hA ?_ | refine upd_le hA ?_ | (try cbv))))
  · (try cbv) <;> (repeat' (first | exact trivial | exact rfl | apply And.intro | (intro _ hle; first | refine chunk_le hA rfl hle rfl ?_ | refine cat_le hA ?_ | refine upd_le hA ?_ | (try cbv))))
  · (try cbv) <;> (repeat' (first | exact trivial | exact rfl | apply And.intro | (intro _ hle; first | refine chunk_le hA rfl hle rfl ?_ | refine cat_le hA ?_ | refine upd_le hA ?_ | (try cbv))))
  cbv
  refine CS.leR hA c3 (.tup [.ro 1 (.l 3) (fun e => [.int .i64 (pr e.val)]), .ro 1 (.l 2) (fun e => [.int .i64 (nr e.val)]), .lit .i64 0]) [] rfl rfl rfl ?_ ?_ ?_ ?_
  · (try cbv) <;> (repeat' (first | exact trivial | exact rfl | apply And.intro | (intro _ hle; first | refine chunk_le hA rfl hle rfl ?_ | refine cat_le hA ?_ | refine upd_le hA ?_ | (try cbv))))
  · (try cbv) <;> (repeat' (first | exact trivial | exact rfl | apply And.intro | (intro _ hle; first | refine chunk_le hA rfl hle rfl ?_ | refine cat_le hA ?_ | refine upd_le hA ?_ | (try cbv))))
  · (try cbv) <;> (repeat' (first | exact trivial | exact rfl | apply And.intro | (intro _ hle; first | refine chunk_le hA rfl hle rfl ?_ | refine cat_le hA ?_ | refine upd_le hA ?_ | (try cbv))))
  cbv
  refine CS.frzA hA (by (try cbv) <;> (repeat' (first | exact trivial | exact rfl | apply And.intro | (intro _ hle; first | refine chunk_le hA rfl hle rfl ?_ | refine cat_le hA ?_ | refine upd_le hA ?_ | (try cbv)))); all_goals (subst hA; (try simp only [natCast_eq] at *); (simp only [Ar.real, NV.val, Int.ofNat_eq_natCast, Int.toNat_natCast]); first | done | omega | decide | exact inR64 (by omega) (by omega) | (refine ⟨?_, ?_⟩ <;> first | omega | decide | exact inR64 (by omega) (by omega)))) ?_
  cbv
  refine CS.leR hA c6 (.tup [.lit .i64 1, .bl true]) [] rfl rfl rfl ?_ ?_ ?_ ?_
  · (try cbv) <;> (repeat' (first | exact trivial | exact rfl | apply And.intro | (intro _ hle; first | refine chunk_le hA rfl hle rfl ?_ | refine cat_le hA ?_ | refine upd_le hA ?_ | (try cbv))))
    exact e3 _
  · (try cbv) <;> (repeat' (first | exact trivial | exact rfl | apply And.intro | (intro _ hle; first | refine chunk_le hA rfl hle rfl ?_ | refine cat_le hA ?_ | refine upd_le hA ?_ | (try cbv))))
  · (try cbv) <;> (repeat' (first | exact trivial | exact rfl | apply And.intro | (intro _ hle; first | refine chunk_le hA rfl hle rfl ?_ | refine cat_le hA ?_ | refine upd_le hA ?_ | (try cbv))))
  cbv
  refine CS.leR hA c7 (.tup [.lit .i64 0, .bl false]) [] rfl rfl rfl ?_ ?_ ?_ ?_
  · (try cbv) <;> (repeat' (first | exact trivial | exact rfl | apply And.intro | (intro _ hle; first | refine chunk_le hA rfl hle rfl ?_ | refine cat_le hA ?_ | refine upd_le hA ?_ | (try cbv))))
  · (try cbv) <;> (repeat' (first | exact trivial | exact rfl | apply And.intro | (intro _ hle; first | refine chunk_le hA rfl hle rfl ?_ | refine cat_le hA ?_ | refine upd_le hA ?_ | (try cbv))))
  · (try cbv) <;> (repeat' (first | exact trivial | exact rfl | apply And.intro | (intro _ hle; first | refine chunk_le hA rfl hle rfl ?_ | refine cat_le hA ?_ | refine upd_le hA ?_ | (try cbv))))
  cbv
  refine CS.leR hA c8 (.tup [.lit .i64 0, .lit .i64 200]) [] rfl rfl rfl ?_ ?_ ?_ ?_
  · (try cbv) <;> (repeat' (first | exact trivial | exact rfl | apply And.intro | (intro _ hle; first | refine chunk_le hA rfl hle rfl ?_ | refine cat_le hA ?_ | refine upd_le hA ?_ | (try cbv))))
  · (try cbv) <;> (repeat' (first | exact trivial | exact rfl | apply And.intro | (intro _ hle; first | refine chunk_le hA rfl hle rfl ?_ | refine cat_le hA ?_ | refine upd_le hA ?_ | (try cbv))))
  · (try cbv) <;> (repeat' (first | exact trivial | exact rfl | apply And.intro | (intro _ hle; first | refine chunk_le hA rfl hle rfl ?_ | refine cat_le hA ?_ | refine upd_le hA ?_ | (try cbv))))
  cbv
  refine CS.leR hA c9 (.bl true) [] rfl rfl rfl ?_ ?_ ?_ ?_
  · (try cbv) <;> (repeat' (first | exact trivial | exact rfl | apply And.intro | (intro _ hle; first | refine chunk_le hA rfl hle rfl ?_ | refine cat_le hA ?_ | refine upd_le hA ?_ | (try cbv))))
  · (try cbv) <;> (repeat' (first | exact trivial | exact rfl | apply And.intro | (intro _ hle; first | refine chunk_le hA rfl hle rfl ?_ | refine cat_le hA ?_ | refine upd_le hA ?_ | (try cbv))))
  · (try cbv) <;> (repeat' (first | exact trivial | exact rfl | apply And.intro | (intro _ hle; first | refine chunk_le hA rfl hle rfl ?_ | refine cat_le hA ?_ | refine upd_le hA ?_ | (try cbv))))
  cbv
  refine CS.leR hA c10 (.bl false) [] rfl rfl rfl ?_ ?_ ?_ ?_
  · (try cbv) <;> (repeat' (first | exact trivial | exact rfl | apply And.intro | (intro _ hle; first | refine chunk_le hA rfl hle rfl ?_ | refine cat_le hA ?_ | refine upd_le hA ?_ | (try cbv))))
  · (try cbv) <;> (repeat' (first | exact trivial | exact rfl | apply And.intro | (intro _ hle; first | refine chunk_le hA rfl hle rfl ?_ | refine cat_le hA ?_ | refine upd_le hA ?_ | (try cbv))))
  · (try cbv) <;> (repeat' (first | exact trivial | exact rfl | apply And.intro | (intro _ hle; first | refine chunk_le hA rfl hle rfl ?_ | refine cat_le hA ?_ | refine upd_le hA ?_ | (try cbv))))
  cbv
  refine CS.frzA hA (by (try cbv) <;> (repeat' (first | exact trivial | exact rfl | apply And.intro | (intro _ hle; first | refine chunk_le hA rfl hle rfl ?_ | refine cat_le hA ?_ | refine upd_le hA ?_ | (try cbv)))); all_goals (subst hA; (try simp only [natCast_eq] at *); (simp only [Ar.real, NV.val, Int.ofNat_eq_natCast, Int.toNat_natCast]); first | done | omega | decide | exact inR64 (by omega) (by omega) | (refine ⟨?_, ?_⟩ <;> first | omega | decide | exact inR64 (by omega) (by omega)))) ?_
  cbv
  refine CS.leR hA c4 (.bl true) [] rfl rfl rfl ?_ ?_ ?_ ?_
  · (try cbv) <;> (repeat' (first | exact trivial | exact rfl | apply And.intro | (intro _ hle; first | refine chunk_le hA rfl hle rfl ?_ | refine cat_le hA ?_ | refine upd_le hA ?_ | (try cbv))))
    exact e1 _
  · (try cbv) <;> (repeat' (first | exact trivial | exact rfl | apply And.intro | (intro _ hle; first | refine chunk_le hA rfl hle rfl ?_ | refine cat_le hA ?_ | refine upd_le hA ?_ | (try cbv))))
  · (try cbv) <;> (repeat' (first | exact trivial | exact rfl | apply And.intro | (intro _ hle; first | refine chunk_le hA rfl hle rfl ?_ | refine cat_le hA ?_ | refine upd_le hA ?_ | (try cbv))))
  cbv
  refine CS.frzA hA (by (try cbv) <;> (repeat' (first | exact trivial | exact rfl | apply And.intro | (intro _ hle; first | refine chunk_le hA rfl hle rfl ?_ | refine cat_le hA ?_ | refine upd_le hA ?_ | (try cbv)))); all_goals (subst hA; (try simp only [natCast_eq] at *); (simp only [Ar.real, NV.val, Int.ofNat_eq_natCast, Int.toNat_natCast]); first | done | omega | decide | exact inR64 (by omega) (by omega) | (refine ⟨?_, ?_⟩ <;> first | omega | decide | exact inR64 (by omega) (by omega)))) ?_
  cbv
  refine CS.leR hA c5 (.bl true) [] rfl rfl rfl ?_ ?_ ?_ ?_
  · (try cbv) <;> (repeat' (first | exact trivial | exact rfl | apply And.intro | (intro _ hle; first | refine chunk_le hA rfl hle rfl ?_ | refine cat_le hA ?_ | refine upd_le hA ?_ | (try cbv))))
    exact e2 _
  · (try cbv) <;> (repeat' (first | exact trivial | exact rfl | apply And.intro | (intro _ hle; first | refine chunk_le hA rfl hle rfl ?_ | refine cat_le hA ?_ | refine upd_le hA ?_ | (try cbv))))
  · (try cbv) <;> (repeat' (first | exact trivial | exact rfl | apply And.intro | (intro _ hle; first | refine chunk_le hA rfl hle rfl ?_ | refine cat_le hA ?_ | refine upd_le hA ?_ | (try cbv))))
  cbv
  refine Fin.le hA 0 [] (.bl true) ([]) 0 rfl rfl rfl ?_ ?_ (by rw [← hK]; exact ⟨rfl, rfl, rfl⟩)
  · (try cbv) <;> (repeat' (first | exact trivial | exact rfl | apply And.intro | (intro _ hle; first | refine chunk_le hA rfl hle rfl ?_ | refine cat_le hA ?_ | refine upd_le hA ?_ | (try cbv))))
  · (try cbv) <;> (repeat' (first | exact trivial | exact rfl | apply And.intro | (intro _ hle; first | refine chunk_le hA rfl hle rfl ?_ | refine cat_le hA ?_ | refine upd_le hA ?_ | (try cbv))))
end Go.Proofs.Ytkaobalnjimniaa
