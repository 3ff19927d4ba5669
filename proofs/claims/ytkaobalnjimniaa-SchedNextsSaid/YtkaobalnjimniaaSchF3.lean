/-
  Schedules: is a tree grown at a count, and where.
-/
import Derived.Test.YtkaobalnjimniaaSchF2
set_option linter.unusedVariables false
set_option linter.unusedSimpArgs false
namespace Go.Proofs.Ytkaobalnjimniaa
open Go.Eng
open Go.SchLaw (minAt nextV)
set_option maxRecDepth 100000
set_option linter.unusedVariables false

def DueIs (n : Nat) (f : Nat → Int) (d w t s e k p h tr ke no c : Int) (at' : Int) (ok : Bool) : Prop :=
  (RightP d w t s e k p h tr ke no ∧ (n : Int) ≤ t ∧ s ≤ c ∧ Int.tmod c e = 0 ∧ ok = true ∧ at' = if (n : Int) < t then (n : Int) else (minAt f n : Int)) ∨
    (¬ (RightP d w t s e k p h tr ke no ∧ (n : Int) ≤ t ∧ s ≤ c ∧ Int.tmod c e = 0) ∧ ok = false ∧ at' = 0)

theorem due_fn {P : Program} {G : Gl} (hP : P = Try.prog) {d w t s e k p h tr ke no : Int} {c at' : Int} {ok : Bool} {n : Nat} {f : Nat → Int} (hn : n ≤ 9223372036854775807) (hh : intWf .i64 h) (hd : DueIs n f d w t s e k p h tr ke no c at' ok) :
    FnTr P G 31 [.agg [.int .i64 d, .int .i64 w, .int .i64 t, .int .i64 s, .int .i64 e, .int .i64 k, .int .i64 p, .int .i64 h, .int .i64 tr, .int .i64 ke, .int .i64 no], .int .i64 c, .ro 1 (.s n) (fun e => [.int .i64 (f e.val)])] [] 0 (Gives (.tup [.int .i64 at', .bl ok]) [] 1) := by
  by_cases hR : RightP d w t s e k p h tr ke no
  · have he : 0 < e := by unfold RightP at hR; omega
    by_cases hq : (n : Int) ≤ t ∧ s ≤ c ∧ Int.tmod c e = 0
    · obtain ⟨rfl, ha⟩ : ok = true ∧ at' = if (n : Int) < t then (n : Int) else (minAt f n : Int) := by
        rcases hd with ⟨_, _, _, _, h1⟩ | ⟨h1, _⟩
        · exact h1
        · exact absurd ⟨hR, hq⟩ h1
      obtain ⟨q1, q2, q3⟩ := hq
      clear hd
      have hT : T.Ok P := hP ▸ T_ok
      refine FnTr.intro (fn := Try.f31) (c := bodyOf Try.f31) (by rw [hP]; rfl) rfl rfl hT ?_
      generalize hA : Ar.real = A
      generalize hK : Gives _ _ _ = K
      cbv
      refine CS.leR hA (right_fn (r := true) hP ⟨fun _ => hR, fun _ => rfl⟩ hh) (.bl true) [] rfl rfl rfl ?_ ?_ ?_ ?_
      · (try cbv) <;> (repeat' (first | exact trivial | exact rfl | apply And.intro | (intro _ hle; first | refine chunk_le hA rfl hle rfl ?_ | refine cat_le hA ?_ | refine upd_le hA ?_ | (try cbv))))
      · (try cbv) <;> (repeat' (first | exact trivial | exact rfl | apply And.intro | (intro _ hle; first | refine chunk_le hA rfl hle rfl ?_ | refine cat_le hA ?_ | refine upd_le hA ?_ | (try cbv))))
      · (try cbv) <;> (repeat' (first | exact trivial | exact rfl | apply And.intro | (intro _ hle; first | refine chunk_le hA rfl hle rfl ?_ | refine cat_le hA ?_ | refine upd_le hA ?_ | (try cbv))))
      cbv
      have hx := place_fn (P := P) (G := G) (d := d) (w := w) (s := s) (e := e) (k := k) (p := p) (h := h) (tr := tr) (ke := ke) (no := no) hP hn ha
      clear ha
      repeat' (first | (apply And.intro) | (intro _; try cbv) | (refine DS.run hA hT (by rw [hP]; exact P_mixed) 1 rfl ?_; cbv) | (refine CS.le hA hx [] rfl rfl rfl ?_ ?_ ?_; (focus ((try cbv) <;> (repeat' (first | exact trivial | exact rfl | apply And.intro | (intro _ hle; first | refine chunk_le hA rfl hle rfl ?_ | refine cat_le hA ?_ | refine upd_le hA ?_ | (try cbv)))); done)); (focus ((try cbv) <;> (repeat' (first | exact trivial | exact rfl | apply And.intro | (intro _ hle; first | refine chunk_le hA rfl hle rfl ?_ | refine cat_le hA ?_ | refine upd_le hA ?_ | (try cbv)))); done)); cbv))
      all_goals first
        | (subst hA; (try simp only [natCast_eq] at *); (simp only [Ar.real, NV.val, Int.ofNat_eq_natCast, Int.toNat_natCast]); first | done | omega | decide | exact inR64 (by omega) (by omega) | (refine ⟨?_, ?_⟩ <;> first | omega | decide | exact inR64 (by omega) (by omega)))
        | (exfalso; (subst hA; simp only [Ar.real, NV.val, Int.ofNat_eq_natCast, Int.toNat_natCast, decide_eq_true_eq, decide_eq_false_iff_not, Bool.not_true, Bool.not_false, beq_iff_eq, bne_iff_ne, beq_eq_false_iff_ne, bne_eq_false_iff_eq, ne_eq, Bool.not_eq_true', Bool.not_eq_false', natCast_eq] at *; first | contradiction | omega | (generalize Int.tmod _ _ = qtm at *; omega)))
        | skip
      refine Fin.le hA 0 [] (.tup [.int .i64 at', .bl true]) ([]) 1 rfl rfl rfl ?_ ?_ (by rw [← hK]; exact ⟨rfl, rfl, rfl⟩)
      · (try cbv) <;> (repeat' (first | exact trivial | exact rfl | apply And.intro | (intro _ hle; first | refine chunk_le hA rfl hle rfl ?_ | refine cat_le hA ?_ | refine upd_le hA ?_ | (try cbv))))
      · (try cbv) <;> (repeat' (first | exact trivial | exact rfl | apply And.intro | (intro _ hle; first | refine chunk_le hA rfl hle rfl ?_ | refine cat_le hA ?_ | refine upd_le hA ?_ | (try cbv))))
    · obtain ⟨rfl, rfl⟩ : ok = false ∧ at' = 0 := by
        rcases hd with ⟨_, h1, h2, h3, _⟩ | ⟨_, h1⟩
        · exact absurd ⟨h1, h2, h3⟩ hq
        · exact h1
      clear hd
      have hT : T.Ok P := hP ▸ T_ok
      refine FnTr.intro (fn := Try.f31) (c := bodyOf Try.f31) (by rw [hP]; rfl) rfl rfl hT ?_
      generalize hA : Ar.real = A
      generalize hK : Gives _ _ _ = K
      cbv
      refine CS.leR hA (right_fn (r := true) hP ⟨fun _ => hR, fun _ => rfl⟩ hh) (.bl true) [] rfl rfl rfl ?_ ?_ ?_ ?_
      · (try cbv) <;> (repeat' (first | exact trivial | exact rfl | apply And.intro | (intro _ hle; first | refine chunk_le hA rfl hle rfl ?_ | refine cat_le hA ?_ | refine upd_le hA ?_ | (try cbv))))
      · (try cbv) <;> (repeat' (first | exact trivial | exact rfl | apply And.intro | (intro _ hle; first | refine chunk_le hA rfl hle rfl ?_ | refine cat_le hA ?_ | refine upd_le hA ?_ | (try cbv))))
      · (try cbv) <;> (repeat' (first | exact trivial | exact rfl | apply And.intro | (intro _ hle; first | refine chunk_le hA rfl hle rfl ?_ | refine cat_le hA ?_ | refine upd_le hA ?_ | (try cbv))))
      cbv
      repeat' (first | (apply And.intro) | (intro _; try cbv) | (refine DS.run hA hT (by rw [hP]; exact P_mixed) 1 rfl ?_; cbv))
      all_goals first
        | (subst hA; (try simp only [natCast_eq] at *); (simp only [Ar.real, NV.val, Int.ofNat_eq_natCast, Int.toNat_natCast]); first | done | omega | decide | exact inR64 (by omega) (by omega) | (refine ⟨?_, ?_⟩ <;> first | omega | decide | exact inR64 (by omega) (by omega)))
        | (refine Fin.le hA 0 [] (.tup [.int .i64 0, .bl false]) [] 1 rfl rfl rfl ?_ ?_ (by rw [← hK]; exact ⟨rfl, rfl, rfl⟩)
           · (try cbv) <;> (repeat' (first | exact trivial | exact rfl | apply And.intro | (intro _ hle; first | refine chunk_le hA rfl hle rfl ?_ | refine cat_le hA ?_ | refine upd_le hA ?_ | (try cbv))))
           · (try cbv) <;> (repeat' (first | exact trivial | exact rfl | apply And.intro | (intro _ hle; first | refine chunk_le hA rfl hle rfl ?_ | refine cat_le hA ?_ | refine upd_le hA ?_ | (try cbv)))))
        | skip
      exfalso
      refine hq ⟨?_, ?_, ?_⟩
      · clear hq; (subst hA; simp only [Ar.real, NV.val, Int.ofNat_eq_natCast, Int.toNat_natCast, decide_eq_true_eq, decide_eq_false_iff_not, Bool.not_true, Bool.not_false, beq_iff_eq, bne_iff_ne, beq_eq_false_iff_ne, bne_eq_false_iff_eq, ne_eq, Bool.not_eq_true', Bool.not_eq_false', natCast_eq] at *; first | contradiction | omega | (generalize Int.tmod _ _ = qtm at *; omega))
      · clear hq; (subst hA; simp only [Ar.real, NV.val, Int.ofNat_eq_natCast, Int.toNat_natCast, decide_eq_true_eq, decide_eq_false_iff_not, Bool.not_true, Bool.not_false, beq_iff_eq, bne_iff_ne, beq_eq_false_iff_ne, bne_eq_false_iff_eq, ne_eq, Bool.not_eq_true', Bool.not_eq_false', natCast_eq] at *; first | contradiction | omega | (generalize Int.tmod _ _ = qtm at *; omega))
      · clear hq; (subst hA; simp only [Ar.real, NV.val, Int.ofNat_eq_natCast, Int.toNat_natCast, decide_eq_true_eq, decide_eq_false_iff_not, Bool.not_true, Bool.not_false, beq_iff_eq, bne_iff_ne, beq_eq_false_iff_ne, bne_eq_false_iff_eq, ne_eq, Bool.not_eq_true', Bool.not_eq_false', natCast_eq] at *; first | contradiction | omega | (generalize Int.tmod _ _ = qtm at *; omega))
  · obtain ⟨rfl, rfl⟩ : ok = false ∧ at' = 0 := by
      rcases hd with ⟨h1, _⟩ | ⟨_, h1⟩
      · exact absurd h1 hR
      · exact h1
    have hT : T.Ok P := hP ▸ T_ok
    refine FnTr.intro (fn := Try.f31) (c := bodyOf Try.f31) (by rw [hP]; rfl) rfl rfl hT ?_
    generalize hA : Ar.real = A
    generalize hK : Gives _ _ _ = K
    cbv
    refine CS.leR hA (right_fn (r := false) hP ⟨fun h => by (cases h), fun h => absurd h hR⟩ hh) (.bl false) [] rfl rfl rfl ?_ ?_ ?_ ?_
    · (try cbv) <;> (repeat' (first | exact trivial | exact rfl | apply And.intro | (intro _ hle; first | refine chunk_le hA rfl hle rfl ?_ | refine cat_le hA ?_ | refine upd_le hA ?_ | (try cbv))))
    · (try cbv) <;> (repeat' (first | exact trivial | exact rfl | apply And.intro | (intro _ hle; first | refine chunk_le hA rfl hle rfl ?_ | refine cat_le hA ?_ | refine upd_le hA ?_ | (try cbv))))
    · (try cbv) <;> (repeat' (first | exact trivial | exact rfl | apply And.intro | (intro _ hle; first | refine chunk_le hA rfl hle rfl ?_ | refine cat_le hA ?_ | refine upd_le hA ?_ | (try cbv))))
    cbv
    refine Fin.le hA 0 [] (.tup [.int .i64 0, .bl false]) ([]) 1 rfl rfl rfl ?_ ?_ (by rw [← hK]; exact ⟨rfl, rfl, rfl⟩)
    · (try cbv) <;> (repeat' (first | exact trivial | exact rfl | apply And.intro | (intro _ hle; first | refine chunk_le hA rfl hle rfl ?_ | refine cat_le hA ?_ | refine upd_le hA ?_ | (try cbv))))
    · (try cbv) <;> (repeat' (first | exact trivial | exact rfl | apply And.intro | (intro _ hle; first | refine chunk_le hA rfl hle rfl ?_ | refine cat_le hA ?_ | refine upd_le hA ?_ | (try cbv))))

theorem refdue_fn {P : Program} {G : Gl} (hP : P = Try.prog) {d w t s e k p h tr ke no : Int} {c at' : Int} {ok : Bool} {n : Nat} {f : Nat → Int} (hn : n ≤ 9223372036854775807) (hh : intWf .i64 h) (hd : DueIs n f d w t s e k p h tr ke no c at' ok) :
    FnTr P G 32 [.agg [.int .i64 d, .int .i64 w, .int .i64 t, .int .i64 s, .int .i64 e, .int .i64 k, .int .i64 p, .int .i64 h, .int .i64 tr, .int .i64 ke, .int .i64 no], .int .i64 c, .ro 1 (.s n) (fun e => [.int .i64 (f e.val)])] [] 0 (Gives (.tup [.int .i64 at', .bl ok]) [] 1) := by
  by_cases hR : RightP d w t s e k p h tr ke no
  · have he : 0 < e := by unfold RightP at hR; omega
    by_cases hq : (n : Int) ≤ t ∧ s ≤ c ∧ Int.tmod c e = 0
    · obtain ⟨rfl, ha⟩ : ok = true ∧ at' = if (n : Int) < t then (n : Int) else (minAt f n : Int) := by
        rcases hd with ⟨_, _, _, _, h1⟩ | ⟨h1, _⟩
        · exact h1
        · exact absurd ⟨hR, hq⟩ h1
      obtain ⟨q1, q2, q3⟩ := hq
      clear hd
      have hT : T.Ok P := hP ▸ T_ok
      refine FnTr.intro (fn := Try.f32) (c := bodyOf Try.f32) (by rw [hP]; rfl) rfl rfl hT ?_
      generalize hA : Ar.real = A
      generalize hK : Gives _ _ _ = K
      cbv
      refine CS.leR hA (refright_fn (r := true) hP ⟨fun _ => hR, fun _ => rfl⟩ hh) (.bl true) [] rfl rfl rfl ?_ ?_ ?_ ?_
      · (try cbv) <;> (repeat' (first | exact trivial | exact rfl | apply And.intro | (intro _ hle; first | refine chunk_le hA rfl hle rfl ?_ | refine cat_le hA ?_ | refine upd_le hA ?_ | (try cbv))))
      · (try cbv) <;> (repeat' (first | exact trivial | exact rfl | apply And.intro | (intro _ hle; first | refine chunk_le hA rfl hle rfl ?_ | refine cat_le hA ?_ | refine upd_le hA ?_ | (try cbv))))
      · (try cbv) <;> (repeat' (first | exact trivial | exact rfl | apply And.intro | (intro _ hle; first | refine chunk_le hA rfl hle rfl ?_ | refine cat_le hA ?_ | refine upd_le hA ?_ | (try cbv))))
      cbv
      have hx := refplace_fn (P := P) (G := G) (d := d) (w := w) (s := s) (e := e) (k := k) (p := p) (h := h) (tr := tr) (ke := ke) (no := no) hP hn ha
      clear ha
      have hy := FnTr.res hA (turn_fn (P := P) (G := G) (d := d) (w := w) (t := t) (s := s) (e := e) (k := k) (p := p) (h := h) (tr := tr) (ke := ke) (no := no) (c := c) (r := true) hP he ⟨fun _ => ⟨q2, q3⟩, fun _ => rfl⟩) (.bl true) rfl
      repeat' (first | (apply And.intro) | (intro _; try cbv) | (refine DS.run hA hT (by rw [hP]; exact P_mixed) 1 rfl ?_; cbv) | (refine CS.le hA hx [] rfl rfl rfl ?_ ?_ ?_; (focus ((try cbv) <;> (repeat' (first | exact trivial | exact rfl | apply And.intro | (intro _ hle; first | refine chunk_le hA rfl hle rfl ?_ | refine cat_le hA ?_ | refine upd_le hA ?_ | (try cbv)))); done)); (focus ((try cbv) <;> (repeat' (first | exact trivial | exact rfl | apply And.intro | (intro _ hle; first | refine chunk_le hA rfl hle rfl ?_ | refine cat_le hA ?_ | refine upd_le hA ?_ | (try cbv)))); done)); cbv) | (refine CS.le hA hy [] rfl rfl rfl ?_ ?_ ?_; (focus ((try cbv) <;> (repeat' (first | exact trivial | exact rfl | apply And.intro | (intro _ hle; first | refine chunk_le hA rfl hle rfl ?_ | refine cat_le hA ?_ | refine upd_le hA ?_ | (try cbv)))); done)); (focus ((try cbv) <;> (repeat' (first | exact trivial | exact rfl | apply And.intro | (intro _ hle; first | refine chunk_le hA rfl hle rfl ?_ | refine cat_le hA ?_ | refine upd_le hA ?_ | (try cbv)))); done)); cbv))
      all_goals first
        | (subst hA; (try simp only [natCast_eq] at *); (simp only [Ar.real, NV.val, Int.ofNat_eq_natCast, Int.toNat_natCast]); first | done | omega | decide | exact inR64 (by omega) (by omega) | (refine ⟨?_, ?_⟩ <;> first | omega | decide | exact inR64 (by omega) (by omega)))
        | (exfalso; (subst hA; simp only [Ar.real, NV.val, Int.ofNat_eq_natCast, Int.toNat_natCast, decide_eq_true_eq, decide_eq_false_iff_not, Bool.not_true, Bool.not_false, beq_iff_eq, bne_iff_ne, beq_eq_false_iff_ne, bne_eq_false_iff_eq, ne_eq, Bool.not_eq_true', Bool.not_eq_false', natCast_eq] at *; first | contradiction | omega | (generalize Int.tmod _ _ = qtm at *; omega)))
        | skip
      refine Fin.le hA 0 [] (.tup [.int .i64 at', .bl true]) ([]) 1 rfl rfl rfl ?_ ?_ (by rw [← hK]; exact ⟨rfl, rfl, rfl⟩)
      · (try cbv) <;> (repeat' (first | exact trivial | exact rfl | apply And.intro | (intro _ hle; first | refine chunk_le hA rfl hle rfl ?_ | refine cat_le hA ?_ | refine upd_le hA ?_ | (try cbv))))
      · (try cbv) <;> (repeat' (first | exact trivial | exact rfl | apply And.intro | (intro _ hle; first | refine chunk_le hA rfl hle rfl ?_ | refine cat_le hA ?_ | refine upd_le hA ?_ | (try cbv))))
    · obtain ⟨rfl, rfl⟩ : ok = false ∧ at' = 0 := by
        rcases hd with ⟨_, h1, h2, h3, _⟩ | ⟨_, h1⟩
        · exact absurd ⟨h1, h2, h3⟩ hq
        · exact h1
      clear hd
      have hT : T.Ok P := hP ▸ T_ok
      refine FnTr.intro (fn := Try.f32) (c := bodyOf Try.f32) (by rw [hP]; rfl) rfl rfl hT ?_
      generalize hA : Ar.real = A
      generalize hK : Gives _ _ _ = K
      cbv
      refine CS.leR hA (refright_fn (r := true) hP ⟨fun _ => hR, fun _ => rfl⟩ hh) (.bl true) [] rfl rfl rfl ?_ ?_ ?_ ?_
      · (try cbv) <;> (repeat' (first | exact trivial | exact rfl | apply And.intro | (intro _ hle; first | refine chunk_le hA rfl hle rfl ?_ | refine cat_le hA ?_ | refine upd_le hA ?_ | (try cbv))))
      · (try cbv) <;> (repeat' (first | exact trivial | exact rfl | apply And.intro | (intro _ hle; first | refine chunk_le hA rfl hle rfl ?_ | refine cat_le hA ?_ | refine upd_le hA ?_ | (try cbv))))
      · (try cbv) <;> (repeat' (first | exact trivial | exact rfl | apply And.intro | (intro _ hle; first | refine chunk_le hA rfl hle rfl ?_ | refine cat_le hA ?_ | refine upd_le hA ?_ | (try cbv))))
      cbv
      obtain ⟨b, hb⟩ : ∃ b : Bool, b = true ↔ (s ≤ c ∧ Int.tmod c e = 0) := ⟨decide _, decide_eq_true_iff⟩
      have hy := turn_fn (P := P) (G := G) (d := d) (w := w) (t := t) (s := s) (e := e) (k := k) (p := p) (h := h) (tr := tr) (ke := ke) (no := no) (c := c) (r := b) hP he hb
      repeat' (first | (apply And.intro) | (intro _; try cbv) | (refine DS.run hA hT (by rw [hP]; exact P_mixed) 1 rfl ?_; cbv) | (refine CS.le hA hy [] rfl rfl rfl ?_ ?_ ?_; (focus ((try cbv) <;> (repeat' (first | exact trivial | exact rfl | apply And.intro | (intro _ hle; first | refine chunk_le hA rfl hle rfl ?_ | refine cat_le hA ?_ | refine upd_le hA ?_ | (try cbv)))); done)); (focus ((try cbv) <;> (repeat' (first | exact trivial | exact rfl | apply And.intro | (intro _ hle; first | refine chunk_le hA rfl hle rfl ?_ | refine cat_le hA ?_ | refine upd_le hA ?_ | (try cbv)))); done)); cbv))
      all_goals first
        | (subst hA; (try simp only [natCast_eq] at *); (simp only [Ar.real, NV.val, Int.ofNat_eq_natCast, Int.toNat_natCast]); first | done | omega | decide | exact inR64 (by omega) (by omega) | (refine ⟨?_, ?_⟩ <;> first | omega | decide | exact inR64 (by omega) (by omega)))
        | (refine Fin.le hA 0 [] (.tup [.int .i64 0, .bl false]) [] 1 rfl rfl rfl ?_ ?_ (by rw [← hK]; exact ⟨rfl, rfl, rfl⟩)
           · (try cbv) <;> (repeat' (first | exact trivial | exact rfl | apply And.intro | (intro _ hle; first | refine chunk_le hA rfl hle rfl ?_ | refine cat_le hA ?_ | refine upd_le hA ?_ | (try cbv))))
           · (try cbv) <;> (repeat' (first | exact trivial | exact rfl | apply And.intro | (intro _ hle; first | refine chunk_le hA rfl hle rfl ?_ | refine cat_le hA ?_ | refine upd_le hA ?_ | (try cbv)))))
        | skip
      exfalso
      have hbt : b = true := by clear hq hb; subst hA; simp only [Ar.real, Bool.not_eq_false'] at *; assumption
      refine hq ⟨?_, hb.1 hbt⟩
      clear hq hb; (subst hA; simp only [Ar.real, NV.val, Int.ofNat_eq_natCast, Int.toNat_natCast, decide_eq_true_eq, decide_eq_false_iff_not, Bool.not_true, Bool.not_false, beq_iff_eq, bne_iff_ne, beq_eq_false_iff_ne, bne_eq_false_iff_eq, ne_eq, Bool.not_eq_true', Bool.not_eq_false', natCast_eq] at *; first | contradiction | omega | (generalize Int.tmod _ _ = qtm at *; omega))
  · obtain ⟨rfl, rfl⟩ : ok = false ∧ at' = 0 := by
      rcases hd with ⟨h1, _⟩ | ⟨_, h1⟩
      · exact absurd h1 hR
      · exact h1
    have hT : T.Ok P := hP ▸ T_ok
    refine FnTr.intro (fn := Try.f32) (c := bodyOf Try.f32) (by rw [hP]; rfl) rfl rfl hT ?_
    generalize hA : Ar.real = A
    generalize hK : Gives _ _ _ = K
    cbv
    refine CS.leR hA (refright_fn (r := false) hP ⟨fun h => by (cases h), fun h => absurd h hR⟩ hh) (.bl false) [] rfl rfl rfl ?_ ?_ ?_ ?_
    · (try cbv) <;> (repeat' (first | exact trivial | exact rfl | apply And.intro | (intro _ hle; first | refine chunk_le hA rfl hle rfl ?_ | refine cat_le hA ?_ | refine upd_le hA ?_ | (try cbv))))
    · (try cbv) <;> (repeat' (first | exact trivial | exact rfl | apply And.intro | (intro _ hle; first | refine chunk_le hA rfl hle rfl ?_ | refine cat_le hA ?_ | refine upd_le hA ?_ | (try cbv))))
    · (try cbv) <;> (repeat' (first | exact trivial | exact rfl | apply And.intro | (intro _ hle; first | refine chunk_le hA rfl hle rfl ?_ | refine cat_le hA ?_ | refine upd_le hA ?_ | (try cbv))))
    cbv
    refine Fin.le hA 0 [] (.tup [.int .i64 0, .bl false]) ([]) 1 rfl rfl rfl ?_ ?_ (by rw [← hK]; exact ⟨rfl, rfl, rfl⟩)
    · (try cbv) <;> (repeat' (first | exact trivial | exact rfl | apply And.intro | (intro _ hle; first | refine chunk_le hA rfl hle rfl ?_ | refine cat_le hA ?_ | refine upd_le hA ?_ | (try cbv))))
    · (try cbv) <;> (repeat' (first | exact trivial | exact rfl | apply And.intro | (intro _ hle; first | refine chunk_le hA rfl hle rfl ?_ | refine cat_le hA ?_ | refine upd_le hA ?_ | (try cbv))))
end Go.Proofs.Ytkaobalnjimniaa
