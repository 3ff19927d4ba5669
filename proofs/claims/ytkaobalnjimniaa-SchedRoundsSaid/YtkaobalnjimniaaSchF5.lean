/-
  Schedules: the next turn behind any count.
-/
import Derived.Test.YtkaobalnjimniaaSchF4
set_option linter.unusedVariables false
set_option linter.unusedSimpArgs false
namespace Go.Proofs.Ytkaobalnjimniaa
open Go.Eng
open Go.SchLaw (minAt nextV upV)
set_option maxRecDepth 100000
set_option linter.unusedVariables false

/-- May a way to work be, and may the counts? -/
def ErrIs (R : Prop) (m : Nat) (f : Nat → Int) (er : Int) : Prop :=
  (¬ R ∧ er = 200) ∨ (R ∧ (∃ i, i < m ∧ ¬ (0 ≤ f i ∧ f i ≤ 1099511627776)) ∧ er = 1) ∨ (R ∧ (∀ i, i < m → 0 ≤ f i ∧ f i ≤ 1099511627776) ∧ er = 0)

theorem right1_fn {P : Program} {G : Gl} (hP : P = Try.prog) {d w t s e k p h tr ke no : Int} {m : Nat} {f : Nat → Int} {er : Int} (hm : m ≤ 9223372036854775807) (hh : intWf .i64 h) (hr : ErrIs (RightP d w t s e k p h tr ke no) m f er) :
    FnTr P G 72 [.agg [.int .i64 d, .int .i64 w, .int .i64 t, .int .i64 s, .int .i64 e, .int .i64 k, .int .i64 p, .int .i64 h, .int .i64 tr, .int .i64 ke, .int .i64 no], .ro 1 (.s m) (fun e => [.int .i64 (f e.val)])] [] 0 (Gives (.int .i64 er) [] 1) := by
  by_cases hR : RightP d w t s e k p h tr ke no
  · skip
    have hT : T.Ok P := hP ▸ T_ok
    refine FnTr.intro (fn := Try.f72) (c := bodyOf Try.f72) (by rw [hP]; rfl) rfl rfl hT ?_
    generalize hA : Ar.real = A
    generalize hK : Gives _ _ _ = K
    cbv
    refine CS.leR hA (right_fn (r := true) hP ⟨fun _ => hR, fun _ => rfl⟩ hh) (.bl true) [] rfl rfl rfl ?_ ?_ ?_ ?_
    · (try cbv) <;> (repeat' (first | exact trivial | exact rfl | apply And.intro | (intro _ hle; first | refine chunk_le hA rfl hle rfl ?_ | refine cat_le hA ?_ | refine upd_le hA ?_ | (try cbv))))
    · (try cbv) <;> (repeat' (first | exact trivial | exact rfl | apply And.intro | (intro _ hle; first | refine chunk_le hA rfl hle rfl ?_ | refine cat_le hA ?_ | refine upd_le hA ?_ | (try cbv))))
    · (try cbv) <;> (repeat' (first | exact trivial | exact rfl | apply And.intro | (intro _ hle; first | refine chunk_le hA rfl hle rfl ?_ | refine cat_le hA ?_ | refine upd_le hA ?_ | (try cbv))))
    cbv
    refine LS.le hT hA 1 (fun (i : Nat) => [(12, .int .i64 (i : Int))]) (fun _ => []) (fun i => i ≤ m ∧ ∀ j, j < i → 0 ≤ f j ∧ f j ≤ 1099511627776) (fun i => m - i) 0 [] rfl rfl ?_ ?_ ?_
    · (try cbv) <;> (repeat' (first | exact trivial | exact rfl | apply And.intro | (intro _ hle; first | refine chunk_le hA rfl hle rfl ?_ | refine cat_le hA ?_ | refine upd_le hA ?_ | (try cbv))))
    · exact ⟨Nat.zero_le _, fun j hj => by omega⟩
    · intro Rr hRr i hp
      cbv
      obtain ⟨h1, h2⟩ := hp
      refine ⟨fun h3 => ?_, fun h3 => ?_⟩
      · have hi : i < m := by subst hA; simp only [Ar.real] at h3; simp at h3; omega
        have hbad : ¬ (0 ≤ f i ∧ f i ≤ 1099511627776) → er = 1 := by
          intro hb
          rcases hr with ⟨h0, _⟩ | ⟨_, _, h0⟩ | ⟨_, h0, _⟩
          · exact absurd hR h0
          · exact h0
          · exact absurd (h0 i hi) hb
        cbv
        refine ⟨(by (subst hA; (try simp only [natCast_eq] at *); (simp only [Ar.real, NV.val, Int.ofNat_eq_natCast, Int.toNat_natCast]); first | done | omega | decide | exact inR64 (by omega) (by omega) | (refine ⟨?_, ?_⟩ <;> first | omega | decide | exact inR64 (by omega) (by omega)))), fun h4 => ?_, fun h4 => ?_⟩
        · cbv
          refine ⟨fun h5 => ?_, fun h5 => ?_⟩
          · have hb := hbad (by intro hb; clear hr hbad hRr h2; (subst hA; simp only [Ar.real, NV.val, Int.ofNat_eq_natCast, Int.toNat_natCast, decide_eq_true_eq, decide_eq_false_iff_not, Bool.not_true, Bool.not_false, beq_iff_eq, bne_iff_ne, beq_eq_false_iff_ne, bne_eq_false_iff_eq, ne_eq, Bool.not_eq_true', Bool.not_eq_false', natCast_eq] at *; first | contradiction | omega | (generalize Int.tmod _ _ = qtm at *; omega)))
            subst hb
            clear hRr
            cbv
            refine Fin.le hA 0 [] (.int .i64 1) ([]) 1 rfl rfl rfl ?_ ?_ (by rw [← hK]; exact ⟨rfl, rfl, rfl⟩)
            · (try cbv) <;> (repeat' (first | exact trivial | exact rfl | apply And.intro | (intro _ hle; first | refine chunk_le hA rfl hle rfl ?_ | refine cat_le hA ?_ | refine upd_le hA ?_ | (try cbv))))
            · (try cbv) <;> (repeat' (first | exact trivial | exact rfl | apply And.intro | (intro _ hle; first | refine chunk_le hA rfl hle rfl ?_ | refine cat_le hA ?_ | refine upd_le hA ?_ | (try cbv))))
          · have hg : 0 ≤ f i ∧ f i ≤ 1099511627776 := by clear hr hbad hRr h2; constructor <;> (subst hA; simp only [Ar.real, NV.val, Int.ofNat_eq_natCast, Int.toNat_natCast, decide_eq_true_eq, decide_eq_false_iff_not, Bool.not_true, Bool.not_false, beq_iff_eq, bne_iff_ne, beq_eq_false_iff_ne, bne_eq_false_iff_eq, ne_eq, Bool.not_eq_true', Bool.not_eq_false', natCast_eq] at *; first | contradiction | omega | (generalize Int.tmod _ _ = qtm at *; omega))
            cbv
            refine ⟨(by (subst hA; (try simp only [natCast_eq] at *); (simp only [Ar.real, NV.val, Int.ofNat_eq_natCast, Int.toNat_natCast]); first | done | omega | decide | exact inR64 (by omega) (by omega) | (refine ⟨?_, ?_⟩ <;> first | omega | decide | exact inR64 (by omega) (by omega)))), hRr _ _ ⟨i + 1, 1, [], rfl, rfl, ?_, ⟨hi, fun j hj => ?_⟩, (by show m - (i + 1) < m - i; omega)⟩⟩
            · clear hRr
              (try cbv) <;> (repeat' (first | exact trivial | exact rfl | apply And.intro | (intro _ hle; first | refine chunk_le hA rfl hle rfl ?_ | refine cat_le hA ?_ | refine upd_le hA ?_ | (try cbv))))
              · subst hA; simp only [Ar.real, NV.val, Int.ofNat_eq_natCast, Int.toNat_natCast]
                rfl
            · by_cases e : j = i
              · rw [e]; exact hg
              · exact h2 j (by omega)
        · have hb := hbad (by intro hb; clear hr hbad hRr h2; (subst hA; simp only [Ar.real, NV.val, Int.ofNat_eq_natCast, Int.toNat_natCast, decide_eq_true_eq, decide_eq_false_iff_not, Bool.not_true, Bool.not_false, beq_iff_eq, bne_iff_ne, beq_eq_false_iff_ne, bne_eq_false_iff_eq, ne_eq, Bool.not_eq_true', Bool.not_eq_false', natCast_eq] at *; first | contradiction | omega | (generalize Int.tmod _ _ = qtm at *; omega)))
          subst hb
          clear hRr
          cbv
          refine Fin.le hA 0 [] (.int .i64 1) ([]) 1 rfl rfl rfl ?_ ?_ (by rw [← hK]; exact ⟨rfl, rfl, rfl⟩)
          · (try cbv) <;> (repeat' (first | exact trivial | exact rfl | apply And.intro | (intro _ hle; first | refine chunk_le hA rfl hle rfl ?_ | refine cat_le hA ?_ | refine upd_le hA ?_ | (try cbv))))
          · (try cbv) <;> (repeat' (first | exact trivial | exact rfl | apply And.intro | (intro _ hle; first | refine chunk_le hA rfl hle rfl ?_ | refine cat_le hA ?_ | refine upd_le hA ?_ | (try cbv))))
      · have hi : i = m := by subst hA; simp only [Ar.real] at h3; simp at h3; omega
        subst hi
        obtain rfl : er = 0 := by
          rcases hr with ⟨h0, _⟩ | ⟨_, ⟨j, hj, h0⟩, _⟩ | ⟨_, _, h0⟩
          · exact absurd hR h0
          · exact absurd (h2 j hj) h0
          · exact h0
        clear hRr
        cbv
        refine Fin.le hA 0 [] (.int .i64 0) ([]) 1 rfl rfl rfl ?_ ?_ (by rw [← hK]; exact ⟨rfl, rfl, rfl⟩)
        · (try cbv) <;> (repeat' (first | exact trivial | exact rfl | apply And.intro | (intro _ hle; first | refine chunk_le hA rfl hle rfl ?_ | refine cat_le hA ?_ | refine upd_le hA ?_ | (try cbv))))
        · (try cbv) <;> (repeat' (first | exact trivial | exact rfl | apply And.intro | (intro _ hle; first | refine chunk_le hA rfl hle rfl ?_ | refine cat_le hA ?_ | refine upd_le hA ?_ | (try cbv))))
  · obtain rfl : er = 200 := by
      rcases hr with ⟨_, h0⟩ | ⟨h0, _⟩ | ⟨h0, _⟩
      · exact h0
      · exact absurd h0 hR
      · exact absurd h0 hR
    have hT : T.Ok P := hP ▸ T_ok
    refine FnTr.intro (fn := Try.f72) (c := bodyOf Try.f72) (by rw [hP]; rfl) rfl rfl hT ?_
    generalize hA : Ar.real = A
    generalize hK : Gives _ _ _ = K
    cbv
    refine CS.leR hA (right_fn (r := false) hP ⟨fun h => by (cases h), fun h => absurd h hR⟩ hh) (.bl false) [] rfl rfl rfl ?_ ?_ ?_ ?_
    · (try cbv) <;> (repeat' (first | exact trivial | exact rfl | apply And.intro | (intro _ hle; first | refine chunk_le hA rfl hle rfl ?_ | refine cat_le hA ?_ | refine upd_le hA ?_ | (try cbv))))
    · (try cbv) <;> (repeat' (first | exact trivial | exact rfl | apply And.intro | (intro _ hle; first | refine chunk_le hA rfl hle rfl ?_ | refine cat_le hA ?_ | refine upd_le hA ?_ | (try cbv))))
    · (try cbv) <;> (repeat' (first | exact trivial | exact rfl | apply And.intro | (intro _ hle; first | refine chunk_le hA rfl hle rfl ?_ | refine cat_le hA ?_ | refine upd_le hA ?_ | (try cbv))))
    cbv
    refine Fin.le hA 0 [] (.int .i64 200) ([]) 1 rfl rfl rfl ?_ ?_ (by rw [← hK]; exact ⟨rfl, rfl, rfl⟩)
    · (try cbv) <;> (repeat' (first | exact trivial | exact rfl | apply And.intro | (intro _ hle; first | refine chunk_le hA rfl hle rfl ?_ | refine cat_le hA ?_ | refine upd_le hA ?_ | (try cbv))))
    · (try cbv) <;> (repeat' (first | exact trivial | exact rfl | apply And.intro | (intro _ hle; first | refine chunk_le hA rfl hle rfl ?_ | refine cat_le hA ?_ | refine upd_le hA ?_ | (try cbv))))
end Go.Proofs.Ytkaobalnjimniaa
