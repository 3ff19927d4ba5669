/-
  Schedules: how many turns there are between two counts, by the document's answer.
-/
import Derived.Test.YtkaobalnjimniaaSchF7
set_option linter.unusedVariables false
set_option linter.unusedSimpArgs false
namespace Go.Proofs.Ytkaobalnjimniaa
open Go.Eng
open Go.SchLaw (minAt nextV upV)
set_option maxRecDepth 100000
set_option linter.unusedVariables false

theorem refTurns_fn {P : Program} {G : Gl} (hP : P = Try.prog) {d w t s e k p h tr ke no : Int} {a b r er : Int} (hh : intWf .i64 h) (hn : TurnsIs (RightP d w t s e k p h tr ke no) a b s e r er) :
    FnTr P G 38 [.agg [.int .i64 d, .int .i64 w, .int .i64 t, .int .i64 s, .int .i64 e, .int .i64 k, .int .i64 p, .int .i64 h, .int .i64 tr, .int .i64 ke, .int .i64 no], .int .i64 a, .int .i64 b] [] 0 (Gives (.tup [.int .i64 r, .int .i64 er]) [] 5) := by
  by_cases hR : RightP d w t s e k p h tr ke no
  · have hbad : ¬ ((0 ≤ a ∧ a ≤ 1099511627776) ∧ (0 ≤ b ∧ b ≤ 1099511627776)) → er = 1 ∧ r = 0 := by
      intro h0
      rcases hn with ⟨h1, _⟩ | ⟨_, _, h1⟩ | ⟨_, h1, _⟩
      · exact absurd hR h1
      · exact h1
      · exact absurd h1 h0
    by_cases ha : 0 ≤ a ∧ a ≤ 1099511627776
    · by_cases hb : 0 ≤ b ∧ b ≤ 1099511627776
      · obtain ⟨rfl, hr⟩ : er = 0 ∧ r = max 0 ((upV b.toNat s.toNat e.toNat : Int) - (upV a.toNat s.toNat e.toNat : Int)) := by
          rcases hn with ⟨h1, _⟩ | ⟨_, h1, _⟩ | ⟨_, _, h1⟩
          · exact absurd hR h1
          · exact absurd ⟨ha, hb⟩ h1
          · exact h1
        clear hbad hn
        obtain ⟨sn, en, hsn, hen, s1, s2, e1, e2⟩ := right_nat hR
        obtain ⟨an, han⟩ : ∃ an : Nat, a = (an : Int) := ⟨a.toNat, by omega⟩
        obtain ⟨bn, hbn⟩ : ∃ bn : Nat, b = (bn : Int) := ⟨b.toNat, by omega⟩
        obtain ⟨v, hv⟩ : ∃ v, v = nextV an sn en := ⟨_, rfl⟩
        obtain ⟨vi, hvi⟩ : ∃ vi : Int, vi = (v : Int) := ⟨_, rfl⟩
        have hr' : r = if bn < v then 0 else (((bn - v) / en + 1 : Nat) : Int) := by
          rw [hr, han, hbn, hsn, hen]
          simp only [Int.toNat_natCast]
          rw [SchLaw.turns_eq an bn sn en e1, hv]
        have hN : NextIs (RightP d w t s e k p h tr ke no) a s e vi 0 := .inr (.inr ⟨hR, ha, rfl, by rw [hvi, hv, han, hsn, hen]; simp⟩)
        have hx := refNext_fn (P := P) (G := G) hP hh hN
        have hgt : vi > b ↔ bn < v := by omega
        have hq : ¬ bn < v → Int.tdiv (b - vi) e + 1 = r ∧ 0 ≤ Int.tdiv (b - vi) e ∧ Int.tdiv (b - vi) e ≤ 1099511627776 := by
          intro h0
          rw [if_neg h0] at hr'
          have h1 := quo_nat (bn - v) en
          rw [show ((bn - v : Nat) : Int) = b - vi by omega, ← hen] at h1
          have h2 := Nat.div_le_self (bn - v) en
          generalize (bn - v) / en = q at *
          rw [h1, hr']
          omega
        have hv2 := (SchLaw.nextV_spec an sn en e1).2.1
        rw [← hv] at hv2
        have hvr : 0 ≤ vi ∧ vi ≤ 2199023255552 := by omega
        have he0 : e ≠ 0 := by omega
        have h0r : bn < v → r = 0 := fun h0 => by rw [hr', if_pos h0]
        have hT : T.Ok P := hP ▸ T_ok
        refine FnTr.intro (fn := Try.f38) (c := bodyOf Try.f38) (by rw [hP]; rfl) rfl rfl hT ?_
        generalize hA : Ar.real = A
        generalize hK : Gives _ _ _ = K
        cbv
        refine CS.leR hA (refright_fn (r := true) hP ⟨fun _ => hR, fun _ => rfl⟩ hh) (.bl true) [] rfl rfl rfl ?_ ?_ ?_ ?_
        · (try cbv) <;> (repeat' (first | exact trivial | exact rfl | apply And.intro | (intro _ hle; first | refine chunk_le hA rfl hle rfl ?_ | refine cat_le hA ?_ | refine upd_le hA ?_ | (try cbv))))
        · (try cbv) <;> (repeat' (first | exact trivial | exact rfl | apply And.intro | (intro _ hle; first | refine chunk_le hA rfl hle rfl ?_ | refine cat_le hA ?_ | refine upd_le hA ?_ | (try cbv))))
        · (try cbv) <;> (repeat' (first | exact trivial | exact rfl | apply And.intro | (intro _ hle; first | refine chunk_le hA rfl hle rfl ?_ | refine cat_le hA ?_ | refine upd_le hA ?_ | (try cbv))))
        cbv
        refine CS.leR hA (in_fn (r := true) hP ⟨fun _ => ha, fun _ => rfl⟩) (.bl true) [] rfl rfl rfl ?_ ?_ ?_ ?_
        · (try cbv) <;> (repeat' (first | exact trivial | exact rfl | apply And.intro | (intro _ hle; first | refine chunk_le hA rfl hle rfl ?_ | refine cat_le hA ?_ | refine upd_le hA ?_ | (try cbv))))
        · (try cbv) <;> (repeat' (first | exact trivial | exact rfl | apply And.intro | (intro _ hle; first | refine chunk_le hA rfl hle rfl ?_ | refine cat_le hA ?_ | refine upd_le hA ?_ | (try cbv))))
        · (try cbv) <;> (repeat' (first | exact trivial | exact rfl | apply And.intro | (intro _ hle; first | refine chunk_le hA rfl hle rfl ?_ | refine cat_le hA ?_ | refine upd_le hA ?_ | (try cbv))))
        cbv
        refine CS.leR hA (in_fn (r := true) hP ⟨fun _ => hb, fun _ => rfl⟩) (.bl true) [] rfl rfl rfl ?_ ?_ ?_ ?_
        · (try cbv) <;> (repeat' (first | exact trivial | exact rfl | apply And.intro | (intro _ hle; first | refine chunk_le hA rfl hle rfl ?_ | refine cat_le hA ?_ | refine upd_le hA ?_ | (try cbv))))
        · (try cbv) <;> (repeat' (first | exact trivial | exact rfl | apply And.intro | (intro _ hle; first | refine chunk_le hA rfl hle rfl ?_ | refine cat_le hA ?_ | refine upd_le hA ?_ | (try cbv))))
        · (try cbv) <;> (repeat' (first | exact trivial | exact rfl | apply And.intro | (intro _ hle; first | refine chunk_le hA rfl hle rfl ?_ | refine cat_le hA ?_ | refine upd_le hA ?_ | (try cbv))))
        cbv
        refine CS.le hA hx [] rfl rfl rfl ?_ ?_ ?_
        · (try cbv) <;> (repeat' (first | exact trivial | exact rfl | apply And.intro | (intro _ hle; first | refine chunk_le hA rfl hle rfl ?_ | refine cat_le hA ?_ | refine upd_le hA ?_ | (try cbv))))
        · (try cbv) <;> (repeat' (first | exact trivial | exact rfl | apply And.intro | (intro _ hle; first | refine chunk_le hA rfl hle rfl ?_ | refine cat_le hA ?_ | refine upd_le hA ?_ | (try cbv))))
        cbv
        refine ⟨fun h3 => ?_, fun h3 => ?_⟩
        · have hlt : bn < v := by subst hA; simp only [Ar.real, decide_eq_true_eq] at h3; exact hgt.1 h3
          have := h0r hlt
          subst this
          cbv
          refine Fin.le hA 0 [] (.tup [.int .i64 0, .int .i64 0]) ([]) 5 rfl rfl rfl ?_ ?_ (by rw [← hK]; exact ⟨rfl, rfl, rfl⟩)
          · (try cbv) <;> (repeat' (first | exact trivial | exact rfl | apply And.intro | (intro _ hle; first | refine chunk_le hA rfl hle rfl ?_ | refine cat_le hA ?_ | refine upd_le hA ?_ | (try cbv))))
          · (try cbv) <;> (repeat' (first | exact trivial | exact rfl | apply And.intro | (intro _ hle; first | refine chunk_le hA rfl hle rfl ?_ | refine cat_le hA ?_ | refine upd_le hA ?_ | (try cbv))))
        · have hlt : ¬ bn < v := by subst hA; simp only [Ar.real, decide_eq_false_iff_not] at h3; exact fun h => h3 (hgt.2 h)
          obtain ⟨q1, q2, q3⟩ := hq hlt
          clear hq hr' hgt h0r hr hx hN
          cbv
          refine ⟨?_, ?_, ?_, ?_⟩
          · (subst hA; (try simp only [natCast_eq] at *); (simp only [Ar.real, NV.val, Int.ofNat_eq_natCast, Int.toNat_natCast]); first | done | omega | decide | exact inR64 (by omega) (by omega) | (refine ⟨?_, ?_⟩ <;> first | omega | decide | exact inR64 (by omega) (by omega)))
          · subst hA; simp only [Ar.real] at *; exact ⟨he0, inR64 (by omega) (by omega)⟩
          · subst hA; simp only [Ar.real] at *; exact inR64 (by omega) (by omega)
          refine Fin.le hA 0 [] (.tup [.int .i64 r, .int .i64 0]) ([]) 5 rfl rfl rfl ?_ ?_ (by rw [← hK]; exact ⟨rfl, rfl, rfl⟩)
          · (try cbv) <;> (repeat' (first | exact trivial | exact rfl | apply And.intro | (intro _ hle; first | refine chunk_le hA rfl hle rfl ?_ | refine cat_le hA ?_ | refine upd_le hA ?_ | (try cbv))))
            subst hA; simp only [Ar.real] at *; exact q1
          · (try cbv) <;> (repeat' (first | exact trivial | exact rfl | apply And.intro | (intro _ hle; first | refine chunk_le hA rfl hle rfl ?_ | refine cat_le hA ?_ | refine upd_le hA ?_ | (try cbv))))
      · obtain ⟨rfl, rfl⟩ := hbad (fun h => hb h.2)
        clear hbad hn
        have hT : T.Ok P := hP ▸ T_ok
        refine FnTr.intro (fn := Try.f38) (c := bodyOf Try.f38) (by rw [hP]; rfl) rfl rfl hT ?_
        generalize hA : Ar.real = A
        generalize hK : Gives _ _ _ = K
        cbv
        refine CS.leR hA (refright_fn (r := true) hP ⟨fun _ => hR, fun _ => rfl⟩ hh) (.bl true) [] rfl rfl rfl ?_ ?_ ?_ ?_
        · (try cbv) <;> (repeat' (first | exact trivial | exact rfl | apply And.intro | (intro _ hle; first | refine chunk_le hA rfl hle rfl ?_ | refine cat_le hA ?_ | refine upd_le hA ?_ | (try cbv))))
        · (try cbv) <;> (repeat' (first | exact trivial | exact rfl | apply And.intro | (intro _ hle; first | refine chunk_le hA rfl hle rfl ?_ | refine cat_le hA ?_ | refine upd_le hA ?_ | (try cbv))))
        · (try cbv) <;> (repeat' (first | exact trivial | exact rfl | apply And.intro | (intro _ hle; first | refine chunk_le hA rfl hle rfl ?_ | refine cat_le hA ?_ | refine upd_le hA ?_ | (try cbv))))
        cbv
        refine CS.leR hA (in_fn (r := true) hP ⟨fun _ => ha, fun _ => rfl⟩) (.bl true) [] rfl rfl rfl ?_ ?_ ?_ ?_
        · (try cbv) <;> (repeat' (first | exact trivial | exact rfl | apply And.intro | (intro _ hle; first | refine chunk_le hA rfl hle rfl ?_ | refine cat_le hA ?_ | refine upd_le hA ?_ | (try cbv))))
        · (try cbv) <;> (repeat' (first | exact trivial | exact rfl | apply And.intro | (intro _ hle; first | refine chunk_le hA rfl hle rfl ?_ | refine cat_le hA ?_ | refine upd_le hA ?_ | (try cbv))))
        · (try cbv) <;> (repeat' (first | exact trivial | exact rfl | apply And.intro | (intro _ hle; first | refine chunk_le hA rfl hle rfl ?_ | refine cat_le hA ?_ | refine upd_le hA ?_ | (try cbv))))
        cbv
        refine CS.leR hA (in_fn (r := false) hP ⟨fun h => by (cases h), fun h => absurd h hb⟩) (.bl false) [] rfl rfl rfl ?_ ?_ ?_ ?_
        · (try cbv) <;> (repeat' (first | exact trivial | exact rfl | apply And.intro | (intro _ hle; first | refine chunk_le hA rfl hle rfl ?_ | refine cat_le hA ?_ | refine upd_le hA ?_ | (try cbv))))
        · (try cbv) <;> (repeat' (first | exact trivial | exact rfl | apply And.intro | (intro _ hle; first | refine chunk_le hA rfl hle rfl ?_ | refine cat_le hA ?_ | refine upd_le hA ?_ | (try cbv))))
        · (try cbv) <;> (repeat' (first | exact trivial | exact rfl | apply And.intro | (intro _ hle; first | refine chunk_le hA rfl hle rfl ?_ | refine cat_le hA ?_ | refine upd_le hA ?_ | (try cbv))))
        cbv
        refine Fin.le hA 0 [] (.tup [.int .i64 0, .int .i64 1]) ([]) 5 rfl rfl rfl ?_ ?_ (by rw [← hK]; exact ⟨rfl, rfl, rfl⟩)
        · (try cbv) <;> (repeat' (first | exact trivial | exact rfl | apply And.intro | (intro _ hle; first | refine chunk_le hA rfl hle rfl ?_ | refine cat_le hA ?_ | refine upd_le hA ?_ | (try cbv))))
        · (try cbv) <;> (repeat' (first | exact trivial | exact rfl | apply And.intro | (intro _ hle; first | refine chunk_le hA rfl hle rfl ?_ | refine cat_le hA ?_ | refine upd_le hA ?_ | (try cbv))))
    · obtain ⟨rfl, rfl⟩ := hbad (fun h => ha h.1)
      clear hbad hn
      have hT : T.Ok P := hP ▸ T_ok
      refine FnTr.intro (fn := Try.f38) (c := bodyOf Try.f38) (by rw [hP]; rfl) rfl rfl hT ?_
      generalize hA : Ar.real = A
      generalize hK : Gives _ _ _ = K
      cbv
      refine CS.leR hA (refright_fn (r := true) hP ⟨fun _ => hR, fun _ => rfl⟩ hh) (.bl true) [] rfl rfl rfl ?_ ?_ ?_ ?_
      · (try cbv) <;> (repeat' (first | exact trivial | exact rfl | apply And.intro | (intro _ hle; first | refine chunk_le hA rfl hle rfl ?_ | refine cat_le hA ?_ | refine upd_le hA ?_ | (try cbv))))
      · (try cbv) <;> (repeat' (first | exact trivial | exact rfl | apply And.intro | (intro _ hle; first | refine chunk_le hA rfl hle rfl ?_ | refine cat_le hA ?_ | refine upd_le hA ?_ | (try cbv))))
      · (try cbv) <;> (repeat' (first | exact trivial | exact rfl | apply And.intro | (intro _ hle; first | refine chunk_le hA rfl hle rfl ?_ | refine cat_le hA ?_ | refine upd_le hA ?_ | (try cbv))))
      cbv
      refine CS.leR hA (in_fn (r := false) hP ⟨fun h => by (cases h), fun h => absurd h ha⟩) (.bl false) [] rfl rfl rfl ?_ ?_ ?_ ?_
      · (try cbv) <;> (repeat' (first | exact trivial | exact rfl | apply And.intro | (intro _ hle; first | refine chunk_le hA rfl hle rfl ?_ | refine cat_le hA ?_ | refine upd_le hA ?_ | (try cbv))))
      · (try cbv) <;> (repeat' (first | exact trivial | exact rfl | apply And.intro | (intro _ hle; first | refine chunk_le hA rfl hle rfl ?_ | refine cat_le hA ?_ | refine upd_le hA ?_ | (try cbv))))
      · (try cbv) <;> (repeat' (first | exact trivial | exact rfl | apply And.intro | (intro _ hle; first | refine chunk_le hA rfl hle rfl ?_ | refine cat_le hA ?_ | refine upd_le hA ?_ | (try cbv))))
      cbv
      refine Fin.le hA 0 [] (.tup [.int .i64 0, .int .i64 1]) ([]) 5 rfl rfl rfl ?_ ?_ (by rw [← hK]; exact ⟨rfl, rfl, rfl⟩)
      · (try cbv) <;> (repeat' (first | exact trivial | exact rfl | apply And.intro | (intro _ hle; first | refine chunk_le hA rfl hle rfl ?_ | refine cat_le hA ?_ | refine upd_le hA ?_ | (try cbv))))
      · (try cbv) <;> (repeat' (first | exact trivial | exact rfl | apply And.intro | (intro _ hle; first | refine chunk_le hA rfl hle rfl ?_ | refine cat_le hA ?_ | refine upd_le hA ?_ | (try cbv))))
  · obtain ⟨rfl, rfl⟩ : er = 200 ∧ r = 0 := by
      rcases hn with ⟨_, h0⟩ | ⟨h1, _⟩ | ⟨h1, _⟩
      · exact h0
      · exact absurd h1 hR
      · exact absurd h1 hR
    have hT : T.Ok P := hP ▸ T_ok
    refine FnTr.intro (fn := Try.f38) (c := bodyOf Try.f38) (by rw [hP]; rfl) rfl rfl hT ?_
    generalize hA : Ar.real = A
    generalize hK : Gives _ _ _ = K
    cbv
    refine CS.leR hA (refright_fn (r := false) hP ⟨fun h => by (cases h), fun h => absurd h hR⟩ hh) (.bl false) [] rfl rfl rfl ?_ ?_ ?_ ?_
    · (try cbv) <;> (repeat' (first | exact trivial | exact rfl | apply And.intro | (intro _ hle; first | refine chunk_le hA rfl hle rfl ?_ | refine cat_le hA ?_ | refine upd_le hA ?_ | (try cbv))))
    · (try cbv) <;> (repeat' (first | exact trivial | exact rfl | apply And.intro | (intro _ hle; first | refine chunk_le hA rfl hle rfl ?_ | refine cat_le hA ?_ | refine upd_le hA ?_ | (try cbv))))
    · (try cbv) <;> (repeat' (first | exact trivial | exact rfl | apply And.intro | (intro _ hle; first | refine chunk_le hA rfl hle rfl ?_ | refine cat_le hA ?_ | refine upd_le hA ?_ | (try cbv))))
    cbv
    refine Fin.le hA 0 [] (.tup [.int .i64 0, .int .i64 200]) ([]) 5 rfl rfl rfl ?_ ?_ (by rw [← hK]; exact ⟨rfl, rfl, rfl⟩)
    · (try cbv) <;> (repeat' (first | exact trivial | exact rfl | apply And.intro | (intro _ hle; first | refine chunk_le hA rfl hle rfl ?_ | refine cat_le hA ?_ | refine upd_le hA ?_ | (try cbv))))
    · (try cbv) <;> (repeat' (first | exact trivial | exact rfl | apply And.intro | (intro _ hle; first | refine chunk_le hA rfl hle rfl ?_ | refine cat_le hA ?_ | refine upd_le hA ?_ | (try cbv))))
end Go.Proofs.Ytkaobalnjimniaa
