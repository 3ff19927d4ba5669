/-
  Schedules: plans that may not be; plans, both.
-/
import Derived.Test.YtkaobalnjimniaaSchG1
set_option linter.unusedVariables false
set_option linter.unusedSimpArgs false
namespace Go.Proofs.Ytkaobalnjimniaa
open Go.Eng
open Go.SchLaw (minAt nextV upV PS atOf stepP planP)
set_option maxRecDepth 100000
set_option linter.unusedVariables false

def PlanOk (c t turns : Int) (n : Nat) (f : Nat → Int) : Prop := (0 ≤ c ∧ c ≤ 1099511627776) ∧ (n : Int) ≤ t ∧ (0 ≤ turns ∧ turns ≤ 64) ∧ ∀ i, i < n → 0 ≤ f i ∧ f i ≤ c
def PlanIs (R : Prop) (c t s e turns : Int) (n : Nat) (f : Nat → Int) (m1 m2 : Nat) (pr nr : Nat → Int) (er : Int) : Prop :=
  (¬ R ∧ er = 200 ∧ m1 = 0 ∧ m2 = 0) ∨ (R ∧ ¬ PlanOk c t turns n f ∧ er = 1 ∧ m1 = 0 ∧ m2 = 0) ∨
    (R ∧ PlanOk c t turns n f ∧ er = 0 ∧ m1 = turns.toNat ∧ ∃ x, x = planP s.toNat e.toNat t ⟨c.toNat, n, f, fun _ => 0⟩ turns.toNat ∧ m2 = x.n ∧ (∀ i, pr i = x.p i) ∧ ∀ i, nr i = x.b i)

theorem plan_bad {P : Program} {G : Gl} (hP : P = Try.prog) {d w t s e k p h tr ke no : Int} {c turns : Int} {n : Nat} {f pr nr : Nat → Int} (hh : intWf .i64 h) (hn : n ≤ 9223372036854775807) (hR : RightP d w t s e k p h tr ke no) (hb : ¬ PlanOk c t turns n f) :
    FnTr P G 39 [.agg [.int .i64 d, .int .i64 w, .int .i64 t, .int .i64 s, .int .i64 e, .int .i64 k, .int .i64 p, .int .i64 h, .int .i64 tr, .int .i64 ke, .int .i64 no], .int .i64 c, .ro 1 (.s n) (fun e => [.int .i64 (f e.val)]), .int .i64 turns] [] 0 (Gives (.tup [.ro 1 (.s 0) (fun e => [.int .i64 (pr e.val)]), .ro 1 (.s 0) (fun e => [.int .i64 (nr e.val)]), .int .i64 1]) [] 4) := by
  obtain ⟨g, hg⟩ : ∃ g, g = ofL [c] := ⟨_, rfl⟩
  have hg0 : ∀ i, g i = [c].getD i 0 := fun i => by rw [hg]; rfl
  by_cases hc : 0 ≤ c ∧ c ≤ 1099511627776
  · have hk : FnTr P G 72 [.agg [.int .i64 d, .int .i64 w, .int .i64 t, .int .i64 s, .int .i64 e, .int .i64 k, .int .i64 p, .int .i64 h, .int .i64 tr, .int .i64 ke, .int .i64 no], .ro 1 (.s 1) (fun e => [.int .i64 (g e.val)])] [] 0 (Gives (.int .i64 0) [] 1) :=
      right1_fn hP (by omega) hh (.inr (.inr ⟨hR, fun i hi => by obtain rfl : i = 0 := by omega
                                                                 rw [hg0]; exact hc, rfl⟩))
    have hT : T.Ok P := hP ▸ T_ok
    refine FnTr.intro (fn := Try.f39) (c := bodyOf Try.f39) (by rw [hP]; rfl) rfl rfl hT ?_
    generalize hA : Ar.real = A
    generalize hK : Gives _ _ _ = K
    cbv
    refine CS.frzA hA (by (try cbv) <;> (repeat' (first | exact trivial | exact rfl | apply And.intro | (intro _ hle; first | refine chunk_le hA rfl hle rfl ?_ | refine cat_le hA ?_ | refine upd_le hA ?_ | (try cbv)))); all_goals (subst hA; (try simp only [natCast_eq] at *); (simp only [Ar.real, NV.val, Int.ofNat_eq_natCast, Int.toNat_natCast]); first | done | omega | decide | exact inR64 (by omega) (by omega) | (refine ⟨?_, ?_⟩ <;> first | omega | decide | exact inR64 (by omega) (by omega)))) ?_
    cbv
    refine CS.leR hA hk (.lit .i64 0) [] rfl rfl rfl ?_ ?_ ?_ ?_
    · (try cbv) <;> (repeat' (first | exact trivial | exact rfl | apply And.intro | (intro _ hle; first | refine chunk_le hA rfl hle rfl ?_ | refine cat_le hA ?_ | refine upd_le hA ?_ | (try cbv))))
      exact hg0 _
    · (try cbv) <;> (repeat' (first | exact trivial | exact rfl | apply And.intro | (intro _ hle; first | refine chunk_le hA rfl hle rfl ?_ | refine cat_le hA ?_ | refine upd_le hA ?_ | (try cbv))))
    · (try cbv) <;> (repeat' (first | exact trivial | exact rfl | apply And.intro | (intro _ hle; first | refine chunk_le hA rfl hle rfl ?_ | refine cat_le hA ?_ | refine upd_le hA ?_ | (try cbv))))
    cbv
    refine ⟨fun h1 => ?_, fun h1 => ?_⟩
    · cbv
      refine ⟨fun h2 => ?_, fun h2 => ?_⟩
      · cbv
        refine ⟨fun h3 => ?_, fun h3 => ?_⟩
        · cbv
          refine Fin.le hA 0 [] (.tup [.ro 1 (.s 0) (fun e => [.int .i64 (pr e.val)]), .ro 1 (.s 0) (fun e => [.int .i64 (nr e.val)]), .int .i64 1]) ([]) 4 rfl rfl rfl ?_ ?_ (by rw [← hK]; exact ⟨rfl, rfl, rfl⟩)
          · (try cbv) <;> (repeat' (first | exact trivial | exact rfl | apply And.intro | (intro _ hle; first | refine chunk_le hA rfl hle rfl ?_ | refine cat_le hA ?_ | refine upd_le hA ?_ | (try cbv))))
          · (try cbv) <;> (repeat' (first | exact trivial | exact rfl | apply And.intro | (intro _ hle; first | refine chunk_le hA rfl hle rfl ?_ | refine cat_le hA ?_ | refine upd_le hA ?_ | (try cbv))))
        · have hq : (n : Int) ≤ t ∧ 0 ≤ turns ∧ turns ≤ 64 := by clear hb; refine ⟨?_, ?_, ?_⟩ <;> (subst hA; simp only [Ar.real, NV.val, Int.ofNat_eq_natCast, Int.toNat_natCast, decide_eq_true_eq, decide_eq_false_iff_not, Bool.not_true, Bool.not_false, beq_iff_eq, bne_iff_ne, beq_eq_false_iff_ne, bne_eq_false_iff_eq, ne_eq, Bool.not_eq_true', Bool.not_eq_false', natCast_eq] at *; first | contradiction | omega | (generalize Int.tmod _ _ = qtm at *; omega))
          cbv
          refine LS.clr [17, 19] ?_
          refine LS.le hT hA 1 (fun (i : Nat) => [(39, .int .i64 (i : Int))]) (fun _ => []) (fun i => i ≤ n ∧ ∀ j, j < i → 0 ≤ f j ∧ f j ≤ c) (fun i => n - i) 0 [] rfl rfl ?_ ?_ ?_
          · (try cbv) <;> (repeat' (first | exact trivial | exact rfl | apply And.intro | (intro _ hle; first | refine chunk_le hA rfl hle rfl ?_ | refine cat_le hA ?_ | refine upd_le hA ?_ | (try cbv))))
          · exact ⟨Nat.zero_le _, fun j hj => by omega⟩
          · intro R hR' i hi
            cbv
            obtain ⟨hi1, hi2⟩ := hi
            refine ⟨fun h4 => ?_, fun h4 => ?_⟩
            · have hlt : i < n := by subst hA; simp only [Ar.real] at h4; simp at h4; omega
              cbv
              refine ⟨(by (subst hA; (try simp only [natCast_eq] at *); (simp only [Ar.real, NV.val, Int.ofNat_eq_natCast, Int.toNat_natCast]); first | done | omega | decide | exact inR64 (by omega) (by omega) | (refine ⟨?_, ?_⟩ <;> first | omega | decide | exact inR64 (by omega) (by omega)))), fun h5 => ?_, fun h5 => ?_⟩
              · cbv
                refine ⟨fun h6 => ?_, fun h6 => ?_⟩
                · clear hR'
                  cbv
                  refine Fin.le hA 0 [] (.tup [.ro 1 (.s 0) (fun e => [.int .i64 (pr e.val)]), .ro 1 (.s 0) (fun e => [.int .i64 (nr e.val)]), .int .i64 1]) ([]) 4 rfl rfl rfl ?_ ?_ (by rw [← hK]; exact ⟨rfl, rfl, rfl⟩)
                  · (try cbv) <;> (repeat' (first | exact trivial | exact rfl | apply And.intro | (intro _ hle; first | refine chunk_le hA rfl hle rfl ?_ | refine cat_le hA ?_ | refine upd_le hA ?_ | (try cbv))))
                  · (try cbv) <;> (repeat' (first | exact trivial | exact rfl | apply And.intro | (intro _ hle; first | refine chunk_le hA rfl hle rfl ?_ | refine cat_le hA ?_ | refine upd_le hA ?_ | (try cbv))))
                · have hfi : 0 ≤ f i ∧ f i ≤ c := by clear hR' hb hi2; constructor <;> (subst hA; simp only [Ar.real, NV.val, Int.ofNat_eq_natCast, Int.toNat_natCast, decide_eq_true_eq, decide_eq_false_iff_not, Bool.not_true, Bool.not_false, beq_iff_eq, bne_iff_ne, beq_eq_false_iff_ne, bne_eq_false_iff_eq, ne_eq, Bool.not_eq_true', Bool.not_eq_false', natCast_eq] at *; first | contradiction | omega | (generalize Int.tmod _ _ = qtm at *; omega))
                  cbv
                  refine ⟨(by (subst hA; (try simp only [natCast_eq] at *); (simp only [Ar.real, NV.val, Int.ofNat_eq_natCast, Int.toNat_natCast]); first | done | omega | decide | exact inR64 (by omega) (by omega) | (refine ⟨?_, ?_⟩ <;> first | omega | decide | exact inR64 (by omega) (by omega)))), hR' _ _ ⟨i + 1, 1, [], rfl, rfl, ?_, ⟨hlt, fun j hj => ?_⟩, (by show n - (i + 1) < n - i; omega)⟩⟩
                  · clear hR'
                    (try cbv) <;> (repeat' (first | exact trivial | exact rfl | apply And.intro | (intro _ hle; first | refine chunk_le hA rfl hle rfl ?_ | refine cat_le hA ?_ | refine upd_le hA ?_ | (try cbv))))
                    subst hA; simp only [Ar.real, NV.val, Int.ofNat_eq_natCast, Int.toNat_natCast]
                    rfl
                  · by_cases e : j = i
                    · rw [e]; exact hfi
                    · exact hi2 j (by omega)
              · clear hR'
                cbv
                refine Fin.le hA 0 [] (.tup [.ro 1 (.s 0) (fun e => [.int .i64 (pr e.val)]), .ro 1 (.s 0) (fun e => [.int .i64 (nr e.val)]), .int .i64 1]) ([]) 4 rfl rfl rfl ?_ ?_ (by rw [← hK]; exact ⟨rfl, rfl, rfl⟩)
                · (try cbv) <;> (repeat' (first | exact trivial | exact rfl | apply And.intro | (intro _ hle; first | refine chunk_le hA rfl hle rfl ?_ | refine cat_le hA ?_ | refine upd_le hA ?_ | (try cbv))))
                · (try cbv) <;> (repeat' (first | exact trivial | exact rfl | apply And.intro | (intro _ hle; first | refine chunk_le hA rfl hle rfl ?_ | refine cat_le hA ?_ | refine upd_le hA ?_ | (try cbv))))
            · have hin : i = n := by subst hA; simp only [Ar.real] at h4; simp at h4; omega
              subst hin
              exact absurd ⟨hc, hq.1, hq.2, hi2⟩ hb
      · cbv
        refine Fin.le hA 0 [] (.tup [.ro 1 (.s 0) (fun e => [.int .i64 (pr e.val)]), .ro 1 (.s 0) (fun e => [.int .i64 (nr e.val)]), .int .i64 1]) ([]) 4 rfl rfl rfl ?_ ?_ (by rw [← hK]; exact ⟨rfl, rfl, rfl⟩)
        · (try cbv) <;> (repeat' (first | exact trivial | exact rfl | apply And.intro | (intro _ hle; first | refine chunk_le hA rfl hle rfl ?_ | refine cat_le hA ?_ | refine upd_le hA ?_ | (try cbv))))
        · (try cbv) <;> (repeat' (first | exact trivial | exact rfl | apply And.intro | (intro _ hle; first | refine chunk_le hA rfl hle rfl ?_ | refine cat_le hA ?_ | refine upd_le hA ?_ | (try cbv))))
    · cbv
      refine Fin.le hA 0 [] (.tup [.ro 1 (.s 0) (fun e => [.int .i64 (pr e.val)]), .ro 1 (.s 0) (fun e => [.int .i64 (nr e.val)]), .int .i64 1]) ([]) 4 rfl rfl rfl ?_ ?_ (by rw [← hK]; exact ⟨rfl, rfl, rfl⟩)
      · (try cbv) <;> (repeat' (first | exact trivial | exact rfl | apply And.intro | (intro _ hle; first | refine chunk_le hA rfl hle rfl ?_ | refine cat_le hA ?_ | refine upd_le hA ?_ | (try cbv))))
      · (try cbv) <;> (repeat' (first | exact trivial | exact rfl | apply And.intro | (intro _ hle; first | refine chunk_le hA rfl hle rfl ?_ | refine cat_le hA ?_ | refine upd_le hA ?_ | (try cbv))))
  · have hk : FnTr P G 72 [.agg [.int .i64 d, .int .i64 w, .int .i64 t, .int .i64 s, .int .i64 e, .int .i64 k, .int .i64 p, .int .i64 h, .int .i64 tr, .int .i64 ke, .int .i64 no], .ro 1 (.s 1) (fun e => [.int .i64 (g e.val)])] [] 0 (Gives (.int .i64 1) [] 1) :=
      right1_fn hP (by omega) hh (.inr (.inl ⟨hR, ⟨0, by omega, by rw [hg0]; exact hc⟩, rfl⟩))
    have hT : T.Ok P := hP ▸ T_ok
    refine FnTr.intro (fn := Try.f39) (c := bodyOf Try.f39) (by rw [hP]; rfl) rfl rfl hT ?_
    generalize hA : Ar.real = A
    generalize hK : Gives _ _ _ = K
    cbv
    refine CS.frzA hA (by (try cbv) <;> (repeat' (first | exact trivial | exact rfl | apply And.intro | (intro _ hle; first | refine chunk_le hA rfl hle rfl ?_ | refine cat_le hA ?_ | refine upd_le hA ?_ | (try cbv)))); all_goals (subst hA; (try simp only [natCast_eq] at *); (simp only [Ar.real, NV.val, Int.ofNat_eq_natCast, Int.toNat_natCast]); first | done | omega | decide | exact inR64 (by omega) (by omega) | (refine ⟨?_, ?_⟩ <;> first | omega | decide | exact inR64 (by omega) (by omega)))) ?_
    cbv
    refine CS.leR hA hk (.lit .i64 1) [] rfl rfl rfl ?_ ?_ ?_ ?_
    · (try cbv) <;> (repeat' (first | exact trivial | exact rfl | apply And.intro | (intro _ hle; first | refine chunk_le hA rfl hle rfl ?_ | refine cat_le hA ?_ | refine upd_le hA ?_ | (try cbv))))
      exact hg0 _
    · (try cbv) <;> (repeat' (first | exact trivial | exact rfl | apply And.intro | (intro _ hle; first | refine chunk_le hA rfl hle rfl ?_ | refine cat_le hA ?_ | refine upd_le hA ?_ | (try cbv))))
    · (try cbv) <;> (repeat' (first | exact trivial | exact rfl | apply And.intro | (intro _ hle; first | refine chunk_le hA rfl hle rfl ?_ | refine cat_le hA ?_ | refine upd_le hA ?_ | (try cbv))))
    cbv
    refine Fin.le hA 0 [] (.tup [.ro 1 (.s 0) (fun e => [.int .i64 (pr e.val)]), .ro 1 (.s 0) (fun e => [.int .i64 (nr e.val)]), .int .i64 1]) ([]) 4 rfl rfl rfl ?_ ?_ (by rw [← hK]; exact ⟨rfl, rfl, rfl⟩)
    · (try cbv) <;> (repeat' (first | exact trivial | exact rfl | apply And.intro | (intro _ hle; first | refine chunk_le hA rfl hle rfl ?_ | refine cat_le hA ?_ | refine upd_le hA ?_ | (try cbv))))
    · (try cbv) <;> (repeat' (first | exact trivial | exact rfl | apply And.intro | (intro _ hle; first | refine chunk_le hA rfl hle rfl ?_ | refine cat_le hA ?_ | refine upd_le hA ?_ | (try cbv))))

theorem Plan_fn {P : Program} {G : Gl} (hP : P = Try.prog) {d w t s e k p h tr ke no : Int} {c turns er : Int} {n m1 m2 : Nat} {f pr nr : Nat → Int} (hh : intWf .i64 h) (hn : n ≤ 9223372036854775807) (hp : PlanIs (RightP d w t s e k p h tr ke no) c t s e turns n f m1 m2 pr nr er) :
    FnTr P G 39 [.agg [.int .i64 d, .int .i64 w, .int .i64 t, .int .i64 s, .int .i64 e, .int .i64 k, .int .i64 p, .int .i64 h, .int .i64 tr, .int .i64 ke, .int .i64 no], .int .i64 c, .ro 1 (.s n) (fun e => [.int .i64 (f e.val)]), .int .i64 turns] [] 0 (Gives (.tup [.ro 1 (.s m1) (fun e => [.int .i64 (pr e.val)]), .ro 1 (.s m2) (fun e => [.int .i64 (nr e.val)]), .int .i64 er]) [] 4) := by
  rcases hp with ⟨hR, rfl, rfl, rfl⟩ | ⟨hR, hb, rfl, rfl, rfl⟩ | ⟨hR, hok, rfl, rfl, x, hx, rfl, hpr, hnr⟩
  · obtain ⟨g, hg⟩ : ∃ g, g = ofL [c] := ⟨_, rfl⟩
    have hg0 : ∀ i, g i = [c].getD i 0 := fun i => by rw [hg]; rfl
    have hk : FnTr P G 72 [.agg [.int .i64 d, .int .i64 w, .int .i64 t, .int .i64 s, .int .i64 e, .int .i64 k, .int .i64 p, .int .i64 h, .int .i64 tr, .int .i64 ke, .int .i64 no], .ro 1 (.s 1) (fun e => [.int .i64 (g e.val)])] [] 0 (Gives (.int .i64 200) [] 1) :=
      right1_fn hP (by omega) hh (.inl ⟨hR, rfl⟩)
    have hT : T.Ok P := hP ▸ T_ok
    refine FnTr.intro (fn := Try.f39) (c := bodyOf Try.f39) (by rw [hP]; rfl) rfl rfl hT ?_
    generalize hA : Ar.real = A
    generalize hK : Gives _ _ _ = K
    cbv
    refine CS.frzA hA (by (try cbv) <;> (repeat' (first | exact trivial | exact rfl | apply And.intro | (intro _ hle; first | refine chunk_le hA rfl hle rfl ?_ | refine cat_le hA ?_ | refine upd_le hA ?_ | (try cbv)))); all_goals (subst hA; (try simp only [natCast_eq] at *); (simp only [Ar.real, NV.val, Int.ofNat_eq_natCast, Int.toNat_natCast]); first | done | omega | decide | exact inR64 (by omega) (by omega) | (refine ⟨?_, ?_⟩ <;> first | omega | decide | exact inR64 (by omega) (by omega)))) ?_
    cbv
    refine CS.leR hA hk (.lit .i64 200) [] rfl rfl rfl ?_ ?_ ?_ ?_
    · (try cbv) <;> (repeat' (first | exact trivial | exact rfl | apply And.intro | (intro _ hle; first | refine chunk_le hA rfl hle rfl ?_ | refine cat_le hA ?_ | refine upd_le hA ?_ | (try cbv))))
      exact hg0 _
    · (try cbv) <;> (repeat' (first | exact trivial | exact rfl | apply And.intro | (intro _ hle; first | refine chunk_le hA rfl hle rfl ?_ | refine cat_le hA ?_ | refine upd_le hA ?_ | (try cbv))))
    · (try cbv) <;> (repeat' (first | exact trivial | exact rfl | apply And.intro | (intro _ hle; first | refine chunk_le hA rfl hle rfl ?_ | refine cat_le hA ?_ | refine upd_le hA ?_ | (try cbv))))
    cbv
    refine Fin.le hA 0 [] (.tup [.ro 1 (.s 0) (fun e => [.int .i64 (pr e.val)]), .ro 1 (.s 0) (fun e => [.int .i64 (nr e.val)]), .int .i64 200]) ([]) 4 rfl rfl rfl ?_ ?_ (by rw [← hK]; exact ⟨rfl, rfl, rfl⟩)
    · (try cbv) <;> (repeat' (first | exact trivial | exact rfl | apply And.intro | (intro _ hle; first | refine chunk_le hA rfl hle rfl ?_ | refine cat_le hA ?_ | refine upd_le hA ?_ | (try cbv))))
    · (try cbv) <;> (repeat' (first | exact trivial | exact rfl | apply And.intro | (intro _ hle; first | refine chunk_le hA rfl hle rfl ?_ | refine cat_le hA ?_ | refine upd_le hA ?_ | (try cbv))))
  · exact plan_bad hP hh hn hR hb
  · obtain ⟨hc, hnt, htt, hf⟩ := hok
    obtain ⟨sn, en, hsn, hen, s1, s2, e1, e2⟩ := right_nat hR
    obtain ⟨cn, rfl⟩ : ∃ cn : Nat, c = (cn : Int) := ⟨c.toNat, by omega⟩
    obtain ⟨tn, rfl⟩ : ∃ tn : Nat, turns = (tn : Int) := ⟨turns.toNat, by omega⟩
    have hx' : x = planP sn en t ⟨cn, n, f, fun _ => 0⟩ tn := by rw [hx, hsn, hen]; simp
    obtain ⟨m, hm⟩ : ∃ m, m = x.n := ⟨_, rfl⟩
    obtain ⟨q, hq⟩ : ∃ q, q = ((tn : Int)).toNat := ⟨_, rfl⟩
    have hqt : q = tn := by rw [hq]; simp
    rw [← hm, ← hq, hqt]
    have h1 := plan_good (P := P) (G := G) hP hh hR hsn hen (by omega) hnt (by omega) hf x hx' hm hpr hnr
    generalize hA : Ar.real = A
    refine FnTr.dat hA h1 _ _ ?_
    (try cbv) <;> (repeat' (first | exact trivial | exact rfl | apply And.intro | (intro _ hle; first | refine chunk_le hA rfl hle rfl ?_ | refine cat_le hA ?_ | refine upd_le hA ?_ | refine int_le ?_ | skip)))
    all_goals (subst hA; (try simp only [natCast_eq] at *); (simp only [Ar.real, NV.val, Int.ofNat_eq_natCast, Int.toNat_natCast]); first | done | omega | decide | exact inR64 (by omega) (by omega) | (refine ⟨?_, ?_⟩ <;> first | omega | decide | exact inR64 (by omega) (by omega)))
end Go.Proofs.Ytkaobalnjimniaa
