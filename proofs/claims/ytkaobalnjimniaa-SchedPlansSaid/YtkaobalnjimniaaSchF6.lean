/-
  Schedules: the next turn behind any count, both ways.
-/
import Derived.Test.YtkaobalnjimniaaSchF5
set_option linter.unusedVariables false
set_option linter.unusedSimpArgs false
namespace Go.Proofs.Ytkaobalnjimniaa
open Go.Eng
open Go.SchLaw (minAt nextV upV)
set_option maxRecDepth 100000
set_option linter.unusedVariables false

def NextIs (R : Prop) (c s e r er : Int) : Prop :=
  (¬ R ∧ er = 200 ∧ r = 0) ∨ (R ∧ ¬ (0 ≤ c ∧ c ≤ 1099511627776) ∧ er = 1 ∧ r = 0) ∨ (R ∧ (0 ≤ c ∧ c ≤ 1099511627776) ∧ er = 0 ∧ r = (nextV c.toNat s.toNat e.toNat : Int))

theorem right_nat {d w t s e k p h tr ke no : Int} (hR : RightP d w t s e k p h tr ke no) : ∃ sn en : Nat, s = (sn : Int) ∧ e = (en : Int) ∧ 2 ≤ sn ∧ sn ≤ 64 ∧ 1 ≤ en ∧ en ≤ 256 := by
  unfold RightP at hR
  exact ⟨s.toNat, e.toNat, by omega, by omega, by omega, by omega, by omega, by omega⟩
theorem ofL1 (c : Int) (i : Nat) (h : i < 1) : ofL [c] i = c := by
  obtain rfl : i = 0 := by omega
  rfl

theorem Next_fn {P : Program} {G : Gl} (hP : P = Try.prog) {d w t s e k p h tr ke no : Int} {c r er : Int} (hh : intWf .i64 h) (hn : NextIs (RightP d w t s e k p h tr ke no) c s e r er) :
    FnTr P G 35 [.agg [.int .i64 d, .int .i64 w, .int .i64 t, .int .i64 s, .int .i64 e, .int .i64 k, .int .i64 p, .int .i64 h, .int .i64 tr, .int .i64 ke, .int .i64 no], .int .i64 c] [] 0 (Gives (.tup [.int .i64 r, .int .i64 er]) [] 3) := by
  have key : ∀ er', ErrIs (RightP d w t s e k p h tr ke no) 1 (ofL [c]) er' → FnTr P G 72 [.agg [.int .i64 d, .int .i64 w, .int .i64 t, .int .i64 s, .int .i64 e, .int .i64 k, .int .i64 p, .int .i64 h, .int .i64 tr, .int .i64 ke, .int .i64 no], .ro 1 (.s 1) (fun e => [.int .i64 (ofL [c] e.val)])] [] 0 (Gives (.int .i64 er') [] 1) :=
    fun er' he => right1_fn hP (by omega) hh he
  obtain ⟨f, hf⟩ : ∃ f, f = ofL [c] := ⟨_, rfl⟩
  rw [← hf] at key
  have hf0 : ∀ i, f i = [c].getD i 0 := fun i => by rw [hf]; rfl
  have hE : ErrIs (RightP d w t s e k p h tr ke no) 1 f er := by
    rcases hn with ⟨h0, rfl, _⟩ | ⟨h0, h1, rfl, _⟩ | ⟨h0, h1, rfl, _⟩
    · exact .inl ⟨h0, rfl⟩
    · exact .inr (.inl ⟨h0, ⟨0, by omega, by rw [hf0]; exact h1⟩, rfl⟩)
    · exact .inr (.inr ⟨h0, fun i hi => by obtain rfl : i = 0 := by omega
                                           rw [hf0]; exact h1, rfl⟩)
  by_cases her : er = 0
  · obtain ⟨hR, hc, rfl, hr⟩ : RightP d w t s e k p h tr ke no ∧ (0 ≤ c ∧ c ≤ 1099511627776) ∧ er = 0 ∧ r = (nextV c.toNat s.toNat e.toNat : Int) := by
      rcases hn with ⟨_, h1, _⟩ | ⟨_, _, h1, _⟩ | h0
      · omega
      · omega
      · exact h0
    obtain ⟨sn, en, hsn, hen, s1, s2, e1, e2⟩ := right_nat hR
    obtain ⟨cn, hcn⟩ : ∃ cn : Nat, c = (cn : Int) := ⟨c.toNat, by omega⟩
    obtain ⟨v, hv⟩ : ∃ v, v = nextV cn sn en := ⟨_, rfl⟩
    have hrv : r = (v : Int) := by rw [hr, hv, hcn, hsn, hen]; simp
    have hx := next_fn (P := P) (G := G) (d := d) (w := w) (t := t) (k := k) (p := p) (h := h) (tr := tr) (ke := ke) (no := no) hP s2 e1 e2 (show cn ≤ 2199023255552 by omega) hv
    rw [← hsn, ← hen, ← hcn, ← hrv] at hx
    have hk := key 0 hE
    clear key hn hE
    have hT : T.Ok P := hP ▸ T_ok
    refine FnTr.intro (fn := Try.f35) (c := bodyOf Try.f35) (by rw [hP]; rfl) rfl rfl hT ?_
    generalize hA : Ar.real = A
    generalize hK : Gives _ _ _ = K
    cbv
    refine CS.frzA hA (by (try cbv) <;> (repeat' (first | exact trivial | exact rfl | apply And.intro | (intro _ hle; first | refine chunk_le hA rfl hle rfl ?_ | refine cat_le hA ?_ | refine upd_le hA ?_ | (try cbv)))); all_goals (subst hA; (try simp only [natCast_eq] at *); (simp only [Ar.real, NV.val, Int.ofNat_eq_natCast, Int.toNat_natCast]); first | done | omega | decide | exact inR64 (by omega) (by omega) | (refine ⟨?_, ?_⟩ <;> first | omega | decide | exact inR64 (by omega) (by omega)))) ?_
    cbv
    refine CS.leR hA hk (.lit .i64 0) [] rfl rfl rfl ?_ ?_ ?_ ?_
    · (try cbv) <;> (repeat' (first | exact trivial | exact rfl | apply And.intro | (intro _ hle; first | refine chunk_le hA rfl hle rfl ?_ | refine cat_le hA ?_ | refine upd_le hA ?_ | (try cbv))))
      exact hf0 _
    · (try cbv) <;> (repeat' (first | exact trivial | exact rfl | apply And.intro | (intro _ hle; first | refine chunk_le hA rfl hle rfl ?_ | refine cat_le hA ?_ | refine upd_le hA ?_ | (try cbv))))
    · (try cbv) <;> (repeat' (first | exact trivial | exact rfl | apply And.intro | (intro _ hle; first | refine chunk_le hA rfl hle rfl ?_ | refine cat_le hA ?_ | refine upd_le hA ?_ | (try cbv))))
    cbv
    refine CS.le hA hx [] rfl rfl rfl ?_ ?_ ?_
    · (try cbv) <;> (repeat' (first | exact trivial | exact rfl | apply And.intro | (intro _ hle; first | refine chunk_le hA rfl hle rfl ?_ | refine cat_le hA ?_ | refine upd_le hA ?_ | (try cbv))))
    · (try cbv) <;> (repeat' (first | exact trivial | exact rfl | apply And.intro | (intro _ hle; first | refine chunk_le hA rfl hle rfl ?_ | refine cat_le hA ?_ | refine upd_le hA ?_ | (try cbv))))
    cbv
    refine Fin.le hA 0 [] (.tup [.int .i64 r, .int .i64 0]) ([]) 3 rfl rfl rfl ?_ ?_ (by rw [← hK]; exact ⟨rfl, rfl, rfl⟩)
    · (try cbv) <;> (repeat' (first | exact trivial | exact rfl | apply And.intro | (intro _ hle; first | refine chunk_le hA rfl hle rfl ?_ | refine cat_le hA ?_ | refine upd_le hA ?_ | (try cbv))))
    · (try cbv) <;> (repeat' (first | exact trivial | exact rfl | apply And.intro | (intro _ hle; first | refine chunk_le hA rfl hle rfl ?_ | refine cat_le hA ?_ | refine upd_le hA ?_ | (try cbv))))
  · obtain rfl : r = 0 := by
      rcases hn with ⟨_, _, h1⟩ | ⟨_, _, _, h1⟩ | ⟨_, _, h1, _⟩
      · exact h1
      · exact h1
      · exact absurd h1 her
    have hk := key er hE
    clear key hn hE
    have hT : T.Ok P := hP ▸ T_ok
    refine FnTr.intro (fn := Try.f35) (c := bodyOf Try.f35) (by rw [hP]; rfl) rfl rfl hT ?_
    generalize hA : Ar.real = A
    generalize hK : Gives _ _ _ = K
    cbv
    refine CS.frzA hA (by (try cbv) <;> (repeat' (first | exact trivial | exact rfl | apply And.intro | (intro _ hle; first | refine chunk_le hA rfl hle rfl ?_ | refine cat_le hA ?_ | refine upd_le hA ?_ | (try cbv)))); all_goals (subst hA; (try simp only [natCast_eq] at *); (simp only [Ar.real, NV.val, Int.ofNat_eq_natCast, Int.toNat_natCast]); first | done | omega | decide | exact inR64 (by omega) (by omega) | (refine ⟨?_, ?_⟩ <;> first | omega | decide | exact inR64 (by omega) (by omega)))) ?_
    cbv
    refine CS.le hA hk [] rfl rfl rfl ?_ ?_ ?_
    · (try cbv) <;> (repeat' (first | exact trivial | exact rfl | apply And.intro | (intro _ hle; first | refine chunk_le hA rfl hle rfl ?_ | refine cat_le hA ?_ | refine upd_le hA ?_ | (try cbv))))
      exact hf0 _
    · (try cbv) <;> (repeat' (first | exact trivial | exact rfl | apply And.intro | (intro _ hle; first | refine chunk_le hA rfl hle rfl ?_ | refine cat_le hA ?_ | refine upd_le hA ?_ | (try cbv))))
    cbv
    have hne : A.ne er 0 = true := by subst hA; simp only [Ar.real]; simpa using her
    refine ⟨fun _ => ?_, fun h => absurd (hne.symm.trans h) (by decide)⟩
    cbv
    refine Fin.le hA 0 [] (.tup [.int .i64 0, .int .i64 er]) ([]) 3 rfl rfl rfl ?_ ?_ (by rw [← hK]; exact ⟨rfl, rfl, rfl⟩)
    · (try cbv) <;> (repeat' (first | exact trivial | exact rfl | apply And.intro | (intro _ hle; first | refine chunk_le hA rfl hle rfl ?_ | refine cat_le hA ?_ | refine upd_le hA ?_ | (try cbv))))
    · (try cbv) <;> (repeat' (first | exact trivial | exact rfl | apply And.intro | (intro _ hle; first | refine chunk_le hA rfl hle rfl ?_ | refine cat_le hA ?_ | refine upd_le hA ?_ | (try cbv))))

theorem refNext_fn {P : Program} {G : Gl} (hP : P = Try.prog) {d w t s e k p h tr ke no : Int} {c r er : Int} (hh : intWf .i64 h) (hn : NextIs (RightP d w t s e k p h tr ke no) c s e r er) :
    FnTr P G 36 [.agg [.int .i64 d, .int .i64 w, .int .i64 t, .int .i64 s, .int .i64 e, .int .i64 k, .int .i64 p, .int .i64 h, .int .i64 tr, .int .i64 ke, .int .i64 no], .int .i64 c] [] 0 (Gives (.tup [.int .i64 r, .int .i64 er]) [] 3) := by
  by_cases hR : RightP d w t s e k p h tr ke no
  · by_cases hc : 0 ≤ c ∧ c ≤ 1099511627776
    · obtain ⟨rfl, hr⟩ : er = 0 ∧ r = (nextV c.toNat s.toNat e.toNat : Int) := by
        rcases hn with ⟨h1, _⟩ | ⟨_, h1, _⟩ | ⟨_, _, h0⟩
        · exact absurd hR h1
        · exact absurd hc h1
        · exact h0
      obtain ⟨sn, en, hsn, hen, s1, s2, e1, e2⟩ := right_nat hR
      obtain ⟨cn, hcn⟩ : ∃ cn : Nat, c = (cn : Int) := ⟨c.toNat, by omega⟩
      obtain ⟨v, hv⟩ : ∃ v, v = nextV cn sn en := ⟨_, rfl⟩
      obtain ⟨v1, v2, v3⟩ := SchLaw.nextV_spec cn sn en e1
      rw [← hv] at v1 v2 v3
      have hrv : r = (v : Int) := by rw [hr, hv, hcn, hsn, hen]; simp
      have hvf : ∀ n : Nat, cn + 1 ≤ n → sn ≤ n → n % en = 0 → v ≤ n := fun n h1 h2 h3 => by rw [hv]; exact SchLaw.nextV_first cn sn en n e1 (by omega) h3
      have hS : ∀ n : Nat, s ≤ (n : Int) ↔ sn ≤ n := fun n => by omega
      have hM : ∀ n : Nat, Int.tmod (n : Int) e = 0 ↔ n % en = 0 := fun n => by rw [hen, rem_nat]; omega
      subst hcn
      clear hn
      have he0 : 0 < e := by omega
      have hT : T.Ok P := hP ▸ T_ok
      refine FnTr.intro (fn := Try.f36) (c := bodyOf Try.f36) (by rw [hP]; rfl) rfl rfl hT ?_
      generalize hA : Ar.real = A
      generalize hK : Gives _ _ _ = K
      cbv
      refine CS.leR hA (refright_fn (r := true) hP ⟨fun _ => hR, fun _ => rfl⟩ hh) (.bl true) [] rfl rfl rfl ?_ ?_ ?_ ?_
      · (try cbv) <;> (repeat' (first | exact trivial | exact rfl | apply And.intro | (intro _ hle; first | refine chunk_le hA rfl hle rfl ?_ | refine cat_le hA ?_ | refine upd_le hA ?_ | (try cbv))))
      · (try cbv) <;> (repeat' (first | exact trivial | exact rfl | apply And.intro | (intro _ hle; first | refine chunk_le hA rfl hle rfl ?_ | refine cat_le hA ?_ | refine upd_le hA ?_ | (try cbv))))
      · (try cbv) <;> (repeat' (first | exact trivial | exact rfl | apply And.intro | (intro _ hle; first | refine chunk_le hA rfl hle rfl ?_ | refine cat_le hA ?_ | refine upd_le hA ?_ | (try cbv))))
      cbv
      refine CS.leR hA (in_fn (r := true) hP ⟨fun _ => hc, fun _ => rfl⟩) (.bl true) [] rfl rfl rfl ?_ ?_ ?_ ?_
      · (try cbv) <;> (repeat' (first | exact trivial | exact rfl | apply And.intro | (intro _ hle; first | refine chunk_le hA rfl hle rfl ?_ | refine cat_le hA ?_ | refine upd_le hA ?_ | (try cbv))))
      · (try cbv) <;> (repeat' (first | exact trivial | exact rfl | apply And.intro | (intro _ hle; first | refine chunk_le hA rfl hle rfl ?_ | refine cat_le hA ?_ | refine upd_le hA ?_ | (try cbv))))
      · (try cbv) <;> (repeat' (first | exact trivial | exact rfl | apply And.intro | (intro _ hle; first | refine chunk_le hA rfl hle rfl ?_ | refine cat_le hA ?_ | refine upd_le hA ?_ | (try cbv))))
      cbv
      refine ⟨(by (subst hA; (try simp only [natCast_eq] at *); (simp only [Ar.real, NV.val, Int.ofNat_eq_natCast, Int.toNat_natCast]); first | done | omega | decide | exact inR64 (by omega) (by omega) | (refine ⟨?_, ?_⟩ <;> first | omega | decide | exact inR64 (by omega) (by omega)))), ?_⟩
      refine LS.le hT hA 1 (fun (n : Nat) => [(6, .int .i64 (n : Int))]) (fun _ => [(0, .cells 54 [.int .i64 d, .int .i64 w, .int .i64 t, .int .i64 s, .int .i64 e, .int .i64 k, .int .i64 p, .int .i64 h, .int .i64 tr, .int .i64 ke, .int .i64 no])]) (fun n => cn + 1 ≤ n ∧ n ≤ v) (fun n => v - n) (cn + 1) [] rfl rfl ?_ ?_ ?_
      · (try cbv) <;> (repeat' (first | exact trivial | exact rfl | apply And.intro | (intro _ hle; first | refine chunk_le hA rfl hle rfl ?_ | refine cat_le hA ?_ | refine upd_le hA ?_ | (try cbv))))
        subst hA; simp only [Ar.real, NV.val, Int.ofNat_eq_natCast, Int.toNat_natCast]
        rfl
      · exact ⟨Nat.le_refl _, by omega⟩
      · intro Rr hRr n hp
        cbv
        obtain ⟨h1, h2⟩ := hp
        by_cases ht : sn ≤ n ∧ n % en = 0
        · have hnv : n = v := by have := hvf n h1 ht.1 ht.2; omega
          refine CS.leR hA (turn_fn (d := d) (w := w) (t := t) (k := k) (p := p) (h := h) (tr := tr) (ke := ke) (no := no) (r := true) (c := (n : Int)) hP he0 ⟨fun _ => ⟨(hS n).2 ht.1, (hM n).2 ht.2⟩, fun _ => rfl⟩) (.bl true) [] rfl rfl rfl ?_ ?_ ?_ ?_
          · (try cbv) <;> (repeat' (first | exact trivial | exact rfl | apply And.intro | (intro _ hle; first | refine chunk_le hA rfl hle rfl ?_ | refine cat_le hA ?_ | refine upd_le hA ?_ | (try cbv))))
          · (try cbv) <;> (repeat' (first | exact trivial | exact rfl | apply And.intro | (intro _ hle; first | refine chunk_le hA rfl hle rfl ?_ | refine cat_le hA ?_ | refine upd_le hA ?_ | (try cbv))))
          · (try cbv) <;> (repeat' (first | exact trivial | exact rfl | apply And.intro | (intro _ hle; first | refine chunk_le hA rfl hle rfl ?_ | refine cat_le hA ?_ | refine upd_le hA ?_ | (try cbv))))
          clear hRr
          cbv
          refine Fin.le hA 0 [] (.tup [.int .i64 r, .int .i64 0]) ([]) 3 rfl rfl rfl ?_ ?_ (by rw [← hK]; exact ⟨rfl, rfl, rfl⟩)
          · (try cbv) <;> (repeat' (first | exact trivial | exact rfl | apply And.intro | (intro _ hle; first | refine chunk_le hA rfl hle rfl ?_ | refine cat_le hA ?_ | refine upd_le hA ?_ | (try cbv))))
            rw [hrv, hnv]; rfl
          · (try cbv) <;> (repeat' (first | exact trivial | exact rfl | apply And.intro | (intro _ hle; first | refine chunk_le hA rfl hle rfl ?_ | refine cat_le hA ?_ | refine upd_le hA ?_ | (try cbv))))
        · have hnv : n < v := by
            by_cases e : n = v
            · exact absurd ⟨by omega, by rw [e]; exact v3⟩ ht
            · omega
          refine CS.leR hA (turn_fn (d := d) (w := w) (t := t) (k := k) (p := p) (h := h) (tr := tr) (ke := ke) (no := no) (r := false) (c := (n : Int)) hP he0 ⟨fun h => by (cases h), fun h => absurd (⟨(hS n).1 h.1, (hM n).1 h.2⟩ : sn ≤ n ∧ n % en = 0) ht⟩) (.bl false) [] rfl rfl rfl ?_ ?_ ?_ ?_
          · (try cbv) <;> (repeat' (first | exact trivial | exact rfl | apply And.intro | (intro _ hle; first | refine chunk_le hA rfl hle rfl ?_ | refine cat_le hA ?_ | refine upd_le hA ?_ | (try cbv))))
          · (try cbv) <;> (repeat' (first | exact trivial | exact rfl | apply And.intro | (intro _ hle; first | refine chunk_le hA rfl hle rfl ?_ | refine cat_le hA ?_ | refine upd_le hA ?_ | (try cbv))))
          · (try cbv) <;> (repeat' (first | exact trivial | exact rfl | apply And.intro | (intro _ hle; first | refine chunk_le hA rfl hle rfl ?_ | refine cat_le hA ?_ | refine upd_le hA ?_ | (try cbv))))
          cbv
          refine ⟨(by (subst hA; (try simp only [natCast_eq] at *); (simp only [Ar.real, NV.val, Int.ofNat_eq_natCast, Int.toNat_natCast]); first | done | omega | decide | exact inR64 (by omega) (by omega) | (refine ⟨?_, ?_⟩ <;> first | omega | decide | exact inR64 (by omega) (by omega)))), hRr _ _ ⟨n + 1, 1, [], rfl, rfl, ?_, ⟨by omega, hnv⟩, (by show v - (n + 1) < v - n; omega)⟩⟩
          clear hRr
          (try cbv) <;> (repeat' (first | exact trivial | exact rfl | apply And.intro | (intro _ hle; first | refine chunk_le hA rfl hle rfl ?_ | refine cat_le hA ?_ | refine upd_le hA ?_ | (try cbv))))
          subst hA; simp only [Ar.real, NV.val, Int.ofNat_eq_natCast, Int.toNat_natCast]
          rfl
    · obtain ⟨rfl, rfl⟩ : er = 1 ∧ r = 0 := by
        rcases hn with ⟨h1, _⟩ | ⟨_, _, h0⟩ | ⟨_, h1, _⟩
        · exact absurd hR h1
        · exact h0
        · exact absurd h1 hc
      have hT : T.Ok P := hP ▸ T_ok
      refine FnTr.intro (fn := Try.f36) (c := bodyOf Try.f36) (by rw [hP]; rfl) rfl rfl hT ?_
      generalize hA : Ar.real = A
      generalize hK : Gives _ _ _ = K
      cbv
      refine CS.leR hA (refright_fn (r := true) hP ⟨fun _ => hR, fun _ => rfl⟩ hh) (.bl true) [] rfl rfl rfl ?_ ?_ ?_ ?_
      · (try cbv) <;> (repeat' (first | exact trivial | exact rfl | apply And.intro | (intro _ hle; first | refine chunk_le hA rfl hle rfl ?_ | refine cat_le hA ?_ | refine upd_le hA ?_ | (try cbv))))
      · (try cbv) <;> (repeat' (first | exact trivial | exact rfl | apply And.intro | (intro _ hle; first | refine chunk_le hA rfl hle rfl ?_ | refine cat_le hA ?_ | refine upd_le hA ?_ | (try cbv))))
      · (try cbv) <;> (repeat' (first | exact trivial | exact rfl | apply And.intro | (intro _ hle; first | refine chunk_le hA rfl hle rfl ?_ | refine cat_le hA ?_ | refine upd_le hA ?_ | (try cbv))))
      cbv
      refine CS.leR hA (in_fn (r := false) hP ⟨fun h => by (cases h), fun h => absurd h hc⟩) (.bl false) [] rfl rfl rfl ?_ ?_ ?_ ?_
      · (try cbv) <;> (repeat' (first | exact trivial | exact rfl | apply And.intro | (intro _ hle; first | refine chunk_le hA rfl hle rfl ?_ | refine cat_le hA ?_ | refine upd_le hA ?_ | (try cbv))))
      · (try cbv) <;> (repeat' (first | exact trivial | exact rfl | apply And.intro | (intro _ hle; first | refine chunk_le hA rfl hle rfl ?_ | refine cat_le hA ?_ | refine upd_le hA ?_ | (try cbv))))
      · (try cbv) <;> (repeat' (first | exact trivial | exact rfl | apply And.intro | (intro _ hle; first | refine chunk_le hA rfl hle rfl ?_ | refine cat_le hA ?_ | refine upd_le hA ?_ | (try cbv))))
      cbv
      refine Fin.le hA 0 [] (.tup [.int .i64 0, .int .i64 1]) ([]) 3 rfl rfl rfl ?_ ?_ (by rw [← hK]; exact ⟨rfl, rfl, rfl⟩)
      · (try cbv) <;> (repeat' (first | exact trivial | exact rfl | apply And.intro | (intro _ hle; first | refine chunk_le hA rfl hle rfl ?_ | refine cat_le hA ?_ | refine upd_le hA ?_ | (try cbv))))
      · (try cbv) <;> (repeat' (first | exact trivial | exact rfl | apply And.intro | (intro _ hle; first | refine chunk_le hA rfl hle rfl ?_ | refine cat_le hA ?_ | refine upd_le hA ?_ | (try cbv))))
  · obtain ⟨rfl, rfl⟩ : er = 200 ∧ r = 0 := by
      rcases hn with ⟨_, h0⟩ | ⟨h1, _⟩ | ⟨h1, _⟩
      · exact h0
      · exact absurd h1 hR
      · exact absurd h1 hR
    have hT : T.Ok P := hP ▸ T_ok
    refine FnTr.intro (fn := Try.f36) (c := bodyOf Try.f36) (by rw [hP]; rfl) rfl rfl hT ?_
    generalize hA : Ar.real = A
    generalize hK : Gives _ _ _ = K
    cbv
    refine CS.leR hA (refright_fn (r := false) hP ⟨fun h => by (cases h), fun h => absurd h hR⟩ hh) (.bl false) [] rfl rfl rfl ?_ ?_ ?_ ?_
    · (try cbv) <;> (repeat' (first | exact trivial | exact rfl | apply And.intro | (intro _ hle; first | refine chunk_le hA rfl hle rfl ?_ | refine cat_le hA ?_ | refine upd_le hA ?_ | (try cbv))))
    · (try cbv) <;> (repeat' (first | exact trivial | exact rfl | apply And.intro | (intro _ hle; first | refine chunk_le hA rfl hle rfl ?_ | refine cat_le hA ?_ | refine upd_le hA ?_ | (try cbv))))
    · (try cbv) <;> (repeat' (first | exact trivial | exact rfl | apply And.intro | (intro _ hle; first | refine chunk_le hA rfl hle rfl ?_ | refine cat_le hA ?_ | refine upd_le hA ?_ | (try cbv))))
    cbv
    refine Fin.le hA 0 [] (.tup [.int .i64 0, .int .i64 200]) ([]) 3 rfl rfl rfl ?_ ?_ (by rw [← hK]; exact ⟨rfl, rfl, rfl⟩)
    · (try cbv) <;> (repeat' (first | exact trivial | exact rfl | apply And.intro | (intro _ hle; first | refine chunk_le hA rfl hle rfl ?_ | refine cat_le hA ?_ | refine upd_le hA ?_ | (try cbv))))
    · (try cbv) <;> (repeat' (first | exact trivial | exact rfl | apply And.intro | (intro _ hle; first | refine chunk_le hA rfl hle rfl ?_ | refine cat_le hA ?_ | refine upd_le hA ?_ | (try cbv))))
end Go.Proofs.Ytkaobalnjimniaa
