/-
  Schedules: the law SchedRounds, as the code runs it.
-/
import Derived.Test.YtkaobalnjimniaaSchG6
import Derived.Test.YtkaobalnjimniaaSchB
set_option linter.unusedVariables false
set_option linter.unusedSimpArgs false
namespace Go.Proofs.Ytkaobalnjimniaa
open Go.Eng
open Go.SchLaw (minAt nextV upV PS atOf stepP planP)
set_option maxRecDepth 100000
set_option linter.unusedVariables false

theorem rounds_good {P : Program} {G : Gl} (hP : P = Try.prog) {d w t s e k p h tr ke no : Int} {N : Nat} (hR : RightP d w t s e k p h tr ke no) (hT64 : N ≤ 64) (hh : intWf .i64 h) :
    FnTr P G 8 [.agg [.int .i64 d, .int .i64 w, .int .i64 t, .int .i64 s, .int .i64 e, .int .i64 k, .int .i64 p, .int .i64 h, .int .i64 tr, .int .i64 ke, .int .i64 no], .int .i64 (N : Int)] [] 0 (Gives (.bl true) [] 60) := by
  obtain ⟨sn, en, hsn, hen, s1, s2, e1, e2⟩ := right_nat hR
  obtain ⟨tn, htn, ht1⟩ : ∃ tn : Nat, t = (tn : Int) ∧ 0 < tn ∧ tn ≤ 16 := ⟨t.toNat, by unfold RightP at hR; omega, by unfold RightP at hR; omega, by unfold RightP at hR; omega⟩
  have ht16 := ht1.2
  replace ht1 := ht1.1
  obtain ⟨x0, hx0⟩ : ∃ x0 : PS, x0 = ⟨0, 0, fun _ => 0, fun _ => 0⟩ := ⟨_, rfl⟩
  have hx0c : x0.c = 0 := by rw [hx0]
  have hx0n : x0.n = 0 := by rw [hx0]
  obtain ⟨C, hC⟩ : ∃ C : Nat → Nat, ∀ j, C j = (planP sn en tn x0 j).c := ⟨_, fun _ => rfl⟩
  have hCb : ∀ j, j ≤ 64 → C j ≤ 20544 := fun j hj => by
    have := SchLaw.planP_c sn en tn x0 (by omega) s2 e2 j
    rw [hC]; omega
  have hCs : ∀ j, C (j + 1) = nextV (C j) sn en := fun j => by rw [hC, hC]; rfl
  have hCg : ∀ j, C j < C (j + 1) := fun j => by rw [hCs]; exact SchLaw.nextV_gt _ _ _ (by omega)
  have hCu : ∀ j, upV (C j) sn en = j := fun j => by rw [hC]; exact (SchLaw.round_c sn en tn (by omega) x0 hx0c j).2
  have hC0 : C 0 = 0 := by rw [hC]; exact hx0c
  obtain ⟨m, hm⟩ : ∃ m : Nat, m = min N tn := ⟨_, rfl⟩
  obtain ⟨pr, hpr⟩ : ∃ pr : Nat → Int, ∀ i, pr i = (planP sn en tn x0 N).p i := ⟨_, fun _ => rfl⟩
  obtain ⟨nr, hnr⟩ : ∃ nr : Nat → Int, ∀ i, nr i = (planP sn en tn x0 N).b i := ⟨_, fun _ => rfl⟩
  have hat := SchLaw.round_at sn en tn (by omega) ht1 x0 hx0c hx0n N
  have hprv : ∀ i, i < N → pr i = Int.tmod i t := fun i hi => by
    rw [hpr, hat.2.1 i hi, htn]; exact rem_nat _ _
  have hborn : ∀ i, i < m → ∃ b : Nat, nr i = (b : Int) ∧ b ≤ C N ∧ (C N : Int) - (b : Int) ≤ (t - 1) * e := fun i hi => by
    obtain ⟨b, h1, h2, h3⟩ := SchLaw.round_born sn en tn (by omega) ht1 x0 hx0c hx0n N i (by omega)
    refine ⟨b, by rw [hnr]; exact h1, by rw [hC]; exact h2, ?_⟩
    rw [hC, htn, hen, ← Int.ofNat_sub h2, show ((tn : Int) - 1) = ((tn - 1 : Nat) : Int) by omega]
    exact_mod_cast h3
  have hpl : FnTr P G 39 [.agg [.int .i64 d, .int .i64 w, .int .i64 t, .int .i64 s, .int .i64 e, .int .i64 k, .int .i64 p, .int .i64 h, .int .i64 tr, .int .i64 ke, .int .i64 no], .int .i64 0, .ro 1 (.s 0) (fun e => [.int .i64 ((fun _ => 0) e.val)]), .int .i64 (N : Int)] [] 0 (Gives (.tup [.ro 1 (.s N) (fun e => [.int .i64 (pr e.val)]), .ro 1 (.s m) (fun e => [.int .i64 (nr e.val)]), .int .i64 0]) [] 4) := by
    refine Plan_fn (c := 0) (turns := (N : Int)) (n := 0) (f := fun _ => 0) hP hh (by omega) (.inr (.inr ⟨hR, ⟨⟨by omega, by omega⟩, by rw [htn]; omega, ⟨by omega, by omega⟩, fun i hi => by omega⟩, rfl, by omega, planP sn en tn x0 N, ?_, ?_, hpr, hnr⟩))
    · rw [hx0, hsn, hen, htn]; rfl
    · rw [hm]; exact hat.1.symm
  have hnx : ∀ j, j ≤ 64 → FnTr P G 35 [.agg [.int .i64 d, .int .i64 w, .int .i64 t, .int .i64 s, .int .i64 e, .int .i64 k, .int .i64 p, .int .i64 h, .int .i64 tr, .int .i64 ke, .int .i64 no], .int .i64 (C j : Int)] [] 0 (Gives (.tup [.int .i64 (C (j + 1) : Int), .int .i64 0]) [] 3) := fun j hj =>
    Next_fn hP hh (.inr (.inr ⟨hR, ⟨by omega, by have := hCb j hj; omega⟩, rfl, by rw [hCs, hsn, hen]; rfl⟩))
  have htu : ∀ j, j < 64 → FnTr P G 37 [.agg [.int .i64 d, .int .i64 w, .int .i64 t, .int .i64 s, .int .i64 e, .int .i64 k, .int .i64 p, .int .i64 h, .int .i64 tr, .int .i64 ke, .int .i64 no], .int .i64 (C j : Int), .int .i64 (C (j + 1) : Int)] [] 0 (Gives (.tup [.int .i64 1, .int .i64 0]) [] 3) := fun j hj =>
    Turns_fn hP hh (.inr (.inr ⟨hR, ⟨⟨by omega, by have := hCb j (by omega); omega⟩, ⟨by omega, by have := hCb (j + 1) (by omega); omega⟩⟩, rfl, by
      rw [hsn, hen]
      show (1 : Int) = max 0 ((upV (C (j + 1)) sn en : Int) - (upV (C j) sn en : Int))
      rw [hCu, hCu]; omega⟩))
  have hta : FnTr P G 37 [.agg [.int .i64 d, .int .i64 w, .int .i64 t, .int .i64 s, .int .i64 e, .int .i64 k, .int .i64 p, .int .i64 h, .int .i64 tr, .int .i64 ke, .int .i64 no], .int .i64 0, .int .i64 (C N : Int)] [] 0 (Gives (.tup [.int .i64 (N : Int), .int .i64 0]) [] 3) :=
    Turns_fn hP hh (.inr (.inr ⟨hR, ⟨⟨by omega, by omega⟩, ⟨by omega, by have := hCb N (by omega); omega⟩⟩, rfl, by
      rw [hsn, hen]
      show (N : Int) = max 0 ((upV (C N) sn en : Int) - (upV 0 sn en : Int))
      rw [hCu, SchLaw.upV_zero _ _ (by omega)]; omega⟩))
  have hrr := refright_fn (P := P) (G := G) (r := true) (d := d) (w := w) (t := t) (s := s) (e := e) (k := k) (p := p) (h := h) (tr := tr) (ke := ke) (no := no) hP ⟨fun _ => hR, fun _ => rfl⟩ hh
  have hm16 : m ≤ 16 := by omega
  have hRt : 1 ≤ t ∧ t ≤ 16 := by omega
  have hRe : 1 ≤ e ∧ e ≤ 256 := by omega
  have hCT := hCb N hT64
  have hmul : 0 ≤ (t - 1) * e ∧ (t - 1) * e ≤ 3840 := by
    refine ⟨Int.mul_nonneg (by omega) (by omega), ?_⟩
    exact Int.le_trans (Int.mul_le_mul (by omega : t - 1 ≤ 15) hRe.2 (by omega) (by omega)) (by decide)
  clear hpr hnr hat hC hCs hm hx0
  have hT : T.Ok P := hP ▸ T_ok
  refine FnTr.intro (fn := Try.f8) (c := bodyOf Try.f8) (by rw [hP]; rfl) rfl rfl hT ?_
  generalize hA : Ar.real = A
  generalize hK : Gives _ _ _ = K
  cbv
  refine CS.leR hA hrr (.bl true) [] rfl rfl rfl ?_ ?_ ?_ ?_
  · (try cbv) <;> (repeat' (first | exact trivial | exact rfl | apply And.intro | (intro _ hle; first | refine chunk_le hA rfl hle rfl ?_ | refine cat_le hA ?_ | refine upd_le hA ?_ | (try cbv))))
  · (try cbv) <;> (repeat' (first | exact trivial | exact rfl | apply And.intro | (intro _ hle; first | refine chunk_le hA rfl hle rfl ?_ | refine cat_le hA ?_ | refine upd_le hA ?_ | (try cbv))))
  · (try cbv) <;> (repeat' (first | exact trivial | exact rfl | apply And.intro | (intro _ hle; first | refine chunk_le hA rfl hle rfl ?_ | refine cat_le hA ?_ | refine upd_le hA ?_ | (try cbv))))
  cbv
  refine ⟨fun h1 => ?_, fun h1 => by clear hprv hborn hCg hCu; exfalso; (subst hA; simp only [Ar.real, NV.val, Int.ofNat_eq_natCast, Int.toNat_natCast, decide_eq_true_eq, decide_eq_false_iff_not, Bool.not_true, Bool.not_false, beq_iff_eq, bne_iff_ne, beq_eq_false_iff_ne, bne_eq_false_iff_eq, ne_eq, Bool.not_eq_true', Bool.not_eq_false', natCast_eq] at *; first | contradiction | omega | (generalize Int.tmod _ _ = qtm at *; omega))⟩
  cbv
  refine ⟨fun h2 => by clear hprv hborn hCg hCu; exfalso; (subst hA; simp only [Ar.real, NV.val, Int.ofNat_eq_natCast, Int.toNat_natCast, decide_eq_true_eq, decide_eq_false_iff_not, Bool.not_true, Bool.not_false, beq_iff_eq, bne_iff_ne, beq_eq_false_iff_ne, bne_eq_false_iff_eq, ne_eq, Bool.not_eq_true', Bool.not_eq_false', natCast_eq] at *; first | contradiction | omega | (generalize Int.tmod _ _ = qtm at *; omega)), fun h2 => ?_⟩
  cbv
  refine CS.leR hA (hpl) (.tup [.ro 1 (.s N) (fun e => [.int .i64 (pr e.val)]), .ro 1 (.s m) (fun e => [.int .i64 (nr e.val)]), .lit .i64 0]) [] rfl rfl rfl ?_ ?_ ?_ ?_
  · (try cbv) <;> (repeat' (first | exact trivial | exact rfl | apply And.intro | (intro _ hle; first | refine chunk_le hA rfl hle rfl ?_ | refine cat_le hA ?_ | refine upd_le hA ?_ | (try cbv))))
  · (try cbv) <;> (repeat' (first | exact trivial | exact rfl | apply And.intro | (intro _ hle; first | refine chunk_le hA rfl hle rfl ?_ | refine cat_le hA ?_ | refine upd_le hA ?_ | (try cbv))))
  · (try cbv) <;> (repeat' (first | exact trivial | exact rfl | apply And.intro | (intro _ hle; first | refine chunk_le hA rfl hle rfl ?_ | refine cat_le hA ?_ | refine upd_le hA ?_ | (try cbv))))
  cbv
  refine ⟨fun h3 => by clear hprv hborn hCg hCu; exfalso; (subst hA; simp only [Ar.real, NV.val, Int.ofNat_eq_natCast, Int.toNat_natCast, decide_eq_true_eq, decide_eq_false_iff_not, Bool.not_true, Bool.not_false, beq_iff_eq, bne_iff_ne, beq_eq_false_iff_ne, bne_eq_false_iff_eq, ne_eq, Bool.not_eq_true', Bool.not_eq_false', natCast_eq] at *; first | contradiction | omega | (generalize Int.tmod _ _ = qtm at *; omega)), fun h3 => ?_⟩
  cbv
  refine LS.le hT hA 1 (fun (i : Nat) => [(8, .int .i64 (i : Int))]) (fun _ => [(0, .cells 54 [.int .i64 d, .int .i64 w, .int .i64 t, .int .i64 s, .int .i64 e, .int .i64 k, .int .i64 p, .int .i64 h, .int .i64 tr, .int .i64 ke, .int .i64 no])]) (fun i => i ≤ N) (fun i => N - i) 0 [] rfl rfl ?_ ?_ ?_
  · (try cbv) <;> (repeat' (first | exact trivial | exact rfl | apply And.intro | (intro _ hle; first | refine chunk_le hA rfl hle rfl ?_ | refine cat_le hA ?_ | refine upd_le hA ?_ | (try cbv))))
  · exact Nat.zero_le _
  · intro R hR' i hi
    cbv
    refine ⟨fun h4 => ?_, fun h4 => ?_⟩
    · have hlt : i < N := by subst hA; simp only [Ar.real] at h4; simp at h4; omega
      cbv
      refine DS.run hA hT (by rw [hP]; exact P_mixed) 1 rfl ?_
      cbv
      refine ⟨(by (subst hA; (try simp only [natCast_eq] at *); (simp only [Ar.real, NV.val, Int.ofNat_eq_natCast, Int.toNat_natCast]); first | done | omega | decide | exact inR64 (by omega) (by omega) | (refine ⟨?_, ?_⟩ <;> first | omega | decide | exact inR64 (by omega) (by omega)))), (by (subst hA; (try simp only [natCast_eq] at *); (simp only [Ar.real, NV.val, Int.ofNat_eq_natCast, Int.toNat_natCast]); first | done | omega | decide | exact inR64 (by omega) (by omega) | (refine ⟨?_, ?_⟩ <;> first | omega | decide | exact inR64 (by omega) (by omega)))), fun h5 => by have := hprv i hlt; clear hR' hprv hborn hCg hCu; exfalso; (subst hA; simp only [Ar.real, NV.val, Int.ofNat_eq_natCast, Int.toNat_natCast, decide_eq_true_eq, decide_eq_false_iff_not, Bool.not_true, Bool.not_false, beq_iff_eq, bne_iff_ne, beq_eq_false_iff_ne, bne_eq_false_iff_eq, ne_eq, Bool.not_eq_true', Bool.not_eq_false', natCast_eq] at *; first | contradiction | omega | (generalize Int.tmod _ _ = qtm at *; omega)), fun h5 => ?_⟩
      cbv
      refine ⟨(by (subst hA; (try simp only [natCast_eq] at *); (simp only [Ar.real, NV.val, Int.ofNat_eq_natCast, Int.toNat_natCast]); first | done | omega | decide | exact inR64 (by omega) (by omega) | (refine ⟨?_, ?_⟩ <;> first | omega | decide | exact inR64 (by omega) (by omega)))), hR' _ _ ⟨i + 1, 1, [], rfl, rfl, ?_, hlt, (by show N - (i + 1) < N - i; omega)⟩⟩
      clear hR'
      (try cbv) <;> (repeat' (first | exact trivial | exact rfl | apply And.intro | (intro _ hle; first | refine chunk_le hA rfl hle rfl ?_ | refine cat_le hA ?_ | refine upd_le hA ?_ | (try cbv))))
      subst hA; simp only [Ar.real, NV.val, Int.ofNat_eq_natCast, Int.toNat_natCast]
      rfl
    · clear hR'
      cbv
      refine LS.le hT hA 1 (fun (j : Nat) => [(9, .int .i64 (C j : Int)), (10, .int .i64 (j : Int))]) (fun _ => [(0, .cells 54 [.int .i64 d, .int .i64 w, .int .i64 t, .int .i64 s, .int .i64 e, .int .i64 k, .int .i64 p, .int .i64 h, .int .i64 tr, .int .i64 ke, .int .i64 no])]) (fun i => i ≤ N) (fun i => N - i) 0 [] rfl rfl ?_ ?_ ?_
      · (try cbv) <;> (repeat' (first | exact trivial | exact rfl | apply And.intro | (intro _ hle; first | refine chunk_le hA rfl hle rfl ?_ | refine cat_le hA ?_ | refine upd_le hA ?_ | (try cbv))))
        exact (congrArg Int.ofNat hC0).symm
      · exact Nat.zero_le _
      · intro R hR' j hj
        cbv
        refine ⟨fun h6 => ?_, fun h6 => ?_⟩
        · have hlt : j < N := by subst hA; simp only [Ar.real] at h6; simp at h6; omega
          obtain ⟨c1, hc1⟩ : ∃ c1, c1 = C (j + 1) := ⟨_, rfl⟩
          have g1 := hnx j (by omega)
          have g2 := htu j (by omega)
          have g3 := hCg j
          rw [← hc1] at g1 g2 g3
          cbv
          refine CS.leR hA (g1) (.tup [.int .i64 (c1 : Int), .lit .i64 0]) [] rfl rfl rfl ?_ ?_ ?_ ?_
          · (try cbv) <;> (repeat' (first | exact trivial | exact rfl | apply And.intro | (intro _ hle; first | refine chunk_le hA rfl hle rfl ?_ | refine cat_le hA ?_ | refine upd_le hA ?_ | (try cbv))))
          · (try cbv) <;> (repeat' (first | exact trivial | exact rfl | apply And.intro | (intro _ hle; first | refine chunk_le hA rfl hle rfl ?_ | refine cat_le hA ?_ | refine upd_le hA ?_ | (try cbv))))
          · (try cbv) <;> (repeat' (first | exact trivial | exact rfl | apply And.intro | (intro _ hle; first | refine chunk_le hA rfl hle rfl ?_ | refine cat_le hA ?_ | refine upd_le hA ?_ | (try cbv))))
          cbv
          refine ⟨fun h7 => by clear hR' hprv hborn hCg hCu hCb; exfalso; (subst hA; simp only [Ar.real, NV.val, Int.ofNat_eq_natCast, Int.toNat_natCast, decide_eq_true_eq, decide_eq_false_iff_not, Bool.not_true, Bool.not_false, beq_iff_eq, bne_iff_ne, beq_eq_false_iff_ne, bne_eq_false_iff_eq, ne_eq, Bool.not_eq_true', Bool.not_eq_false', natCast_eq] at *; first | contradiction | omega | (generalize Int.tmod _ _ = qtm at *; omega)), fun h7 => ?_⟩
          cbv
          refine CS.leR hA (g2) (.tup [.lit .i64 1, .lit .i64 0]) [] rfl rfl rfl ?_ ?_ ?_ ?_
          · (try cbv) <;> (repeat' (first | exact trivial | exact rfl | apply And.intro | (intro _ hle; first | refine chunk_le hA rfl hle rfl ?_ | refine cat_le hA ?_ | refine upd_le hA ?_ | (try cbv))))
          · (try cbv) <;> (repeat' (first | exact trivial | exact rfl | apply And.intro | (intro _ hle; first | refine chunk_le hA rfl hle rfl ?_ | refine cat_le hA ?_ | refine upd_le hA ?_ | (try cbv))))
          · (try cbv) <;> (repeat' (first | exact trivial | exact rfl | apply And.intro | (intro _ hle; first | refine chunk_le hA rfl hle rfl ?_ | refine cat_le hA ?_ | refine upd_le hA ?_ | (try cbv))))
          cbv
          refine ⟨(by (subst hA; (try simp only [natCast_eq] at *); (simp only [Ar.real, NV.val, Int.ofNat_eq_natCast, Int.toNat_natCast]); first | done | omega | decide | exact inR64 (by omega) (by omega) | (refine ⟨?_, ?_⟩ <;> first | omega | decide | exact inR64 (by omega) (by omega)))), hR' _ _ ⟨j + 1, 1, [], rfl, rfl, ?_, hlt, (by show N - (j + 1) < N - j; omega)⟩⟩
          clear hR'
          (try cbv) <;> (repeat' (first | exact trivial | exact rfl | apply And.intro | (intro _ hle; first | refine chunk_le hA rfl hle rfl ?_ | refine cat_le hA ?_ | refine upd_le hA ?_ | (try cbv))))
          · exact congrArg Int.ofNat hc1
          · subst hA; simp only [Ar.real, NV.val, Int.ofNat_eq_natCast, Int.toNat_natCast]
            rfl
        · clear hR'
          have hjN : j = N := by subst hA; simp only [Ar.real] at h6; simp at h6; omega
          subst hjN
          cbv
          refine CS.leR hA (hta) (.tup [.int .i64 (j : Int), .lit .i64 0]) [] rfl rfl rfl ?_ ?_ ?_ ?_
          · (try cbv) <;> (repeat' (first | exact trivial | exact rfl | apply And.intro | (intro _ hle; first | refine chunk_le hA rfl hle rfl ?_ | refine cat_le hA ?_ | refine upd_le hA ?_ | (try cbv))))
          · (try cbv) <;> (repeat' (first | exact trivial | exact rfl | apply And.intro | (intro _ hle; first | refine chunk_le hA rfl hle rfl ?_ | refine cat_le hA ?_ | refine upd_le hA ?_ | (try cbv))))
          · (try cbv) <;> (repeat' (first | exact trivial | exact rfl | apply And.intro | (intro _ hle; first | refine chunk_le hA rfl hle rfl ?_ | refine cat_le hA ?_ | refine upd_le hA ?_ | (try cbv))))
          cbv
          refine LS.le hT hA 1 (fun (q : Nat) => [(17, .int .i64 (q : Int))]) (fun _ => [(0, .cells 54 [.int .i64 d, .int .i64 w, .int .i64 t, .int .i64 s, .int .i64 e, .int .i64 k, .int .i64 p, .int .i64 h, .int .i64 tr, .int .i64 ke, .int .i64 no])]) (fun i => i ≤ m) (fun i => m - i) 0 [] rfl rfl ?_ ?_ ?_
          · (try cbv) <;> (repeat' (first | exact trivial | exact rfl | apply And.intro | (intro _ hle; first | refine chunk_le hA rfl hle rfl ?_ | refine cat_le hA ?_ | refine upd_le hA ?_ | (try cbv))))
          · exact Nat.zero_le _
          · intro R hR' q hq
            cbv
            refine ⟨fun h8 => ?_, fun h8 => ?_⟩
            · have hlt : q < m := by subst hA; simp only [Ar.real] at h8; simp at h8; omega
              obtain ⟨b, hb1, hb2, hb3⟩ := hborn q hlt
              cbv
              refine DS.run hA hT (by rw [hP]; exact P_mixed) 1 rfl ?_
              cbv
              clear hprv hborn hCg hCu hCb hRt hRe
              have hidx : nr (Int.toNat (Int.ofNat q)) = (b : Int) := hb1
              refine ⟨(by (subst hA; (try simp only [natCast_eq] at *); (simp only [Ar.real, NV.val, Int.ofNat_eq_natCast, Int.toNat_natCast]); first | done | omega | decide | exact inR64 (by omega) (by omega) | (refine ⟨?_, ?_⟩ <;> first | omega | decide | exact inR64 (by omega) (by omega)))), ?_, (by (subst hA; (try simp only [natCast_eq] at *); (simp only [Ar.real, NV.val, Int.ofNat_eq_natCast, Int.toNat_natCast]); first | done | omega | decide | exact inR64 (by omega) (by omega) | (refine ⟨?_, ?_⟩ <;> first | omega | decide | exact inR64 (by omega) (by omega)))), ?_, fun h9 => ?_, fun h9 => ?_⟩
              · clear hR'
                subst hA
                simp only [Ar.real, NV.val, hidx]
                simp only [Int.ofNat_eq_natCast, natCast_eq]
                exact inR64 (by omega) (by omega)
              · clear hR'
                subst hA
                simp only [Ar.real]
                exact inR64 (by omega) (by omega)
              · cbv
                refine ⟨(by (subst hA; (try simp only [natCast_eq] at *); (simp only [Ar.real, NV.val, Int.ofNat_eq_natCast, Int.toNat_natCast]); first | done | omega | decide | exact inR64 (by omega) (by omega) | (refine ⟨?_, ?_⟩ <;> first | omega | decide | exact inR64 (by omega) (by omega)))), fun h10 => ?_, fun h10 => ?_⟩
                · exfalso
                  clear hR'
                  subst hA
                  simp only [Ar.real, NV.val] at h10
                  rw [show (Int.ofNat q).toNat = q from rfl, hb1] at h10
                  simp only [gt_iff_lt, decide_eq_true_eq, decide_eq_false_iff_not, Int.ofNat_eq_natCast] at h10
                  simp only [natCast_eq] at *
                  omega
                · cbv
                  refine ⟨(by (subst hA; (try simp only [natCast_eq] at *); (simp only [Ar.real, NV.val, Int.ofNat_eq_natCast, Int.toNat_natCast]); first | done | omega | decide | exact inR64 (by omega) (by omega) | (refine ⟨?_, ?_⟩ <;> first | omega | decide | exact inR64 (by omega) (by omega)))), hR' _ _ ⟨q + 1, 1, [], rfl, rfl, ?_, hlt, (by show m - (q + 1) < m - q; omega)⟩⟩
                  clear hR'
                  (try cbv) <;> (repeat' (first | exact trivial | exact rfl | apply And.intro | (intro _ hle; first | refine chunk_le hA rfl hle rfl ?_ | refine cat_le hA ?_ | refine upd_le hA ?_ | (try cbv))))
                  subst hA; simp only [Ar.real, NV.val, Int.ofNat_eq_natCast, Int.toNat_natCast]
                  rfl
              · exfalso
                clear hR'
                subst hA
                simp only [Ar.real, NV.val] at h9
                rw [show (Int.ofNat q).toNat = q from rfl, hb1] at h9
                simp only [gt_iff_lt, decide_eq_true_eq, decide_eq_false_iff_not, Int.ofNat_eq_natCast, Bool.not_false] at h9
                simp only [natCast_eq] at *
                omega
            · clear hR'
              cbv
              have heq : ∀ x : Int, A.eq x x = true := fun x => by subst hA; simp [Ar.real]
              refine ⟨fun _ => ?_, fun h => absurd ((heq _).symm.trans h) (by decide)⟩
              cbv
              refine CS.le hA (lives_fn hP) [] rfl rfl rfl ?_ ?_ ?_
              · (try cbv) <;> (repeat' (first | exact trivial | exact rfl | apply And.intro | (intro _ hle; first | refine chunk_le hA rfl hle rfl ?_ | refine cat_le hA ?_ | refine upd_le hA ?_ | (try cbv))))
              · (try cbv) <;> (repeat' (first | exact trivial | exact rfl | apply And.intro | (intro _ hle; first | refine chunk_le hA rfl hle rfl ?_ | refine cat_le hA ?_ | refine upd_le hA ?_ | (try cbv))))
              cbv
              refine Fin.le hA 0 [] (.bl true) ([]) 60 rfl rfl rfl ?_ ?_ (by rw [← hK]; exact ⟨rfl, rfl, rfl⟩)
              · (try cbv) <;> (repeat' (first | exact trivial | exact rfl | apply And.intro | (intro _ hle; first | refine chunk_le hA rfl hle rfl ?_ | refine cat_le hA ?_ | refine upd_le hA ?_ | (try cbv))))
              · (try cbv) <;> (repeat' (first | exact trivial | exact rfl | apply And.intro | (intro _ hle; first | refine chunk_le hA rfl hle rfl ?_ | refine cat_le hA ?_ | refine upd_le hA ?_ | (try cbv))))

/-- What the law says, for any number of turns. -/
theorem rounds_law {P : Program} {G : Gl} (hP : P = Try.prog) {d w t s e k p h tr ke no : Int} {q : Int} (hh : intWf .i64 h) :
    FnTr P G 8 [.agg [.int .i64 d, .int .i64 w, .int .i64 t, .int .i64 s, .int .i64 e, .int .i64 k, .int .i64 p, .int .i64 h, .int .i64 tr, .int .i64 ke, .int .i64 no], .int .i64 q] [] 0 (Gives (.bl true) [] 60) := by
  by_cases hR : RightP d w t s e k p h tr ke no
  · by_cases hq : 0 ≤ q ∧ q ≤ 64
    · have hg := rounds_good (P := P) (G := G) (N := q.toNat) hP hR (by omega) hh
      rw [Int.toNat_of_nonneg hq.1] at hg
      exact hg
    · have hrr := refright_fn (P := P) (G := G) (r := true) (d := d) (w := w) (t := t) (s := s) (e := e) (k := k) (p := p) (h := h) (tr := tr) (ke := ke) (no := no) hP ⟨fun _ => hR, fun _ => rfl⟩ hh
      have hT : T.Ok P := hP ▸ T_ok
      refine FnTr.intro (fn := Try.f8) (c := bodyOf Try.f8) (by rw [hP]; rfl) rfl rfl hT ?_
      generalize hA : Ar.real = A
      generalize hK : Gives _ _ _ = K
      cbv
      refine CS.leR hA hrr (.bl true) [] rfl rfl rfl ?_ ?_ ?_ ?_
      · (try cbv) <;> (repeat' (first | exact trivial | exact rfl | apply And.intro | (intro _ hle; first | refine chunk_le hA rfl hle rfl ?_ | refine cat_le hA ?_ | refine upd_le hA ?_ | (try cbv))))
      · (try cbv) <;> (repeat' (first | exact trivial | exact rfl | apply And.intro | (intro _ hle; first | refine chunk_le hA rfl hle rfl ?_ | refine cat_le hA ?_ | refine upd_le hA ?_ | (try cbv))))
      · (try cbv) <;> (repeat' (first | exact trivial | exact rfl | apply And.intro | (intro _ hle; first | refine chunk_le hA rfl hle rfl ?_ | refine cat_le hA ?_ | refine upd_le hA ?_ | (try cbv))))
      cbv
      refine ⟨fun h1 => ?_, fun h1 => ?_⟩
      · cbv
        refine ⟨fun h2 => ?_, fun h2 => ?_⟩
        · cbv
          refine CS.le hA (lives_fn hP) [] rfl rfl rfl ?_ ?_ ?_
          · (try cbv) <;> (repeat' (first | exact trivial | exact rfl | apply And.intro | (intro _ hle; first | refine chunk_le hA rfl hle rfl ?_ | refine cat_le hA ?_ | refine upd_le hA ?_ | (try cbv))))
          · (try cbv) <;> (repeat' (first | exact trivial | exact rfl | apply And.intro | (intro _ hle; first | refine chunk_le hA rfl hle rfl ?_ | refine cat_le hA ?_ | refine upd_le hA ?_ | (try cbv))))
          cbv
          refine Fin.le hA 0 [] (.bl true) ([]) 60 rfl rfl rfl ?_ ?_ (by rw [← hK]; exact ⟨rfl, rfl, rfl⟩)
          · (try cbv) <;> (repeat' (first | exact trivial | exact rfl | apply And.intro | (intro _ hle; first | refine chunk_le hA rfl hle rfl ?_ | refine cat_le hA ?_ | refine upd_le hA ?_ | (try cbv))))
          · (try cbv) <;> (repeat' (first | exact trivial | exact rfl | apply And.intro | (intro _ hle; first | refine chunk_le hA rfl hle rfl ?_ | refine cat_le hA ?_ | refine upd_le hA ?_ | (try cbv))))
        · exfalso
          (subst hA; simp only [Ar.real, NV.val, Int.ofNat_eq_natCast, Int.toNat_natCast, decide_eq_true_eq, decide_eq_false_iff_not, Bool.not_true, Bool.not_false, beq_iff_eq, bne_iff_ne, beq_eq_false_iff_ne, bne_eq_false_iff_eq, ne_eq, Bool.not_eq_true', Bool.not_eq_false', natCast_eq] at *; first | contradiction | omega | (generalize Int.tmod _ _ = qtm at *; omega))
      · cbv
        refine CS.le hA (lives_fn hP) [] rfl rfl rfl ?_ ?_ ?_
        · (try cbv) <;> (repeat' (first | exact trivial | exact rfl | apply And.intro | (intro _ hle; first | refine chunk_le hA rfl hle rfl ?_ | refine cat_le hA ?_ | refine upd_le hA ?_ | (try cbv))))
        · (try cbv) <;> (repeat' (first | exact trivial | exact rfl | apply And.intro | (intro _ hle; first | refine chunk_le hA rfl hle rfl ?_ | refine cat_le hA ?_ | refine upd_le hA ?_ | (try cbv))))
        cbv
        refine Fin.le hA 0 [] (.bl true) ([]) 60 rfl rfl rfl ?_ ?_ (by rw [← hK]; exact ⟨rfl, rfl, rfl⟩)
        · (try cbv) <;> (repeat' (first | exact trivial | exact rfl | apply And.intro | (intro _ hle; first | refine chunk_le hA rfl hle rfl ?_ | refine cat_le hA ?_ | refine upd_le hA ?_ | (try cbv))))
        · (try cbv) <;> (repeat' (first | exact trivial | exact rfl | apply And.intro | (intro _ hle; first | refine chunk_le hA rfl hle rfl ?_ | refine cat_le hA ?_ | refine upd_le hA ?_ | (try cbv))))
  · have hrr := refright_fn (P := P) (G := G) (r := false) (d := d) (w := w) (t := t) (s := s) (e := e) (k := k) (p := p) (h := h) (tr := tr) (ke := ke) (no := no) hP ⟨fun h' => (by cases h'), fun h' => absurd h' hR⟩ hh
    have hT : T.Ok P := hP ▸ T_ok
    refine FnTr.intro (fn := Try.f8) (c := bodyOf Try.f8) (by rw [hP]; rfl) rfl rfl hT ?_
    generalize hA : Ar.real = A
    generalize hK : Gives _ _ _ = K
    cbv
    refine CS.leR hA hrr (.bl false) [] rfl rfl rfl ?_ ?_ ?_ ?_
    · (try cbv) <;> (repeat' (first | exact trivial | exact rfl | apply And.intro | (intro _ hle; first | refine chunk_le hA rfl hle rfl ?_ | refine cat_le hA ?_ | refine upd_le hA ?_ | (try cbv))))
    · (try cbv) <;> (repeat' (first | exact trivial | exact rfl | apply And.intro | (intro _ hle; first | refine chunk_le hA rfl hle rfl ?_ | refine cat_le hA ?_ | refine upd_le hA ?_ | (try cbv))))
    · (try cbv) <;> (repeat' (first | exact trivial | exact rfl | apply And.intro | (intro _ hle; first | refine chunk_le hA rfl hle rfl ?_ | refine cat_le hA ?_ | refine upd_le hA ?_ | (try cbv))))
    cbv
    refine CS.le hA (lives_fn hP) [] rfl rfl rfl ?_ ?_ ?_
    · (try cbv) <;> (repeat' (first | exact trivial | exact rfl | apply And.intro | (intro _ hle; first | refine chunk_le hA rfl hle rfl ?_ | refine cat_le hA ?_ | refine upd_le hA ?_ | (try cbv))))
    · (try cbv) <;> (repeat' (first | exact trivial | exact rfl | apply And.intro | (intro _ hle; first | refine chunk_le hA rfl hle rfl ?_ | refine cat_le hA ?_ | refine upd_le hA ?_ | (try cbv))))
    cbv
    refine Fin.le hA 0 [] (.bl true) ([]) 60 rfl rfl rfl ?_ ?_ (by rw [← hK]; exact ⟨rfl, rfl, rfl⟩)
    · (try cbv) <;> (repeat' (first | exact trivial | exact rfl | apply And.intro | (intro _ hle; first | refine chunk_le hA rfl hle rfl ?_ | refine cat_le hA ?_ | refine upd_le hA ?_ | (try cbv))))
    · (try cbv) <;> (repeat' (first | exact trivial | exact rfl | apply And.intro | (intro _ hle; first | refine chunk_le hA rfl hle rfl ?_ | refine cat_le hA ?_ | refine upd_le hA ?_ | (try cbv))))
end Go.Proofs.Ytkaobalnjimniaa
