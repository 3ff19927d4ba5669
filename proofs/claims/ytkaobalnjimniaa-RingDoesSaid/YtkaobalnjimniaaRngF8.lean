/-
  Rings: lists of events: too many, the same; one more.
-/
import Derived.Test.YtkaobalnjimniaaRngF7
import Derived.Test.YtkaobalnjimniaaEngThree
set_option linter.unusedVariables false
set_option linter.unusedSimpArgs false
namespace Go.Proofs.Ytkaobalnjimniaa.Rng
open Go.Eng
open Go.RngLaw (Sn sn zSn rgP manyC firstC)
open Go.Proofs.Ytkaobalnjimniaa.Vec (same_fn all_steps reforder_fn OrdIs cmpV)
set_option maxRecDepth 100000
set_option maxHeartbeats 4000000
set_option linter.unusedVariables false

abbrev SnS (n : Nat) (f : Nat → Sn) : SV := .ro 5 (.s n) (fun e => sn (f e.val))

theorem sameall_fn {P : Program} {G : Gl} (hP : P = Try.prog) {n : Nat} {f g : Nat → Sn} (hn : n ≤ 1000000) (h : ∀ i, i < n → SameS (f i) (g i) ∧ (f i).xl ≤ 1000000 ∧ (g i).xl ≤ 1000000) :
    FnTr P G 22 [SnS n f, SnS n g] [] 0 (Gives (.bl true) [] 0) := by
  have c1 : ∀ i, i < n → FnTr P G 21 [.agg (sn (f i)), .agg (sn (g i))] [] 0 (Gives (.bs true) [] 2) := fun i hi => refsame_fn hP (h i hi).2.1 (h i hi).2.2 ⟨fun _ => (h i hi).1, fun _ => rfl⟩
  clear h
  have hT : T.Ok P := hP ▸ T_ok
  refine FnTr.intro (fn := Try.f22) (c := bodyOf Try.f22) (by rw [hP]; rfl) rfl rfl hT ?_
  generalize hA : Ar.real = A
  generalize hK : Gives _ _ _ = K
  cbv
  have k1 : A.ne (A.i2 n) (A.i2 n) = false := by subst hA; simp [Ar.real]
  repeat' (first | (refine ⟨fun h => absurd (h.symm.trans k1) (by decide), fun _ => ?_⟩; cbv) | (refine ⟨fun _ => ?_, fun h => absurd (h.symm.trans k1) (by decide)⟩; cbv))
  refine LS.le hT hA 0 (fun (i : Nat) => [(5, .int .i64 (i : Int))]) (fun _ => []) (fun i => i ≤ n) (fun i => n - i) 0 [] rfl rfl ?_ ?_ ?_
  · (try cbv) <;> (repeat' (first | exact trivial | exact rfl | apply And.intro | (intro _ hle; first | refine chunk_le hA rfl hle rfl ?_ | refine cat_le hA ?_ | refine upd_le hA ?_ | (try cbv))))
  · exact Nat.zero_le _
  · intro R hR i hi
    cbv
    refine ⟨fun h1 => ?_, fun h1 => ?_⟩
    · have him : i < n := by clear c1; subst hA; simp [Ar.real] at h1; omega
      have a1 := c1 i him
      clear c1
      cbv
      refine DS.runK hA hT (by rw [hP]; exact P_mixed) 2 rfl ?_
      cbv
      refine ⟨(by (subst hA; (try simp only [natCast_eq] at *); (simp only [Ar.real, NV.val, Int.ofNat_eq_natCast, Int.toNat_natCast]); first | done | omega | decide | exact inR64 (by omega) (by omega) | (refine ⟨?_, ?_⟩ <;> first | omega | decide | exact inR64 (by omega) (by omega)))), (by (subst hA; (try simp only [natCast_eq] at *); (simp only [Ar.real, NV.val, Int.ofNat_eq_natCast, Int.toNat_natCast]); first | done | omega | decide | exact inR64 (by omega) (by omega) | (refine ⟨?_, ?_⟩ <;> first | omega | decide | exact inR64 (by omega) (by omega)))), ?_⟩
      refine CD.pass hA (FnTr.res hA a1 (.bl true) rfl) [] [] rfl ⟨rfl, rfl, rfl, rfl, ?_, ?_⟩ rfl (.inl rfl) ?_
      · (try cbv) <;> (repeat' (first | exact trivial | exact rfl | apply And.intro | (intro _ hle; first | refine chunk_le hA rfl hle rfl ?_ | refine cat_le hA ?_ | refine upd_le hA ?_ | (try cbv))))
        all_goals (subst hA; rfl)
      · (try cbv) <;> (repeat' (first | exact trivial | exact rfl | apply And.intro | (intro _ hle; first | refine chunk_le hA rfl hle rfl ?_ | refine cat_le hA ?_ | refine upd_le hA ?_ | (try cbv))))
      cbv
      refine DF.fin (by kernel_rfl) (by kernel_rfl) ?_
      cbv
      refine ⟨(by (subst hA; (try simp only [natCast_eq] at *); (simp only [Ar.real, NV.val, Int.ofNat_eq_natCast, Int.toNat_natCast]); first | done | omega | decide | exact inR64 (by omega) (by omega) | (refine ⟨?_, ?_⟩ <;> first | omega | decide | exact inR64 (by omega) (by omega)))), hR _ _ ⟨i + 1, 0, [], rfl, rfl, ?_, him, (by show n - (i + 1) < n - i; omega)⟩⟩
      clear hR
      (try cbv) <;> (repeat' (first | exact trivial | exact rfl | apply And.intro | (intro _ hle; first | refine chunk_le hA rfl hle rfl ?_ | refine cat_le hA ?_ | refine upd_le hA ?_ | (try cbv))))
      (subst hA; (try simp only [natCast_eq] at *); (simp only [Ar.real, NV.val, Int.ofNat_eq_natCast, Int.toNat_natCast]); first | done | omega | decide | exact inR64 (by omega) (by omega) | (refine ⟨?_, ?_⟩ <;> first | omega | decide | exact inR64 (by omega) (by omega)))
    · clear hR c1
      cbv
      refine Fin.le hA 0 [] (.bl true) ([]) 0 rfl rfl rfl ?_ ?_ (by rw [← hK]; exact ⟨rfl, rfl, rfl⟩)
      · (try cbv) <;> (repeat' (first | exact trivial | exact rfl | apply And.intro | (intro _ hle; first | refine chunk_le hA rfl hle rfl ?_ | refine cat_le hA ?_ | refine upd_le hA ?_ | (try cbv))))
      · (try cbv) <;> (repeat' (first | exact trivial | exact rfl | apply And.intro | (intro _ hle; first | refine chunk_le hA rfl hle rfl ?_ | refine cat_le hA ?_ | refine upd_le hA ?_ | (try cbv))))

/-- Equal rows of rows. -/
theorem sameall8_fn {P : Program} {G : Gl} (hP : P = Try.prog) {n : Nat} {lf lg : Nat → Nat} {f g : Nat → Nat → Int} (hn : n ≤ 1000000) (h : ∀ i, i < n → lf i = lg i ∧ lf i ≤ 1000000 ∧ ∀ j, j < lf i → f i j = g i j) :
    FnTr P G 27 [.ro 1 (.s n) (fun e => [.ro 1 (.s (lf e.val)) (fun x => [.int .i64 (f e.val x.val)])]), .ro 1 (.s n) (fun e => [.ro 1 (.s (lg e.val)) (fun x => [.int .i64 (g e.val x.val)])])] [] 0 (Gives (.bl true) [] 0) := by
  have c1 : ∀ i, i < n → FnTr P G 58 [.ro 1 (.s (lf i)) (fun e => [.int .i64 (f i e.val)]), .ro 1 (.s (lg i)) (fun e => [.int .i64 (g i e.val)])] [] 0 (Gives (.int .i64 0) [] 0) := fun i hi => by
    obtain ⟨h1, h2, h3⟩ := h i hi
    refine reforder_fn hP (by omega) (by omega) ⟨fun j a b c d => absurd (h3 j a) d, fun _ => ?_⟩
    rw [h1]; unfold cmpV; rw [if_neg (Int.lt_irrefl _), if_neg (Int.lt_irrefl _)]
  clear h
  have hT : T.Ok P := hP ▸ T_ok
  refine FnTr.intro (fn := Try.f27) (c := bodyOf Try.f27) (by rw [hP]; rfl) rfl rfl hT ?_
  generalize hA : Ar.real = A
  generalize hK : Gives _ _ _ = K
  cbv
  have k1 : A.ne (A.i2 n) (A.i2 n) = false := by subst hA; simp [Ar.real]
  repeat' (first | (refine ⟨fun h => absurd (h.symm.trans k1) (by decide), fun _ => ?_⟩; cbv) | (refine ⟨fun _ => ?_, fun h => absurd (h.symm.trans k1) (by decide)⟩; cbv))
  refine LS.le hT hA 0 (fun (i : Nat) => [(5, .int .i64 (i : Int))]) (fun _ => []) (fun i => i ≤ n) (fun i => n - i) 0 [] rfl rfl ?_ ?_ ?_
  · (try cbv) <;> (repeat' (first | exact trivial | exact rfl | apply And.intro | (intro _ hle; first | refine chunk_le hA rfl hle rfl ?_ | refine cat_le hA ?_ | refine upd_le hA ?_ | (try cbv))))
  · exact Nat.zero_le _
  · intro R hR i hi
    cbv
    refine ⟨fun h1 => ?_, fun h1 => ?_⟩
    · have him : i < n := by clear c1; subst hA; simp [Ar.real] at h1; omega
      have a1 := c1 i him
      clear c1
      cbv
      refine DS.runK hA hT (by rw [hP]; exact P_mixed) 2 rfl ?_
      cbv
      refine ⟨(by (subst hA; (try simp only [natCast_eq] at *); (simp only [Ar.real, NV.val, Int.ofNat_eq_natCast, Int.toNat_natCast]); first | done | omega | decide | exact inR64 (by omega) (by omega) | (refine ⟨?_, ?_⟩ <;> first | omega | decide | exact inR64 (by omega) (by omega)))), (by (subst hA; (try simp only [natCast_eq] at *); (simp only [Ar.real, NV.val, Int.ofNat_eq_natCast, Int.toNat_natCast]); first | done | omega | decide | exact inR64 (by omega) (by omega) | (refine ⟨?_, ?_⟩ <;> first | omega | decide | exact inR64 (by omega) (by omega)))), ?_⟩
      refine CD.pass hA (FnTr.res hA a1 (.lit .i64 0) rfl) [] [] rfl ⟨rfl, rfl, rfl, rfl, ?_, ?_⟩ rfl (.inl rfl) ?_
      · (try cbv) <;> (repeat' (first | exact trivial | exact rfl | apply And.intro | (intro _ hle; first | refine chunk_le hA rfl hle rfl ?_ | refine cat_le hA ?_ | refine upd_le hA ?_ | (try cbv))))
        all_goals (subst hA; rfl)
      · (try cbv) <;> (repeat' (first | exact trivial | exact rfl | apply And.intro | (intro _ hle; first | refine chunk_le hA rfl hle rfl ?_ | refine cat_le hA ?_ | refine upd_le hA ?_ | (try cbv))))
      cbv
      refine DF.fin (by kernel_rfl) (by kernel_rfl) ?_
      cbv
      refine ⟨(by (subst hA; (try simp only [natCast_eq] at *); (simp only [Ar.real, NV.val, Int.ofNat_eq_natCast, Int.toNat_natCast]); first | done | omega | decide | exact inR64 (by omega) (by omega) | (refine ⟨?_, ?_⟩ <;> first | omega | decide | exact inR64 (by omega) (by omega)))), hR _ _ ⟨i + 1, 0, [], rfl, rfl, ?_, him, (by show n - (i + 1) < n - i; omega)⟩⟩
      clear hR
      (try cbv) <;> (repeat' (first | exact trivial | exact rfl | apply And.intro | (intro _ hle; first | refine chunk_le hA rfl hle rfl ?_ | refine cat_le hA ?_ | refine upd_le hA ?_ | (try cbv))))
      (subst hA; (try simp only [natCast_eq] at *); (simp only [Ar.real, NV.val, Int.ofNat_eq_natCast, Int.toNat_natCast]); first | done | omega | decide | exact inR64 (by omega) (by omega) | (refine ⟨?_, ?_⟩ <;> first | omega | decide | exact inR64 (by omega) (by omega)))
    · clear hR c1
      cbv
      refine Fin.le hA 0 [] (.bl true) ([]) 0 rfl rfl rfl ?_ ?_ (by rw [← hK]; exact ⟨rfl, rfl, rfl⟩)
      · (try cbv) <;> (repeat' (first | exact trivial | exact rfl | apply And.intro | (intro _ hle; first | refine chunk_le hA rfl hle rfl ?_ | refine cat_le hA ?_ | refine upd_le hA ?_ | (try cbv))))
      · (try cbv) <;> (repeat' (first | exact trivial | exact rfl | apply And.intro | (intro _ hle; first | refine chunk_le hA rfl hle rfl ?_ | refine cat_le hA ?_ | refine upd_le hA ?_ | (try cbv))))

/-- One more, both ways. -/
theorem refpush_fn {P : Program} {G : Gl} (hP : P = Try.prog) {n room n' : Nat} {g ga g' : Nat → Sn} {s z : Sn} {b : Bool} (hn : n ≤ 1000000) (hr : room ≤ 1000000) (hga : ∀ i, ga i = if i < n then g i else s)
    (h : (n < room ∧ b = false ∧ n' = n + 1 ∧ z = zSn ∧ ∀ i, i < n' → g' i = ga i) ∨ (room ≤ n ∧ b = true ∧ n' = n ∧ z = ga 0 ∧ ∀ i, i < n' → g' i = ga (1 + i))) :
    FnTr P G 19 [SnS n g, .int .i64 (room : Int), .agg (sn s)] [] 0 (Gives (.tup [SnS n' g', .agg (sn z), .bl b]) [] 60) := by
  obtain ⟨n1, hn1⟩ : ∃ n1, n1 = n + 1 := ⟨_, rfl⟩
  rcases h with ⟨h1, rfl, rfl, h2, h3⟩ | ⟨h1, rfl, rfl, h2, h3⟩
  · rw [← hn1] at h3 ⊢
    have h0 : FnTr P G 19 [SnS n g, .int .i64 (room : Int), .agg (sn s)] [] 0 (Gives (.tup [.sl 0 5 (.l 0) (.s n1), .agg (sn z), .bl false]) [(0, .row 34 5 (.s n1) (fun e => sn (g' e.val)))] 60) := by
      have hT : T.Ok P := hP ▸ T_ok
      refine FnTr.intro (fn := Try.f19) (c := bodyOf Try.f19) (by rw [hP]; rfl) rfl rfl hT ?_
      generalize hA : Ar.real = A
      generalize hK : Gives _ _ _ = K
      cbv
      refine DS.runK hA hT (by rw [hP]; exact P_mixed) 1 rfl ?_
      cbv
      have hpush : ∀ e, ltNV A e (.s (A.addN n 1)) → leL (leSV A 4) (catG A 5 (.s n) (fun e => sn (g e.val)) (fun x => chunkS A 5 (sn s) (addNV A (.l 0) x)) e) (sn (g' e.val)) := fun e he => by
        have he : e.val < n + 1 := by subst hA; exact ltNV_real.1 he
        refine Go.RngLaw.sn_cat hA (by omega) ?_
        rw [h3 _ (by omega), hga]
      refine ⟨⟨(by (subst hA; (try simp only [natCast_eq] at *); (simp only [Ar.real, NV.val, Int.ofNat_eq_natCast, Int.toNat_natCast]); first | done | omega | decide | exact inR64 (by omega) (by omega) | (refine ⟨?_, ?_⟩ <;> first | omega | decide | exact inR64 (by omega) (by omega)))), (by (subst hA; (try simp only [natCast_eq] at *); (simp only [Ar.real, NV.val, Int.ofNat_eq_natCast, Int.toNat_natCast]); first | done | omega | decide | exact inR64 (by omega) (by omega) | (refine ⟨?_, ?_⟩ <;> first | omega | decide | exact inR64 (by omega) (by omega))))⟩, ⟨(by (subst hA; (try simp only [natCast_eq] at *); (simp only [Ar.real, NV.val, Int.ofNat_eq_natCast, Int.toNat_natCast]); first | done | omega | decide | exact inR64 (by omega) (by omega) | (refine ⟨?_, ?_⟩ <;> first | omega | decide | exact inR64 (by omega) (by omega)))), (by (subst hA; (try simp only [natCast_eq] at *); (simp only [Ar.real, NV.val, Int.ofNat_eq_natCast, Int.toNat_natCast]); first | done | omega | decide | exact inR64 (by omega) (by omega) | (refine ⟨?_, ?_⟩ <;> first | omega | decide | exact inR64 (by omega) (by omega)))), (by (subst hA; (try simp only [natCast_eq] at *); (simp only [Ar.real, NV.val, Int.ofNat_eq_natCast, Int.toNat_natCast]); first | done | omega | decide | exact inR64 (by omega) (by omega) | (refine ⟨?_, ?_⟩ <;> first | omega | decide | exact inR64 (by omega) (by omega))))⟩, ?_⟩
      refine DF.fin (by kernel_rfl) (by kernel_rfl) ?_
      cbv
      refine ⟨fun q1 => by exfalso; (subst hA; simp only [Ar.real, NV.val, Int.ofNat_eq_natCast, Int.toNat_natCast, decide_eq_true_eq, decide_eq_false_iff_not, Bool.not_true, Bool.not_false, beq_iff_eq, bne_iff_ne, beq_eq_false_iff_ne, bne_eq_false_iff_eq, ne_eq, Bool.not_eq_true', Bool.not_eq_false', natCast_eq] at *; first | contradiction | omega | (generalize Int.tmod _ _ = qtm at *; omega)), fun q1 => ?_⟩
      cbv
      refine Fin.le hA 0 [(9, 0)] (.tup [.sl 0 5 (.l 0) (.s n1), .agg (sn z), .bl false]) ([(0, .row 34 5 (.s n1) (fun e => sn (g' e.val)))]) 60 rfl rfl rfl ?_ ?_ (by rw [← hK]; exact ⟨rfl, rfl, rfl⟩)
      · (try cbv) <;> (repeat' (first | exact trivial | exact rfl | apply And.intro | (intro _ hle; first | refine chunk_le hA rfl hle rfl ?_ | refine cat_le hA ?_ | refine upd_le hA ?_ | (try cbv))))
        all_goals first | (subst hA; exact hn1.symm) | (show (0 : Int) = _; rw [h2]; rfl) | (show _ = (0 : Nat); rw [h2]; rfl) | (show false = _; rw [h2]; rfl)
      · (try cbv) <;> (repeat' (first | exact trivial | exact rfl | apply And.intro | (intro _ hle; first | exact hpush _ hle | refine chunk_le hA rfl hle rfl ?_ | refine cat_le hA ?_ | refine upd_le hA ?_ | refine int_le ?_ | skip)))
        all_goals (subst hA; exact hn1.symm)
    generalize hA : Ar.real = A
    refine FnTr.dat hA h0 _ _ ?_
    (try cbv) <;> (repeat' (first | exact trivial | exact rfl | apply And.intro | (intro _ hle; first | refine chunk_le hA rfl hle rfl ?_ | refine cat_le hA ?_ | refine upd_le hA ?_ | refine int_le ?_ | skip)))
    all_goals (subst hA; (try simp only [natCast_eq] at *); (simp only [Ar.real, NV.val, Int.ofNat_eq_natCast, Int.toNat_natCast]); first | done | omega | decide | exact inR64 (by omega) (by omega) | (refine ⟨?_, ?_⟩ <;> first | omega | decide | exact inR64 (by omega) (by omega)))
  · have h0 : FnTr P G 19 [SnS n' g, .int .i64 (room : Int), .agg (sn s)] [] 0 (Gives (.tup [.sl 0 5 (.l 1) (.s n'), .agg (sn z), .bl true]) [(0, .row 34 5 (.s n1) (fun e => sn (ga e.val)))] 60) := by
      have hT : T.Ok P := hP ▸ T_ok
      refine FnTr.intro (fn := Try.f19) (c := bodyOf Try.f19) (by rw [hP]; rfl) rfl rfl hT ?_
      generalize hA : Ar.real = A
      generalize hK : Gives _ _ _ = K
      cbv
      refine DS.runK hA hT (by rw [hP]; exact P_mixed) 1 rfl ?_
      cbv
      have hpush : ∀ e, ltNV A e (.s (A.addN n' 1)) → leL (leSV A 4) (catG A 5 (.s n') (fun e => sn (g e.val)) (fun x => chunkS A 5 (sn s) (addNV A (.l 0) x)) e) (sn (ga e.val)) := fun e he => by
        have he : e.val < n' + 1 := by subst hA; exact ltNV_real.1 he
        refine Go.RngLaw.sn_cat hA (by omega) ?_
        rw [hga]
      have hz : leL (leSV A 4) (catG A 5 (.s n') (fun e => sn (g e.val)) (fun x => chunkS A 5 (sn s) (addNV A (.l 0) x)) (.l 0)) (sn z) := by
        rw [h2]
        exact Go.RngLaw.sn_cat (n := n') (e := .l 0) hA (Nat.zero_le _) (by rw [hga]; rfl)
      refine ⟨⟨(by (subst hA; (try simp only [natCast_eq] at *); (simp only [Ar.real, NV.val, Int.ofNat_eq_natCast, Int.toNat_natCast]); first | done | omega | decide | exact inR64 (by omega) (by omega) | (refine ⟨?_, ?_⟩ <;> first | omega | decide | exact inR64 (by omega) (by omega)))), (by (subst hA; (try simp only [natCast_eq] at *); (simp only [Ar.real, NV.val, Int.ofNat_eq_natCast, Int.toNat_natCast]); first | done | omega | decide | exact inR64 (by omega) (by omega) | (refine ⟨?_, ?_⟩ <;> first | omega | decide | exact inR64 (by omega) (by omega))))⟩, ⟨(by (subst hA; (try simp only [natCast_eq] at *); (simp only [Ar.real, NV.val, Int.ofNat_eq_natCast, Int.toNat_natCast]); first | done | omega | decide | exact inR64 (by omega) (by omega) | (refine ⟨?_, ?_⟩ <;> first | omega | decide | exact inR64 (by omega) (by omega)))), (by (subst hA; (try simp only [natCast_eq] at *); (simp only [Ar.real, NV.val, Int.ofNat_eq_natCast, Int.toNat_natCast]); first | done | omega | decide | exact inR64 (by omega) (by omega) | (refine ⟨?_, ?_⟩ <;> first | omega | decide | exact inR64 (by omega) (by omega)))), (by (subst hA; (try simp only [natCast_eq] at *); (simp only [Ar.real, NV.val, Int.ofNat_eq_natCast, Int.toNat_natCast]); first | done | omega | decide | exact inR64 (by omega) (by omega) | (refine ⟨?_, ?_⟩ <;> first | omega | decide | exact inR64 (by omega) (by omega))))⟩, ?_⟩
      refine DF.fin (by kernel_rfl) (by kernel_rfl) ?_
      cbv
      refine ⟨fun q1 => ?_, fun q1 => by exfalso; (subst hA; simp only [Ar.real, NV.val, Int.ofNat_eq_natCast, Int.toNat_natCast, decide_eq_true_eq, decide_eq_false_iff_not, Bool.not_true, Bool.not_false, beq_iff_eq, bne_iff_ne, beq_eq_false_iff_ne, bne_eq_false_iff_eq, ne_eq, Bool.not_eq_true', Bool.not_eq_false', natCast_eq] at *; first | contradiction | omega | (generalize Int.tmod _ _ = qtm at *; omega))⟩
      cbv
      refine DS.blk hA 9 (.row 34 5 (.s n1) (fun e => sn (ga e.val))) ?_ ?_
      · (try cbv) <;> (repeat' (first | exact trivial | exact rfl | apply And.intro | (intro _ hle; first | exact hpush _ hle | refine chunk_le hA rfl hle rfl ?_ | refine cat_le hA ?_ | refine upd_le hA ?_ | refine int_le ?_ | skip)))
        subst hA; exact hn1.symm
      cbv
      refine DS.runK hA hT (by rw [hP]; exact P_mixed) 1 rfl ?_
      cbv
      refine ⟨⟨(by (subst hA; (try simp only [natCast_eq] at *); (simp only [Ar.real, NV.val, Int.ofNat_eq_natCast, Int.toNat_natCast]); first | done | omega | decide | exact inR64 (by omega) (by omega) | (refine ⟨?_, ?_⟩ <;> first | omega | decide | exact inR64 (by omega) (by omega)))), (by (subst hA; (try simp only [natCast_eq] at *); (simp only [Ar.real, NV.val, Int.ofNat_eq_natCast, Int.toNat_natCast]); first | done | omega | decide | exact inR64 (by omega) (by omega) | (refine ⟨?_, ?_⟩ <;> first | omega | decide | exact inR64 (by omega) (by omega)))), (by (subst hA; (try simp only [natCast_eq] at *); (simp only [Ar.real, NV.val, Int.ofNat_eq_natCast, Int.toNat_natCast]); first | done | omega | decide | exact inR64 (by omega) (by omega) | (refine ⟨?_, ?_⟩ <;> first | omega | decide | exact inR64 (by omega) (by omega))))⟩, (by (subst hA; (try simp only [natCast_eq] at *); (simp only [Ar.real, NV.val, Int.ofNat_eq_natCast, Int.toNat_natCast]); first | done | omega | decide | exact inR64 (by omega) (by omega) | (refine ⟨?_, ?_⟩ <;> first | omega | decide | exact inR64 (by omega) (by omega)))), (by (subst hA; (try simp only [natCast_eq] at *); (simp only [Ar.real, NV.val, Int.ofNat_eq_natCast, Int.toNat_natCast]); first | done | omega | decide | exact inR64 (by omega) (by omega) | (refine ⟨?_, ?_⟩ <;> first | omega | decide | exact inR64 (by omega) (by omega)))), ?_⟩
      refine DF.fin (by kernel_rfl) (by kernel_rfl) ?_
      cbv
      refine Fin.le hA 0 [(9, 0)] (.tup [.sl 0 5 (.l 1) (.s n'), .agg (sn z), .bl true]) ([(0, .row 34 5 (.s n1) (fun e => sn (ga e.val)))]) 60 rfl rfl rfl ?_ ?_ (by rw [← hK]; exact ⟨rfl, rfl, rfl⟩)
      · (try cbv) <;> (repeat' (first | exact trivial | exact rfl | apply And.intro | (intro _ hle; first | refine chunk_le hA rfl hle rfl ?_ | refine cat_le hA ?_ | refine upd_le hA ?_ | (try cbv))))
        all_goals first | ((subst hA; (try simp only [natCast_eq] at *); (simp only [Ar.real, NV.val, Int.ofNat_eq_natCast, Int.toNat_natCast]); first | done | omega | decide | exact inR64 (by omega) (by omega) | (refine ⟨?_, ?_⟩ <;> first | omega | decide | exact inR64 (by omega) (by omega))); done) | (rw [h2]; rfl)
      · (try cbv) <;> (repeat' (first | exact trivial | exact rfl | apply And.intro | (intro _ hle; first | refine chunk_le hA rfl hle rfl ?_ | refine cat_le hA ?_ | refine upd_le hA ?_ | refine int_le ?_ | skip)))
    have hlast : ∀ {A : Ar}, Ar.real = A → ∀ e, ltNV A e (.s n') → ga (addNV A (.l 1) e).val = g' e.val := fun {A} hA e he => by
      subst hA
      have he : e.val < n' := ltNV_real.1 he
      rw [addNV_val, h3 _ he]; rfl
    generalize hA : Ar.real = A
    have hlast := hlast hA
    refine FnTr.dat hA h0 _ _ ?_
    (try cbv) <;> (repeat' (first | exact trivial | exact rfl | apply And.intro | (intro _ hle; first | refine chunk_le hA rfl hle rfl ?_ | refine cat_le hA ?_ | refine upd_le hA ?_ | refine int_le ?_ | skip)))
    all_goals first | ((subst hA; (try simp only [natCast_eq] at *); (simp only [Ar.real, NV.val, Int.ofNat_eq_natCast, Int.toNat_natCast]); first | done | omega | decide | exact inR64 (by omega) (by omega) | (refine ⟨?_, ?_⟩ <;> first | omega | decide | exact inR64 (by omega) (by omega))); done) | (rw [← hlast _ (by assumption)]; rfl) | exact congrArg Sn.xl (hlast _ (by assumption)) | exact congrArg (fun s => Sn.x s _) (hlast _ (by assumption))

def MuchS (k : Nat) (l : Nat → Sn) (most : Int) : Prop := most < (k : Int) ∨ ∃ i, i < k ∧ 20 < (l i).xl
theorem muchS_ex (k : Nat) (l : Nat → Sn) (most : Int) : ∃ r : Bool, r = true ↔ MuchS k l most := by
  by_cases h : MuchS k l most
  · exact ⟨true, fun _ => h, fun _ => rfl⟩
  · exact ⟨false, fun h => by (cases h), fun h' => absurd h' h⟩

theorem muchs_fn {P : Program} {G : Gl} (hP : P = Try.prog) {k : Nat} {l : Nat → Sn} {most : Int} {r : Bool} (hk : k ≤ 9223372036854775807) (hr : r = true ↔ MuchS k l most) :
    FnTr P G 14 [SnS k l, .int .i64 most] [] 0 (Gives (.bs r) [] 0) := by
  obtain ⟨Q, hQ0, hQs, hQn, hQm⟩ := all_steps (fun i => (l i).xl ≤ 20)
  have h1 : most < (k : Int) → r = true := fun h => hr.2 (.inl h)
  have h2 : ∀ i, i < k → 20 < (l i).xl → r = true := fun i hi h => hr.2 (.inr ⟨i, hi, h⟩)
  have h3 : ¬ most < (k : Int) → Q k → r = false := fun ha hb => by
    cases r with
    | false => rfl
    | true =>
      rcases hr.1 rfl with h | ⟨i, hi, h⟩
      · exact absurd h ha
      · have := (hQn k).1 hb i hi; omega
  clear hr hQn hQm
  have hT : T.Ok P := hP ▸ T_ok
  refine FnTr.intro (fn := Try.f14) (c := bodyOf Try.f14) (by rw [hP]; rfl) rfl rfl hT ?_
  generalize hA : Ar.real = A
  generalize hK : Gives _ _ _ = K
  cbv
  refine ⟨fun h => ?_, fun h => ?_⟩
  · have hrr := h1 (by clear hQs; subst hA; simp only [Ar.real, Int.ofNat_eq_natCast, decide_eq_true_eq, gt_iff_lt] at h; simp only [natCast_eq] at *; omega)
    cbv
    refine Fin.le hA 0 [] (.bs r) ([]) 0 rfl rfl rfl ?_ ?_ (by rw [← hK]; exact ⟨rfl, rfl, rfl⟩)
    · (try cbv) <;> (repeat' (first | exact trivial | exact rfl | apply And.intro | (intro _ hle; first | refine chunk_le hA rfl hle rfl ?_ | refine cat_le hA ?_ | refine upd_le hA ?_ | (try cbv))))
      exact hrr.symm
    · (try cbv) <;> (repeat' (first | exact trivial | exact rfl | apply And.intro | (intro _ hle; first | refine chunk_le hA rfl hle rfl ?_ | refine cat_le hA ?_ | refine upd_le hA ?_ | (try cbv))))
  · have h4 : ¬ most < (k : Int) := by clear hQs; subst hA; simp only [Ar.real, Int.ofNat_eq_natCast, decide_eq_false_iff_not, gt_iff_lt] at h; simp only [natCast_eq] at *; omega
    cbv
    refine LS.le hT hA 0 (fun (i : Nat) => [(5, .int .i64 (i : Int))]) (fun _ => []) (fun i => i ≤ k ∧ Q i) (fun i => k - i) 0 [] rfl rfl ?_ ?_ ?_
    · (try cbv) <;> (repeat' (first | exact trivial | exact rfl | apply And.intro | (intro _ hle; first | refine chunk_le hA rfl hle rfl ?_ | refine cat_le hA ?_ | refine upd_le hA ?_ | (try cbv))))
    · exact ⟨Nat.zero_le _, hQ0⟩
    · intro R hR i hq
      cbv
      obtain ⟨g1, g2⟩ := hq
      refine ⟨fun h5 => ?_, fun h5 => ?_⟩
      · have hi : i < k := by clear hQs; subst hA; simp only [Ar.real] at h5; simp at h5; omega
        have hl : l (Int.toNat (Int.ofNat i)) = l i := rfl
        cbv
        refine ⟨(by (subst hA; (try simp only [natCast_eq] at *); (simp only [Ar.real, NV.val, Int.ofNat_eq_natCast, Int.toNat_natCast]); first | done | omega | decide | exact inR64 (by omega) (by omega) | (refine ⟨?_, ?_⟩ <;> first | omega | decide | exact inR64 (by omega) (by omega)))), fun h6 => ?_, fun h6 => ?_⟩
        · have hrr := h2 i hi (by clear hR hQs; subst hA; simp only [Ar.real, NV.val, hl] at h6; simp at h6; first | exact h6 | (show _ < _; exact Int.ofNat_lt.1 h6) | (show _ ≤ _; exact Int.ofNat_le.1 h6))
          clear hR
          cbv
          refine Fin.le hA 0 [] (.bs r) ([]) 0 rfl rfl rfl ?_ ?_ (by rw [← hK]; exact ⟨rfl, rfl, rfl⟩)
          · (try cbv) <;> (repeat' (first | exact trivial | exact rfl | apply And.intro | (intro _ hle; first | refine chunk_le hA rfl hle rfl ?_ | refine cat_le hA ?_ | refine upd_le hA ?_ | (try cbv))))
            exact hrr.symm
          · (try cbv) <;> (repeat' (first | exact trivial | exact rfl | apply And.intro | (intro _ hle; first | refine chunk_le hA rfl hle rfl ?_ | refine cat_le hA ?_ | refine upd_le hA ?_ | (try cbv))))
        · have hl20 : (l i).xl ≤ 20 := by clear hR hQs; subst hA; simp only [Ar.real, NV.val, hl] at h6; simp at h6; first | exact h6 | (show _ < _; exact Int.ofNat_lt.1 h6) | (show _ ≤ _; exact Int.ofNat_le.1 h6)
          have hq2 : Q (i + 1) := (hQs i).2 ⟨g2, hl20⟩
          clear hQs
          cbv
          refine ⟨(by (subst hA; (try simp only [natCast_eq] at *); (simp only [Ar.real, NV.val, Int.ofNat_eq_natCast, Int.toNat_natCast]); first | done | omega | decide | exact inR64 (by omega) (by omega) | (refine ⟨?_, ?_⟩ <;> first | omega | decide | exact inR64 (by omega) (by omega)))), hR _ _ ⟨i + 1, 0, [], rfl, rfl, ?_, ⟨hi, hq2⟩, (by show k - (i + 1) < k - i; omega)⟩⟩
          clear hR
          (try cbv) <;> (repeat' (first | exact trivial | exact rfl | apply And.intro | (intro _ hle; first | refine chunk_le hA rfl hle rfl ?_ | refine cat_le hA ?_ | refine upd_le hA ?_ | (try cbv))))
          (subst hA; (try simp only [natCast_eq] at *); (simp only [Ar.real, NV.val, Int.ofNat_eq_natCast, Int.toNat_natCast]); first | done | omega | decide | exact inR64 (by omega) (by omega) | (refine ⟨?_, ?_⟩ <;> first | omega | decide | exact inR64 (by omega) (by omega)))
      · clear hR
        have hi : i = k := by clear hQs; subst hA; simp only [Ar.real] at h5; simp at h5; omega
        subst hi
        have hrr := h3 h4 g2
        clear hQs
        cbv
        refine Fin.le hA 0 [] (.bs r) ([]) 0 rfl rfl rfl ?_ ?_ (by rw [← hK]; exact ⟨rfl, rfl, rfl⟩)
        · (try cbv) <;> (repeat' (first | exact trivial | exact rfl | apply And.intro | (intro _ hle; first | refine chunk_le hA rfl hle rfl ?_ | refine cat_le hA ?_ | refine upd_le hA ?_ | (try cbv))))
          exact hrr.symm
        · (try cbv) <;> (repeat' (first | exact trivial | exact rfl | apply And.intro | (intro _ hle; first | refine chunk_le hA rfl hle rfl ?_ | refine cat_le hA ?_ | refine upd_le hA ?_ | (try cbv))))
end Go.Proofs.Ytkaobalnjimniaa.Rng
