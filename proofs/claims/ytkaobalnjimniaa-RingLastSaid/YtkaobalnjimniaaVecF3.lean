/-
  Vectors: ends of numbers; which numbers are parts of planes.
-/
import Derived.Test.YtkaobalnjimniaaVecF2
import Derived.Test.YtkaobalnjimniaaVecA
set_option linter.unusedVariables false
set_option linter.unusedSimpArgs false
namespace Go.Proofs.Ytkaobalnjimniaa.Vec
open Go.Eng
open Go.VecLaw (lowV topV dotV gapV)
set_option maxRecDepth 100000
set_option linter.unusedVariables false

theorem ends_fn {P : Program} {G : Gl} (hP : P = Try.prog) {m : Nat} {f : Nat → Int} {lo hi : Int} (hm : m < 9223372036854775807) (hlo : lo = lowV f m) (hhi : hi = topV f m) :
    FnTr P G 75 [.ro 1 (.s (m + 1)) (fun e => [.int .i64 (f e.val)])] [] 0 (Gives (.tup [.int .i64 lo, .int .i64 hi]) [] 0) := by
  obtain ⟨lv, hlv⟩ : ∃ lv, lv = lowV f := ⟨_, rfl⟩
  obtain ⟨tv, htv⟩ : ∃ tv, tv = topV f := ⟨_, rfl⟩
  have hl0 : f 0 = lv 0 := by rw [hlv]; rfl
  have ht0 : f 0 = tv 0 := by rw [htv]; rfl
  have hls : ∀ i, lv (i + 1) = if f (i + 1) < lv i then f (i + 1) else lv i := by intro i; rw [hlv]; rfl
  have hts : ∀ i, tv (i + 1) = if tv i < f (i + 1) then f (i + 1) else tv i := by intro i; rw [htv]; rfl
  rw [← hlv] at hlo
  rw [← htv] at hhi
  obtain ⟨n, hn⟩ : ∃ n, n = m + 1 := ⟨_, rfl⟩
  rw [← hn]
  clear hlv htv
  have hT : T.Ok P := hP ▸ T_ok
  refine FnTr.intro (fn := Try.f75) (c := bodyOf Try.f75) (by rw [hP]; rfl) rfl rfl hT ?_
  generalize hA : Ar.real = A
  generalize hK : Gives _ _ _ = K
  cbv
  refine DS.run hA hT (by rw [hP]; exact P_mixed) 1 rfl ?_
  cbv
  refine ⟨(by (subst hA; (try simp only [natCast_eq] at *); (simp only [Ar.real, NV.val, Int.ofNat_eq_natCast, Int.toNat_natCast]); first | done | omega | decide | exact inR64 (by omega) (by omega) | (refine ⟨?_, ?_⟩ <;> first | omega | decide | exact inR64 (by omega) (by omega)))), (by (subst hA; (try simp only [natCast_eq] at *); (simp only [Ar.real, NV.val, Int.ofNat_eq_natCast, Int.toNat_natCast]); first | done | omega | decide | exact inR64 (by omega) (by omega) | (refine ⟨?_, ?_⟩ <;> first | omega | decide | exact inR64 (by omega) (by omega)))), ⟨(by (subst hA; (try simp only [natCast_eq] at *); (simp only [Ar.real, NV.val, Int.ofNat_eq_natCast, Int.toNat_natCast]); first | done | omega | decide | exact inR64 (by omega) (by omega) | (refine ⟨?_, ?_⟩ <;> first | omega | decide | exact inR64 (by omega) (by omega)))), (by (subst hA; (try simp only [natCast_eq] at *); (simp only [Ar.real, NV.val, Int.ofNat_eq_natCast, Int.toNat_natCast]); first | done | omega | decide | exact inR64 (by omega) (by omega) | (refine ⟨?_, ?_⟩ <;> first | omega | decide | exact inR64 (by omega) (by omega)))), (by (subst hA; (try simp only [natCast_eq] at *); (simp only [Ar.real, NV.val, Int.ofNat_eq_natCast, Int.toNat_natCast]); first | done | omega | decide | exact inR64 (by omega) (by omega) | (refine ⟨?_, ?_⟩ <;> first | omega | decide | exact inR64 (by omega) (by omega))))⟩, ?_⟩
  refine LS.le hT hA 0 (fun (i : Nat) => [(4, .int .i64 (lv i)), (5, .int .i64 (tv i)), (17, .int .i64 (i : Int))]) (fun _ => []) (fun i => i ≤ m) (fun i => m - i) 0 [] rfl rfl ?_ ?_ ?_
  · (try cbv) <;> (repeat' (first | exact trivial | exact rfl | apply And.intro | (intro _ hle; first | refine chunk_le hA rfl hle rfl ?_ | refine cat_le hA ?_ | refine upd_le hA ?_ | (try cbv))))
    · exact hl0
    · exact ht0
  · exact Nat.zero_le _
  · intro R hR i h1
    cbv
    refine ⟨fun h5 => ?_, fun h5 => ?_⟩
    · have hi : i < m := by clear hls hts; subst hA; simp only [Ar.real] at h5; simp at h5; omega
      have haddr : ∀ e : NV, (addNV A (NV.l 1) e).val = e.val + 1 := by subst hA; intro e; rw [addNV_val]; show 1 + _ = _; omega
      have hnat : A.nat (Int.ofNat i) = i := by subst hA; rfl
      cbv
      refine ⟨by clear hR hls hts; (subst hA; (try simp only [natCast_eq] at *); (simp only [Ar.real, NV.val, Int.ofNat_eq_natCast, Int.toNat_natCast]); first | done | omega | decide | exact inR64 (by omega) (by omega) | (refine ⟨?_, ?_⟩ <;> first | omega | decide | exact inR64 (by omega) (by omega))), by clear hR hls hts; (subst hA; (try simp only [natCast_eq] at *); (simp only [Ar.real, NV.val, Int.ofNat_eq_natCast, Int.toNat_natCast]); first | done | omega | decide | exact inR64 (by omega) (by omega) | (refine ⟨?_, ?_⟩ <;> first | omega | decide | exact inR64 (by omega) (by omega))), hR _ _ ⟨i + 1, 0, [], rfl, rfl, ?_, hi, (by show m - (i + 1) < m - i; omega)⟩⟩
      clear hR
      (try cbv) <;> (repeat' (first | exact trivial | exact rfl | apply And.intro | (intro _ hle; first | refine chunk_le hA rfl hle rfl ?_ | refine cat_le hA ?_ | refine upd_le hA ?_ | (try cbv))))
      all_goals try simp only [haddr, NV.val, hnat]
      · rw [hls, Nat.add_comm i 1]; subst hA; rfl
      · rw [hts, Nat.add_comm i 1]; subst hA; rfl
      · subst hA; simp only [Ar.real, NV.val, Int.ofNat_eq_natCast, Int.toNat_natCast]
        rfl
    · clear hR
      have hi : i = m := by clear hls hts; subst hA; simp only [Ar.real] at h5; simp at h5; omega
      subst hi
      cbv
      refine Fin.le hA 0 [] (.tup [.int .i64 lo, .int .i64 hi]) ([]) 0 rfl rfl rfl ?_ ?_ (by rw [← hK]; exact ⟨rfl, rfl, rfl⟩)
      · (try cbv) <;> (repeat' (first | exact trivial | exact rfl | apply And.intro | (intro _ hle; first | refine chunk_le hA rfl hle rfl ?_ | refine cat_le hA ?_ | refine upd_le hA ?_ | (try cbv))))
        · exact hlo.symm
        · exact hhi.symm
      · (try cbv) <;> (repeat' (first | exact trivial | exact rfl | apply And.intro | (intro _ hle; first | refine chunk_le hA rfl hle rfl ?_ | refine cat_le hA ?_ | refine upd_le hA ?_ | (try cbv))))

/-- Parts of planes. -/
def PartsP (n : Nat) (f : Nat → Int) (dim : Int) : Prop := (1 ≤ dim ∧ dim ≤ 8 ∧ (n : Int) = dim) ∧ (∀ i, i < n → -4 ≤ f i ∧ f i ≤ 4) ∧ ∃ i, i < n ∧ f i ≠ 0

theorem parts_fn {P : Program} {G : Gl} (hP : P = Try.prog) {n : Nat} {f : Nat → Int} {dim : Int} {r : Bool} (hn : n ≤ 9223372036854775807) (hr : r = true ↔ PartsP n f dim) :
    FnTr P G 47 [.ro 1 (.s n) (fun e => [.int .i64 (f e.val)]), .int .i64 dim] [] 0 (Gives (.bs r) [] 0) := by
  by_cases hd : 1 ≤ dim ∧ dim ≤ 8 ∧ (n : Int) = dim
  · obtain ⟨m, rfl⟩ : ∃ m, n = m + 1 := ⟨n - 1, by omega⟩
    obtain ⟨lo, hlo⟩ : ∃ lo, lo = lowV f m := ⟨_, rfl⟩
    obtain ⟨hi, hhi⟩ : ∃ hi, hi = topV f m := ⟨_, rfl⟩
    have he := ends_fn (P := P) (G := G) hP (by omega) hlo hhi
    have hrn : r = true ↔ ((-4 ≤ lo ∧ hi ≤ 4) ∧ (lo < 0 ∨ 0 < hi)) := by
      rw [hr, hlo, hhi, VecLaw.parts_iff]
      exact ⟨fun h => h.2, fun h => ⟨hd, h⟩⟩
    obtain ⟨n, hnm⟩ : ∃ n, n = m + 1 := ⟨_, rfl⟩
    rw [← hnm] at he ⊢
    clear hr hlo hhi
    have hT : T.Ok P := hP ▸ T_ok
    refine FnTr.intro (fn := Try.f47) (c := bodyOf Try.f47) (by rw [hP]; rfl) rfl rfl hT ?_
    generalize hA : Ar.real = A
    generalize hK : Gives _ _ _ = K
    cbv
    repeat' (first | (apply And.intro) | (intro _; try cbv) | (refine DS.run hA hT (by rw [hP]; exact P_mixed) 1 rfl ?_; cbv) | (refine CS.le hA he [] rfl rfl rfl ?_ ?_ ?_; (focus ((try cbv) <;> (repeat' (first | exact trivial | exact rfl | apply And.intro | (intro _ hle; first | refine chunk_le hA rfl hle rfl ?_ | refine cat_le hA ?_ | refine upd_le hA ?_ | (try cbv)))); done)); (focus ((try cbv) <;> (repeat' (first | exact trivial | exact rfl | apply And.intro | (intro _ hle; first | refine chunk_le hA rfl hle rfl ?_ | refine cat_le hA ?_ | refine upd_le hA ?_ | (try cbv)))); done)); cbv))
    all_goals first | (exfalso; clear hrn; (subst hA; simp only [Ar.real, NV.val, Int.ofNat_eq_natCast, Int.toNat_natCast, decide_eq_true_eq, decide_eq_false_iff_not, Bool.not_true, Bool.not_false, beq_iff_eq, bne_iff_ne, beq_eq_false_iff_ne, bne_eq_false_iff_eq, ne_eq, Bool.not_eq_true', Bool.not_eq_false', natCast_eq] at *; first | contradiction | omega | (generalize Int.tmod _ _ = qtm at *; omega))) | skip
    all_goals (refine Fin.le hA 0 [] (.bs r) [] 0 rfl rfl rfl ?_ ?_ (by rw [← hK]; exact ⟨rfl, rfl, rfl⟩))
    all_goals cbv
    all_goals first | exact trivial | skip
    all_goals (subst hA; simp only [natCast_eq, Ar.real, NV.val, Int.ofNat_eq_natCast, Int.toNat_natCast, decide_eq_true_eq, decide_eq_false_iff_not, Bool.not_true, Bool.not_false, beq_iff_eq, bne_iff_ne, beq_eq_false_iff_ne, bne_eq_false_iff_eq, ne_eq] at *; rw [Bool.eq_iff_iff, hrn]; simp only [decide_eq_true_eq, Bool.false_eq_true, false_iff, true_iff, beq_iff_eq, bne_iff_ne, ne_eq]; omega)
  · have hrf : r = false := by
      cases r with
      | false => rfl
      | true => exact absurd (hr.1 rfl).1 hd
    clear hr
    have hT : T.Ok P := hP ▸ T_ok
    refine FnTr.intro (fn := Try.f47) (c := bodyOf Try.f47) (by rw [hP]; rfl) rfl rfl hT ?_
    generalize hA : Ar.real = A
    generalize hK : Gives _ _ _ = K
    cbv
    repeat' (first | (apply And.intro) | (intro _; try cbv) | (refine DS.run hA hT (by rw [hP]; exact P_mixed) 1 rfl ?_; cbv))
    all_goals first | (exfalso; (subst hA; simp only [Ar.real, NV.val, Int.ofNat_eq_natCast, Int.toNat_natCast, decide_eq_true_eq, decide_eq_false_iff_not, Bool.not_true, Bool.not_false, beq_iff_eq, bne_iff_ne, beq_eq_false_iff_ne, bne_eq_false_iff_eq, ne_eq, Bool.not_eq_true', Bool.not_eq_false', natCast_eq] at *; first | contradiction | omega | (generalize Int.tmod _ _ = qtm at *; omega))) | skip
    all_goals (refine Fin.le hA 0 [] (.bs r) [] 0 rfl rfl rfl ?_ ?_ (by rw [← hK]; exact ⟨rfl, rfl, rfl⟩))
    all_goals cbv
    all_goals first | exact trivial | exact ⟨hrf.symm, trivial⟩ | exact hrf.symm | skip

theorem refparts_fn {P : Program} {G : Gl} (hP : P = Try.prog) {n : Nat} {f : Nat → Int} {dim : Int} {r : Bool} (hn : n ≤ 9223372036854775807) (hr : r = true ↔ PartsP n f dim) :
    FnTr P G 48 [.ro 1 (.s n) (fun e => [.int .i64 (f e.val)]), .int .i64 dim] [] 0 (Gives (.bs r) [] 0) := by
  by_cases hd : 1 ≤ dim ∧ dim ≤ 8 ∧ (n : Int) = dim
  · obtain ⟨Q, hQ0, hQs, hQn, hQm⟩ := all_steps (fun i => -4 ≤ f i ∧ f i ≤ 4)
    obtain ⟨E, hE0, hEs, hEn, hEm⟩ := all_steps (fun i => ¬ f i ≠ 0)
    have hrn : r = true ↔ (Q n ∧ ¬ E n) := by
      rw [hr, hQn, hEn]
      exact ⟨fun h => ⟨h.2.1, fun g => by obtain ⟨i, h1, h2⟩ := h.2.2; exact g i h1 h2⟩, fun h => ⟨hd, h.1, Classical.byContradiction fun g => h.2 fun i hi h2 => g ⟨i, hi, h2⟩⟩⟩
    have hrf : ∀ i, i < n → ¬ (-4 ≤ f i ∧ f i ≤ 4) → r = false := fun i hi h => by
      cases r with
      | false => rfl
      | true => exact absurd ((hQs i).1 (hQm n _ hi (hrn.1 rfl).1)).2 h
    clear hr hQn hQm hEn hEm
    have hT : T.Ok P := hP ▸ T_ok
    refine FnTr.intro (fn := Try.f48) (c := bodyOf Try.f48) (by rw [hP]; rfl) rfl rfl hT ?_
    generalize hA : Ar.real = A
    generalize hK : Gives _ _ _ = K
    cbv
    repeat' (first | (apply And.intro) | (intro _; try cbv) | (refine DS.run hA hT (by rw [hP]; exact P_mixed) 1 rfl ?_; cbv))
    all_goals first | (exfalso; clear hQs hEs hrn hrf; (subst hA; simp only [Ar.real, NV.val, Int.ofNat_eq_natCast, Int.toNat_natCast, decide_eq_true_eq, decide_eq_false_iff_not, Bool.not_true, Bool.not_false, beq_iff_eq, bne_iff_ne, beq_eq_false_iff_ne, bne_eq_false_iff_eq, ne_eq, Bool.not_eq_true', Bool.not_eq_false', natCast_eq] at *; first | contradiction | omega | (generalize Int.tmod _ _ = qtm at *; omega))) | skip
    refine LS.le2 hT hA 0 (fun (i : Nat) (b : Bool) => [(5, .bs b), (6, .int .i64 (i : Int))]) (fun _ _ => []) (fun i b => i ≤ n ∧ Q i ∧ (b = true ↔ ¬ E i)) (fun i _ => n - i) 0 false [] rfl rfl ?_ ?_ ?_
    · (try cbv) <;> (repeat' (first | exact trivial | exact rfl | apply And.intro | (intro _ hle; first | refine chunk_le hA rfl hle rfl ?_ | refine cat_le hA ?_ | refine upd_le hA ?_ | (try cbv))))
    · exact ⟨Nat.zero_le _, hQ0, fun h => (by cases h), fun h => absurd hE0 h⟩
    · intro R hR i b hp
      cbv
      obtain ⟨h1, h2, h3⟩ := hp
      refine ⟨fun h5 => ?_, fun h5 => ?_⟩
      · have hi : i < n := by clear hQs hEs; subst hA; simp only [Ar.real] at h5; simp at h5; omega
        have hfi : f (Int.toNat (Int.ofNat i)) = f i := rfl
        cbv
        refine ⟨(by (subst hA; (try simp only [natCast_eq] at *); (simp only [Ar.real, NV.val, Int.ofNat_eq_natCast, Int.toNat_natCast]); first | done | omega | decide | exact inR64 (by omega) (by omega) | (refine ⟨?_, ?_⟩ <;> first | omega | decide | exact inR64 (by omega) (by omega)))), fun h6 => ?_, fun h6 => ?_⟩
        · cbv
          refine ⟨(by (subst hA; (try simp only [natCast_eq] at *); (simp only [Ar.real, NV.val, Int.ofNat_eq_natCast, Int.toNat_natCast]); first | done | omega | decide | exact inR64 (by omega) (by omega) | (refine ⟨?_, ?_⟩ <;> first | omega | decide | exact inR64 (by omega) (by omega)))), fun h7 => ?_, fun h7 => ?_⟩
          · have hrr := hrf i hi (fun h => by clear hR; subst hA; simp only [Ar.real, NV.val, hfi] at h7; simp at h7; omega)
            clear hR
            cbv
            refine Fin.le hA 0 [] (.bs r) ([]) 0 rfl rfl rfl ?_ ?_ (by rw [← hK]; exact ⟨rfl, rfl, rfl⟩)
            · (try cbv) <;> (repeat' (first | exact trivial | exact rfl | apply And.intro | (intro _ hle; first | refine chunk_le hA rfl hle rfl ?_ | refine cat_le hA ?_ | refine upd_le hA ?_ | (try cbv))))
              exact hrr.symm
            · (try cbv) <;> (repeat' (first | exact trivial | exact rfl | apply And.intro | (intro _ hle; first | refine chunk_le hA rfl hle rfl ?_ | refine cat_le hA ?_ | refine upd_le hA ?_ | (try cbv))))
          · have hq : Q (i + 1) := (hQs i).2 ⟨h2, by clear hR; subst hA; simp only [Ar.real, NV.val, hfi] at h7 h6; simp at h7 h6; omega⟩
            obtain ⟨b1, hb1⟩ : ∃ b1 : Bool, b1 = (b || !decide (f i = 0)) := ⟨_, rfl⟩
            have hb2 : b1 = true ↔ ¬ E (i + 1) := by
              rw [hb1, hEs]
              cases b with
              | true => exact ⟨fun _ g => h3.1 rfl g.1, fun _ => rfl⟩
              | false =>
                have h4 : E i := Classical.byContradiction fun g => absurd (h3.2 g) (by decide)
                simp only [Bool.false_or, Bool.not_eq_true', decide_eq_false_iff_not]
                exact ⟨fun g1 g2 => g2.2 g1, fun g1 g2 => g1 ⟨h4, fun g3 => g3 g2⟩⟩
            cbv
            refine ⟨fun h8 => ?_, fun h8 => ?_⟩
            · cbv
              refine ⟨(by (subst hA; (try simp only [natCast_eq] at *); (simp only [Ar.real, NV.val, Int.ofNat_eq_natCast, Int.toNat_natCast]); first | done | omega | decide | exact inR64 (by omega) (by omega) | (refine ⟨?_, ?_⟩ <;> first | omega | decide | exact inR64 (by omega) (by omega)))), (by (subst hA; (try simp only [natCast_eq] at *); (simp only [Ar.real, NV.val, Int.ofNat_eq_natCast, Int.toNat_natCast]); first | done | omega | decide | exact inR64 (by omega) (by omega) | (refine ⟨?_, ?_⟩ <;> first | omega | decide | exact inR64 (by omega) (by omega)))), hR _ _ _ ⟨i + 1, b1, 0, [], rfl, rfl, ?_, ⟨hi, hq, hb2⟩, (by show n - (i + 1) < n - i; omega)⟩⟩
              clear hR
              (try cbv) <;> (repeat' (first | exact trivial | exact rfl | apply And.intro | (intro _ hle; first | refine chunk_le hA rfl hle rfl ?_ | refine cat_le hA ?_ | refine upd_le hA ?_ | (try cbv))))
              · rw [hb1, h8]; subst hA; simp only [Ar.real, NV.val, hfi, Bool.false_or]
                rw [Bool.eq_iff_iff]
                simp
              · subst hA; simp only [Ar.real, NV.val, Int.ofNat_eq_natCast, Int.toNat_natCast]
                rfl
            · cbv
              refine ⟨(by (subst hA; (try simp only [natCast_eq] at *); (simp only [Ar.real, NV.val, Int.ofNat_eq_natCast, Int.toNat_natCast]); first | done | omega | decide | exact inR64 (by omega) (by omega) | (refine ⟨?_, ?_⟩ <;> first | omega | decide | exact inR64 (by omega) (by omega)))), hR _ _ _ ⟨i + 1, b1, 0, [], rfl, rfl, ?_, ⟨hi, hq, hb2⟩, (by show n - (i + 1) < n - i; omega)⟩⟩
              clear hR
              (try cbv) <;> (repeat' (first | exact trivial | exact rfl | apply And.intro | (intro _ hle; first | refine chunk_le hA rfl hle rfl ?_ | refine cat_le hA ?_ | refine upd_le hA ?_ | (try cbv))))
              · rw [hb1, h8]; rfl
              · subst hA; simp only [Ar.real, NV.val, Int.ofNat_eq_natCast, Int.toNat_natCast]
                rfl
        · have hrr := hrf i hi (fun h => by clear hR; subst hA; simp only [Ar.real, NV.val, hfi] at h6; simp at h6; omega)
          clear hR
          cbv
          refine Fin.le hA 0 [] (.bs r) ([]) 0 rfl rfl rfl ?_ ?_ (by rw [← hK]; exact ⟨rfl, rfl, rfl⟩)
          · (try cbv) <;> (repeat' (first | exact trivial | exact rfl | apply And.intro | (intro _ hle; first | refine chunk_le hA rfl hle rfl ?_ | refine cat_le hA ?_ | refine upd_le hA ?_ | (try cbv))))
            exact hrr.symm
          · (try cbv) <;> (repeat' (first | exact trivial | exact rfl | apply And.intro | (intro _ hle; first | refine chunk_le hA rfl hle rfl ?_ | refine cat_le hA ?_ | refine upd_le hA ?_ | (try cbv))))
      · clear hR
        have hi : i = n := by clear hQs hEs; subst hA; simp only [Ar.real] at h5; simp at h5; omega
        subst hi
        have hrr : b = r := by rw [Bool.eq_iff_iff, h3, hrn]; exact ⟨fun h => ⟨h2, h⟩, fun h => h.2⟩
        cbv
        refine Fin.le hA 0 [] (.bs r) ([]) 0 rfl rfl rfl ?_ ?_ (by rw [← hK]; exact ⟨rfl, rfl, rfl⟩)
        · (try cbv) <;> (repeat' (first | exact trivial | exact rfl | apply And.intro | (intro _ hle; first | refine chunk_le hA rfl hle rfl ?_ | refine cat_le hA ?_ | refine upd_le hA ?_ | (try cbv))))
          exact hrr
        · (try cbv) <;> (repeat' (first | exact trivial | exact rfl | apply And.intro | (intro _ hle; first | refine chunk_le hA rfl hle rfl ?_ | refine cat_le hA ?_ | refine upd_le hA ?_ | (try cbv))))
  · have hrf : r = false := by
      cases r with
      | false => rfl
      | true => exact absurd (hr.1 rfl).1 hd
    clear hr
    have hT : T.Ok P := hP ▸ T_ok
    refine FnTr.intro (fn := Try.f48) (c := bodyOf Try.f48) (by rw [hP]; rfl) rfl rfl hT ?_
    generalize hA : Ar.real = A
    generalize hK : Gives _ _ _ = K
    cbv
    repeat' (first | (apply And.intro) | (intro _; try cbv) | (refine DS.run hA hT (by rw [hP]; exact P_mixed) 1 rfl ?_; cbv))
    all_goals first | (exfalso; (subst hA; simp only [Ar.real, NV.val, Int.ofNat_eq_natCast, Int.toNat_natCast, decide_eq_true_eq, decide_eq_false_iff_not, Bool.not_true, Bool.not_false, beq_iff_eq, bne_iff_ne, beq_eq_false_iff_ne, bne_eq_false_iff_eq, ne_eq, Bool.not_eq_true', Bool.not_eq_false', natCast_eq] at *; first | contradiction | omega | (generalize Int.tmod _ _ = qtm at *; omega))) | skip
    all_goals (refine Fin.le hA 0 [] (.bs r) [] 0 rfl rfl rfl ?_ ?_ (by rw [← hK]; exact ⟨rfl, rfl, rfl⟩))
    all_goals cbv
    all_goals first | exact trivial | exact ⟨hrf.symm, trivial⟩ | exact hrf.symm | skip
end Go.Proofs.Ytkaobalnjimniaa.Vec
