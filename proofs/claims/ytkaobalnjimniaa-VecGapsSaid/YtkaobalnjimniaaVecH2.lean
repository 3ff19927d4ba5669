/-
  Vectors: what is in a box; lists that are long; lists of vectors.
-/
import Derived.Test.YtkaobalnjimniaaVecH1
set_option linter.unusedVariables false
set_option linter.unusedSimpArgs false
namespace Go.Proofs.Ytkaobalnjimniaa.Vec
open Go.Eng
open Go.VecLaw (lowV topV dotV gapV OS openV)
set_option maxRecDepth 100000
set_option linter.unusedVariables false

def InP (n : Nat) (lo : Nat → Int) (m : Nat) (hi : Nat → Int) (p : Nat) (v : Nat → Int) : Prop := (n = p ∧ m = p) ∧ ∀ i, i < p → lo i ≤ v i ∧ v i ≤ hi i

theorem vin_fn {P : Program} {G : Gl} (hP : P = Try.prog) {n m p : Nat} {lo hi v : Nat → Int} {r : Bool} (hp : p ≤ 9223372036854775807) (hr : r = true ↔ InP n lo m hi p v) :
    FnTr P G 54 [.ro 1 (.s n) (fun e => [.int .i64 (lo e.val)]), .ro 1 (.s m) (fun e => [.int .i64 (hi e.val)]), .ro 1 (.s p) (fun e => [.int .i64 (v e.val)])] [] 0 (Gives (.bs r) [] 0) := by
  by_cases hd : n = p ∧ m = p
  · obtain ⟨Q, hQ0, hQs, hQn, hQm⟩ := all_steps (fun i => lo i ≤ v i ∧ v i ≤ hi i)
    have hrn : r = true ↔ Q p := by rw [hr, hQn]; exact ⟨fun h => h.2, fun h => ⟨hd, h⟩⟩
    have hrf : ∀ i, i < p → ¬ (lo i ≤ v i ∧ v i ≤ hi i) → r = false := fun i hi h => by
      cases r with
      | false => rfl
      | true => exact absurd ((hQs i).1 (hQm p _ hi (hrn.1 rfl))).2 h
    clear hr hQn hQm
    have hT : T.Ok P := hP ▸ T_ok
    refine FnTr.intro (fn := Try.f54) (c := bodyOf Try.f54) (by rw [hP]; rfl) rfl rfl hT ?_
    generalize hA : Ar.real = A
    generalize hK : Gives _ _ _ = K
    cbv
    repeat' (first | (apply And.intro) | (intro _; try cbv) | (refine DS.run hA hT (by rw [hP]; exact P_mixed) 1 rfl ?_; cbv))
    all_goals first | (exfalso; clear hQs hrn hrf; (subst hA; simp only [Ar.real, NV.val, Int.ofNat_eq_natCast, Int.toNat_natCast, decide_eq_true_eq, decide_eq_false_iff_not, Bool.not_true, Bool.not_false, beq_iff_eq, bne_iff_ne, beq_eq_false_iff_ne, bne_eq_false_iff_eq, ne_eq, Bool.not_eq_true', Bool.not_eq_false', natCast_eq] at *; first | contradiction | omega | (generalize Int.tmod _ _ = qtm at *; omega))) | skip
    refine LS.le hT hA 0 (fun (i : Nat) => [(23, .int .i64 (i : Int))]) (fun _ => []) (fun i => i ≤ p ∧ Q i) (fun i => p - i) 0 [] rfl rfl ?_ ?_ ?_
    · (try cbv) <;> (repeat' (first | exact trivial | exact rfl | apply And.intro | (intro _ hle; first | refine chunk_le hA rfl hle rfl ?_ | refine cat_le hA ?_ | refine upd_le hA ?_ | (try cbv))))
    · exact ⟨Nat.zero_le _, hQ0⟩
    · intro R hR i hq
      cbv
      obtain ⟨h1, h2⟩ := hq
      refine ⟨fun h5 => ?_, fun h5 => ?_⟩
      · have hi1 : i < p := by clear hQs; subst hA; simp only [Ar.real] at h5; simp at h5; omega
        have hrf1 := hrf i hi1
        have hqs := hQs i
        have hli : lo (Int.toNat (Int.ofNat i)) = lo i := rfl
        have hvi : v (Int.toNat (Int.ofNat i)) = v i := rfl
        have hhi : hi (Int.toNat (Int.ofNat i)) = hi i := rfl
        clear hrf hQs hrn
        cbv
        refine ⟨(by (subst hA; (try simp only [natCast_eq] at *); (simp only [Ar.real, NV.val, Int.ofNat_eq_natCast, Int.toNat_natCast]); first | done | omega | decide | exact inR64 (by omega) (by omega) | (refine ⟨?_, ?_⟩ <;> first | omega | decide | exact inR64 (by omega) (by omega)))), (by (subst hA; (try simp only [natCast_eq] at *); (simp only [Ar.real, NV.val, Int.ofNat_eq_natCast, Int.toNat_natCast]); first | done | omega | decide | exact inR64 (by omega) (by omega) | (refine ⟨?_, ?_⟩ <;> first | omega | decide | exact inR64 (by omega) (by omega)))), fun h6 => ?_, fun h6 => ?_⟩
        · have h6' : ¬ v i < lo i := by clear hR; subst hA; simp only [Ar.real, NV.val, hli, hvi] at h6; simpa using h6
          cbv
          refine ⟨(by (subst hA; (try simp only [natCast_eq] at *); (simp only [Ar.real, NV.val, Int.ofNat_eq_natCast, Int.toNat_natCast]); first | done | omega | decide | exact inR64 (by omega) (by omega) | (refine ⟨?_, ?_⟩ <;> first | omega | decide | exact inR64 (by omega) (by omega)))), fun h7 => ?_, fun h7 => ?_⟩
          · have h7' : hi i < v i := by clear hR; subst hA; simp only [Ar.real, NV.val, hhi, hvi] at h7; simpa using h7
            have hrr := hrf1 (by omega)
            clear hR
            cbv
            refine Fin.le hA 0 [] (.bs r) ([]) 0 rfl rfl rfl ?_ ?_ (by rw [← hK]; exact ⟨rfl, rfl, rfl⟩)
            · (try cbv) <;> (repeat' (first | exact trivial | exact rfl | apply And.intro | (intro _ hle; first | refine chunk_le hA rfl hle rfl ?_ | refine cat_le hA ?_ | refine upd_le hA ?_ | (try cbv))))
              exact hrr.symm
            · (try cbv) <;> (repeat' (first | exact trivial | exact rfl | apply And.intro | (intro _ hle; first | refine chunk_le hA rfl hle rfl ?_ | refine cat_le hA ?_ | refine upd_le hA ?_ | (try cbv))))
          · have h7' : ¬ hi i < v i := by clear hR; subst hA; simp only [Ar.real, NV.val, hhi, hvi] at h7; simpa using h7
            have hq : Q (i + 1) := hqs.2 ⟨h2, by omega⟩
            cbv
            refine ⟨(by (subst hA; (try simp only [natCast_eq] at *); (simp only [Ar.real, NV.val, Int.ofNat_eq_natCast, Int.toNat_natCast]); first | done | omega | decide | exact inR64 (by omega) (by omega) | (refine ⟨?_, ?_⟩ <;> first | omega | decide | exact inR64 (by omega) (by omega)))), hR _ _ ⟨i + 1, 0, [], rfl, rfl, ?_, ⟨hi1, hq⟩, (by show p - (i + 1) < p - i; omega)⟩⟩
            clear hR
            (try cbv) <;> (repeat' (first | exact trivial | exact rfl | apply And.intro | (intro _ hle; first | refine chunk_le hA rfl hle rfl ?_ | refine cat_le hA ?_ | refine upd_le hA ?_ | (try cbv))))
            subst hA; simp only [Ar.real, NV.val, Int.ofNat_eq_natCast, Int.toNat_natCast]
            rfl
        · have h6' : v i < lo i := by clear hR; subst hA; simp only [Ar.real, NV.val, hli, hvi] at h6; simpa using h6
          have hrr := hrf1 (by omega)
          clear hR
          cbv
          refine Fin.le hA 0 [] (.bs r) ([]) 0 rfl rfl rfl ?_ ?_ (by rw [← hK]; exact ⟨rfl, rfl, rfl⟩)
          · (try cbv) <;> (repeat' (first | exact trivial | exact rfl | apply And.intro | (intro _ hle; first | refine chunk_le hA rfl hle rfl ?_ | refine cat_le hA ?_ | refine upd_le hA ?_ | (try cbv))))
            exact hrr.symm
          · (try cbv) <;> (repeat' (first | exact trivial | exact rfl | apply And.intro | (intro _ hle; first | refine chunk_le hA rfl hle rfl ?_ | refine cat_le hA ?_ | refine upd_le hA ?_ | (try cbv))))
      · clear hR
        have hi1 : i = p := by clear hQs; subst hA; simp only [Ar.real] at h5; simp at h5; omega
        have hrr := hrn.2 (hi1 ▸ h2)
        cbv
        refine Fin.le hA 0 [] (.bs r) ([]) 0 rfl rfl rfl ?_ ?_ (by rw [← hK]; exact ⟨rfl, rfl, rfl⟩)
        · (try cbv) <;> (repeat' (first | exact trivial | exact rfl | apply And.intro | (intro _ hle; first | refine chunk_le hA rfl hle rfl ?_ | refine cat_le hA ?_ | refine upd_le hA ?_ | (try cbv))))
          exact hrr.symm
        · (try cbv) <;> (repeat' (first | exact trivial | exact rfl | apply And.intro | (intro _ hle; first | refine chunk_le hA rfl hle rfl ?_ | refine cat_le hA ?_ | refine upd_le hA ?_ | (try cbv))))
  · have hrf : r = false := by
      cases r with
      | false => rfl
      | true => exact absurd (hr.1 rfl).1 hd
    clear hr
    have hT : T.Ok P := hP ▸ T_ok
    refine FnTr.intro (fn := Try.f54) (c := bodyOf Try.f54) (by rw [hP]; rfl) rfl rfl hT ?_
    generalize hA : Ar.real = A
    generalize hK : Gives _ _ _ = K
    cbv
    repeat' (first | (apply And.intro) | (intro _; try cbv) | (refine DS.run hA hT (by rw [hP]; exact P_mixed) 1 rfl ?_; cbv))
    all_goals first | (exfalso; (subst hA; simp only [Ar.real, NV.val, Int.ofNat_eq_natCast, Int.toNat_natCast, decide_eq_true_eq, decide_eq_false_iff_not, Bool.not_true, Bool.not_false, beq_iff_eq, bne_iff_ne, beq_eq_false_iff_ne, bne_eq_false_iff_eq, ne_eq, Bool.not_eq_true', Bool.not_eq_false', natCast_eq] at *; first | contradiction | omega | (generalize Int.tmod _ _ = qtm at *; omega))) | skip
    all_goals (refine Fin.le hA 0 [] (.bs r) [] 0 rfl rfl rfl ?_ ?_ (by rw [← hK]; exact ⟨rfl, rfl, rfl⟩))
    all_goals cbv
    all_goals first | exact trivial | exact ⟨hrf.symm, trivial⟩ | exact hrf.symm | skip

def MuchP (k : Nat) (len : Nat → Nat) (most : Int) : Prop := most < (k : Int) ∨ ∃ i, i < k ∧ 20 < len i

theorem much_fn {P : Program} {G : Gl} (hP : P = Try.prog) {k : Nat} {len : Nat → Nat} {g : Nat → Nat → Int} {most : Int} {r : Bool} (hk : k ≤ 9223372036854775807) (hr : r = true ↔ MuchP k len most) :
    FnTr P G 49 [LSv k len g, .int .i64 most] [] 0 (Gives (.bs r) [] 0) := by
  obtain ⟨Q, hQ0, hQs, hQn, hQm⟩ := all_steps (fun i => len i ≤ 20)
  have h1 : most < (k : Int) → r = true := fun h => hr.2 (.inl h)
  have h2 : ∀ i, i < k → 20 < len i → r = true := fun i hi h => hr.2 (.inr ⟨i, hi, h⟩)
  have h3 : ¬ most < (k : Int) → Q k → r = false := fun ha hb => by
    cases r with
    | false => rfl
    | true =>
      rcases hr.1 rfl with h | ⟨i, hi, h⟩
      · exact absurd h ha
      · have := (hQn k).1 hb i hi; omega
  clear hr hQn hQm
  have hT : T.Ok P := hP ▸ T_ok
  refine FnTr.intro (fn := Try.f49) (c := bodyOf Try.f49) (by rw [hP]; rfl) rfl rfl hT ?_
  generalize hA : Ar.real = A
  generalize hK : Gives _ _ _ = K
  cbv
  refine ⟨fun h => ?_, fun h => ?_⟩
  · have hrr := h1 (by clear hQs; subst hA; simp only [Ar.real, Int.ofNat_eq_natCast, decide_eq_true_eq, gt_iff_lt] at h; simp only [natCast_eq] at *; omega)
    cbv
    refine Fin.le hA 0 [] (.bs r) ([]) 0 rfl rfl rfl ?_ ?_ (by rw [← hK]; exact ⟨rfl, rfl, rfl⟩)
    · (try cbv) <;> (repeat' (first | exact trivial | exact rfl | apply And.intro | (intro _ hle; first | refine chunk_le hA rfl hle rfl ?_ | refine cat_le hA ?_ | refine upd_le hA ?_ | (try cbv))))
      exact hrr.symm
    · (try cbv) <;> (repeat' (first | exact trivial | exact rfl | apply And.intro | (intro _ hle; first | refine chunk_le hA rfl hle rfl ?_ | refine cat_le hA ?_ | refine upd_le hA ?_ | (try cbv))))
  · have h4 : ¬ most < (k : Int) := by clear hQs; subst hA; simp only [Ar.real, Int.ofNat_eq_natCast, decide_eq_false_iff_not, gt_iff_lt] at h; simp only [natCast_eq] at *; omega
    cbv
    refine LS.le hT hA 0 (fun (i : Nat) => [(5, .int .i64 (i : Int))]) (fun _ => []) (fun i => i ≤ k ∧ Q i) (fun i => k - i) 0 [] rfl rfl ?_ ?_ ?_
    · (try cbv) <;> (repeat' (first | exact trivial | exact rfl | apply And.intro | (intro _ hle; first | refine chunk_le hA rfl hle rfl ?_ | refine cat_le hA ?_ | refine upd_le hA ?_ | (try cbv))))
    · exact ⟨Nat.zero_le _, hQ0⟩
    · intro R hR i hq
      cbv
      obtain ⟨g1, g2⟩ := hq
      refine ⟨fun h5 => ?_, fun h5 => ?_⟩
      · have hi : i < k := by clear hQs; subst hA; simp only [Ar.real] at h5; simp at h5; omega
        have hl : len (Int.toNat (Int.ofNat i)) = len i := rfl
        cbv
        refine ⟨(by (subst hA; (try simp only [natCast_eq] at *); (simp only [Ar.real, NV.val, Int.ofNat_eq_natCast, Int.toNat_natCast]); first | done | omega | decide | exact inR64 (by omega) (by omega) | (refine ⟨?_, ?_⟩ <;> first | omega | decide | exact inR64 (by omega) (by omega)))), fun h6 => ?_, fun h6 => ?_⟩
        · have hrr := h2 i hi (by clear hR hQs; subst hA; simp only [Ar.real, NV.val, hl] at h6; simp at h6; omega)
          clear hR
          cbv
          refine Fin.le hA 0 [] (.bs r) ([]) 0 rfl rfl rfl ?_ ?_ (by rw [← hK]; exact ⟨rfl, rfl, rfl⟩)
          · (try cbv) <;> (repeat' (first | exact trivial | exact rfl | apply And.intro | (intro _ hle; first | refine chunk_le hA rfl hle rfl ?_ | refine cat_le hA ?_ | refine upd_le hA ?_ | (try cbv))))
            exact hrr.symm
          · (try cbv) <;> (repeat' (first | exact trivial | exact rfl | apply And.intro | (intro _ hle; first | refine chunk_le hA rfl hle rfl ?_ | refine cat_le hA ?_ | refine upd_le hA ?_ | (try cbv))))
        · have hq : Q (i + 1) := (hQs i).2 ⟨g2, by clear hR hQs; subst hA; simp only [Ar.real, NV.val, hl] at h6; simp at h6; omega⟩
          cbv
          refine ⟨(by (subst hA; (try simp only [natCast_eq] at *); (simp only [Ar.real, NV.val, Int.ofNat_eq_natCast, Int.toNat_natCast]); first | done | omega | decide | exact inR64 (by omega) (by omega) | (refine ⟨?_, ?_⟩ <;> first | omega | decide | exact inR64 (by omega) (by omega)))), hR _ _ ⟨i + 1, 0, [], rfl, rfl, ?_, ⟨hi, hq⟩, (by show k - (i + 1) < k - i; omega)⟩⟩
          clear hR
          (try cbv) <;> (repeat' (first | exact trivial | exact rfl | apply And.intro | (intro _ hle; first | refine chunk_le hA rfl hle rfl ?_ | refine cat_le hA ?_ | refine upd_le hA ?_ | (try cbv))))
          subst hA; simp only [Ar.real, NV.val, Int.ofNat_eq_natCast, Int.toNat_natCast]
          rfl
      · clear hR
        have hi : i = k := by clear hQs; subst hA; simp only [Ar.real] at h5; simp at h5; omega
        have hrr := h3 h4 (hi ▸ g2)
        cbv
        refine Fin.le hA 0 [] (.bs r) ([]) 0 rfl rfl rfl ?_ ?_ (by rw [← hK]; exact ⟨rfl, rfl, rfl⟩)
        · (try cbv) <;> (repeat' (first | exact trivial | exact rfl | apply And.intro | (intro _ hle; first | refine chunk_le hA rfl hle rfl ?_ | refine cat_le hA ?_ | refine upd_le hA ?_ | (try cbv))))
          exact hrr.symm
        · (try cbv) <;> (repeat' (first | exact trivial | exact rfl | apply And.intro | (intro _ hle; first | refine chunk_le hA rfl hle rfl ?_ | refine cat_le hA ?_ | refine upd_le hA ?_ | (try cbv))))
end Go.Proofs.Ytkaobalnjimniaa.Vec
