/-
  Vectors: the same numbers; which numbers are vectors.
-/
import Derived.Test.YtkaobalnjimniaaVecT
set_option linter.unusedVariables false
set_option linter.unusedSimpArgs false
namespace Go.Proofs.Ytkaobalnjimniaa.Vec
open Go.Eng
set_option maxRecDepth 100000
set_option linter.unusedVariables false

theorem same_fn {P : Program} {G : Gl} (hP : P = Try.prog) {n m : Nat} {f g : Nat → Int} {r : Bool} (hn : n ≤ 9223372036854775807) (hm : m ≤ 9223372036854775807) (hr : r = true ↔ (n = m ∧ ∀ i, i < n → f i = g i)) :
    FnTr P G 41 [.ro 1 (.s n) (fun e => [.int .i64 (f e.val)]), .ro 1 (.s m) (fun e => [.int .i64 (g e.val)])] [] 0 (Gives (.bs r) [] 0) := by
  have hT : T.Ok P := hP ▸ T_ok
  refine FnTr.intro (fn := Try.f41) (c := bodyOf Try.f41) (by rw [hP]; rfl) rfl rfl hT ?_
  generalize hA : Ar.real = A
  generalize hK : Gives _ _ _ = K
  cbv
  refine ⟨fun h => ?_, fun h => ?_⟩
  · have hne : n ≠ m := by subst hA; simp only [Ar.real] at h; simp at h; omega
    have hrf : r = false := by
      cases r with
      | false => rfl
      | true => exact absurd (hr.1 rfl).1 hne
    cbv
    refine Fin.le hA 0 [] (.bs r) ([]) 0 rfl rfl rfl ?_ ?_ (by rw [← hK]; exact ⟨rfl, rfl, rfl⟩)
    · (try cbv) <;> (repeat' (first | exact trivial | exact rfl | apply And.intro | (intro _ hle; first | refine chunk_le hA rfl hle rfl ?_ | refine cat_le hA ?_ | refine upd_le hA ?_ | (try cbv))))
      exact hrf.symm
    · (try cbv) <;> (repeat' (first | exact trivial | exact rfl | apply And.intro | (intro _ hle; first | refine chunk_le hA rfl hle rfl ?_ | refine cat_le hA ?_ | refine upd_le hA ?_ | (try cbv))))
  · have hnm : n = m := by subst hA; simp only [Ar.real] at h; simp at h; omega
    subst hnm
    cbv
    refine LS.le hT hA 0 (fun (i : Nat) => [(5, .int .i64 (i : Int))]) (fun _ => []) (fun i => i ≤ n ∧ ∀ j, j < i → f j = g j) (fun i => n - i) 0 [] rfl rfl ?_ ?_ ?_
    · (try cbv) <;> (repeat' (first | exact trivial | exact rfl | apply And.intro | (intro _ hle; first | refine chunk_le hA rfl hle rfl ?_ | refine cat_le hA ?_ | refine upd_le hA ?_ | (try cbv))))
    · exact ⟨Nat.zero_le _, fun j hj => by omega⟩
    · intro R hR i hp
      cbv
      obtain ⟨h1, h2⟩ := hp
      refine ⟨fun h3 => ?_, fun h3 => ?_⟩
      · have hi : i < n := by subst hA; simp only [Ar.real] at h3; simp at h3; omega
        cbv
        refine DS.run hA hT (by rw [hP]; exact P_mixed) 1 rfl ?_
        cbv
        refine ⟨(by (subst hA; (try simp only [natCast_eq] at *); (simp only [Ar.real, NV.val, Int.ofNat_eq_natCast, Int.toNat_natCast]); first | done | omega | decide | exact inR64 (by omega) (by omega) | (refine ⟨?_, ?_⟩ <;> first | omega | decide | exact inR64 (by omega) (by omega)))), (by (subst hA; (try simp only [natCast_eq] at *); (simp only [Ar.real, NV.val, Int.ofNat_eq_natCast, Int.toNat_natCast]); first | done | omega | decide | exact inR64 (by omega) (by omega) | (refine ⟨?_, ?_⟩ <;> first | omega | decide | exact inR64 (by omega) (by omega)))), fun h4 => ?_, fun h4 => ?_⟩
        · have hrf : r = false := by
            cases r with
            | false => rfl
            | true =>
              have h5 := (hr.1 rfl).2 i hi
              exfalso
              subst hA
              simp only [Ar.real, NV.val, Int.toNat_natCast, natCast_eq] at h4
              simp at h4
              exact h4 h5
          clear hR
          cbv
          refine Fin.le hA 0 [] (.bs r) ([]) 0 rfl rfl rfl ?_ ?_ (by rw [← hK]; exact ⟨rfl, rfl, rfl⟩)
          · (try cbv) <;> (repeat' (first | exact trivial | exact rfl | apply And.intro | (intro _ hle; first | refine chunk_le hA rfl hle rfl ?_ | refine cat_le hA ?_ | refine upd_le hA ?_ | (try cbv))))
            exact hrf.symm
          · (try cbv) <;> (repeat' (first | exact trivial | exact rfl | apply And.intro | (intro _ hle; first | refine chunk_le hA rfl hle rfl ?_ | refine cat_le hA ?_ | refine upd_le hA ?_ | (try cbv))))
        · have hfg : f i = g i := by
            subst hA
            simp only [Ar.real, NV.val, Int.toNat_natCast, natCast_eq] at h4
            simpa using h4
          cbv
          refine ⟨(by (subst hA; (try simp only [natCast_eq] at *); (simp only [Ar.real, NV.val, Int.ofNat_eq_natCast, Int.toNat_natCast]); first | done | omega | decide | exact inR64 (by omega) (by omega) | (refine ⟨?_, ?_⟩ <;> first | omega | decide | exact inR64 (by omega) (by omega)))), hR _ _ ⟨i + 1, 0, [], rfl, rfl, ?_, ⟨hi, fun j hj => ?_⟩, (by show n - (i + 1) < n - i; omega)⟩⟩
          · clear hR
            (try cbv) <;> (repeat' (first | exact trivial | exact rfl | apply And.intro | (intro _ hle; first | refine chunk_le hA rfl hle rfl ?_ | refine cat_le hA ?_ | refine upd_le hA ?_ | (try cbv))))
            subst hA; simp only [Ar.real, NV.val, Int.ofNat_eq_natCast, Int.toNat_natCast]
            rfl
          · by_cases e : j = i
            · rw [e]; exact hfg
            · exact h2 j (by omega)
      · have hi : i = n := by subst hA; simp only [Ar.real] at h3; simp at h3; omega
        subst hi
        have hrt : r = true := hr.2 ⟨rfl, h2⟩
        clear hR
        cbv
        refine Fin.le hA 0 [] (.bs r) ([]) 0 rfl rfl rfl ?_ ?_ (by rw [← hK]; exact ⟨rfl, rfl, rfl⟩)
        · (try cbv) <;> (repeat' (first | exact trivial | exact rfl | apply And.intro | (intro _ hle; first | refine chunk_le hA rfl hle rfl ?_ | refine cat_le hA ?_ | refine upd_le hA ?_ | (try cbv))))
          exact hrt.symm
        · (try cbv) <;> (repeat' (first | exact trivial | exact rfl | apply And.intro | (intro _ hle; first | refine chunk_le hA rfl hle rfl ?_ | refine cat_le hA ?_ | refine upd_le hA ?_ | (try cbv))))

/-- Vectors. -/
def In32 (x : Int) : Prop := -2147483648 ≤ x ∧ x ≤ 2147483647
def VecP (n : Nat) (f : Nat → Int) (dim : Int) : Prop := (1 ≤ dim ∧ dim ≤ 8 ∧ (n : Int) = dim) ∧ ∀ i, i < n → In32 (f i)

theorem is_fn {P : Program} {G : Gl} (hP : P = Try.prog) {n : Nat} {f : Nat → Int} {dim : Int} {r : Bool} (hn : n ≤ 9223372036854775807) (hr : r = true ↔ VecP n f dim) :
    FnTr P G 45 [.ro 1 (.s n) (fun e => [.int .i64 (f e.val)]), .int .i64 dim] [] 0 (Gives (.bs r) [] 0) := by
  obtain ⟨b0, hb0⟩ : ∃ b : Bool, b = true ↔ (1 ≤ dim ∧ dim ≤ 8 ∧ (n : Int) = dim) := ⟨decide _, decide_eq_true_iff⟩
  have hin : ∀ i, In32 (f i) ↔ (-2147483648 ≤ f i ∧ f i ≤ 2147483647) := fun _ => Iff.rfl
  obtain ⟨Q, hQ⟩ : ∃ Q : Nat → Prop, Q = fun i => ∀ j, j < i → In32 (f j) := ⟨_, rfl⟩
  have hQ0 : Q 0 := by rw [hQ]; intro j hj; omega
  have hQs : ∀ i, Q (i + 1) ↔ (Q i ∧ In32 (f i)) := by
    intro i; rw [hQ]
    exact ⟨fun h => ⟨fun j hj => h j (by omega), h i (by omega)⟩, fun h j hj => by
      by_cases e : j = i
      · rw [e]; exact h.2
      · exact h.1 j (by omega)⟩
  have hQn : r = true ↔ ((1 ≤ dim ∧ dim ≤ 8 ∧ (n : Int) = dim) ∧ Q n) := by rw [hr, hQ]; exact Iff.rfl
  have hmono : ∀ i, i ≤ n → Q n → Q i := by intro i hi; rw [hQ]; exact fun h j hj => h j (by omega)
  clear hQ hr
  have hT : T.Ok P := hP ▸ T_ok
  refine FnTr.intro (fn := Try.f45) (c := bodyOf Try.f45) (by rw [hP]; rfl) rfl rfl hT ?_
  generalize hA : Ar.real = A
  generalize hK : Gives _ _ _ = K
  cbv
  repeat' (first | (apply And.intro) | (intro _; try cbv) | (refine DS.run hA hT (by rw [hP]; exact P_mixed) 1 rfl ?_; cbv))
  all_goals (
    refine LS.le2 hT hA 0 (fun (i : Nat) (b : Bool) => [(5, .bs b), (6, .int .i64 (i : Int))]) (fun _ _ => []) (fun i b => i ≤ n ∧ (b = true ↔ (b0 = true ∧ Q i)) ∧ (b = false → r = false)) (fun i _ => n - i) 0 b0 [] rfl rfl ?_ ?_ ?_
    · (try cbv) <;> (repeat' (first | exact trivial | exact rfl | apply And.intro | (intro _ hle; first | refine chunk_le hA rfl hle rfl ?_ | refine cat_le hA ?_ | refine upd_le hA ?_ | (try cbv))))
      all_goals (subst hA; simp only [natCast_eq, Ar.real, NV.val, Int.ofNat_eq_natCast, Int.toNat_natCast, decide_eq_true_eq, decide_eq_false_iff_not, Bool.not_true, Bool.not_false, beq_iff_eq, bne_iff_ne, beq_eq_false_iff_ne, bne_eq_false_iff_eq, ne_eq] at *; rw [Bool.eq_iff_iff, hb0]; simp only [decide_eq_true_eq, Bool.false_eq_true, false_iff, true_iff, beq_iff_eq, bne_iff_ne, ne_eq]; omega)
    · refine ⟨Nat.zero_le _, ⟨fun h => ⟨h, hQ0⟩, fun h => h.1⟩, fun h => ?_⟩
      cases r with
      | false => rfl
      | true => exact absurd (hb0.2 (hQn.1 rfl).1) (by rw [h]; decide)
    · intro R hR i b hp
      cbv
      obtain ⟨h1, h2, h3⟩ := hp
      refine ⟨fun h4 => ?_, fun h4 => ?_⟩
      · cbv
        refine ⟨fun h5 => ?_, fun h5 => ?_⟩
        · have hi : i < n := by subst hA; simp only [Ar.real] at h5; simp at h5; omega
          have h6 := h2.1 h4
          have h7 := hin i
          have h8 := hQs i
          obtain ⟨b1, hb1⟩ : ∃ b : Bool, b = true ↔ (-2147483648 ≤ f i ∧ f i ≤ 2147483647) := ⟨decide _, decide_eq_true_iff⟩
          have hnx : i + 1 ≤ n ∧ (b1 = true ↔ (b0 = true ∧ Q (i + 1))) ∧ (b1 = false → r = false) := by
            refine ⟨hi, ?_, fun h => ?_⟩
            · rw [h8, h7, hb1]; exact ⟨fun h => ⟨h6.1, h6.2, h⟩, fun h => h.2.2⟩
            · cases r with
              | false => rfl
              | true =>
                have h9 := (h8.1 (hmono _ hi (hQn.1 rfl).2)).2
                exact absurd (hb1.2 (h7.1 h9)) (by rw [h]; decide)
          have hfi : f (Int.toNat (Int.ofNat i)) = f i := rfl
          clear h7 h8 h6 hb0 hQn hmono hQs hin
          cbv
          refine ⟨(by (subst hA; (try simp only [natCast_eq] at *); (simp only [Ar.real, NV.val, Int.ofNat_eq_natCast, Int.toNat_natCast]); first | done | omega | decide | exact inR64 (by omega) (by omega) | (refine ⟨?_, ?_⟩ <;> first | omega | decide | exact inR64 (by omega) (by omega)))), fun h5 => ?_, fun h5 => ?_⟩
          · cbv
            refine ⟨(by (subst hA; (try simp only [natCast_eq] at *); (simp only [Ar.real, NV.val, Int.ofNat_eq_natCast, Int.toNat_natCast]); first | done | omega | decide | exact inR64 (by omega) (by omega) | (refine ⟨?_, ?_⟩ <;> first | omega | decide | exact inR64 (by omega) (by omega)))), (by (subst hA; (try simp only [natCast_eq] at *); (simp only [Ar.real, NV.val, Int.ofNat_eq_natCast, Int.toNat_natCast]); first | done | omega | decide | exact inR64 (by omega) (by omega) | (refine ⟨?_, ?_⟩ <;> first | omega | decide | exact inR64 (by omega) (by omega)))), hR _ _ _ ⟨i + 1, b1, 0, [], rfl, rfl, ?_, hnx, (by show n - (i + 1) < n - i; omega)⟩⟩
            clear hR
            (try cbv) <;> (repeat' (first | exact trivial | exact rfl | apply And.intro | (intro _ hle; first | refine chunk_le hA rfl hle rfl ?_ | refine cat_le hA ?_ | refine upd_le hA ?_ | (try cbv))))
            · subst hA
              simp only [Ar.real, NV.val, hfi] at h5 ⊢
              rw [Bool.eq_iff_iff, hb1]
              simp at h5 ⊢
              omega
            · subst hA; simp only [Ar.real, NV.val, Int.ofNat_eq_natCast, Int.toNat_natCast]
              rfl
          · cbv
            refine ⟨(by (subst hA; (try simp only [natCast_eq] at *); (simp only [Ar.real, NV.val, Int.ofNat_eq_natCast, Int.toNat_natCast]); first | done | omega | decide | exact inR64 (by omega) (by omega) | (refine ⟨?_, ?_⟩ <;> first | omega | decide | exact inR64 (by omega) (by omega)))), hR _ _ _ ⟨i + 1, b1, 0, [], rfl, rfl, ?_, hnx, (by show n - (i + 1) < n - i; omega)⟩⟩
            clear hR
            (try cbv) <;> (repeat' (first | exact trivial | exact rfl | apply And.intro | (intro _ hle; first | refine chunk_le hA rfl hle rfl ?_ | refine cat_le hA ?_ | refine upd_le hA ?_ | (try cbv))))
            · subst hA
              simp only [Ar.real, NV.val, hfi] at h5
              rw [Bool.eq_iff_iff, hb1]
              simp at h5 ⊢
              omega
            · subst hA; simp only [Ar.real, NV.val, Int.ofNat_eq_natCast, Int.toNat_natCast]
              rfl
        · clear hR
          have hi : i = n := by subst hA; simp only [Ar.real] at h5; simp at h5; omega
          have hrt : r = true := hQn.2 ⟨hb0.1 (h2.1 h4).1, by rw [← hi]; exact (h2.1 h4).2⟩
          cbv
          refine Fin.le hA 0 [] (.bs r) ([]) 0 rfl rfl rfl ?_ ?_ (by rw [← hK]; exact ⟨rfl, rfl, rfl⟩)
          · (try cbv) <;> (repeat' (first | exact trivial | exact rfl | apply And.intro | (intro _ hle; first | refine chunk_le hA rfl hle rfl ?_ | refine cat_le hA ?_ | refine upd_le hA ?_ | (try cbv))))
            all_goals (rw [hrt]; exact h4)
          · (try cbv) <;> (repeat' (first | exact trivial | exact rfl | apply And.intro | (intro _ hle; first | refine chunk_le hA rfl hle rfl ?_ | refine cat_le hA ?_ | refine upd_le hA ?_ | (try cbv))))
      · clear hR
        have hrf := h3 h4
        cbv
        refine Fin.le hA 0 [] (.bs r) ([]) 0 rfl rfl rfl ?_ ?_ (by rw [← hK]; exact ⟨rfl, rfl, rfl⟩)
        · (try cbv) <;> (repeat' (first | exact trivial | exact rfl | apply And.intro | (intro _ hle; first | refine chunk_le hA rfl hle rfl ?_ | refine cat_le hA ?_ | refine upd_le hA ?_ | (try cbv))))
          all_goals (rw [hrf]; exact h4)
        · (try cbv) <;> (repeat' (first | exact trivial | exact rfl | apply And.intro | (intro _ hle; first | refine chunk_le hA rfl hle rfl ?_ | refine cat_le hA ?_ | refine upd_le hA ?_ | (try cbv)))))
end Go.Proofs.Ytkaobalnjimniaa.Vec
