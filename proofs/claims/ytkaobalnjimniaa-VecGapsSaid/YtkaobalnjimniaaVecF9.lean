/-
  Vectors: which one is nearest, both.
-/
import Derived.Test.YtkaobalnjimniaaVecF8
set_option linter.unusedVariables false
set_option linter.unusedSimpArgs false
namespace Go.Proofs.Ytkaobalnjimniaa.Vec
open Go.Eng
open Go.VecLaw (lowV topV dotV gapV OS openV)
set_option maxRecDepth 100000
set_option linter.unusedVariables false

/-- A list of rows, as the executor has it. -/
abbrev LSv (k : Nat) (len : Nat → Nat) (g : Nat → Nat → Int) : SV := .ro 1 (.s k) (fun e => [.ro 1 (.s (len e.val)) (fun e' => [.int .i64 (g e.val e'.val)])])
def nearA (G : Nat → Int) : Nat → Int × Int
  | 0 => (-1, 0)
  | k + 1 => if (nearA G k).1 < 0 ∨ G k < (nearA G k).2 then ((k : Int), G k) else nearA G k
theorem nearA_at (G : Nat → Int) : ∀ k, (nearA G (k + 1)).1 ≥ 0 := by
  intro k
  induction k with
  | zero =>
    show (if (nearA G 0).1 < 0 ∨ G 0 < (nearA G 0).2 then (((0 : Nat) : Int), G 0) else nearA G 0).1 ≥ 0
    split
    · show (0 : Int) ≤ ((0 : Nat) : Int); omega
    · rename_i h; exact absurd (Or.inl (show (-1 : Int) < 0 by decide)) h
  | succ k ih =>
    show (if (nearA G (k + 1)).1 < 0 ∨ G (k + 1) < (nearA G (k + 1)).2 then (((k + 1 : Nat) : Int), G (k + 1)) else nearA G (k + 1)).1 ≥ 0
    split
    · show (0 : Int) ≤ ((k + 1 : Nat) : Int); omega
    · exact ih
def NearOk (k : Nat) (len : Nat → Nat) (g : Nat → Nat → Int) (m : Nat) (x : Nat → Int) : Prop := 0 < k ∧ ∀ i, i < k → GapOk (len i) (g i) m x
def NearIs (k : Nat) (len : Nat → Nat) (g : Nat → Nat → Int) (m : Nat) (x : Nat → Int) (r1 r2 er : Int) : Prop :=
  (NearOk k len g m x ∧ er = 0 ∧ r1 = (nearA (fun i => gapV (g i) x (len i)) k).1 ∧ r2 = (nearA (fun i => gapV (g i) x (len i)) k).2) ∨ (¬ NearOk k len g m x ∧ er = 80 ∧ r1 = 0 ∧ r2 = 0)
theorem nearIs_ex (k : Nat) (len : Nat → Nat) (g : Nat → Nat → Int) (m : Nat) (x : Nat → Int) : ∃ r1 r2 er, NearIs k len g m x r1 r2 er := by
  by_cases h : NearOk k len g m x
  · exact ⟨_, _, _, .inl ⟨h, rfl, rfl, rfl⟩⟩
  · exact ⟨_, _, _, .inr ⟨h, rfl, rfl, rfl⟩⟩

theorem near_fn {P : Program} {G : Gl} (hP : P = Try.prog) {k m : Nat} {len : Nat → Nat} {g : Nat → Nat → Int} {x : Nat → Int} {r1 r2 er : Int} (hk : k ≤ 1000000000) (hl : ∀ i, i < k → len i ≤ 9223372036854775807) (hm : m ≤ 9223372036854775807) (hd : NearIs k len g m x r1 r2 er) :
    FnTr P G 61 [LSv k len g, .ro 1 (.s m) (fun e => [.int .i64 (x e.val)])] [] 0 (Gives (.tup [.int .i64 r1, .int .i64 r2, .int .i64 er]) [] 1) := by
  obtain ⟨Q, hQ0, hQs, hQn, hQm⟩ := all_steps (fun i => GapOk (len i) (g i) m x)
  obtain ⟨V, hV⟩ : ∃ V : Nat → Int, ∀ i, V i = gapV (g i) x (len i) := ⟨_, fun _ => rfl⟩
  obtain ⟨NA, hNA⟩ : ∃ NA : Nat → Int, ∀ i, NA i = (nearA V i).1 := ⟨_, fun _ => rfl⟩
  obtain ⟨NB, hNB⟩ : ∃ NB : Nat → Int, ∀ i, NB i = (nearA V i).2 := ⟨_, fun _ => rfl⟩
  have hA0 : NA 0 = -1 := by rw [hNA]; rfl
  have hB0 : NB 0 = 0 := by rw [hNB]; rfl
  have hAs : ∀ i, NA (i + 1) = if NA i < 0 ∨ V i < NB i then (i : Int) else NA i := fun i => by
    rw [hNA, hNA, hNB]
    show (if (nearA V i).1 < 0 ∨ V i < (nearA V i).2 then ((i : Int), V i) else nearA V i).1 = _
    split <;> rfl
  have hBs : ∀ i, NB (i + 1) = if NA i < 0 ∨ V i < NB i then V i else NB i := fun i => by
    rw [hNB, hNA, hNB]
    show (if (nearA V i).1 < 0 ∨ V i < (nearA V i).2 then ((i : Int), V i) else nearA V i).2 = _
    split <;> rfl
  have hAp : 0 < k → 0 ≤ NA k := fun h => by
    obtain ⟨j, rfl⟩ : ∃ j, k = j + 1 := ⟨k - 1, by omega⟩
    rw [hNA]; exact nearA_at V j
  have hend : Q k → (0 < k ∧ er = 0 ∧ r1 = NA k ∧ r2 = NB k) ∨ (k = 0 ∧ er = 80 ∧ r1 = 0 ∧ r2 = 0) := fun hq => by
    have hVe : V = fun i => gapV (g i) x (len i) := funext hV
    rcases hd with ⟨⟨h1, _⟩, h2, h3, h4⟩ | ⟨h1, h2⟩
    · exact .inl ⟨h1, h2, by rw [hNA, hVe]; exact h3, by rw [hNB, hVe]; exact h4⟩
    · exact .inr ⟨Nat.eq_zero_of_not_pos fun h => h1 ⟨h, (hQn k).1 hq⟩, h2⟩
  have hbad : ∀ i, i < k → ¬ GapOk (len i) (g i) m x → er = 80 ∧ r1 = 0 ∧ r2 = 0 := fun i hi h => by
    rcases hd with ⟨h1, _⟩ | ⟨_, h2⟩
    · exact absurd (h1.2 i hi) h
    · exact h2
  have hgood : ∀ i, i < k → GapOk (len i) (g i) m x → FnTr P G 59 [.ro 1 (.s (len i)) (fun e => [.int .i64 (g i e.val)]), .ro 1 (.s m) (fun e => [.int .i64 (x e.val)])] [] 0 (Gives (.tup [.int .i64 (V i), .int .i64 0]) [] 1) := fun i hi h =>
    gap_fn hP (hl i hi) hm (.inl ⟨h, rfl, hV i⟩)
  have hbadc : ∀ i, i < k → ¬ GapOk (len i) (g i) m x → FnTr P G 59 [.ro 1 (.s (len i)) (fun e => [.int .i64 (g i e.val)]), .ro 1 (.s m) (fun e => [.int .i64 (x e.val)])] [] 0 (Gives (.tup [.int .i64 0, .int .i64 80]) [] 1) := fun i hi h =>
    gap_fn hP (hl i hi) hm (.inr ⟨h, rfl, rfl⟩)
  clear hd hNA hNB hQn hQm hV
  have hT : T.Ok P := hP ▸ T_ok
  refine FnTr.intro (fn := Try.f61) (c := bodyOf Try.f61) (by rw [hP]; rfl) rfl rfl hT ?_
  generalize hA : Ar.real = A
  generalize hK : Gives _ _ _ = K
  cbv
  refine LS.le hT hA 1 (fun (i : Nat) => [(7, .int .i64 (NA i)), (8, .int .i64 (NB i)), (15, .int .i64 (i : Int))]) (fun _ => []) (fun i => i ≤ k ∧ Q i) (fun i => k - i) 0 [] rfl rfl ?_ ?_ ?_
  · (try cbv) <;> (repeat' (first | exact trivial | exact rfl | apply And.intro | (intro _ hle; first | refine chunk_le hA rfl hle rfl ?_ | refine cat_le hA ?_ | refine upd_le hA ?_ | (try cbv))))
    · exact hA0.symm
    · exact hB0.symm
  · exact ⟨Nat.zero_le _, hQ0⟩
  · intro R hR i hp
    cbv
    obtain ⟨h3, h4⟩ := hp
    refine ⟨fun h5 => ?_, fun h5 => ?_⟩
    · have hi : i < k := by clear hQs hAs hBs; subst hA; simp only [Ar.real] at h5; simp at h5; omega
      by_cases hok : GapOk (len i) (g i) m x
      · have c1 := hgood i hi hok
        have hq : Q (i + 1) := (hQs i).2 ⟨h4, hok⟩
        have a1 := hAs i
        have b1 := hBs i
        clear hgood hbadc hbad hQs hAs hBs hok hend
        cbv
        refine ⟨(by (subst hA; (try simp only [natCast_eq] at *); (simp only [Ar.real, NV.val, Int.ofNat_eq_natCast, Int.toNat_natCast]); first | done | omega | decide | exact inR64 (by omega) (by omega) | (refine ⟨?_, ?_⟩ <;> first | omega | decide | exact inR64 (by omega) (by omega)))), ?_⟩
        refine CS.leR hA (c1) (.tup [.int .i64 (V i), .lit .i64 0]) [] rfl rfl rfl ?_ ?_ ?_ ?_
        · (try cbv) <;> (repeat' (first | exact trivial | exact rfl | apply And.intro | (intro _ hle; first | refine chunk_le hA rfl hle rfl ?_ | refine cat_le hA ?_ | refine upd_le hA ?_ | (try cbv)))) <;> (try (subst hA; (try simp only [natCast_eq] at *); (simp only [Ar.real, NV.val, Int.ofNat_eq_natCast, Int.toNat_natCast]); first | done | omega | decide | exact inR64 (by omega) (by omega) | (refine ⟨?_, ?_⟩ <;> first | omega | decide | exact inR64 (by omega) (by omega))))
        · (try cbv) <;> (repeat' (first | exact trivial | exact rfl | apply And.intro | (intro _ hle; first | refine chunk_le hA rfl hle rfl ?_ | refine cat_le hA ?_ | refine upd_le hA ?_ | (try cbv)))) <;> (try (subst hA; (try simp only [natCast_eq] at *); (simp only [Ar.real, NV.val, Int.ofNat_eq_natCast, Int.toNat_natCast]); first | done | omega | decide | exact inR64 (by omega) (by omega) | (refine ⟨?_, ?_⟩ <;> first | omega | decide | exact inR64 (by omega) (by omega))))
        · (try cbv) <;> (repeat' (first | exact trivial | exact rfl | apply And.intro | (intro _ hle; first | refine chunk_le hA rfl hle rfl ?_ | refine cat_le hA ?_ | refine upd_le hA ?_ | (try cbv))))
        cbv
        refine ⟨fun h6 => ?_, fun h6 => ?_⟩
        · have h7 : ¬ NA i < 0 := by subst hA; simp only [Ar.real] at h6; simpa using h6
          cbv
          refine ⟨fun h8 => ?_, fun h8 => ?_⟩
          · have h9 : V i < NB i := by subst hA; simp only [Ar.real] at h8; simpa using h8
            rw [if_pos (.inr h9)] at a1 b1
            cbv
            refine ⟨(by (subst hA; (try simp only [natCast_eq] at *); (simp only [Ar.real, NV.val, Int.ofNat_eq_natCast, Int.toNat_natCast]); first | done | omega | decide | exact inR64 (by omega) (by omega) | (refine ⟨?_, ?_⟩ <;> first | omega | decide | exact inR64 (by omega) (by omega)))), hR _ _ ⟨i + 1, 1, [], rfl, rfl, ?_, ⟨hi, hq⟩, (by show k - (i + 1) < k - i; omega)⟩⟩
            clear hR
            (try cbv) <;> (repeat' (first | exact trivial | exact rfl | apply And.intro | (intro _ hle; first | refine chunk_le hA rfl hle rfl ?_ | refine cat_le hA ?_ | refine upd_le hA ?_ | (try cbv))))
            · exact a1.symm
            · exact b1.symm
            · subst hA; simp only [Ar.real, NV.val, Int.ofNat_eq_natCast, Int.toNat_natCast]
              rfl
          · have h9 : ¬ V i < NB i := by subst hA; simp only [Ar.real] at h8; simpa using h8
            rw [if_neg (by omega)] at a1 b1
            cbv
            refine ⟨(by (subst hA; (try simp only [natCast_eq] at *); (simp only [Ar.real, NV.val, Int.ofNat_eq_natCast, Int.toNat_natCast]); first | done | omega | decide | exact inR64 (by omega) (by omega) | (refine ⟨?_, ?_⟩ <;> first | omega | decide | exact inR64 (by omega) (by omega)))), hR _ _ ⟨i + 1, 1, [], rfl, rfl, ?_, ⟨hi, hq⟩, (by show k - (i + 1) < k - i; omega)⟩⟩
            clear hR
            (try cbv) <;> (repeat' (first | exact trivial | exact rfl | apply And.intro | (intro _ hle; first | refine chunk_le hA rfl hle rfl ?_ | refine cat_le hA ?_ | refine upd_le hA ?_ | (try cbv))))
            · exact a1.symm
            · exact b1.symm
            · subst hA; simp only [Ar.real, NV.val, Int.ofNat_eq_natCast, Int.toNat_natCast]
              rfl
        · have h7 : NA i < 0 := by subst hA; simp only [Ar.real] at h6; simpa using h6
          rw [if_pos (.inl h7)] at a1 b1
          cbv
          refine ⟨(by (subst hA; (try simp only [natCast_eq] at *); (simp only [Ar.real, NV.val, Int.ofNat_eq_natCast, Int.toNat_natCast]); first | done | omega | decide | exact inR64 (by omega) (by omega) | (refine ⟨?_, ?_⟩ <;> first | omega | decide | exact inR64 (by omega) (by omega)))), hR _ _ ⟨i + 1, 1, [], rfl, rfl, ?_, ⟨hi, hq⟩, (by show k - (i + 1) < k - i; omega)⟩⟩
          clear hR
          (try cbv) <;> (repeat' (first | exact trivial | exact rfl | apply And.intro | (intro _ hle; first | refine chunk_le hA rfl hle rfl ?_ | refine cat_le hA ?_ | refine upd_le hA ?_ | (try cbv))))
          · exact a1.symm
          · exact b1.symm
          · subst hA; simp only [Ar.real, NV.val, Int.ofNat_eq_natCast, Int.toNat_natCast]
            rfl
      · have c1 := hbadc i hi hok
        obtain ⟨e1, e2, e3⟩ := hbad i hi hok
        clear hgood hbadc hbad hQs hAs hBs hok hend hR
        cbv
        refine ⟨(by (subst hA; (try simp only [natCast_eq] at *); (simp only [Ar.real, NV.val, Int.ofNat_eq_natCast, Int.toNat_natCast]); first | done | omega | decide | exact inR64 (by omega) (by omega) | (refine ⟨?_, ?_⟩ <;> first | omega | decide | exact inR64 (by omega) (by omega)))), ?_⟩
        refine CS.leR hA (c1) (.tup [.int .i64 0, .lit .i64 80]) [] rfl rfl rfl ?_ ?_ ?_ ?_
        · (try cbv) <;> (repeat' (first | exact trivial | exact rfl | apply And.intro | (intro _ hle; first | refine chunk_le hA rfl hle rfl ?_ | refine cat_le hA ?_ | refine upd_le hA ?_ | (try cbv)))) <;> (try (subst hA; (try simp only [natCast_eq] at *); (simp only [Ar.real, NV.val, Int.ofNat_eq_natCast, Int.toNat_natCast]); first | done | omega | decide | exact inR64 (by omega) (by omega) | (refine ⟨?_, ?_⟩ <;> first | omega | decide | exact inR64 (by omega) (by omega))))
        · (try cbv) <;> (repeat' (first | exact trivial | exact rfl | apply And.intro | (intro _ hle; first | refine chunk_le hA rfl hle rfl ?_ | refine cat_le hA ?_ | refine upd_le hA ?_ | (try cbv)))) <;> (try (subst hA; (try simp only [natCast_eq] at *); (simp only [Ar.real, NV.val, Int.ofNat_eq_natCast, Int.toNat_natCast]); first | done | omega | decide | exact inR64 (by omega) (by omega) | (refine ⟨?_, ?_⟩ <;> first | omega | decide | exact inR64 (by omega) (by omega))))
        · (try cbv) <;> (repeat' (first | exact trivial | exact rfl | apply And.intro | (intro _ hle; first | refine chunk_le hA rfl hle rfl ?_ | refine cat_le hA ?_ | refine upd_le hA ?_ | (try cbv))))
        cbv
        refine Fin.le hA 0 [] (.tup [.int .i64 r1, .int .i64 r2, .int .i64 er]) ([]) 1 rfl rfl rfl ?_ ?_ (by rw [← hK]; exact ⟨rfl, rfl, rfl⟩)
        · (try cbv) <;> (repeat' (first | exact trivial | exact rfl | apply And.intro | (intro _ hle; first | refine chunk_le hA rfl hle rfl ?_ | refine cat_le hA ?_ | refine upd_le hA ?_ | (try cbv))))
          · exact e2.symm
          · exact e3.symm
          · exact e1.symm
        · (try cbv) <;> (repeat' (first | exact trivial | exact rfl | apply And.intro | (intro _ hle; first | refine chunk_le hA rfl hle rfl ?_ | refine cat_le hA ?_ | refine upd_le hA ?_ | (try cbv))))
    · have hi : i = k := by clear hQs hAs hBs hR; subst hA; simp only [Ar.real] at h5; simp at h5; omega
      subst hi
      have he := hend h4
      clear hgood hbadc hbad hQs hAs hBs hend hR
      cbv
      refine ⟨fun h6 => ?_, fun h6 => ?_⟩
      · have h7 : NA i < 0 := by subst hA; simp only [Ar.real] at h6; simpa using h6
        obtain ⟨e1, e2, e3⟩ : er = 80 ∧ r1 = 0 ∧ r2 = 0 := by
          rcases he with h8 | h8
          · have := hAp h8.1; omega
          · exact h8.2
        cbv
        refine Fin.le hA 0 [] (.tup [.int .i64 r1, .int .i64 r2, .int .i64 er]) ([]) 1 rfl rfl rfl ?_ ?_ (by rw [← hK]; exact ⟨rfl, rfl, rfl⟩)
        · (try cbv) <;> (repeat' (first | exact trivial | exact rfl | apply And.intro | (intro _ hle; first | refine chunk_le hA rfl hle rfl ?_ | refine cat_le hA ?_ | refine upd_le hA ?_ | (try cbv))))
          · exact e2.symm
          · exact e3.symm
          · exact e1.symm
        · (try cbv) <;> (repeat' (first | exact trivial | exact rfl | apply And.intro | (intro _ hle; first | refine chunk_le hA rfl hle rfl ?_ | refine cat_le hA ?_ | refine upd_le hA ?_ | (try cbv))))
      · have h7 : ¬ NA i < 0 := by subst hA; simp only [Ar.real] at h6; simpa using h6
        obtain ⟨e1, e2, e3⟩ : er = 0 ∧ r1 = NA i ∧ r2 = NB i := by
          rcases he with h8 | h8
          · exact h8.2
          · have h9 := h8.1
            subst h9
            omega
        cbv
        refine Fin.le hA 0 [] (.tup [.int .i64 r1, .int .i64 r2, .int .i64 er]) ([]) 1 rfl rfl rfl ?_ ?_ (by rw [← hK]; exact ⟨rfl, rfl, rfl⟩)
        · (try cbv) <;> (repeat' (first | exact trivial | exact rfl | apply And.intro | (intro _ hle; first | refine chunk_le hA rfl hle rfl ?_ | refine cat_le hA ?_ | refine upd_le hA ?_ | (try cbv))))
          · exact e2.symm
          · exact e3.symm
          · exact e1.symm
        · (try cbv) <;> (repeat' (first | exact trivial | exact rfl | apply And.intro | (intro _ hle; first | refine chunk_le hA rfl hle rfl ?_ | refine cat_le hA ?_ | refine upd_le hA ?_ | (try cbv))))

theorem refnear_fn {P : Program} {G : Gl} (hP : P = Try.prog) {k m : Nat} {len : Nat → Nat} {g : Nat → Nat → Int} {x : Nat → Int} {r1 r2 er : Int} (hk : k ≤ 1000000000) (hl : ∀ i, i < k → len i ≤ 9223372036854775807) (hm : m ≤ 9223372036854775807) (hd : NearIs k len g m x r1 r2 er) :
    FnTr P G 62 [LSv k len g, .ro 1 (.s m) (fun e => [.int .i64 (x e.val)])] [] 0 (Gives (.tup [.int .i64 r1, .int .i64 r2, .int .i64 er]) [] 1) := by
  obtain ⟨Q, hQ0, hQs, hQn, hQm⟩ := all_steps (fun i => GapOk (len i) (g i) m x)
  obtain ⟨V, hV⟩ : ∃ V : Nat → Int, ∀ i, V i = gapV (g i) x (len i) := ⟨_, fun _ => rfl⟩
  obtain ⟨NA, hNA⟩ : ∃ NA : Nat → Int, ∀ i, NA i = (nearA V i).1 := ⟨_, fun _ => rfl⟩
  obtain ⟨NB, hNB⟩ : ∃ NB : Nat → Int, ∀ i, NB i = (nearA V i).2 := ⟨_, fun _ => rfl⟩
  have hA0 : NA 0 = -1 := by rw [hNA]; rfl
  have hB0 : NB 0 = 0 := by rw [hNB]; rfl
  have hAs : ∀ i, NA (i + 1) = if NA i < 0 ∨ V i < NB i then (i : Int) else NA i := fun i => by
    rw [hNA, hNA, hNB]
    show (if (nearA V i).1 < 0 ∨ V i < (nearA V i).2 then ((i : Int), V i) else nearA V i).1 = _
    split <;> rfl
  have hBs : ∀ i, NB (i + 1) = if NA i < 0 ∨ V i < NB i then V i else NB i := fun i => by
    rw [hNB, hNA, hNB]
    show (if (nearA V i).1 < 0 ∨ V i < (nearA V i).2 then ((i : Int), V i) else nearA V i).2 = _
    split <;> rfl
  have hAp : 0 < k → 0 ≤ NA k := fun h => by
    obtain ⟨j, rfl⟩ : ∃ j, k = j + 1 := ⟨k - 1, by omega⟩
    rw [hNA]; exact nearA_at V j
  have hend : Q k → (0 < k ∧ er = 0 ∧ r1 = NA k ∧ r2 = NB k) ∨ (k = 0 ∧ er = 80 ∧ r1 = 0 ∧ r2 = 0) := fun hq => by
    have hVe : V = fun i => gapV (g i) x (len i) := funext hV
    rcases hd with ⟨⟨h1, _⟩, h2, h3, h4⟩ | ⟨h1, h2⟩
    · exact .inl ⟨h1, h2, by rw [hNA, hVe]; exact h3, by rw [hNB, hVe]; exact h4⟩
    · exact .inr ⟨Nat.eq_zero_of_not_pos fun h => h1 ⟨h, (hQn k).1 hq⟩, h2⟩
  have hbad : ∀ i, i < k → ¬ GapOk (len i) (g i) m x → er = 80 ∧ r1 = 0 ∧ r2 = 0 := fun i hi h => by
    rcases hd with ⟨h1, _⟩ | ⟨_, h2⟩
    · exact absurd (h1.2 i hi) h
    · exact h2
  have hgood : ∀ i, i < k → GapOk (len i) (g i) m x → FnTr P G 60 [.ro 1 (.s (len i)) (fun e => [.int .i64 (g i e.val)]), .ro 1 (.s m) (fun e => [.int .i64 (x e.val)])] [] 0 (Gives (.tup [.int .i64 (V i), .int .i64 0]) [] 1) := fun i hi h =>
    refgap_fn hP (hl i hi) hm (.inl ⟨h, rfl, hV i⟩)
  have hbadc : ∀ i, i < k → ¬ GapOk (len i) (g i) m x → FnTr P G 60 [.ro 1 (.s (len i)) (fun e => [.int .i64 (g i e.val)]), .ro 1 (.s m) (fun e => [.int .i64 (x e.val)])] [] 0 (Gives (.tup [.int .i64 0, .int .i64 80]) [] 1) := fun i hi h =>
    refgap_fn hP (hl i hi) hm (.inr ⟨h, rfl, rfl⟩)
  clear hd hNA hNB hQn hQm hV
  have hT : T.Ok P := hP ▸ T_ok
  refine FnTr.intro (fn := Try.f62) (c := bodyOf Try.f62) (by rw [hP]; rfl) rfl rfl hT ?_
  generalize hA : Ar.real = A
  generalize hK : Gives _ _ _ = K
  cbv
  refine LS.le hT hA 1 (fun (i : Nat) => [(7, .int .i64 (NA i)), (8, .int .i64 (NB i)), (9, .int .i64 (i : Int))]) (fun _ => []) (fun i => i ≤ k ∧ Q i) (fun i => k - i) 0 [] rfl rfl ?_ ?_ ?_
  · (try cbv) <;> (repeat' (first | exact trivial | exact rfl | apply And.intro | (intro _ hle; first | refine chunk_le hA rfl hle rfl ?_ | refine cat_le hA ?_ | refine upd_le hA ?_ | (try cbv))))
    · exact hA0.symm
    · exact hB0.symm
  · exact ⟨Nat.zero_le _, hQ0⟩
  · intro R hR i hp
    cbv
    obtain ⟨h3, h4⟩ := hp
    refine ⟨fun h5 => ?_, fun h5 => ?_⟩
    · have hi : i < k := by clear hQs hAs hBs; subst hA; simp only [Ar.real] at h5; simp at h5; omega
      by_cases hok : GapOk (len i) (g i) m x
      · have c1 := hgood i hi hok
        have hq : Q (i + 1) := (hQs i).2 ⟨h4, hok⟩
        have a1 := hAs i
        have b1 := hBs i
        clear hgood hbadc hbad hQs hAs hBs hok hend
        cbv
        refine ⟨(by (subst hA; (try simp only [natCast_eq] at *); (simp only [Ar.real, NV.val, Int.ofNat_eq_natCast, Int.toNat_natCast]); first | done | omega | decide | exact inR64 (by omega) (by omega) | (refine ⟨?_, ?_⟩ <;> first | omega | decide | exact inR64 (by omega) (by omega)))), ?_⟩
        refine CS.leR hA (c1) (.tup [.int .i64 (V i), .lit .i64 0]) [] rfl rfl rfl ?_ ?_ ?_ ?_
        · (try cbv) <;> (repeat' (first | exact trivial | exact rfl | apply And.intro | (intro _ hle; first | refine chunk_le hA rfl hle rfl ?_ | refine cat_le hA ?_ | refine upd_le hA ?_ | (try cbv)))) <;> (try (subst hA; (try simp only [natCast_eq] at *); (simp only [Ar.real, NV.val, Int.ofNat_eq_natCast, Int.toNat_natCast]); first | done | omega | decide | exact inR64 (by omega) (by omega) | (refine ⟨?_, ?_⟩ <;> first | omega | decide | exact inR64 (by omega) (by omega))))
        · (try cbv) <;> (repeat' (first | exact trivial | exact rfl | apply And.intro | (intro _ hle; first | refine chunk_le hA rfl hle rfl ?_ | refine cat_le hA ?_ | refine upd_le hA ?_ | (try cbv)))) <;> (try (subst hA; (try simp only [natCast_eq] at *); (simp only [Ar.real, NV.val, Int.ofNat_eq_natCast, Int.toNat_natCast]); first | done | omega | decide | exact inR64 (by omega) (by omega) | (refine ⟨?_, ?_⟩ <;> first | omega | decide | exact inR64 (by omega) (by omega))))
        · (try cbv) <;> (repeat' (first | exact trivial | exact rfl | apply And.intro | (intro _ hle; first | refine chunk_le hA rfl hle rfl ?_ | refine cat_le hA ?_ | refine upd_le hA ?_ | (try cbv))))
        cbv
        refine ⟨fun h6 => ?_, fun h6 => ?_⟩
        · have h7 : ¬ NA i < 0 := by subst hA; simp only [Ar.real] at h6; simpa using h6
          cbv
          refine ⟨fun h8 => ?_, fun h8 => ?_⟩
          · have h9 : V i < NB i := by subst hA; simp only [Ar.real] at h8; simpa using h8
            rw [if_pos (.inr h9)] at a1 b1
            cbv
            refine ⟨(by (subst hA; (try simp only [natCast_eq] at *); (simp only [Ar.real, NV.val, Int.ofNat_eq_natCast, Int.toNat_natCast]); first | done | omega | decide | exact inR64 (by omega) (by omega) | (refine ⟨?_, ?_⟩ <;> first | omega | decide | exact inR64 (by omega) (by omega)))), hR _ _ ⟨i + 1, 1, [], rfl, rfl, ?_, ⟨hi, hq⟩, (by show k - (i + 1) < k - i; omega)⟩⟩
            clear hR
            (try cbv) <;> (repeat' (first | exact trivial | exact rfl | apply And.intro | (intro _ hle; first | refine chunk_le hA rfl hle rfl ?_ | refine cat_le hA ?_ | refine upd_le hA ?_ | (try cbv))))
            · exact a1.symm
            · exact b1.symm
            · subst hA; simp only [Ar.real, NV.val, Int.ofNat_eq_natCast, Int.toNat_natCast]
              rfl
          · have h9 : ¬ V i < NB i := by subst hA; simp only [Ar.real] at h8; simpa using h8
            rw [if_neg (by omega)] at a1 b1
            cbv
            refine ⟨(by (subst hA; (try simp only [natCast_eq] at *); (simp only [Ar.real, NV.val, Int.ofNat_eq_natCast, Int.toNat_natCast]); first | done | omega | decide | exact inR64 (by omega) (by omega) | (refine ⟨?_, ?_⟩ <;> first | omega | decide | exact inR64 (by omega) (by omega)))), hR _ _ ⟨i + 1, 1, [], rfl, rfl, ?_, ⟨hi, hq⟩, (by show k - (i + 1) < k - i; omega)⟩⟩
            clear hR
            (try cbv) <;> (repeat' (first | exact trivial | exact rfl | apply And.intro | (intro _ hle; first | refine chunk_le hA rfl hle rfl ?_ | refine cat_le hA ?_ | refine upd_le hA ?_ | (try cbv))))
            · exact a1.symm
            · exact b1.symm
            · subst hA; simp only [Ar.real, NV.val, Int.ofNat_eq_natCast, Int.toNat_natCast]
              rfl
        · have h7 : NA i < 0 := by subst hA; simp only [Ar.real] at h6; simpa using h6
          rw [if_pos (.inl h7)] at a1 b1
          cbv
          refine ⟨(by (subst hA; (try simp only [natCast_eq] at *); (simp only [Ar.real, NV.val, Int.ofNat_eq_natCast, Int.toNat_natCast]); first | done | omega | decide | exact inR64 (by omega) (by omega) | (refine ⟨?_, ?_⟩ <;> first | omega | decide | exact inR64 (by omega) (by omega)))), hR _ _ ⟨i + 1, 1, [], rfl, rfl, ?_, ⟨hi, hq⟩, (by show k - (i + 1) < k - i; omega)⟩⟩
          clear hR
          (try cbv) <;> (repeat' (first | exact trivial | exact rfl | apply And.intro | (intro _ hle; first | refine chunk_le hA rfl hle rfl ?_ | refine cat_le hA ?_ | refine upd_le hA ?_ | (try cbv))))
          · exact a1.symm
          · exact b1.symm
          · subst hA; simp only [Ar.real, NV.val, Int.ofNat_eq_natCast, Int.toNat_natCast]
            rfl
      · have c1 := hbadc i hi hok
        obtain ⟨e1, e2, e3⟩ := hbad i hi hok
        clear hgood hbadc hbad hQs hAs hBs hok hend hR
        cbv
        refine ⟨(by (subst hA; (try simp only [natCast_eq] at *); (simp only [Ar.real, NV.val, Int.ofNat_eq_natCast, Int.toNat_natCast]); first | done | omega | decide | exact inR64 (by omega) (by omega) | (refine ⟨?_, ?_⟩ <;> first | omega | decide | exact inR64 (by omega) (by omega)))), ?_⟩
        refine CS.leR hA (c1) (.tup [.int .i64 0, .lit .i64 80]) [] rfl rfl rfl ?_ ?_ ?_ ?_
        · (try cbv) <;> (repeat' (first | exact trivial | exact rfl | apply And.intro | (intro _ hle; first | refine chunk_le hA rfl hle rfl ?_ | refine cat_le hA ?_ | refine upd_le hA ?_ | (try cbv)))) <;> (try (subst hA; (try simp only [natCast_eq] at *); (simp only [Ar.real, NV.val, Int.ofNat_eq_natCast, Int.toNat_natCast]); first | done | omega | decide | exact inR64 (by omega) (by omega) | (refine ⟨?_, ?_⟩ <;> first | omega | decide | exact inR64 (by omega) (by omega))))
        · (try cbv) <;> (repeat' (first | exact trivial | exact rfl | apply And.intro | (intro _ hle; first | refine chunk_le hA rfl hle rfl ?_ | refine cat_le hA ?_ | refine upd_le hA ?_ | (try cbv)))) <;> (try (subst hA; (try simp only [natCast_eq] at *); (simp only [Ar.real, NV.val, Int.ofNat_eq_natCast, Int.toNat_natCast]); first | done | omega | decide | exact inR64 (by omega) (by omega) | (refine ⟨?_, ?_⟩ <;> first | omega | decide | exact inR64 (by omega) (by omega))))
        · (try cbv) <;> (repeat' (first | exact trivial | exact rfl | apply And.intro | (intro _ hle; first | refine chunk_le hA rfl hle rfl ?_ | refine cat_le hA ?_ | refine upd_le hA ?_ | (try cbv))))
        cbv
        refine Fin.le hA 0 [] (.tup [.int .i64 r1, .int .i64 r2, .int .i64 er]) ([]) 1 rfl rfl rfl ?_ ?_ (by rw [← hK]; exact ⟨rfl, rfl, rfl⟩)
        · (try cbv) <;> (repeat' (first | exact trivial | exact rfl | apply And.intro | (intro _ hle; first | refine chunk_le hA rfl hle rfl ?_ | refine cat_le hA ?_ | refine upd_le hA ?_ | (try cbv))))
          · exact e2.symm
          · exact e3.symm
          · exact e1.symm
        · (try cbv) <;> (repeat' (first | exact trivial | exact rfl | apply And.intro | (intro _ hle; first | refine chunk_le hA rfl hle rfl ?_ | refine cat_le hA ?_ | refine upd_le hA ?_ | (try cbv))))
    · have hi : i = k := by clear hQs hAs hBs hR; subst hA; simp only [Ar.real] at h5; simp at h5; omega
      subst hi
      have he := hend h4
      clear hgood hbadc hbad hQs hAs hBs hend hR
      cbv
      refine ⟨fun h6 => ?_, fun h6 => ?_⟩
      · have h7 : NA i < 0 := by subst hA; simp only [Ar.real] at h6; simpa using h6
        obtain ⟨e1, e2, e3⟩ : er = 80 ∧ r1 = 0 ∧ r2 = 0 := by
          rcases he with h8 | h8
          · have := hAp h8.1; omega
          · exact h8.2
        cbv
        refine Fin.le hA 0 [] (.tup [.int .i64 r1, .int .i64 r2, .int .i64 er]) ([]) 1 rfl rfl rfl ?_ ?_ (by rw [← hK]; exact ⟨rfl, rfl, rfl⟩)
        · (try cbv) <;> (repeat' (first | exact trivial | exact rfl | apply And.intro | (intro _ hle; first | refine chunk_le hA rfl hle rfl ?_ | refine cat_le hA ?_ | refine upd_le hA ?_ | (try cbv))))
          · exact e2.symm
          · exact e3.symm
          · exact e1.symm
        · (try cbv) <;> (repeat' (first | exact trivial | exact rfl | apply And.intro | (intro _ hle; first | refine chunk_le hA rfl hle rfl ?_ | refine cat_le hA ?_ | refine upd_le hA ?_ | (try cbv))))
      · have h7 : ¬ NA i < 0 := by subst hA; simp only [Ar.real] at h6; simpa using h6
        obtain ⟨e1, e2, e3⟩ : er = 0 ∧ r1 = NA i ∧ r2 = NB i := by
          rcases he with h8 | h8
          · exact h8.2
          · have h9 := h8.1
            subst h9
            omega
        cbv
        refine Fin.le hA 0 [] (.tup [.int .i64 r1, .int .i64 r2, .int .i64 er]) ([]) 1 rfl rfl rfl ?_ ?_ (by rw [← hK]; exact ⟨rfl, rfl, rfl⟩)
        · (try cbv) <;> (repeat' (first | exact trivial | exact rfl | apply And.intro | (intro _ hle; first | refine chunk_le hA rfl hle rfl ?_ | refine cat_le hA ?_ | refine upd_le hA ?_ | (try cbv))))
          · exact e2.symm
          · exact e3.symm
          · exact e1.symm
        · (try cbv) <;> (repeat' (first | exact trivial | exact rfl | apply And.intro | (intro _ hle; first | refine chunk_le hA rfl hle rfl ?_ | refine cat_le hA ?_ | refine upd_le hA ?_ | (try cbv))))

end Go.Proofs.Ytkaobalnjimniaa.Vec
