/-
  Vectors: the box, once more.
-/
import Derived.Test.YtkaobalnjimniaaVecH3
set_option linter.unusedVariables false
set_option linter.unusedSimpArgs false
namespace Go.Proofs.Ytkaobalnjimniaa.Vec
open Go.Eng
open Go.VecLaw (lowV topV dotV gapV OS openV)
set_option maxRecDepth 100000
set_option linter.unusedVariables false

def BoxIs (k : Nat) (len : Nat → Nat) (g : Nat → Nat → Int) (dim : Int) (d : Nat) (lo hi : Nat → Int) (er : Int) : Prop :=
  (AllP k len g dim ∧ er = 0 ∧ (d : Int) = dim ∧ ∀ j, lo j = lowV (fun i => g i j) (k - 1) ∧ hi j = topV (fun i => g i j) (k - 1)) ∨ (¬ AllP k len g dim ∧ er = 80 ∧ d = 0)
theorem boxIs_ex (k : Nat) (len : Nat → Nat) (g : Nat → Nat → Int) (dim : Int) : ∃ d lo hi er, BoxIs k len g dim d lo hi er := by
  by_cases h : AllP k len g dim
  · exact ⟨dim.toNat, _, _, _, .inl ⟨h, rfl, by have := (h.2 0 h.1).1; omega, fun _ => ⟨rfl, rfl⟩⟩⟩
  · exact ⟨_, fun _ => 0, fun _ => 0, _, .inr ⟨h, rfl, rfl⟩⟩
/-- The least of the first i, or the first one. -/
def lowX (f : Nat → Int) (i : Nat) : Int := lowV f (i - 1)
def topX (f : Nat → Int) (i : Nat) : Int := topV f (i - 1)
theorem lowX_s (f : Nat → Int) (i : Nat) : lowX f (i + 1) = if f i < lowX f i then f i else lowX f i := by
  cases i with
  | zero => show f 0 = if f 0 < f 0 then f 0 else f 0; split <;> rfl
  | succ j => rfl
theorem topX_s (f : Nat → Int) (i : Nat) : topX f (i + 1) = if topX f i < f i then f i else topX f i := by
  cases i with
  | zero => show f 0 = if f 0 < f 0 then f 0 else f 0; split <;> rfl
  | succ j => rfl

theorem refbox_own {P : Program} {G : Gl} (hP : P = Try.prog) {k d : Nat} {len : Nat → Nat} {g : Nat → Nat → Int} {dim : Int} {lo hi : Nat → Int} (hk : k ≤ 1000000000) (hl : ∀ i, i < k → len i ≤ 9223372036854775807) (hok : AllP k len g dim) (hdim : (d : Int) = dim) (hlo : ∀ j, lo j = lowX (fun i => g i j) k) (hhi : ∀ j, hi j = topX (fun i => g i j) k) :
    FnTr P G 51 [LSv k len g, .int .i64 dim] [] 0
      (Gives (.tup [.sl 0 1 (.l 0) (.s d), .sl 1 1 (.l 0) (.s d), .int .i64 0]) [(0, .row 3 1 (.s d) (fun e => [.int .i64 (lo e.val)])), (1, .row 3 1 (.s d) (fun e => [.int .i64 (hi e.val)]))] 4) := by
  have c0 := all_fn (P := P) (G := G) (r := true) hP (by omega) hl ⟨fun _ => hok, fun _ => rfl⟩
  have hk0 := hok.1
  have hlen : ∀ i, i < k → len i = d := fun i hi => by have := (hok.2 i hi).1; omega
  have hd8 : d ≤ 8 := by have := (hok.2 0 hk0).1; omega
  have hg : ∀ i j, i < k → j < d → -2147483648 ≤ g i j ∧ g i j ≤ 2147483647 := fun i j h1 h2 => (hok.2 i h1).2 j (by rw [hlen i h1]; exact h2)
  obtain ⟨LX, hLX⟩ : ∃ LX : Nat → Nat → Int, ∀ j i, LX j i = lowX (fun i => g i j) i := ⟨_, fun _ _ => rfl⟩
  obtain ⟨TX, hTX⟩ : ∃ TX : Nat → Nat → Int, ∀ j i, TX j i = topX (fun i => g i j) i := ⟨_, fun _ _ => rfl⟩
  have hL0 : ∀ j, LX j 0 = g 0 j := fun j => by rw [hLX]; rfl
  have hT0 : ∀ j, TX j 0 = g 0 j := fun j => by rw [hTX]; rfl
  have hLs : ∀ j i, LX j (i + 1) = if g i j < LX j i then g i j else LX j i := fun j i => by rw [hLX, hLX]; exact lowX_s _ _
  have hTs : ∀ j i, TX j (i + 1) = if TX j i < g i j then g i j else TX j i := fun j i => by rw [hTX, hTX]; exact topX_s _ _
  have hLk : ∀ j, lo j = LX j k := fun j => by rw [hlo, hLX]
  have hTk : ∀ j, hi j = TX j k := fun j => by rw [hhi, hTX]
  have hdn : ∀ j : Nat, j < d ↔ (j : Int) < dim := fun j => by omega
  clear hlo hhi hLX hTX hok
  have hlp : ∀ {A : Ar} (j : Nat), Ar.real = A → ∀ e : NV, ltNV A e (.s (A.addN j 1)) → leL (leSV A 4) (catG A 1 (.s j) (fun e => [.int .i64 (lo e.val)]) (fun x => chunkS A 1 [.int .i64 (LX j k)] (addNV A (.l 0) x)) e) [.int .i64 (lo e.val)] := fun j hA =>
    ints_push hA (fun q => by by_cases e : q = j; rw [if_pos e, e, hLk]; rw [if_neg e])
  have htp : ∀ {A : Ar} (j : Nat), Ar.real = A → ∀ e : NV, ltNV A e (.s (A.addN j 1)) → leL (leSV A 4) (catG A 1 (.s j) (fun e => [.int .i64 (hi e.val)]) (fun x => chunkS A 1 [.int .i64 (TX j k)] (addNV A (.l 0) x)) e) [.int .i64 (hi e.val)] := fun j hA =>
    ints_push hA (fun q => by by_cases e : q = j; rw [if_pos e, e, hTk]; rw [if_neg e])
  have hT : T.Ok P := hP ▸ T_ok
  refine FnTr.intro (fn := Try.f51) (c := bodyOf Try.f51) (by rw [hP]; rfl) rfl rfl hT ?_
  generalize hA : Ar.real = A
  generalize hK : Gives _ _ _ = K
  cbv
  refine CS.leR hA (c0) (.bl true) [] rfl rfl rfl ?_ ?_ ?_ ?_
  · (try cbv) <;> (repeat' (first | exact trivial | exact rfl | apply And.intro | (intro _ hle; first | refine chunk_le hA rfl hle rfl ?_ | refine cat_le hA ?_ | refine upd_le hA ?_ | (try cbv)))) <;> (try (subst hA; (try simp only [natCast_eq] at *); (simp only [Ar.real, NV.val, Int.ofNat_eq_natCast, Int.toNat_natCast]); first | done | omega | decide | exact inR64 (by omega) (by omega) | (refine ⟨?_, ?_⟩ <;> first | omega | decide | exact inR64 (by omega) (by omega))))
  · (try cbv) <;> (repeat' (first | exact trivial | exact rfl | apply And.intro | (intro _ hle; first | refine chunk_le hA rfl hle rfl ?_ | refine cat_le hA ?_ | refine upd_le hA ?_ | (try cbv)))) <;> (try (subst hA; (try simp only [natCast_eq] at *); (simp only [Ar.real, NV.val, Int.ofNat_eq_natCast, Int.toNat_natCast]); first | done | omega | decide | exact inR64 (by omega) (by omega) | (refine ⟨?_, ?_⟩ <;> first | omega | decide | exact inR64 (by omega) (by omega))))
  · (try cbv) <;> (repeat' (first | exact trivial | exact rfl | apply And.intro | (intro _ hle; first | refine chunk_le hA rfl hle rfl ?_ | refine cat_le hA ?_ | refine upd_le hA ?_ | (try cbv))))
  cbv
  refine LS.ghost 3 1 (.l 0) (fun _ => [.int .i64 0]) rfl ?_
  refine LS.ghost 3 1 (.l 0) (fun _ => [.int .i64 0]) rfl ?_
  refine LS.le hT hA 0 (fun (j : Nat) => [(9, .int .i64 (j : Int)), (7, .sl 0 1 (.l 0) (.s j)), (8, .sl 1 1 (.l 0) (.s j))]) (fun j => [(0, .row 3 1 (.s j) (fun e => [.int .i64 (lo e.val)])), (1, .row 3 1 (.s j) (fun e => [.int .i64 (hi e.val)]))]) (fun j => j ≤ d) (fun j => d - j) 0 [(9, 0), (10, 1)] rfl rfl ?_ ?_ ?_
  · (try cbv) <;> (repeat' (first | exact trivial | exact rfl | apply And.intro | (intro _ hle; first | refine chunk_le hA rfl hle rfl ?_ | refine cat_le hA ?_ | refine upd_le hA ?_ | refine int_le ?_ | skip)))
    all_goals (exfalso; subst hA; exact absurd (ltNV_real.1 hle) (Nat.not_lt_zero _))
  · exact Nat.zero_le _
  · intro R hR j hj
    cbv
    refine ⟨fun h5 => ?_, fun h5 => ?_⟩
    · have hi1 : j < d := (hdn j).2 (by clear hdn hlp htp hLs hTs; subst hA; simp only [Ar.real] at h5; simpa using h5)
      cbv
      refine DS.run hA hT (by rw [hP]; exact P_mixed) 1 rfl ?_
      cbv
      have hl0 : len 0 = d := hlen 0 hk0
      refine ⟨(by clear hR hlp htp hdn hLs hTs hg hlen; subst hA; simp only [Ar.real, NV.val, hl0, Int.ofNat_eq_natCast]; omega), (by clear hR hlp htp hdn hLs hTs hg hlen; subst hA; simp only [Ar.real, NV.val, hl0, Int.ofNat_eq_natCast]; omega), (by clear hR hlp htp hdn hLs hTs hg hlen; subst hA; simp only [Ar.real, NV.val, hl0, Int.ofNat_eq_natCast]; omega), (by clear hR hlp htp hdn hLs hTs hg hlen; subst hA; simp only [Ar.real, NV.val, hl0, Int.ofNat_eq_natCast]; omega), ?_⟩
      refine LS.le hT hA 2 (fun (i : Nat) => [(10, .int .i64 (LX j i)), (11, .int .i64 (TX j i)), (12, .int .i64 (i : Int))]) (fun _ => [(0, .row 3 1 (.s j) (fun e => [.int .i64 (lo e.val)])), (1, .row 3 1 (.s j) (fun e => [.int .i64 (hi e.val)]))]) (fun i => i ≤ k) (fun i => k - i) 0 [] rfl rfl ?_ ?_ ?_
      · (try cbv) <;> (repeat' (first | exact trivial | exact rfl | apply And.intro | (intro _ hle; first | refine chunk_le hA rfl hle rfl ?_ | refine cat_le hA ?_ | refine upd_le hA ?_ | refine int_le ?_ | skip)))
        · subst hA; exact (hL0 j).symm
        · subst hA; exact (hT0 j).symm
      · exact Nat.zero_le _
      · intro R2 hR2 i hik
        cbv
        refine ⟨fun h6 => ?_, fun h6 => ?_⟩
        · have hi2 : i < k := by clear hR hR2 hlp htp hdn hLs hTs hg hlen; subst hA; simp only [Ar.real] at h6; simp at h6; omega
          have hli : len (Int.toNat (Int.ofNat i)) = d := hlen i hi2
          have hgi : g (Int.toNat (Int.ofNat i)) (Int.toNat (Int.ofNat j)) = g i j := rfl
          have a1 := hLs j i
          have b1 := hTs j i
          clear hR hlp htp hdn hLs hTs hg hlen
          cbv
          repeat' (first | (apply And.intro) | (intro _; try cbv) | (refine DS.run hA hT (by rw [hP]; exact P_mixed) 1 rfl ?_; cbv))
          all_goals first
            | (clear hR2; (subst hA; (try simp only [natCast_eq] at *); (simp only [Ar.real, NV.val, Int.ofNat_eq_natCast, Int.toNat_natCast]); first | done | omega | decide | exact inR64 (by omega) (by omega) | (refine ⟨?_, ?_⟩ <;> first | omega | decide | exact inR64 (by omega) (by omega))); done)
            | (clear hR2; subst hA; simp only [Ar.real, NV.val, hli]; simp only [Int.ofNat_eq_natCast]; omega)
            | (refine hR2 _ _ ⟨i + 1, 2, [], rfl, rfl, ?_, hi2, (by show k - (i + 1) < k - i; omega)⟩
               clear hR2
               (try cbv) <;> (repeat' (first | exact trivial | exact rfl | apply And.intro | (intro _ hle; first | refine chunk_le hA rfl hle rfl ?_ | refine cat_le hA ?_ | refine upd_le hA ?_ | refine int_le ?_ | skip)))
               all_goals (subst hA; simp only [Ar.real, NV.val, hgi] at *; simp only [natCast_eq, Int.ofNat_eq_natCast, decide_eq_true_eq, decide_eq_false_iff_not, Bool.not_true, Bool.not_false, gt_iff_lt] at *; first | rfl | (rw [a1]; split <;> omega) | (rw [b1]; split <;> omega) | omega))
        · have hi2 : i = k := by clear hR hR2 hlp htp hdn hLs hTs hg hlen; subst hA; simp only [Ar.real] at h6; simp at h6; omega
          subst hi2
          have hp1 := hlp j hA
          have hp2 := htp j hA
          clear hR2 hlp htp hdn hLs hTs hg hlen
          cbv
          refine ⟨⟨(by (subst hA; (try simp only [natCast_eq] at *); (simp only [Ar.real, NV.val, Int.ofNat_eq_natCast, Int.toNat_natCast]); first | done | omega | decide | exact inR64 (by omega) (by omega) | (refine ⟨?_, ?_⟩ <;> first | omega | decide | exact inR64 (by omega) (by omega)))), (by (subst hA; (try simp only [natCast_eq] at *); (simp only [Ar.real, NV.val, Int.ofNat_eq_natCast, Int.toNat_natCast]); first | done | omega | decide | exact inR64 (by omega) (by omega) | (refine ⟨?_, ?_⟩ <;> first | omega | decide | exact inR64 (by omega) (by omega)))), (by (subst hA; (try simp only [natCast_eq] at *); (simp only [Ar.real, NV.val, Int.ofNat_eq_natCast, Int.toNat_natCast]); first | done | omega | decide | exact inR64 (by omega) (by omega) | (refine ⟨?_, ?_⟩ <;> first | omega | decide | exact inR64 (by omega) (by omega))))⟩, ⟨(by (subst hA; (try simp only [natCast_eq] at *); (simp only [Ar.real, NV.val, Int.ofNat_eq_natCast, Int.toNat_natCast]); first | done | omega | decide | exact inR64 (by omega) (by omega) | (refine ⟨?_, ?_⟩ <;> first | omega | decide | exact inR64 (by omega) (by omega)))), (by (subst hA; (try simp only [natCast_eq] at *); (simp only [Ar.real, NV.val, Int.ofNat_eq_natCast, Int.toNat_natCast]); first | done | omega | decide | exact inR64 (by omega) (by omega) | (refine ⟨?_, ?_⟩ <;> first | omega | decide | exact inR64 (by omega) (by omega)))), (by (subst hA; (try simp only [natCast_eq] at *); (simp only [Ar.real, NV.val, Int.ofNat_eq_natCast, Int.toNat_natCast]); first | done | omega | decide | exact inR64 (by omega) (by omega) | (refine ⟨?_, ?_⟩ <;> first | omega | decide | exact inR64 (by omega) (by omega))))⟩, (by (subst hA; (try simp only [natCast_eq] at *); (simp only [Ar.real, NV.val, Int.ofNat_eq_natCast, Int.toNat_natCast]); first | done | omega | decide | exact inR64 (by omega) (by omega) | (refine ⟨?_, ?_⟩ <;> first | omega | decide | exact inR64 (by omega) (by omega)))), hR _ _ ⟨j + 1, 0, [(9, 0), (14, 1)], rfl, rfl, ?_, hi1, (by show d - (j + 1) < d - j; omega)⟩⟩
          clear hR
          (try cbv) <;> (repeat' (first | exact trivial | exact rfl | apply And.intro | (intro _ hle; first | exact hp1 _ hle | exact hp2 _ hle | refine chunk_le hA rfl hle rfl ?_ | refine cat_le hA ?_ | refine upd_le hA ?_ | refine int_le ?_ | skip)))
          all_goals (subst hA; (try simp only [natCast_eq] at *); (simp only [Ar.real, NV.val, Int.ofNat_eq_natCast, Int.toNat_natCast]); first | done | omega | decide | exact inR64 (by omega) (by omega) | (refine ⟨?_, ?_⟩ <;> first | omega | decide | exact inR64 (by omega) (by omega)))
    · clear hR
      have hi1 : j = d := by
        have : ¬ j < d := fun h => by
          have h := (hdn j).1 h
          clear hdn hlp htp hLs hTs; subst hA; simp only [Ar.real] at h5; simp at h5; simp only [natCast_eq] at *; omega
        omega
      subst hi1
      cbv
      refine Fin.le hA 0 [(0, 0), (1, 1)] (.tup [.sl 0 1 (.l 0) (.s j), .sl 1 1 (.l 0) (.s j), .int .i64 0]) ([(0, .row 3 1 (.s j) (fun e => [.int .i64 (lo e.val)])), (1, .row 3 1 (.s j) (fun e => [.int .i64 (hi e.val)]))]) 4 rfl rfl rfl ?_ ?_ (by rw [← hK]; exact ⟨rfl, rfl, rfl⟩)
      · (try cbv) <;> (repeat' (first | exact trivial | exact rfl | apply And.intro | (intro _ hle; first | refine chunk_le hA rfl hle rfl ?_ | refine cat_le hA ?_ | refine upd_le hA ?_ | refine int_le ?_ | skip)))
      · (try cbv) <;> (repeat' (first | exact trivial | exact rfl | apply And.intro | (intro _ hle; first | refine chunk_le hA rfl hle rfl ?_ | refine cat_le hA ?_ | refine upd_le hA ?_ | refine int_le ?_ | skip)))

theorem refbox_fn {P : Program} {G : Gl} (hP : P = Try.prog) {k d : Nat} {len : Nat → Nat} {g : Nat → Nat → Int} {dim er : Int} {lo hi : Nat → Int} (hk : k ≤ 1000000000) (hl : ∀ i, i < k → len i ≤ 9223372036854775807) (hb : BoxIs k len g dim d lo hi er) :
    FnTr P G 51 [LSv k len g, .int .i64 dim] [] 0 (Gives (.tup [.ro 1 (.s d) (fun e => [.int .i64 (lo e.val)]), .ro 1 (.s d) (fun e => [.int .i64 (hi e.val)]), .int .i64 er]) [] 4) := by
  rcases hb with ⟨hok, rfl, hd, hv⟩ | ⟨hno, rfl, rfl⟩
  · have h1 := refbox_own (P := P) (G := G) hP hk hl hok hd (fun j => (hv j).1) (fun j => (hv j).2)
    generalize hA : Ar.real = A
    refine FnTr.dat hA h1 _ _ ?_
    (try cbv) <;> (repeat' (first | exact trivial | exact rfl | apply And.intro | (intro _ hle; first | refine chunk_le hA rfl hle rfl ?_ | refine cat_le hA ?_ | refine upd_le hA ?_ | refine int_le ?_ | skip)))
    all_goals (subst hA; (try simp only [natCast_eq] at *); (simp only [Ar.real, NV.val, Int.ofNat_eq_natCast, Int.toNat_natCast]); first | done | omega | decide | exact inR64 (by omega) (by omega) | (refine ⟨?_, ?_⟩ <;> first | omega | decide | exact inR64 (by omega) (by omega)))
  · have c0 := all_fn (P := P) (G := G) (r := false) hP (by omega) hl ⟨fun h' => (by cases h'), fun h' => absurd h' hno⟩
    have hT : T.Ok P := hP ▸ T_ok
    refine FnTr.intro (fn := Try.f51) (c := bodyOf Try.f51) (by rw [hP]; rfl) rfl rfl hT ?_
    generalize hA : Ar.real = A
    generalize hK : Gives _ _ _ = K
    cbv
    refine CS.leR hA (c0) (.bl false) [] rfl rfl rfl ?_ ?_ ?_ ?_
    · (try cbv) <;> (repeat' (first | exact trivial | exact rfl | apply And.intro | (intro _ hle; first | refine chunk_le hA rfl hle rfl ?_ | refine cat_le hA ?_ | refine upd_le hA ?_ | (try cbv)))) <;> (try (subst hA; (try simp only [natCast_eq] at *); (simp only [Ar.real, NV.val, Int.ofNat_eq_natCast, Int.toNat_natCast]); first | done | omega | decide | exact inR64 (by omega) (by omega) | (refine ⟨?_, ?_⟩ <;> first | omega | decide | exact inR64 (by omega) (by omega))))
    · (try cbv) <;> (repeat' (first | exact trivial | exact rfl | apply And.intro | (intro _ hle; first | refine chunk_le hA rfl hle rfl ?_ | refine cat_le hA ?_ | refine upd_le hA ?_ | (try cbv)))) <;> (try (subst hA; (try simp only [natCast_eq] at *); (simp only [Ar.real, NV.val, Int.ofNat_eq_natCast, Int.toNat_natCast]); first | done | omega | decide | exact inR64 (by omega) (by omega) | (refine ⟨?_, ?_⟩ <;> first | omega | decide | exact inR64 (by omega) (by omega))))
    · (try cbv) <;> (repeat' (first | exact trivial | exact rfl | apply And.intro | (intro _ hle; first | refine chunk_le hA rfl hle rfl ?_ | refine cat_le hA ?_ | refine upd_le hA ?_ | (try cbv))))
    cbv
    refine Fin.le hA 0 [] (.tup [.ro 1 (.s 0) (fun e => [.int .i64 (lo e.val)]), .ro 1 (.s 0) (fun e => [.int .i64 (hi e.val)]), .int .i64 80]) ([]) 4 rfl rfl rfl ?_ ?_ (by rw [← hK]; exact ⟨rfl, rfl, rfl⟩)
    · (try cbv) <;> (repeat' (first | exact trivial | exact rfl | apply And.intro | (intro _ hle; first | refine chunk_le hA rfl hle rfl ?_ | refine cat_le hA ?_ | refine upd_le hA ?_ | (try cbv))))
    · (try cbv) <;> (repeat' (first | exact trivial | exact rfl | apply And.intro | (intro _ hle; first | refine chunk_le hA rfl hle rfl ?_ | refine cat_le hA ?_ | refine upd_le hA ?_ | (try cbv))))
end Go.Proofs.Ytkaobalnjimniaa.Vec
