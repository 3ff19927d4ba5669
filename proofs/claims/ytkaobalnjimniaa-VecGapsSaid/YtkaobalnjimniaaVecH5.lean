/-
  Vectors: the box.
-/
import Derived.Test.YtkaobalnjimniaaVecH4
set_option linter.unusedVariables false
set_option linter.unusedSimpArgs false
namespace Go.Proofs.Ytkaobalnjimniaa.Vec
open Go.Eng
open Go.VecLaw (lowV topV dotV gapV OS openV)
set_option maxRecDepth 100000
set_option linter.unusedVariables false

theorem box_own {P : Program} {G : Gl} (hP : P = Try.prog) {k d : Nat} {len : Nat → Nat} {g : Nat → Nat → Int} {dim : Int} {lo hi : Nat → Int} (hk : k ≤ 1000000000) (hl : ∀ i, i < k → len i ≤ 9223372036854775807) (hdim : d = dim.toNat) (hlo : ∀ j, lo j = lowX (fun i => g i j) k) (hhi : ∀ j, hi j = topX (fun i => g i j) k)
    {K : SV → Hl → Nat → Prop}
    (hK1 : AllP k len g dim → K (.tup [.sl 0 1 (.l 0) (.s d), .sl 1 1 (.l 0) (.s d), .int .i64 0]) [(0, .row 3 1 (.s d) (fun e => [.int .i64 (lo e.val)])), (1, .row 3 1 (.s d) (fun e => [.int .i64 (hi e.val)]))] 4)
    (hK2 : ¬ AllP k len g dim → K (.tup [.nils, .nils, .int .i64 80]) [] 4) :
    FnTr P G 50 [LSv k len g, .int .i64 dim] [] 0 K := by
  obtain ⟨Q, hQ0, hQs, hQn, hQm⟩ := all_steps (fun i => VecP (len i) (g i) dim)
  have hlen : ∀ i, VecP (len i) (g i) dim → len i = d ∧ d ≤ 8 := fun i h => by have := h.1; omega
  have hg : ∀ i j, VecP (len i) (g i) dim → j < d → -2147483648 ≤ g i j ∧ g i j ≤ 2147483647 := fun i j h1 h2 => h1.2 j (by rw [(hlen i h1).1]; exact h2)
  obtain ⟨LX, hLX⟩ : ∃ LX : Nat → Nat → Int, ∀ j i, LX j i = lowX (fun i => g i j) (i + 1) := ⟨_, fun _ _ => rfl⟩
  obtain ⟨TX, hTX⟩ : ∃ TX : Nat → Nat → Int, ∀ j i, TX j i = topX (fun i => g i j) (i + 1) := ⟨_, fun _ _ => rfl⟩
  have hL0 : ∀ j, LX j 0 = g 0 j := fun j => by rw [hLX]; rfl
  have hT0 : ∀ j, TX j 0 = g 0 j := fun j => by rw [hTX]; rfl
  have hLs : ∀ j i, LX j (i + 1) = if g (i + 1) j < LX j i then g (i + 1) j else LX j i := fun j i => by rw [hLX, hLX]; exact lowX_s _ _
  have hTs : ∀ j i, TX j (i + 1) = if TX j i < g (i + 1) j then g (i + 1) j else TX j i := fun j i => by rw [hTX, hTX]; exact topX_s _ _
  have hLk : ∀ j, 0 < k → lo j = LX j (k - 1) := fun j h => by rw [hlo, hLX, show k - 1 + 1 = k by omega]
  have hTk : ∀ j, 0 < k → hi j = TX j (k - 1) := fun j h => by rw [hhi, hTX, show k - 1 + 1 = k by omega]
  have hend : 0 < k → Q k → AllP k len g dim := fun h0 hq => ⟨h0, (hQn k).1 hq⟩
  have hbad : ∀ i, i < k → ¬ VecP (len i) (g i) dim → ¬ AllP k len g dim := fun i hi h h2 => h (h2.2 i hi)
  have hz : k = 0 → ¬ AllP k len g dim := fun h h2 => by have := h2.1; omega
  have hgood : ∀ i, i < k → VecP (len i) (g i) dim → FnTr P G 45 [.ro 1 (.s (len i)) (fun e => [.int .i64 (g i e.val)]), .int .i64 dim] [] 0 (Gives (.bs true) [] 0) := fun i hi h => is_fn hP (hl i hi) ⟨fun _ => h, fun _ => rfl⟩
  have hbadc : ∀ i, i < k → ¬ VecP (len i) (g i) dim → FnTr P G 45 [.ro 1 (.s (len i)) (fun e => [.int .i64 (g i e.val)]), .int .i64 dim] [] 0 (Gives (.bs false) [] 0) := fun i hi h => is_fn hP (hl i hi) ⟨fun h' => (by cases h'), fun h' => absurd h' h⟩
  clear hlo hhi hLX hTX hQn hQm
  have hT : T.Ok P := hP ▸ T_ok
  refine FnTr.intro (fn := Try.f50) (c := bodyOf Try.f50) (by rw [hP]; rfl) rfl rfl hT ?_
  generalize hA : Ar.real = A
  cbv
  by_cases h0 : 0 < k
  · by_cases hok0 : VecP (len 0) (g 0) dim
    · have c1 := hgood 0 h0 hok0
      have hl0 := (hlen 0 hok0).1
      have hd8 := (hlen 0 hok0).2
      refine ⟨fun h1 => ?_, fun h1 => by clear hlen hg hL0 hT0 hLs hTs hLk hTk hQs hbad hend; exfalso; (subst hA; simp only [Ar.real, NV.val, Int.ofNat_eq_natCast, Int.toNat_natCast, decide_eq_true_eq, decide_eq_false_iff_not, Bool.not_true, Bool.not_false, beq_iff_eq, bne_iff_ne, beq_eq_false_iff_ne, bne_eq_false_iff_eq, ne_eq, Bool.not_eq_true', Bool.not_eq_false', natCast_eq] at *; first | contradiction | omega | (generalize Int.tmod _ _ = qtm at *; omega))⟩
      cbv
      refine ⟨(by (subst hA; (try simp only [natCast_eq] at *); (simp only [Ar.real, NV.val, Int.ofNat_eq_natCast, Int.toNat_natCast]); first | done | omega | decide | exact inR64 (by omega) (by omega) | (refine ⟨?_, ?_⟩ <;> first | omega | decide | exact inR64 (by omega) (by omega)))), ?_⟩
      refine CS.leR hA (c1) (.bl true) [] rfl rfl rfl ?_ ?_ ?_ ?_
      · (try cbv) <;> (repeat' (first | exact trivial | exact rfl | apply And.intro | (intro _ hle; first | refine chunk_le hA rfl hle rfl ?_ | refine cat_le hA ?_ | refine upd_le hA ?_ | (try cbv)))) <;> (try (subst hA; (try simp only [natCast_eq] at *); (simp only [Ar.real, NV.val, Int.ofNat_eq_natCast, Int.toNat_natCast]); first | done | omega | decide | exact inR64 (by omega) (by omega) | (refine ⟨?_, ?_⟩ <;> first | omega | decide | exact inR64 (by omega) (by omega))))
      · (try cbv) <;> (repeat' (first | exact trivial | exact rfl | apply And.intro | (intro _ hle; first | refine chunk_le hA rfl hle rfl ?_ | refine cat_le hA ?_ | refine upd_le hA ?_ | (try cbv)))) <;> (try (subst hA; (try simp only [natCast_eq] at *); (simp only [Ar.real, NV.val, Int.ofNat_eq_natCast, Int.toNat_natCast]); first | done | omega | decide | exact inR64 (by omega) (by omega) | (refine ⟨?_, ?_⟩ <;> first | omega | decide | exact inR64 (by omega) (by omega))))
      · (try cbv) <;> (repeat' (first | exact trivial | exact rfl | apply And.intro | (intro _ hle; first | refine chunk_le hA rfl hle rfl ?_ | refine cat_le hA ?_ | refine upd_le hA ?_ | (try cbv))))
      cbv
      refine DS.run hA hT (by rw [hP]; exact P_mixed) 1 rfl ?_
      cbv
      refine ⟨(by (subst hA; (try simp only [natCast_eq] at *); (simp only [Ar.real, NV.val, Int.ofNat_eq_natCast, Int.toNat_natCast]); first | done | omega | decide | exact inR64 (by omega) (by omega) | (refine ⟨?_, ?_⟩ <;> first | omega | decide | exact inR64 (by omega) (by omega)))), (by (subst hA; (try simp only [natCast_eq] at *); (simp only [Ar.real, NV.val, Int.ofNat_eq_natCast, Int.toNat_natCast]); first | done | omega | decide | exact inR64 (by omega) (by omega) | (refine ⟨?_, ?_⟩ <;> first | omega | decide | exact inR64 (by omega) (by omega)))), (by clear hlen hg hL0 hT0 hLs hTs hLk hTk hQs hbad hend; subst hA; simp only [Ar.real, NV.val, hl0, Int.ofNat_eq_natCast]; omega), ?_⟩
      refine DS.run hA hT (by rw [hP]; exact P_mixed) 1 rfl ?_
      cbv
      refine ⟨(by (subst hA; (try simp only [natCast_eq] at *); (simp only [Ar.real, NV.val, Int.ofNat_eq_natCast, Int.toNat_natCast]); first | done | omega | decide | exact inR64 (by omega) (by omega) | (refine ⟨?_, ?_⟩ <;> first | omega | decide | exact inR64 (by omega) (by omega)))), (by (subst hA; (try simp only [natCast_eq] at *); (simp only [Ar.real, NV.val, Int.ofNat_eq_natCast, Int.toNat_natCast]); first | done | omega | decide | exact inR64 (by omega) (by omega) | (refine ⟨?_, ?_⟩ <;> first | omega | decide | exact inR64 (by omega) (by omega)))), (by clear hlen hg hL0 hT0 hLs hTs hLk hTk hQs hbad hend; subst hA; simp only [Ar.real, NV.val, hl0, Int.ofNat_eq_natCast]; omega), ⟨(by (subst hA; (try simp only [natCast_eq] at *); (simp only [Ar.real, NV.val, Int.ofNat_eq_natCast, Int.toNat_natCast]); first | done | omega | decide | exact inR64 (by omega) (by omega) | (refine ⟨?_, ?_⟩ <;> first | omega | decide | exact inR64 (by omega) (by omega)))), (by (subst hA; (try simp only [natCast_eq] at *); (simp only [Ar.real, NV.val, Int.ofNat_eq_natCast, Int.toNat_natCast]); first | done | omega | decide | exact inR64 (by omega) (by omega) | (refine ⟨?_, ?_⟩ <;> first | omega | decide | exact inR64 (by omega) (by omega)))), (by (subst hA; (try simp only [natCast_eq] at *); (simp only [Ar.real, NV.val, Int.ofNat_eq_natCast, Int.toNat_natCast]); first | done | omega | decide | exact inR64 (by omega) (by omega) | (refine ⟨?_, ?_⟩ <;> first | omega | decide | exact inR64 (by omega) (by omega))))⟩, ?_⟩
      have hQ1 : Q 1 := (hQs 0).2 ⟨hQ0, hok0⟩
      obtain ⟨LM, hLM⟩ : ∃ LM : Nat → Nat → Nat → Int, ∀ q j x, LM q j x = if x < j then LX x (q + 1) else LX x q := ⟨_, fun _ _ _ => rfl⟩
      obtain ⟨TM, hTM⟩ : ∃ TM : Nat → Nat → Nat → Int, ∀ q j x, TM q j x = if x < j then TX x (q + 1) else TX x q := ⟨_, fun _ _ _ => rfl⟩
      have hLM0 : ∀ q x, LX x q = LM q 0 x := fun q x => by rw [hLM, if_neg (by omega)]
      have hTM0 : ∀ q x, TX x q = TM q 0 x := fun q x => by rw [hTM, if_neg (by omega)]
      have hLMd : ∀ q x, x < d → LM q d x = LX x (q + 1) := fun q x h => by rw [hLM, if_pos h]
      have hTMd : ∀ q x, x < d → TM q d x = TX x (q + 1) := fun q x h => by rw [hTM, if_pos h]
      have hLMs : ∀ q j x, LM q (j + 1) x = if x = j then (if g (q + 1) j < LM q j j then g (q + 1) j else LM q j j) else LM q j x := fun q j x => by
        rw [hLM, hLM q j x, hLM q j j]
        by_cases e : x = j
        · subst e; simp only [Nat.lt_irrefl, Nat.lt_add_one, if_true, if_false]; exact hLs _ _
        · rw [if_neg e]
          by_cases h : x < j
          · rw [if_pos (by omega), if_pos h]
          · rw [if_neg (by omega), if_neg h]
      have hTMs : ∀ q j x, TM q (j + 1) x = if x = j then (if TM q j j < g (q + 1) j then g (q + 1) j else TM q j j) else TM q j x := fun q j x => by
        rw [hTM, hTM q j x, hTM q j j]
        by_cases e : x = j
        · subst e; simp only [Nat.lt_irrefl, Nat.lt_add_one, if_true, if_false]; exact hTs _ _
        · rw [if_neg e]
          by_cases h : x < j
          · rw [if_pos (by omega), if_pos h]
          · rw [if_neg (by omega), if_neg h]
      clear hLM hTM hLs hTs
      refine LS.clr [31, 39] ?_
      refine LS.le hT hA 0 (fun (q : Nat) => [(7, .sl 0 1 (.l 0) (.s d)), (8, .sl 1 1 (.l 0) (.s d)), (43, .int .i64 (q : Int))]) (fun q => [(0, .row 3 1 (.s d) (fun e => [.int .i64 (LX e.val q)])), (1, .row 3 1 (.s d) (fun e => [.int .i64 (TX e.val q)]))]) (fun q => q + 1 ≤ k ∧ Q (q + 1)) (fun q => k - 1 - q) 0 [(20, 0), (29, 1)] rfl rfl ?_ ?_ ?_
      · (try cbv) <;> (repeat' (first | exact trivial | exact rfl | apply And.intro | (intro _ hle; first | refine chunk_le hA rfl hle rfl ?_ | refine cat_le hA ?_ | refine upd_le hA ?_ | refine int_le ?_ | skip)))
        all_goals first | exact hl0 | (subst hA; exact (hL0 _).symm) | (subst hA; exact (hT0 _).symm) | trace_state
      · exact ⟨h0, hQ1⟩
      · intro R hR q hq
        cbv
        obtain ⟨q1, q2⟩ := hq
        refine ⟨fun h6 => ?_, fun h6 => ?_⟩
        · have hi1 : q + 1 < k := by clear hlen hg hL0 hT0 hLk hTk hQs hbad hend; subst hA; simp only [Ar.real] at h6; simp at h6; omega
          by_cases hok : VecP (len (q + 1)) (g (q + 1)) dim
          · have c2 := hgood (q + 1) hi1 hok
            have hlq := (hlen (q + 1) hok).1
            have hq3 : Q (q + 1 + 1) := (hQs (q + 1)).2 ⟨q2, hok⟩
            have hlen1 : len (addNV A (NV.l 1) (NV.s (A.nat (Int.ofNat q)))).val = d := by subst hA; show len (1 + q) = d; rw [Nat.add_comm]; exact hlq
            have hg1 : ∀ j : Nat, g (addNV A (NV.l 1) (NV.s (A.nat (Int.ofNat q)))).val j = g (q + 1) j := fun j => by subst hA; show g (1 + q) j = _; rw [Nat.add_comm]
            cbv
            refine ⟨by clear hlen hg hL0 hT0 hLk hTk hQs hbad hend hLM0 hTM0 hLMd hTMd hLMs hTMs hgood hbadc; subst hA; simp only [Ar.real, Int.ofNat_eq_natCast]; omega, ?_⟩
            refine CS.leR hA c2 (.bl true) [] rfl rfl rfl ?_ ?_ ?_ ?_
            · (try cbv) <;> (repeat' (first | exact trivial | exact rfl | apply And.intro | (intro _ hle; first | refine chunk_le hA rfl hle rfl ?_ | refine cat_le hA ?_ | refine upd_le hA ?_ | (try cbv))))
              all_goals (subst hA; first | (show len (1 + q) = len (q + 1); rw [Nat.add_comm]) | (show g (1 + q) _ = g (q + 1) _; rw [Nat.add_comm]))
            · (try cbv) <;> (repeat' (first | exact trivial | exact rfl | apply And.intro | (intro _ hle; first | refine chunk_le hA rfl hle rfl ?_ | refine cat_le hA ?_ | refine upd_le hA ?_ | (try cbv))))
            · (try cbv) <;> (repeat' (first | exact trivial | exact rfl | apply And.intro | (intro _ hle; first | refine chunk_le hA rfl hle rfl ?_ | refine cat_le hA ?_ | refine upd_le hA ?_ | (try cbv))))
            cbv
            refine LS.le hT hA 2 (fun (j : Nat) => [(53, .int .i64 (j : Int))]) (fun j => [(0, .row 3 1 (.s d) (fun e => [.int .i64 (LM q j e.val)])), (1, .row 3 1 (.s d) (fun e => [.int .i64 (TM q j e.val)]))]) (fun j => j ≤ d) (fun j => d - j) 0 [] rfl rfl ?_ ?_ ?_
            · (try cbv) <;> (repeat' (first | exact trivial | exact rfl | apply And.intro | (intro _ hle; first | refine chunk_le hA rfl hle rfl ?_ | refine cat_le hA ?_ | refine upd_le hA ?_ | refine int_le ?_ | skip)))
              · exact hLM0 _ _
              · exact hTM0 _ _
            · exact Nat.zero_le _
            · intro R2 hR2 j hj
              cbv
              refine ⟨fun h7 => ?_, fun h7 => ?_⟩
              · have hj1 : j < d := by clear hlen hg hL0 hT0 hLk hTk hQs hbad hend hLM0 hTM0 hLMd hTMd hLMs hTMs hgood hbadc; clear hR hR2; rw [hlen1] at h7; subst hA; simp only [Ar.real] at h7; simp at h7; omega
                cbv
                refine ⟨by clear hR hR2; clear hlen hg hL0 hT0 hLk hTk hQs hbad hend hLM0 hTM0 hLMd hTMd hLMs hTMs hgood hbadc; rw [hlen1]; subst hA; simp only [Ar.real, Int.ofNat_eq_natCast]; omega, ?_⟩
                refine DS.run hA hT (by rw [hP]; exact P_mixed) 1 rfl ?_
                cbv
                repeat' (first | (apply And.intro) | (intro _; try cbv) | (refine DS.run hA hT (by rw [hP]; exact P_mixed) 1 rfl ?_; cbv))
                all_goals first
                  | (clear hR2; (subst hA; (try simp only [natCast_eq] at *); (simp only [Ar.real, NV.val, Int.ofNat_eq_natCast, Int.toNat_natCast]); first | done | omega | decide | exact inR64 (by omega) (by omega) | (refine ⟨?_, ?_⟩ <;> first | omega | decide | exact inR64 (by omega) (by omega))); done)
                  | (refine hR2 _ _ ⟨j + 1, 2, [], rfl, rfl, ?_, hj1, (by show d - (j + 1) < d - j; omega)⟩
                     clear hR2
                     (try cbv) <;> (repeat' (first | exact trivial | exact rfl | apply And.intro | (intro _ hle; first | refine chunk_le hA rfl hle rfl ?_ | refine cat_le hA ?_ | refine upd_le hA ?_ | refine int_le ?_ | skip)))
                     all_goals first
                       | ((subst hA; (try simp only [natCast_eq] at *); (simp only [Ar.real, NV.val, Int.ofNat_eq_natCast, Int.toNat_natCast]); first | done | omega | decide | exact inR64 (by omega) (by omega) | (refine ⟨?_, ?_⟩ <;> first | omega | decide | exact inR64 (by omega) (by omega))); done)
                       | (subst hA; rw [hTMs, ← hg1 j]; rfl)
                       | (subst hA; rw [hLMs, ← hg1 j]; rfl))
              · have hj1 : j = d := by clear hlen hg hL0 hT0 hLk hTk hQs hbad hend hLM0 hTM0 hLMd hTMd hLMs hTMs hgood hbadc; clear hR hR2; rw [hlen1] at h7; subst hA; simp only [Ar.real] at h7; simp at h7; omega
                subst hj1
                clear hR2
                cbv
                refine ⟨by clear hR; clear hlen hg hL0 hT0 hLk hTk hQs hbad hend hLM0 hTM0 hLMd hTMd hLMs hTMs hgood hbadc; (subst hA; (try simp only [natCast_eq] at *); (simp only [Ar.real, NV.val, Int.ofNat_eq_natCast, Int.toNat_natCast]); first | done | omega | decide | exact inR64 (by omega) (by omega) | (refine ⟨?_, ?_⟩ <;> first | omega | decide | exact inR64 (by omega) (by omega))), hR _ _ ⟨q + 1, 0, [(0, 0), (1, 1)], rfl, rfl, ?_, ⟨hi1, hq3⟩, (by show k - 1 - (q + 1) < k - 1 - q; omega)⟩⟩
                clear hR
                (try cbv) <;> (repeat' (first | exact trivial | exact rfl | apply And.intro | (intro _ hle; first | refine chunk_le hA rfl hle rfl ?_ | refine cat_le hA ?_ | refine upd_le hA ?_ | refine int_le ?_ | skip)))
                · (subst hA; (try simp only [natCast_eq] at *); (simp only [Ar.real, NV.val, Int.ofNat_eq_natCast, Int.toNat_natCast]); first | done | omega | decide | exact inR64 (by omega) (by omega) | (refine ⟨?_, ?_⟩ <;> first | omega | decide | exact inR64 (by omega) (by omega)))
                · exact hLMd _ _ (by subst hA; exact ltNV_real.1 hle)
                · exact hTMd _ _ (by subst hA; exact ltNV_real.1 hle)
          · have c2 := hbadc (q + 1) hi1 hok
            have hno := hbad (q + 1) hi1 hok
            clear hR
            cbv
            refine ⟨by clear hlen hg hL0 hT0 hLk hTk hQs hbad hend hLM0 hTM0 hLMd hTMd hLMs hTMs hgood hbadc; subst hA; simp only [Ar.real, Int.ofNat_eq_natCast]; omega, ?_⟩
            refine CS.leR hA c2 (.bl false) [] rfl rfl rfl ?_ ?_ ?_ ?_
            · (try cbv) <;> (repeat' (first | exact trivial | exact rfl | apply And.intro | (intro _ hle; first | refine chunk_le hA rfl hle rfl ?_ | refine cat_le hA ?_ | refine upd_le hA ?_ | (try cbv))))
              all_goals (subst hA; first | (show len (1 + q) = len (q + 1); rw [Nat.add_comm]) | (show g (1 + q) _ = g (q + 1) _; rw [Nat.add_comm]))
            · (try cbv) <;> (repeat' (first | exact trivial | exact rfl | apply And.intro | (intro _ hle; first | refine chunk_le hA rfl hle rfl ?_ | refine cat_le hA ?_ | refine upd_le hA ?_ | (try cbv))))
            · (try cbv) <;> (repeat' (first | exact trivial | exact rfl | apply And.intro | (intro _ hle; first | refine chunk_le hA rfl hle rfl ?_ | refine cat_le hA ?_ | refine upd_le hA ?_ | (try cbv))))
            cbv
            refine Fin.le hA 0 [] (.tup [.nils, .nils, .int .i64 80]) [] 4 rfl rfl rfl ?_ ?_ (hK2 hno)
            · (try cbv) <;> (repeat' (first | exact trivial | exact rfl | apply And.intro | (intro _ hle; first | refine chunk_le hA rfl hle rfl ?_ | refine cat_le hA ?_ | refine upd_le hA ?_ | (try cbv))))
            · (try cbv) <;> (repeat' (first | exact trivial | exact rfl | apply And.intro | (intro _ hle; first | refine chunk_le hA rfl hle rfl ?_ | refine cat_le hA ?_ | refine upd_le hA ?_ | (try cbv))))
        · clear hR
          have hi1 : k = q + 1 := by clear hlen hg hL0 hT0 hLk hTk hQs hbad hend; subst hA; simp only [Ar.real] at h6; simp at h6; omega
          have hK := hK1 (hend h0 (hi1 ▸ q2))
          cbv
          refine Fin.le hA 0 [(0, 0), (1, 1)] _ _ 4 rfl rfl rfl ?_ ?_ hK
          · (try cbv) <;> (repeat' (first | exact trivial | exact rfl | apply And.intro | (intro _ hle; first | refine chunk_le hA rfl hle rfl ?_ | refine cat_le hA ?_ | refine upd_le hA ?_ | refine int_le ?_ | skip)))
          · (try cbv) <;> (repeat' (first | exact trivial | exact rfl | apply And.intro | (intro _ hle; first | refine chunk_le hA rfl hle rfl ?_ | refine cat_le hA ?_ | refine upd_le hA ?_ | refine int_le ?_ | skip)))
            · rw [hLk _ h0, hi1]; rfl
            · rw [hTk _ h0, hi1]; rfl
    · have c1 := hbadc 0 h0 hok0
      have hno := hbad 0 h0 hok0
      refine ⟨fun h1 => ?_, fun h1 => by clear hlen hg hL0 hT0 hLs hTs hLk hTk hQs hbad hend; exfalso; (subst hA; simp only [Ar.real, NV.val, Int.ofNat_eq_natCast, Int.toNat_natCast, decide_eq_true_eq, decide_eq_false_iff_not, Bool.not_true, Bool.not_false, beq_iff_eq, bne_iff_ne, beq_eq_false_iff_ne, bne_eq_false_iff_eq, ne_eq, Bool.not_eq_true', Bool.not_eq_false', natCast_eq] at *; first | contradiction | omega | (generalize Int.tmod _ _ = qtm at *; omega))⟩
      cbv
      refine ⟨(by (subst hA; (try simp only [natCast_eq] at *); (simp only [Ar.real, NV.val, Int.ofNat_eq_natCast, Int.toNat_natCast]); first | done | omega | decide | exact inR64 (by omega) (by omega) | (refine ⟨?_, ?_⟩ <;> first | omega | decide | exact inR64 (by omega) (by omega)))), ?_⟩
      refine CS.leR hA (c1) (.bl false) [] rfl rfl rfl ?_ ?_ ?_ ?_
      · (try cbv) <;> (repeat' (first | exact trivial | exact rfl | apply And.intro | (intro _ hle; first | refine chunk_le hA rfl hle rfl ?_ | refine cat_le hA ?_ | refine upd_le hA ?_ | (try cbv)))) <;> (try (subst hA; (try simp only [natCast_eq] at *); (simp only [Ar.real, NV.val, Int.ofNat_eq_natCast, Int.toNat_natCast]); first | done | omega | decide | exact inR64 (by omega) (by omega) | (refine ⟨?_, ?_⟩ <;> first | omega | decide | exact inR64 (by omega) (by omega))))
      · (try cbv) <;> (repeat' (first | exact trivial | exact rfl | apply And.intro | (intro _ hle; first | refine chunk_le hA rfl hle rfl ?_ | refine cat_le hA ?_ | refine upd_le hA ?_ | (try cbv)))) <;> (try (subst hA; (try simp only [natCast_eq] at *); (simp only [Ar.real, NV.val, Int.ofNat_eq_natCast, Int.toNat_natCast]); first | done | omega | decide | exact inR64 (by omega) (by omega) | (refine ⟨?_, ?_⟩ <;> first | omega | decide | exact inR64 (by omega) (by omega))))
      · (try cbv) <;> (repeat' (first | exact trivial | exact rfl | apply And.intro | (intro _ hle; first | refine chunk_le hA rfl hle rfl ?_ | refine cat_le hA ?_ | refine upd_le hA ?_ | (try cbv))))
      cbv
      refine Fin.le hA 0 [] (.tup [.nils, .nils, .int .i64 80]) [] 4 rfl rfl rfl ?_ ?_ (hK2 hno)
      · (try cbv) <;> (repeat' (first | exact trivial | exact rfl | apply And.intro | (intro _ hle; first | refine chunk_le hA rfl hle rfl ?_ | refine cat_le hA ?_ | refine upd_le hA ?_ | (try cbv))))
      · (try cbv) <;> (repeat' (first | exact trivial | exact rfl | apply And.intro | (intro _ hle; first | refine chunk_le hA rfl hle rfl ?_ | refine cat_le hA ?_ | refine upd_le hA ?_ | (try cbv))))
  · have hno := hz (by omega)
    refine ⟨fun h1 => by clear hlen hg hL0 hT0 hLs hTs hLk hTk hQs hbad hend; exfalso; (subst hA; simp only [Ar.real, NV.val, Int.ofNat_eq_natCast, Int.toNat_natCast, decide_eq_true_eq, decide_eq_false_iff_not, Bool.not_true, Bool.not_false, beq_iff_eq, bne_iff_ne, beq_eq_false_iff_ne, bne_eq_false_iff_eq, ne_eq, Bool.not_eq_true', Bool.not_eq_false', natCast_eq] at *; first | contradiction | omega | (generalize Int.tmod _ _ = qtm at *; omega)), fun h1 => ?_⟩
    cbv
    refine Fin.le hA 0 [] (.tup [.nils, .nils, .int .i64 80]) [] 4 rfl rfl rfl ?_ ?_ (hK2 hno)
    · (try cbv) <;> (repeat' (first | exact trivial | exact rfl | apply And.intro | (intro _ hle; first | refine chunk_le hA rfl hle rfl ?_ | refine cat_le hA ?_ | refine upd_le hA ?_ | (try cbv))))
    · (try cbv) <;> (repeat' (first | exact trivial | exact rfl | apply And.intro | (intro _ hle; first | refine chunk_le hA rfl hle rfl ?_ | refine cat_le hA ?_ | refine upd_le hA ?_ | (try cbv))))
end Go.Proofs.Ytkaobalnjimniaa.Vec
