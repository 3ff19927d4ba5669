/-
  The document's disks: a crash.
-/
import Derived.Test.YtnjjgipblimbfaaDskF18
import Derived.Test.YtnjjgipblimbfaaDskD
set_option linter.unusedVariables false
set_option linter.unusedSimpArgs false
namespace Go.Proofs.Ytnjjgipblimbfaa.Dsk
open Go.Eng
open Go.DskLaw (q64 secV clampB fromP)
set_option maxRecDepth 100000
set_option maxHeartbeats 4000000
set_option linter.unusedVariables false

theorem cat_rows {N e : NV} {f g : Nat → Int} : ∃ s, catG Ar.real 1 N (fun e => [.int .u8 (f e.val)]) (fun e => [.int .u8 (g e.val)]) e = [s] ∧ intOfSV s = some (.u8, if e.val < N.val then f e.val else g (e.val - N.val)) := by
  have key : ∀ x n : NV, ∃ s, (List.range 1).map (fun j => mergeSV Ar.real 4 (Ar.real.ltN x.val n.val) (([SV.int IntKind.u8 (f x.val)] : List SV).getD j .any) (([SV.int IntKind.u8 (g (subNV Ar.real x n).val)] : List SV).getD j .any)) = [s] ∧ intOfSV s = some (.u8, if x.val < n.val then f x.val else g (x.val - n.val)) := fun x n => by
    refine ⟨_, rfl, ?_⟩
    show intOfSV (mergeSV Ar.real 4 (Ar.real.ltN x.val n.val) (.int .u8 (f x.val)) (.int .u8 (g (subNV Ar.real x n).val))) = _
    rw [merge_ints (kd := .u8) rfl rfl, subNV_val]
    show some (IntKind.u8, if decide (x.val < n.val) = true then _ else _) = _
    by_cases q : x.val < n.val <;> simp [q]
  cases e with
  | s a => cases N <;> exact key _ _
  | l a =>
    cases N with
    | s b => exact key _ _
    | l b =>
      show ∃ s, (match Nat.blt a b with | true => [SV.int IntKind.u8 (f a)] | false => [SV.int IntKind.u8 (g (a - b))]) = [s] ∧ intOfSV s = some (.u8, if a < b then f a else g (a - b))
      by_cases q : a < b
      · have : Nat.blt a b = true := by simpa using q
        rw [this, if_pos q]; exact ⟨_, rfl, rfl⟩
      · have : Nat.blt a b = false := by
          cases h : Nat.blt a b with
          | false => rfl
          | true => exact absurd (by simpa using h) q
        rw [this, if_neg q]; exact ⟨_, rfl, rfl⟩

theorem refcrash_fn {P : Program} {G : Gl} (hP : P = Try.prog) {s n : Nat} {S L S' : Nat → Nat → Int} {W W' : Nat → Bool} {c : Int} {ks kb : Nat → Int} {M : Nat → Nat} (hs : s ≤ 4096) (hn : n ≤ 1000000)
    (hM : ∀ t, t < s → M t = if W t then clampB (fromP ks kb (t : Int) n n) else 0) (hS : ∀ t x, t < s → x < 64 → S' t x = if x < M t then L t x else S t x) (hW : ∀ t, W' t = false) :
    FnTr P G 48 [RD s S L W c, .ro 2 (.s n) (fun e => [.int .i64 (ks e.val), .int .i64 (kb e.val)])] [] 0 (Gives (RD s S' S' W' (-1)) [] 400) := by
  have c2 := copied_own (P := P) (G := G) (S := S) (L := L) (W := W) (c := c) hP hs
  obtain ⟨Si, hSi⟩ : ∃ Si : Nat → Nat → Nat → Int, ∀ i t x, Si i t x = if t < i then S' t x else S t x := ⟨_, fun _ _ _ => rfl⟩
  obtain ⟨Li, hLi⟩ : ∃ Li : Nat → Nat → Nat → Int, ∀ i t x, Li i t x = if t < i then S' t x else L t x := ⟨_, fun _ _ _ => rfl⟩
  obtain ⟨Wi, hWi⟩ : ∃ Wi : Nat → Nat → Bool, ∀ i t, Wi i t = if t < i then false else W t := ⟨_, fun _ _ => rfl⟩
  have s0 : ∀ t x, S t x = Si 0 t x := fun t x => by rw [hSi, if_neg (by omega)]
  have l0 : ∀ t x, L t x = Li 0 t x := fun t x => by rw [hLi, if_neg (by omega)]
  have w0 : ∀ t, W t = Wi 0 t := fun t => by rw [hWi, if_neg (by omega)]
  have sS : ∀ i t x, Si (i + 1) t x = if t = i then S' i x else Si i t x := fun i t x => by
    rw [hSi, hSi]
    by_cases q : t = i
    · subst q; rw [if_pos (by omega), if_pos rfl]
    · rw [if_neg q]
      by_cases q2 : t < i
      · rw [if_pos q2, if_pos (by omega)]
      · rw [if_neg q2, if_neg (by omega)]
  have lS : ∀ i t x, Li (i + 1) t x = if t = i then S' i x else Li i t x := fun i t x => by
    rw [hLi, hLi]
    by_cases q : t = i
    · subst q; rw [if_pos (by omega), if_pos rfl]
    · rw [if_neg q]
      by_cases q2 : t < i
      · rw [if_pos q2, if_pos (by omega)]
      · rw [if_neg q2, if_neg (by omega)]
  have wS : ∀ i t, Wi (i + 1) t = if t = i then false else Wi i t := fun i t => by
    rw [hWi, hWi]
    by_cases q : t = i
    · subst q; rw [if_pos (by omega), if_pos rfl]
    · rw [if_neg q]
      by_cases q2 : t < i
      · rw [if_pos q2, if_pos (by omega)]
      · rw [if_neg q2, if_neg (by omega)]
  have sE : ∀ t x, t < s → Si s t x = S' t x := fun t x h1 => by rw [hSi, if_pos h1]
  have lE : ∀ t x, t < s → Li s t x = S' t x := fun t x h1 => by rw [hLi, if_pos h1]
  have wE : ∀ t, t < s → Wi s t = W' t := fun t h1 => by rw [hWi, if_pos h1, hW]
  obtain ⟨mv, hmv⟩ : ∃ mv : Nat → Nat → Int, ∀ t x, mv t x = fromP ks kb (t : Int) n (n - x) := ⟨_, fun _ _ => rfl⟩
  have m0 : ∀ t, mv t n = 0 := fun t => by rw [hmv, Nat.sub_self]; rfl
  have mS : ∀ t x, x < n → mv t x = if ks x = (t : Int) then kb x else mv t (x + 1) := fun t x hx => by
    rw [hmv, hmv, show n - x = (n - (x + 1)) + 1 by omega]
    show (if ks (n - (n - (x + 1) + 1)) = (t : Int) then kb (n - (n - (x + 1) + 1)) else fromP ks kb (t : Int) n (n - (x + 1))) = _
    rw [show n - (n - (x + 1) + 1) = x by omega]
  have mE : ∀ t, t < s → M t = if W t then clampB (mv t 0) else 0 := fun t ht => by rw [hM t ht, hmv]; rfl
  obtain ⟨kj, hkj⟩ : ∃ kj : Nat → Int, ∀ x, kj x = (x : Int) - 1 := ⟨_, fun _ => rfl⟩
  have hk0 : ∀ x, 0 ≤ kj x ↔ 1 ≤ x := fun x => by rw [hkj]; omega
  have hkn : ∀ y, (kj (y + 1)).toNat = y := fun y => by rw [hkj]; omega
  have hkS : ∀ y, kj (y + 1) - 1 = kj y := fun y => by rw [hkj, hkj]; omega
  have hkb : ∀ y, y ≤ n → -1 ≤ kj y ∧ kj y ≤ 1000000 := fun y hy => by rw [hkj]; omega
  have hkN : kj n = (n : Int) - 1 := hkj n
  have mSi : ∀ (t x : Nat), x < n → (ks x = (t : Int) → mv t x = kb x) ∧ (¬ ks x = (t : Int) → mv t x = mv t (x + 1)) := fun t x hx => ⟨fun h => by rw [mS t x hx, if_pos h], fun h => by rw [mS t x hx, if_neg h]⟩
  clear mS hkj
  clear hSi hLi hWi hmv hM
  have h0 : FnTr P G 48 [RD s S L W c, .ro 2 (.s n) (fun e => [.int .i64 (ks e.val), .int .i64 (kb e.val)])] [] 0 (Gives (.agg [.sl 0 1 (.l 0) (.s s), .sl 1 1 (.l 0) (.s s), .sl 2 1 (.l 0) (.s s), .lit .i64 (-1)]) (RH 0 1 2 s S' S' W') 400) := by
    have hT : T.Ok P := hP ▸ T_ok
    refine FnTr.intro (fn := Try.f48) (c := bodyOf Try.f48) (by rw [hP]; rfl) rfl rfl hT ?_
    generalize hA : Ar.real = A
    generalize hK : Gives _ _ _ = K
    cbv
    refine CS.le hA (c2) [] rfl rfl rfl ?_ ?_ ?_
    · (try cbv) <;> (repeat' (first | exact trivial | exact rfl | apply And.intro | exact fun _ => rfl | (intro _ hle; first | refine chunk_le hA rfl hle rfl ?_ | refine cat_le hA ?_ | refine upd_le hA ?_ | (try cbv)))) <;> (try (subst hA; (try simp only [natCast_eq] at *); (try (simp only [Ar.real, NV.val, Int.ofNat_eq_natCast, Int.toNat_natCast])); first | done | omega | decide | exact inR64 (by omega) (by omega) | (refine ⟨?_, ?_⟩ <;> first | omega | decide | exact inR64 (by omega) (by omega))))
    · (try cbv) <;> (repeat' (first | exact trivial | exact rfl | apply And.intro | exact fun _ => rfl | (intro _ hle; first | refine chunk_le hA rfl hle rfl ?_ | refine cat_le hA ?_ | refine upd_le hA ?_ | (try cbv))))
    cbv
    refine LS.leU hT hA 44 (fun (i : Nat) => [(6, .int .i64 (i : Int))]) [] (fun i => RH 3 4 5 s (Si i) (Li i) (Wi i)) (fun i => i ≤ s) (fun i => s - i) 0 [] rfl rfl ?_ ?_ ?_
    · (try cbv) <;> (repeat' (first | exact trivial | exact rfl | apply And.intro | exact fun _ => rfl | (intro _ hle; first | refine chunk_le hA rfl hle rfl ?_ | refine cat_le hA ?_ | refine upd_le hA ?_ | refine int_le ?_ | skip)))
      all_goals first | exact s0 _ _ | exact l0 _ _ | exact w0 _ | (subst hA; (try simp only [natCast_eq] at *); (try (simp only [Ar.real, NV.val, Int.ofNat_eq_natCast, Int.toNat_natCast])); first | done | omega | decide | exact inR64 (by omega) (by omega) | (refine ⟨?_, ?_⟩ <;> first | omega | decide | exact inR64 (by omega) (by omega)))
    · exact Nat.zero_le _
    · intro R hR i hi
      cbv
      refine ⟨fun q1 => ?_, fun q1 => ?_⟩
      · have him : i < s := by clear hR sS lS wS mSi mE m0; subst hA; simp [Ar.real] at q1; omega
        have kn : A.nat (Int.ofNat i) = i := by clear hR; subst hA; rfl
        cbv
        refine ⟨(by (subst hA; (try simp only [natCast_eq] at *); (try (simp only [Ar.real, NV.val, Int.ofNat_eq_natCast, Int.toNat_natCast])); first | done | omega | decide | exact inR64 (by omega) (by omega) | (refine ⟨?_, ?_⟩ <;> first | omega | decide | exact inR64 (by omega) (by omega)))), ?_⟩
        refine LS.leU hT hA 44 (fun (x : Nat) => [(7, .int .i64 (mv i x)), (8, .int .i64 (kj x))]) [] (fun _ => []) (fun x => x ≤ n) (fun x => x) n [] rfl rfl ?_ ?_ ?_
        · clear hR
          (try cbv) <;> (repeat' (first | exact trivial | exact rfl | apply And.intro | exact fun _ => rfl | (intro _ hle; first | refine chunk_le hA rfl hle rfl ?_ | refine cat_le hA ?_ | refine upd_le hA ?_ | refine int_le ?_ | skip)))
          all_goals first | exact (m0 i).symm | (subst hA; exact hkN.symm)
        · exact Nat.le_refl _
        · intro Q hQ x hx
          cbv
          refine ⟨fun q2 => ?_, fun q2 => ?_⟩
          · have hx1 : 1 ≤ x := by
              have q3 : 0 ≤ kj x := by clear hR hQ; subst hA; simpa [Ar.real] using q2
              exact (hk0 x).1 q3
            obtain ⟨y, rfl⟩ : ∃ y, x = y + 1 := ⟨x - 1, by omega⟩
            have hky := hkS y
            have hkyb := hkb y (by omega)
            have hkyb1 := hkb (y + 1) (by omega)
            have hkyp := (hk0 (y + 1)).2 hx1
            have kny : A.nat (kj (y + 1)) = y := by have := hkn y; clear hR hQ; subst hA; exact this
            have kix : A.idx (kj (y + 1)) n := by have := hkn y; clear hR hQ; subst hA; exact ⟨hkyp, by omega⟩
            have ksb : A.sub (kj (y + 1)) 1 = kj y := by clear hR hQ; subst hA; exact hky
            have ksr : A.inR .i64 (A.sub (kj (y + 1)) 1) := by rw [ksb]; clear hR hQ; subst hA; exact inR64 (by omega) (by omega)
            have hmy := mSi i y (by omega)
            cbv
            refine ⟨kix, ?_⟩
            by_cases hm : A.eq (ks (A.nat (kj (y + 1)))) (Int.ofNat i) = true
            · have hm2 : ks y = Int.ofNat i := by rw [kny] at hm; clear hR hQ; subst hA; simpa [Ar.real] using hm
              have hmm := hmy.1 hm2
              first | refine testR hm rfl ?_ | refine testL hm rfl ?_
              cbv
              refine ⟨kix, ?_⟩
              refine ⟨ksr, hQ _ _ ⟨y, 44, [], rfl, rfl, ?_, (by omega), (by show y < y + 1; omega)⟩⟩
              clear hR hQ
              (try cbv) <;> (repeat' (first | exact trivial | exact rfl | apply And.intro | exact fun _ => rfl | (intro _ hle; first | refine chunk_le hA rfl hle rfl ?_ | refine cat_le hA ?_ | refine upd_le hA ?_ | refine int_le ?_ | skip)))
              all_goals first | exact ksb | (rw [kny]; exact hmm.symm) | (subst hA; (try simp only [natCast_eq] at *); (try (simp only [Ar.real, NV.val, Int.ofNat_eq_natCast, Int.toNat_natCast])); first | done | omega | decide | exact inR64 (by omega) (by omega) | (refine ⟨?_, ?_⟩ <;> first | omega | decide | exact inR64 (by omega) (by omega)))
            · have hm1 : A.eq (ks (A.nat (kj (y + 1)))) (Int.ofNat i) = false := by
                cases h : A.eq (ks (A.nat (kj (y + 1)))) (Int.ofNat i) with
                | false => rfl
                | true => exact absurd h hm
              have hm2 : ¬ ks y = Int.ofNat i := by rw [kny] at hm1; clear hR hQ; subst hA; simpa [Ar.real] using hm1
              have hmm := hmy.2 hm2
              first | refine testR hm1 rfl ?_ | refine testL hm1 rfl ?_
              cbv
              refine ⟨ksr, hQ _ _ ⟨y, 44, [], rfl, rfl, ?_, (by omega), (by show y < y + 1; omega)⟩⟩
              clear hR hQ
              (try cbv) <;> (repeat' (first | exact trivial | exact rfl | apply And.intro | exact fun _ => rfl | (intro _ hle; first | refine chunk_le hA rfl hle rfl ?_ | refine cat_le hA ?_ | refine upd_le hA ?_ | refine int_le ?_ | skip)))
              all_goals first | exact ksb | exact hmm.symm | (subst hA; (try simp only [natCast_eq] at *); (try (simp only [Ar.real, NV.val, Int.ofNat_eq_natCast, Int.toNat_natCast])); first | done | omega | decide | exact inR64 (by omega) (by omega) | (refine ⟨?_, ?_⟩ <;> first | omega | decide | exact inR64 (by omega) (by omega)))
          · have hx0 : x = 0 := by
              have q3 : ¬ 0 ≤ kj x := by clear hR hQ; subst hA; simpa [Ar.real] using q2
              rcases Nat.lt_or_ge x 1 with q4 | q4
              · omega
              · exact absurd ((hk0 x).2 q4) q3
            subst hx0
            clear hQ mSi hkS hkb hk0 hkn
            cbv
            have hMi := mE i him
            have hSi' := fun x (hx : x < 64) => hS i x him hx
            by_cases ha : mv i 0 < 0
            · have k1 : A.lt (mv i 0) 0 = true := by clear hR; subst hA; simpa [Ar.real] using ha
              have hM0 : M i = 0 := by rw [hMi]; unfold clampB; split <;> omega
              first | refine testR k1 rfl ?_ | refine testL k1 rfl ?_
              cbv
              have hrow : RowOf .u8 64 (fun x => S' i x) (.ro 1 (.s (A.subN 64 0)) (fun e => (fun e => [.int .u8 (S (A.nat (Int.ofNat i)) (addNV A (.l 0) e).val)]) (addNV A (.l 0) e))) := by
                clear hR
                rw [kn]
                refine ⟨_, _, rfl, by subst hA; rfl, fun x hx => ⟨_, rfl, ?_⟩⟩
                show _ = some (IntKind.u8, S' i x.val)
                rw [hSi' x.val hx, hM0, if_neg (by omega)]
                subst hA
                show some (IntKind.u8, S i (addNV Ar.real (.l 0) (addNV Ar.real (.l 0) x)).val) = _
                rw [addNV_val, addNV_val]
                show some (IntKind.u8, S i (0 + (0 + x.val))) = _
                rw [Nat.zero_add, Nat.zero_add]
              have hup : ∀ e, ltNV A e (.s s) → leL (leSV A 4) (updF A 1 (.s (A.nat (Int.ofNat i))) 0 [(.ro 1 (.s (A.subN 64 0)) (fun e => (fun e => [.int .u8 (S (A.nat (Int.ofNat i)) (addNV A (.l 0) e).val)]) (addNV A (.l 0) e)))] (fun e => [.ro 1 (.s 64) (fun x => [.int .u8 (Si i e.val x.val)])]) e) [.ro 1 (.s 64) (fun x => [.int .u8 (Si (i + 1) e.val x.val)])] := fun e he =>
                upd_rows (F := Si i) (F' := Si (i + 1)) (v := fun x => S' i x) hA hrow (fun t x h1 h2 => by rw [kn]; exact sS i t x) he rfl
              have hup1 : ∀ e, ltNV A e (.s s) → leL (leSV A 4) (updF A 1 (.s (A.nat (Int.ofNat i))) 0 [.ro 1 (.s 64) fun x => [.int .u8 (Si (i + 1) (A.nat (Int.ofNat i)) x.val)]] (fun e => [.ro 1 (.s 64) (fun x => [.int .u8 (Li i e.val x.val)])]) e) [.ro 1 (.s 64) (fun x => [.int .u8 (Li (i + 1) e.val x.val)])] := fun e he =>
                upd_rows (F := Li i) (F' := Li (i + 1)) (v := fun x => Si (i + 1) (A.nat (Int.ofNat i)) x) hA (RowOf.base .u8 64 _) (fun t x h1 h2 => by rw [kn, sS i i x, if_pos rfl]; exact lS i t x) he rfl
              have hup2 : ∀ e, ltNV A e (.s s) → leL (leSV A 4) (updF A 1 (.s (A.nat (Int.ofNat i))) 0 [.bl false] (fun e => [.bs (Wi i e.val)]) e) [.bs (Wi (i + 1) e.val)] := fun e he =>
                Bls.le hA (g := Wi (i + 1)) (Bls.upd hA (A.nat (Int.ofNat i)) (v := false) rfl (Bls.base (Wi i) s)) he (Nat.le_refl _) (by
                  rw [kn]; exact (wS _ _).symm)
              refine ⟨(by (subst hA; (try simp only [natCast_eq] at *); (try (simp only [Ar.real, NV.val, Int.ofNat_eq_natCast, Int.toNat_natCast])); first | done | omega | decide | exact inR64 (by omega) (by omega) | (refine ⟨?_, ?_⟩ <;> first | omega | decide | exact inR64 (by omega) (by omega)))), ⟨(by (subst hA; (try simp only [natCast_eq] at *); (try (simp only [Ar.real, NV.val, Int.ofNat_eq_natCast, Int.toNat_natCast])); first | done | omega | decide | exact inR64 (by omega) (by omega) | (refine ⟨?_, ?_⟩ <;> first | omega | decide | exact inR64 (by omega) (by omega)))), (by (subst hA; (try simp only [natCast_eq] at *); (try (simp only [Ar.real, NV.val, Int.ofNat_eq_natCast, Int.toNat_natCast])); first | done | omega | decide | exact inR64 (by omega) (by omega) | (refine ⟨?_, ?_⟩ <;> first | omega | decide | exact inR64 (by omega) (by omega)))), (by (subst hA; (try simp only [natCast_eq] at *); (try (simp only [Ar.real, NV.val, Int.ofNat_eq_natCast, Int.toNat_natCast])); first | done | omega | decide | exact inR64 (by omega) (by omega) | (refine ⟨?_, ?_⟩ <;> first | omega | decide | exact inR64 (by omega) (by omega))))⟩, ⟨(by (subst hA; (try simp only [natCast_eq] at *); (try (simp only [Ar.real, NV.val, Int.ofNat_eq_natCast, Int.toNat_natCast])); first | done | omega | decide | exact inR64 (by omega) (by omega) | (refine ⟨?_, ?_⟩ <;> first | omega | decide | exact inR64 (by omega) (by omega)))), (by (subst hA; (try simp only [natCast_eq] at *); (try (simp only [Ar.real, NV.val, Int.ofNat_eq_natCast, Int.toNat_natCast])); first | done | omega | decide | exact inR64 (by omega) (by omega) | (refine ⟨?_, ?_⟩ <;> first | omega | decide | exact inR64 (by omega) (by omega))))⟩, (by (subst hA; (try simp only [natCast_eq] at *); (try (simp only [Ar.real, NV.val, Int.ofNat_eq_natCast, Int.toNat_natCast])); first | done | omega | decide | exact inR64 (by omega) (by omega) | (refine ⟨?_, ?_⟩ <;> first | omega | decide | exact inR64 (by omega) (by omega)))), ⟨(by (subst hA; (try simp only [natCast_eq] at *); (try (simp only [Ar.real, NV.val, Int.ofNat_eq_natCast, Int.toNat_natCast])); first | done | omega | decide | exact inR64 (by omega) (by omega) | (refine ⟨?_, ?_⟩ <;> first | omega | decide | exact inR64 (by omega) (by omega)))), (by (subst hA; (try simp only [natCast_eq] at *); (try (simp only [Ar.real, NV.val, Int.ofNat_eq_natCast, Int.toNat_natCast])); first | done | omega | decide | exact inR64 (by omega) (by omega) | (refine ⟨?_, ?_⟩ <;> first | omega | decide | exact inR64 (by omega) (by omega)))), (by (subst hA; (try simp only [natCast_eq] at *); (try (simp only [Ar.real, NV.val, Int.ofNat_eq_natCast, Int.toNat_natCast])); first | done | omega | decide | exact inR64 (by omega) (by omega) | (refine ⟨?_, ?_⟩ <;> first | omega | decide | exact inR64 (by omega) (by omega))))⟩, ⟨(by (subst hA; (try simp only [natCast_eq] at *); (try (simp only [Ar.real, NV.val, Int.ofNat_eq_natCast, Int.toNat_natCast])); first | done | omega | decide | exact inR64 (by omega) (by omega) | (refine ⟨?_, ?_⟩ <;> first | omega | decide | exact inR64 (by omega) (by omega)))), (by (subst hA; (try simp only [natCast_eq] at *); (try (simp only [Ar.real, NV.val, Int.ofNat_eq_natCast, Int.toNat_natCast])); first | done | omega | decide | exact inR64 (by omega) (by omega) | (refine ⟨?_, ?_⟩ <;> first | omega | decide | exact inR64 (by omega) (by omega))))⟩, (by (subst hA; (try simp only [natCast_eq] at *); (try (simp only [Ar.real, NV.val, Int.ofNat_eq_natCast, Int.toNat_natCast])); first | done | omega | decide | exact inR64 (by omega) (by omega) | (refine ⟨?_, ?_⟩ <;> first | omega | decide | exact inR64 (by omega) (by omega)))), ⟨⟨(by (subst hA; (try simp only [natCast_eq] at *); (try (simp only [Ar.real, NV.val, Int.ofNat_eq_natCast, Int.toNat_natCast])); first | done | omega | decide | exact inR64 (by omega) (by omega) | (refine ⟨?_, ?_⟩ <;> first | omega | decide | exact inR64 (by omega) (by omega)))), trivial⟩, (by (subst hA; (try simp only [natCast_eq] at *); (try (simp only [Ar.real, NV.val, Int.ofNat_eq_natCast, Int.toNat_natCast])); first | done | omega | decide | exact inR64 (by omega) (by omega) | (refine ⟨?_, ?_⟩ <;> first | omega | decide | exact inR64 (by omega) (by omega))))⟩, ?_⟩
              refine DS.blk hA 3 (.row 23 1 (.s s) (fun e => [.ro 1 (.s 64) (fun x => [.int .u8 (Si (i + 1) e.val x.val)])])) ?_ ?_
              · (try cbv) <;> (repeat' (first | exact trivial | exact rfl | apply And.intro | exact fun _ => rfl | (intro _ hle; first | exact hup _ hle | refine chunk_le hA rfl hle rfl ?_ | refine cat_le hA ?_ | refine upd_le hA ?_ | refine int_le ?_ | skip)))
              refine DS.runK hA hT (by rw [hP]; exact P_mixed) 4 rfl ?_
              cbv
              refine ⟨(by (subst hA; (try simp only [natCast_eq] at *); (try (simp only [Ar.real, NV.val, Int.ofNat_eq_natCast, Int.toNat_natCast])); first | done | omega | decide | exact inR64 (by omega) (by omega) | (refine ⟨?_, ?_⟩ <;> first | omega | decide | exact inR64 (by omega) (by omega)))), (by (subst hA; (try simp only [natCast_eq] at *); (try (simp only [Ar.real, NV.val, Int.ofNat_eq_natCast, Int.toNat_natCast])); first | done | omega | decide | exact inR64 (by omega) (by omega) | (refine ⟨?_, ?_⟩ <;> first | omega | decide | exact inR64 (by omega) (by omega)))), (by (subst hA; (try simp only [natCast_eq] at *); (try (simp only [Ar.real, NV.val, Int.ofNat_eq_natCast, Int.toNat_natCast])); first | done | omega | decide | exact inR64 (by omega) (by omega) | (refine ⟨?_, ?_⟩ <;> first | omega | decide | exact inR64 (by omega) (by omega)))), (by (subst hA; (try simp only [natCast_eq] at *); (try (simp only [Ar.real, NV.val, Int.ofNat_eq_natCast, Int.toNat_natCast])); first | done | omega | decide | exact inR64 (by omega) (by omega) | (refine ⟨?_, ?_⟩ <;> first | omega | decide | exact inR64 (by omega) (by omega)))), ?_⟩
              refine DF.fin (by kernel_rfl) (by kernel_rfl) ?_
              cbv
              refine ⟨(by (subst hA; (try simp only [natCast_eq] at *); (try (simp only [Ar.real, NV.val, Int.ofNat_eq_natCast, Int.toNat_natCast])); first | done | omega | decide | exact inR64 (by omega) (by omega) | (refine ⟨?_, ?_⟩ <;> first | omega | decide | exact inR64 (by omega) (by omega)))), (by (subst hA; (try simp only [natCast_eq] at *); (try (simp only [Ar.real, NV.val, Int.ofNat_eq_natCast, Int.toNat_natCast])); first | done | omega | decide | exact inR64 (by omega) (by omega) | (refine ⟨?_, ?_⟩ <;> first | omega | decide | exact inR64 (by omega) (by omega)))), (by (subst hA; (try simp only [natCast_eq] at *); (try (simp only [Ar.real, NV.val, Int.ofNat_eq_natCast, Int.toNat_natCast])); first | done | omega | decide | exact inR64 (by omega) (by omega) | (refine ⟨?_, ?_⟩ <;> first | omega | decide | exact inR64 (by omega) (by omega)))), hR _ _ ⟨i + 1, 44, [], rfl, rfl, ?_, him, (by show s - (i + 1) < s - i; omega)⟩⟩
              clear hR
              (try cbv) <;> (repeat' (first | exact trivial | exact rfl | apply And.intro | exact fun _ => rfl | (intro _ hle; first | exact hup1 _ hle | exact hup2 _ hle | refine chunk_le hA rfl hle rfl ?_ | refine cat_le hA ?_ | refine upd_le hA ?_ | refine int_le ?_ | skip)))
              all_goals (subst hA; (try simp only [natCast_eq] at *); (try (simp only [Ar.real, NV.val, Int.ofNat_eq_natCast, Int.toNat_natCast])); first | done | omega | decide | exact inR64 (by omega) (by omega) | (refine ⟨?_, ?_⟩ <;> first | omega | decide | exact inR64 (by omega) (by omega)))
            have k1 : A.lt (mv i 0) 0 = false := by clear hR; subst hA; simpa [Ar.real] using ha
            cases hw : W i with
            | false =>
              have hM0 : M i = 0 := by rw [hMi, hw]; rfl
              have k2 : A.not (W (A.nat (Int.ofNat i))) = true := by rw [kn, hw]; clear hR; subst hA; rfl
              first | refine testR k1 rfl ?_ | refine testL k1 rfl ?_
              cbv
              refine ⟨(by (subst hA; (try simp only [natCast_eq] at *); (try (simp only [Ar.real, NV.val, Int.ofNat_eq_natCast, Int.toNat_natCast])); first | done | omega | decide | exact inR64 (by omega) (by omega) | (refine ⟨?_, ?_⟩ <;> first | omega | decide | exact inR64 (by omega) (by omega)))), ?_⟩
              first | refine testR k2 rfl ?_ | refine testL k2 rfl ?_
              cbv
              have hrow : RowOf .u8 64 (fun x => S' i x) (.ro 1 (.s (A.subN 64 0)) (fun e => (fun e => [.int .u8 (S (A.nat (Int.ofNat i)) (addNV A (.l 0) e).val)]) (addNV A (.l 0) e))) := by
                clear hR
                rw [kn]
                refine ⟨_, _, rfl, by subst hA; rfl, fun x hx => ⟨_, rfl, ?_⟩⟩
                show _ = some (IntKind.u8, S' i x.val)
                rw [hSi' x.val hx, hM0, if_neg (by omega)]
                subst hA
                show some (IntKind.u8, S i (addNV Ar.real (.l 0) (addNV Ar.real (.l 0) x)).val) = _
                rw [addNV_val, addNV_val]
                show some (IntKind.u8, S i (0 + (0 + x.val))) = _
                rw [Nat.zero_add, Nat.zero_add]
              have hup : ∀ e, ltNV A e (.s s) → leL (leSV A 4) (updF A 1 (.s (A.nat (Int.ofNat i))) 0 [(.ro 1 (.s (A.subN 64 0)) (fun e => (fun e => [.int .u8 (S (A.nat (Int.ofNat i)) (addNV A (.l 0) e).val)]) (addNV A (.l 0) e)))] (fun e => [.ro 1 (.s 64) (fun x => [.int .u8 (Si i e.val x.val)])]) e) [.ro 1 (.s 64) (fun x => [.int .u8 (Si (i + 1) e.val x.val)])] := fun e he =>
                upd_rows (F := Si i) (F' := Si (i + 1)) (v := fun x => S' i x) hA hrow (fun t x h1 h2 => by rw [kn]; exact sS i t x) he rfl
              have hup1 : ∀ e, ltNV A e (.s s) → leL (leSV A 4) (updF A 1 (.s (A.nat (Int.ofNat i))) 0 [.ro 1 (.s 64) fun x => [.int .u8 (Si (i + 1) (A.nat (Int.ofNat i)) x.val)]] (fun e => [.ro 1 (.s 64) (fun x => [.int .u8 (Li i e.val x.val)])]) e) [.ro 1 (.s 64) (fun x => [.int .u8 (Li (i + 1) e.val x.val)])] := fun e he =>
                upd_rows (F := Li i) (F' := Li (i + 1)) (v := fun x => Si (i + 1) (A.nat (Int.ofNat i)) x) hA (RowOf.base .u8 64 _) (fun t x h1 h2 => by rw [kn, sS i i x, if_pos rfl]; exact lS i t x) he rfl
              have hup2 : ∀ e, ltNV A e (.s s) → leL (leSV A 4) (updF A 1 (.s (A.nat (Int.ofNat i))) 0 [.bl false] (fun e => [.bs (Wi i e.val)]) e) [.bs (Wi (i + 1) e.val)] := fun e he =>
                Bls.le hA (g := Wi (i + 1)) (Bls.upd hA (A.nat (Int.ofNat i)) (v := false) rfl (Bls.base (Wi i) s)) he (Nat.le_refl _) (by
                  rw [kn]; exact (wS _ _).symm)
              refine ⟨(by (subst hA; (try simp only [natCast_eq] at *); (try (simp only [Ar.real, NV.val, Int.ofNat_eq_natCast, Int.toNat_natCast])); first | done | omega | decide | exact inR64 (by omega) (by omega) | (refine ⟨?_, ?_⟩ <;> first | omega | decide | exact inR64 (by omega) (by omega)))), ⟨(by (subst hA; (try simp only [natCast_eq] at *); (try (simp only [Ar.real, NV.val, Int.ofNat_eq_natCast, Int.toNat_natCast])); first | done | omega | decide | exact inR64 (by omega) (by omega) | (refine ⟨?_, ?_⟩ <;> first | omega | decide | exact inR64 (by omega) (by omega)))), (by (subst hA; (try simp only [natCast_eq] at *); (try (simp only [Ar.real, NV.val, Int.ofNat_eq_natCast, Int.toNat_natCast])); first | done | omega | decide | exact inR64 (by omega) (by omega) | (refine ⟨?_, ?_⟩ <;> first | omega | decide | exact inR64 (by omega) (by omega)))), (by (subst hA; (try simp only [natCast_eq] at *); (try (simp only [Ar.real, NV.val, Int.ofNat_eq_natCast, Int.toNat_natCast])); first | done | omega | decide | exact inR64 (by omega) (by omega) | (refine ⟨?_, ?_⟩ <;> first | omega | decide | exact inR64 (by omega) (by omega))))⟩, ⟨(by (subst hA; (try simp only [natCast_eq] at *); (try (simp only [Ar.real, NV.val, Int.ofNat_eq_natCast, Int.toNat_natCast])); first | done | omega | decide | exact inR64 (by omega) (by omega) | (refine ⟨?_, ?_⟩ <;> first | omega | decide | exact inR64 (by omega) (by omega)))), (by (subst hA; (try simp only [natCast_eq] at *); (try (simp only [Ar.real, NV.val, Int.ofNat_eq_natCast, Int.toNat_natCast])); first | done | omega | decide | exact inR64 (by omega) (by omega) | (refine ⟨?_, ?_⟩ <;> first | omega | decide | exact inR64 (by omega) (by omega))))⟩, (by (subst hA; (try simp only [natCast_eq] at *); (try (simp only [Ar.real, NV.val, Int.ofNat_eq_natCast, Int.toNat_natCast])); first | done | omega | decide | exact inR64 (by omega) (by omega) | (refine ⟨?_, ?_⟩ <;> first | omega | decide | exact inR64 (by omega) (by omega)))), ⟨(by (subst hA; (try simp only [natCast_eq] at *); (try (simp only [Ar.real, NV.val, Int.ofNat_eq_natCast, Int.toNat_natCast])); first | done | omega | decide | exact inR64 (by omega) (by omega) | (refine ⟨?_, ?_⟩ <;> first | omega | decide | exact inR64 (by omega) (by omega)))), (by (subst hA; (try simp only [natCast_eq] at *); (try (simp only [Ar.real, NV.val, Int.ofNat_eq_natCast, Int.toNat_natCast])); first | done | omega | decide | exact inR64 (by omega) (by omega) | (refine ⟨?_, ?_⟩ <;> first | omega | decide | exact inR64 (by omega) (by omega)))), (by (subst hA; (try simp only [natCast_eq] at *); (try (simp only [Ar.real, NV.val, Int.ofNat_eq_natCast, Int.toNat_natCast])); first | done | omega | decide | exact inR64 (by omega) (by omega) | (refine ⟨?_, ?_⟩ <;> first | omega | decide | exact inR64 (by omega) (by omega))))⟩, ⟨(by (subst hA; (try simp only [natCast_eq] at *); (try (simp only [Ar.real, NV.val, Int.ofNat_eq_natCast, Int.toNat_natCast])); first | done | omega | decide | exact inR64 (by omega) (by omega) | (refine ⟨?_, ?_⟩ <;> first | omega | decide | exact inR64 (by omega) (by omega)))), (by (subst hA; (try simp only [natCast_eq] at *); (try (simp only [Ar.real, NV.val, Int.ofNat_eq_natCast, Int.toNat_natCast])); first | done | omega | decide | exact inR64 (by omega) (by omega) | (refine ⟨?_, ?_⟩ <;> first | omega | decide | exact inR64 (by omega) (by omega))))⟩, (by (subst hA; (try simp only [natCast_eq] at *); (try (simp only [Ar.real, NV.val, Int.ofNat_eq_natCast, Int.toNat_natCast])); first | done | omega | decide | exact inR64 (by omega) (by omega) | (refine ⟨?_, ?_⟩ <;> first | omega | decide | exact inR64 (by omega) (by omega)))), ⟨⟨(by (subst hA; (try simp only [natCast_eq] at *); (try (simp only [Ar.real, NV.val, Int.ofNat_eq_natCast, Int.toNat_natCast])); first | done | omega | decide | exact inR64 (by omega) (by omega) | (refine ⟨?_, ?_⟩ <;> first | omega | decide | exact inR64 (by omega) (by omega)))), trivial⟩, (by (subst hA; (try simp only [natCast_eq] at *); (try (simp only [Ar.real, NV.val, Int.ofNat_eq_natCast, Int.toNat_natCast])); first | done | omega | decide | exact inR64 (by omega) (by omega) | (refine ⟨?_, ?_⟩ <;> first | omega | decide | exact inR64 (by omega) (by omega))))⟩, ?_⟩
              refine DS.blk hA 3 (.row 23 1 (.s s) (fun e => [.ro 1 (.s 64) (fun x => [.int .u8 (Si (i + 1) e.val x.val)])])) ?_ ?_
              · (try cbv) <;> (repeat' (first | exact trivial | exact rfl | apply And.intro | exact fun _ => rfl | (intro _ hle; first | exact hup _ hle | refine chunk_le hA rfl hle rfl ?_ | refine cat_le hA ?_ | refine upd_le hA ?_ | refine int_le ?_ | skip)))
              refine DS.runK hA hT (by rw [hP]; exact P_mixed) 4 rfl ?_
              cbv
              refine ⟨(by (subst hA; (try simp only [natCast_eq] at *); (try (simp only [Ar.real, NV.val, Int.ofNat_eq_natCast, Int.toNat_natCast])); first | done | omega | decide | exact inR64 (by omega) (by omega) | (refine ⟨?_, ?_⟩ <;> first | omega | decide | exact inR64 (by omega) (by omega)))), (by (subst hA; (try simp only [natCast_eq] at *); (try (simp only [Ar.real, NV.val, Int.ofNat_eq_natCast, Int.toNat_natCast])); first | done | omega | decide | exact inR64 (by omega) (by omega) | (refine ⟨?_, ?_⟩ <;> first | omega | decide | exact inR64 (by omega) (by omega)))), (by (subst hA; (try simp only [natCast_eq] at *); (try (simp only [Ar.real, NV.val, Int.ofNat_eq_natCast, Int.toNat_natCast])); first | done | omega | decide | exact inR64 (by omega) (by omega) | (refine ⟨?_, ?_⟩ <;> first | omega | decide | exact inR64 (by omega) (by omega)))), (by (subst hA; (try simp only [natCast_eq] at *); (try (simp only [Ar.real, NV.val, Int.ofNat_eq_natCast, Int.toNat_natCast])); first | done | omega | decide | exact inR64 (by omega) (by omega) | (refine ⟨?_, ?_⟩ <;> first | omega | decide | exact inR64 (by omega) (by omega)))), ?_⟩
              refine DF.fin (by kernel_rfl) (by kernel_rfl) ?_
              cbv
              refine ⟨(by (subst hA; (try simp only [natCast_eq] at *); (try (simp only [Ar.real, NV.val, Int.ofNat_eq_natCast, Int.toNat_natCast])); first | done | omega | decide | exact inR64 (by omega) (by omega) | (refine ⟨?_, ?_⟩ <;> first | omega | decide | exact inR64 (by omega) (by omega)))), (by (subst hA; (try simp only [natCast_eq] at *); (try (simp only [Ar.real, NV.val, Int.ofNat_eq_natCast, Int.toNat_natCast])); first | done | omega | decide | exact inR64 (by omega) (by omega) | (refine ⟨?_, ?_⟩ <;> first | omega | decide | exact inR64 (by omega) (by omega)))), (by (subst hA; (try simp only [natCast_eq] at *); (try (simp only [Ar.real, NV.val, Int.ofNat_eq_natCast, Int.toNat_natCast])); first | done | omega | decide | exact inR64 (by omega) (by omega) | (refine ⟨?_, ?_⟩ <;> first | omega | decide | exact inR64 (by omega) (by omega)))), hR _ _ ⟨i + 1, 44, [], rfl, rfl, ?_, him, (by show s - (i + 1) < s - i; omega)⟩⟩
              clear hR
              (try cbv) <;> (repeat' (first | exact trivial | exact rfl | apply And.intro | exact fun _ => rfl | (intro _ hle; first | exact hup1 _ hle | exact hup2 _ hle | refine chunk_le hA rfl hle rfl ?_ | refine cat_le hA ?_ | refine upd_le hA ?_ | refine int_le ?_ | skip)))
              all_goals (subst hA; (try simp only [natCast_eq] at *); (try (simp only [Ar.real, NV.val, Int.ofNat_eq_natCast, Int.toNat_natCast])); first | done | omega | decide | exact inR64 (by omega) (by omega) | (refine ⟨?_, ?_⟩ <;> first | omega | decide | exact inR64 (by omega) (by omega)))
            | true =>
              have hM1 : M i = clampB (mv i 0) := by rw [hMi, hw]; rfl
              have k2 : A.not (W (A.nat (Int.ofNat i))) = false := by rw [kn, hw]; clear hR; subst hA; rfl
              by_cases hb : 64 < mv i 0
              · have k3 : A.gt (mv i 0) 64 = true := by clear hR; subst hA; simpa [Ar.real] using hb
                have hM64 : M i = 64 := by rw [hM1]; unfold clampB; omega
                first | refine testR k1 rfl ?_ | refine testL k1 rfl ?_
                cbv
                refine ⟨(by (subst hA; (try simp only [natCast_eq] at *); (try (simp only [Ar.real, NV.val, Int.ofNat_eq_natCast, Int.toNat_natCast])); first | done | omega | decide | exact inR64 (by omega) (by omega) | (refine ⟨?_, ?_⟩ <;> first | omega | decide | exact inR64 (by omega) (by omega)))), ?_⟩
                first | refine testR k2 rfl ?_ | refine testL k2 rfl ?_
                cbv
                first | refine testR k3 rfl ?_ | refine testL k3 rfl ?_
                cbv
                have hrow : RowOf .u8 64 (fun x => S' i x) (.ro 1 (.s (A.addN 64 (A.subN 64 64))) (fun e => catG A 1 (.l 64) (fun e => [.int .u8 (L (A.nat (Int.ofNat i)) (addNV A (.l 0) e).val)]) (fun e => [.int .u8 (S (A.nat (Int.ofNat i)) (addNV A (.l 64) e).val)]) (addNV A (.l 0) e))) := by
                  clear hR
                  rw [kn]
                  subst hA
                  have hf : (fun e : NV => [SV.int IntKind.u8 (L i (addNV Ar.real (.l 0) e).val)]) = fun e => [SV.int IntKind.u8 (L i e.val)] := by
                    funext e; rw [addNV_val]; show [SV.int IntKind.u8 (L i (0 + e.val))] = _; rw [Nat.zero_add]
                  have hg : (fun e : NV => [SV.int IntKind.u8 (S i (addNV Ar.real (.l 64) e).val)]) = fun e => [SV.int IntKind.u8 ((fun y => S i (M i + y)) e.val)] := by
                    funext e; rw [addNV_val]; rw [show ((.l 64) : NV).val = M i from hM64.symm]
                  rw [hf, hg]
                  refine ⟨_, _, rfl, ?_, fun x hx => ?_⟩
                  · rfl
                  obtain ⟨t, h1, h2⟩ := cat_rows (N := .l 64) (f := L i) (g := fun y => S i (M i + y)) (e := addNV Ar.real (.l 0) x)
                  refine ⟨t, h1, ?_⟩
                  have hx0 : (addNV Ar.real (.l 0) x).val = x.val := by rw [addNV_val]; show 0 + x.val = _; rw [Nat.zero_add]
                  have hNN : (NV.l 64).val = M i := hM64.symm
                  rw [h2, hx0, hNN]
                  show _ = some (IntKind.u8, S' i x.val)
                  rw [hSi' x.val hx]
                  by_cases q : x.val < M i
                  · rw [if_pos q, if_pos q]
                  · rw [if_neg q, if_neg q, show M i + (x.val - M i) = x.val by omega]
                have hup : ∀ e, ltNV A e (.s s) → leL (leSV A 4) (updF A 1 (.s (A.nat (Int.ofNat i))) 0 [(.ro 1 (.s (A.addN 64 (A.subN 64 64))) (fun e => catG A 1 (.l 64) (fun e => [.int .u8 (L (A.nat (Int.ofNat i)) (addNV A (.l 0) e).val)]) (fun e => [.int .u8 (S (A.nat (Int.ofNat i)) (addNV A (.l 64) e).val)]) (addNV A (.l 0) e)))] (fun e => [.ro 1 (.s 64) (fun x => [.int .u8 (Si i e.val x.val)])]) e) [.ro 1 (.s 64) (fun x => [.int .u8 (Si (i + 1) e.val x.val)])] := fun e he =>
                  upd_rows (F := Si i) (F' := Si (i + 1)) (v := fun x => S' i x) hA hrow (fun t x h1 h2 => by rw [kn]; exact sS i t x) he rfl
                have hup1 : ∀ e, ltNV A e (.s s) → leL (leSV A 4) (updF A 1 (.s (A.nat (Int.ofNat i))) 0 [.ro 1 (.s 64) fun x => [.int .u8 (Si (i + 1) (A.nat (Int.ofNat i)) x.val)]] (fun e => [.ro 1 (.s 64) (fun x => [.int .u8 (Li i e.val x.val)])]) e) [.ro 1 (.s 64) (fun x => [.int .u8 (Li (i + 1) e.val x.val)])] := fun e he =>
                  upd_rows (F := Li i) (F' := Li (i + 1)) (v := fun x => Si (i + 1) (A.nat (Int.ofNat i)) x) hA (RowOf.base .u8 64 _) (fun t x h1 h2 => by rw [kn, sS i i x, if_pos rfl]; exact lS i t x) he rfl
                have hup2 : ∀ e, ltNV A e (.s s) → leL (leSV A 4) (updF A 1 (.s (A.nat (Int.ofNat i))) 0 [.bl false] (fun e => [.bs (Wi i e.val)]) e) [.bs (Wi (i + 1) e.val)] := fun e he =>
                  Bls.le hA (g := Wi (i + 1)) (Bls.upd hA (A.nat (Int.ofNat i)) (v := false) rfl (Bls.base (Wi i) s)) he (Nat.le_refl _) (by
                    rw [kn]; exact (wS _ _).symm)
                refine ⟨(by (subst hA; (try simp only [natCast_eq] at *); (try (simp only [Ar.real, NV.val, Int.ofNat_eq_natCast, Int.toNat_natCast])); first | done | omega | decide | exact inR64 (by omega) (by omega) | (refine ⟨?_, ?_⟩ <;> first | omega | decide | exact inR64 (by omega) (by omega)))), ⟨(by (subst hA; (try simp only [natCast_eq] at *); (try (simp only [Ar.real, NV.val, Int.ofNat_eq_natCast, Int.toNat_natCast])); first | done | omega | decide | exact inR64 (by omega) (by omega) | (refine ⟨?_, ?_⟩ <;> first | omega | decide | exact inR64 (by omega) (by omega)))), (by (subst hA; (try simp only [natCast_eq] at *); (try (simp only [Ar.real, NV.val, Int.ofNat_eq_natCast, Int.toNat_natCast])); first | done | omega | decide | exact inR64 (by omega) (by omega) | (refine ⟨?_, ?_⟩ <;> first | omega | decide | exact inR64 (by omega) (by omega)))), (by (subst hA; (try simp only [natCast_eq] at *); (try (simp only [Ar.real, NV.val, Int.ofNat_eq_natCast, Int.toNat_natCast])); first | done | omega | decide | exact inR64 (by omega) (by omega) | (refine ⟨?_, ?_⟩ <;> first | omega | decide | exact inR64 (by omega) (by omega))))⟩, ⟨(by (subst hA; (try simp only [natCast_eq] at *); (try (simp only [Ar.real, NV.val, Int.ofNat_eq_natCast, Int.toNat_natCast])); first | done | omega | decide | exact inR64 (by omega) (by omega) | (refine ⟨?_, ?_⟩ <;> first | omega | decide | exact inR64 (by omega) (by omega)))), (by (subst hA; (try simp only [natCast_eq] at *); (try (simp only [Ar.real, NV.val, Int.ofNat_eq_natCast, Int.toNat_natCast])); first | done | omega | decide | exact inR64 (by omega) (by omega) | (refine ⟨?_, ?_⟩ <;> first | omega | decide | exact inR64 (by omega) (by omega))))⟩, (by (subst hA; (try simp only [natCast_eq] at *); (try (simp only [Ar.real, NV.val, Int.ofNat_eq_natCast, Int.toNat_natCast])); first | done | omega | decide | exact inR64 (by omega) (by omega) | (refine ⟨?_, ?_⟩ <;> first | omega | decide | exact inR64 (by omega) (by omega)))), ⟨(by (subst hA; (try simp only [natCast_eq] at *); (try (simp only [Ar.real, NV.val, Int.ofNat_eq_natCast, Int.toNat_natCast])); first | done | omega | decide | exact inR64 (by omega) (by omega) | (refine ⟨?_, ?_⟩ <;> first | omega | decide | exact inR64 (by omega) (by omega)))), (by (subst hA; (try simp only [natCast_eq] at *); (try (simp only [Ar.real, NV.val, Int.ofNat_eq_natCast, Int.toNat_natCast])); first | done | omega | decide | exact inR64 (by omega) (by omega) | (refine ⟨?_, ?_⟩ <;> first | omega | decide | exact inR64 (by omega) (by omega)))), (by (subst hA; (try simp only [natCast_eq] at *); (try (simp only [Ar.real, NV.val, Int.ofNat_eq_natCast, Int.toNat_natCast])); first | done | omega | decide | exact inR64 (by omega) (by omega) | (refine ⟨?_, ?_⟩ <;> first | omega | decide | exact inR64 (by omega) (by omega))))⟩, ⟨(by (subst hA; (try simp only [natCast_eq] at *); (try (simp only [Ar.real, NV.val, Int.ofNat_eq_natCast, Int.toNat_natCast])); first | done | omega | decide | exact inR64 (by omega) (by omega) | (refine ⟨?_, ?_⟩ <;> first | omega | decide | exact inR64 (by omega) (by omega)))), (by (subst hA; (try simp only [natCast_eq] at *); (try (simp only [Ar.real, NV.val, Int.ofNat_eq_natCast, Int.toNat_natCast])); first | done | omega | decide | exact inR64 (by omega) (by omega) | (refine ⟨?_, ?_⟩ <;> first | omega | decide | exact inR64 (by omega) (by omega))))⟩, (by (subst hA; (try simp only [natCast_eq] at *); (try (simp only [Ar.real, NV.val, Int.ofNat_eq_natCast, Int.toNat_natCast])); first | done | omega | decide | exact inR64 (by omega) (by omega) | (refine ⟨?_, ?_⟩ <;> first | omega | decide | exact inR64 (by omega) (by omega)))), ⟨⟨(by (subst hA; (try simp only [natCast_eq] at *); (try (simp only [Ar.real, NV.val, Int.ofNat_eq_natCast, Int.toNat_natCast])); first | done | omega | decide | exact inR64 (by omega) (by omega) | (refine ⟨?_, ?_⟩ <;> first | omega | decide | exact inR64 (by omega) (by omega)))), trivial⟩, (by (subst hA; (try simp only [natCast_eq] at *); (try (simp only [Ar.real, NV.val, Int.ofNat_eq_natCast, Int.toNat_natCast])); first | done | omega | decide | exact inR64 (by omega) (by omega) | (refine ⟨?_, ?_⟩ <;> first | omega | decide | exact inR64 (by omega) (by omega))))⟩, ?_⟩
                refine DS.blk hA 3 (.row 23 1 (.s s) (fun e => [.ro 1 (.s 64) (fun x => [.int .u8 (Si (i + 1) e.val x.val)])])) ?_ ?_
                · (try cbv) <;> (repeat' (first | exact trivial | exact rfl | apply And.intro | exact fun _ => rfl | (intro _ hle; first | exact hup _ hle | refine chunk_le hA rfl hle rfl ?_ | refine cat_le hA ?_ | refine upd_le hA ?_ | refine int_le ?_ | skip)))
                refine DS.runK hA hT (by rw [hP]; exact P_mixed) 4 rfl ?_
                cbv
                refine ⟨(by (subst hA; (try simp only [natCast_eq] at *); (try (simp only [Ar.real, NV.val, Int.ofNat_eq_natCast, Int.toNat_natCast])); first | done | omega | decide | exact inR64 (by omega) (by omega) | (refine ⟨?_, ?_⟩ <;> first | omega | decide | exact inR64 (by omega) (by omega)))), (by (subst hA; (try simp only [natCast_eq] at *); (try (simp only [Ar.real, NV.val, Int.ofNat_eq_natCast, Int.toNat_natCast])); first | done | omega | decide | exact inR64 (by omega) (by omega) | (refine ⟨?_, ?_⟩ <;> first | omega | decide | exact inR64 (by omega) (by omega)))), (by (subst hA; (try simp only [natCast_eq] at *); (try (simp only [Ar.real, NV.val, Int.ofNat_eq_natCast, Int.toNat_natCast])); first | done | omega | decide | exact inR64 (by omega) (by omega) | (refine ⟨?_, ?_⟩ <;> first | omega | decide | exact inR64 (by omega) (by omega)))), (by (subst hA; (try simp only [natCast_eq] at *); (try (simp only [Ar.real, NV.val, Int.ofNat_eq_natCast, Int.toNat_natCast])); first | done | omega | decide | exact inR64 (by omega) (by omega) | (refine ⟨?_, ?_⟩ <;> first | omega | decide | exact inR64 (by omega) (by omega)))), ?_⟩
                refine DF.fin (by kernel_rfl) (by kernel_rfl) ?_
                cbv
                refine ⟨(by (subst hA; (try simp only [natCast_eq] at *); (try (simp only [Ar.real, NV.val, Int.ofNat_eq_natCast, Int.toNat_natCast])); first | done | omega | decide | exact inR64 (by omega) (by omega) | (refine ⟨?_, ?_⟩ <;> first | omega | decide | exact inR64 (by omega) (by omega)))), (by (subst hA; (try simp only [natCast_eq] at *); (try (simp only [Ar.real, NV.val, Int.ofNat_eq_natCast, Int.toNat_natCast])); first | done | omega | decide | exact inR64 (by omega) (by omega) | (refine ⟨?_, ?_⟩ <;> first | omega | decide | exact inR64 (by omega) (by omega)))), (by (subst hA; (try simp only [natCast_eq] at *); (try (simp only [Ar.real, NV.val, Int.ofNat_eq_natCast, Int.toNat_natCast])); first | done | omega | decide | exact inR64 (by omega) (by omega) | (refine ⟨?_, ?_⟩ <;> first | omega | decide | exact inR64 (by omega) (by omega)))), hR _ _ ⟨i + 1, 44, [], rfl, rfl, ?_, him, (by show s - (i + 1) < s - i; omega)⟩⟩
                clear hR
                (try cbv) <;> (repeat' (first | exact trivial | exact rfl | apply And.intro | exact fun _ => rfl | (intro _ hle; first | exact hup1 _ hle | exact hup2 _ hle | refine chunk_le hA rfl hle rfl ?_ | refine cat_le hA ?_ | refine upd_le hA ?_ | refine int_le ?_ | skip)))
                all_goals (subst hA; (try simp only [natCast_eq] at *); (try (simp only [Ar.real, NV.val, Int.ofNat_eq_natCast, Int.toNat_natCast])); first | done | omega | decide | exact inR64 (by omega) (by omega) | (refine ⟨?_, ?_⟩ <;> first | omega | decide | exact inR64 (by omega) (by omega)))
              · have k3 : A.gt (mv i 0) 64 = false := by clear hR; subst hA; simpa [Ar.real] using hb
                first | refine testR k1 rfl ?_ | refine testL k1 rfl ?_
                cbv
                refine ⟨(by (subst hA; (try simp only [natCast_eq] at *); (try (simp only [Ar.real, NV.val, Int.ofNat_eq_natCast, Int.toNat_natCast])); first | done | omega | decide | exact inR64 (by omega) (by omega) | (refine ⟨?_, ?_⟩ <;> first | omega | decide | exact inR64 (by omega) (by omega)))), ?_⟩
                first | refine testR k2 rfl ?_ | refine testL k2 rfl ?_
                cbv
                first | refine testR k3 rfl ?_ | refine testL k3 rfl ?_
                cbv
                have hMn : (mv i 0).toNat = M i := by rw [hM1]; unfold clampB; omega
                have hm64 : M i ≤ 64 := by rw [hM1]; unfold clampB; omega
                have knm : A.nat (mv i 0) = M i := by clear hR; subst hA; exact hMn
                have kmn : A.nn (mv i 0) := by clear hR; subst hA; show 0 ≤ mv i 0; omega
                have kml : A.leN (A.nat (mv i 0)) 64 := by rw [knm]; clear hR; subst hA; exact hm64
                have kmr : A.leN (A.mulN (A.addN 0 (A.subN (A.nat (mv i 0)) 0)) 1) 140737488355328 := by rw [knm]; clear hR; subst hA; show (0 + (M i - 0)) * 1 ≤ 140737488355328; omega
                have kmr2 : A.leN (A.mulN (A.addN (A.subN (A.nat (mv i 0)) 0) (A.subN 64 (A.nat (mv i 0)))) 1) 140737488355328 := by rw [knm]; clear hR; subst hA; show ((M i - 0) + (64 - M i)) * 1 ≤ 140737488355328; omega
                have kml2 : A.leN (A.addN 0 (A.addN (A.subN (A.nat (mv i 0)) 0) (A.subN 64 (A.nat (mv i 0))))) (A.addN (A.subN (A.nat (mv i 0)) 0) (A.subN 64 (A.nat (mv i 0)))) := by clear hR; subst hA; show 0 + _ ≤ _; omega
                have hrow : RowOf .u8 64 (fun x => S' i x) (.ro 1 (.s (A.addN (A.subN (A.nat (mv i 0)) 0) (A.subN 64 (A.nat (mv i 0))))) (fun e => catG A 1 (.s (A.subN (A.nat (mv i 0)) 0)) (fun e => [.int .u8 (L (A.nat (Int.ofNat i)) (addNV A (.l 0) e).val)]) (fun e => [.int .u8 (S (A.nat (Int.ofNat i)) (addNV A (.s (A.nat (mv i 0))) e).val)]) (addNV A (.l 0) e))) := by
                  clear hR
                  rw [kn]
                  subst hA
                  have hf : (fun e : NV => [SV.int IntKind.u8 (L i (addNV Ar.real (.l 0) e).val)]) = fun e => [SV.int IntKind.u8 (L i e.val)] := by
                    funext e; rw [addNV_val]; show [SV.int IntKind.u8 (L i (0 + e.val))] = _; rw [Nat.zero_add]
                  have hg : (fun e : NV => [SV.int IntKind.u8 (S i (addNV Ar.real (.s (Ar.real.nat (mv i 0))) e).val)]) = fun e => [SV.int IntKind.u8 ((fun y => S i (M i + y)) e.val)] := by
                    funext e; rw [addNV_val]; rw [show ((.s (Ar.real.nat (mv i 0))) : NV).val = M i from hMn]
                  rw [hf, hg]
                  refine ⟨_, _, rfl, ?_, fun x hx => ?_⟩
                  · show ((mv i 0).toNat - 0) + (64 - (mv i 0).toNat) = 64; omega
                  obtain ⟨t, h1, h2⟩ := cat_rows (N := .s (Ar.real.subN (Ar.real.nat (mv i 0)) 0)) (f := L i) (g := fun y => S i (M i + y)) (e := addNV Ar.real (.l 0) x)
                  refine ⟨t, h1, ?_⟩
                  have hx0 : (addNV Ar.real (.l 0) x).val = x.val := by rw [addNV_val]; show 0 + x.val = _; rw [Nat.zero_add]
                  have hNN : (NV.s (Ar.real.subN (Ar.real.nat (mv i 0)) 0)).val = M i := hMn
                  rw [h2, hx0, hNN]
                  show _ = some (IntKind.u8, S' i x.val)
                  rw [hSi' x.val hx]
                  by_cases q : x.val < M i
                  · rw [if_pos q, if_pos q]
                  · rw [if_neg q, if_neg q, show M i + (x.val - M i) = x.val by omega]
                have hup : ∀ e, ltNV A e (.s s) → leL (leSV A 4) (updF A 1 (.s (A.nat (Int.ofNat i))) 0 [(.ro 1 (.s (A.addN (A.subN (A.nat (mv i 0)) 0) (A.subN 64 (A.nat (mv i 0))))) (fun e => catG A 1 (.s (A.subN (A.nat (mv i 0)) 0)) (fun e => [.int .u8 (L (A.nat (Int.ofNat i)) (addNV A (.l 0) e).val)]) (fun e => [.int .u8 (S (A.nat (Int.ofNat i)) (addNV A (.s (A.nat (mv i 0))) e).val)]) (addNV A (.l 0) e)))] (fun e => [.ro 1 (.s 64) (fun x => [.int .u8 (Si i e.val x.val)])]) e) [.ro 1 (.s 64) (fun x => [.int .u8 (Si (i + 1) e.val x.val)])] := fun e he =>
                  upd_rows (F := Si i) (F' := Si (i + 1)) (v := fun x => S' i x) hA hrow (fun t x h1 h2 => by rw [kn]; exact sS i t x) he rfl
                have hup1 : ∀ e, ltNV A e (.s s) → leL (leSV A 4) (updF A 1 (.s (A.nat (Int.ofNat i))) 0 [.ro 1 (.s 64) fun x => [.int .u8 (Si (i + 1) (A.nat (Int.ofNat i)) x.val)]] (fun e => [.ro 1 (.s 64) (fun x => [.int .u8 (Li i e.val x.val)])]) e) [.ro 1 (.s 64) (fun x => [.int .u8 (Li (i + 1) e.val x.val)])] := fun e he =>
                  upd_rows (F := Li i) (F' := Li (i + 1)) (v := fun x => Si (i + 1) (A.nat (Int.ofNat i)) x) hA (RowOf.base .u8 64 _) (fun t x h1 h2 => by rw [kn, sS i i x, if_pos rfl]; exact lS i t x) he rfl
                have hup2 : ∀ e, ltNV A e (.s s) → leL (leSV A 4) (updF A 1 (.s (A.nat (Int.ofNat i))) 0 [.bl false] (fun e => [.bs (Wi i e.val)]) e) [.bs (Wi (i + 1) e.val)] := fun e he =>
                  Bls.le hA (g := Wi (i + 1)) (Bls.upd hA (A.nat (Int.ofNat i)) (v := false) rfl (Bls.base (Wi i) s)) he (Nat.le_refl _) (by
                    rw [kn]; exact (wS _ _).symm)
                refine ⟨(by (subst hA; (try simp only [natCast_eq] at *); (try (simp only [Ar.real, NV.val, Int.ofNat_eq_natCast, Int.toNat_natCast])); first | done | omega | decide | exact inR64 (by omega) (by omega) | (refine ⟨?_, ?_⟩ <;> first | omega | decide | exact inR64 (by omega) (by omega)))), ⟨kmn, (by (subst hA; (try simp only [natCast_eq] at *); (try (simp only [Ar.real, NV.val, Int.ofNat_eq_natCast, Int.toNat_natCast])); first | done | omega | decide | exact inR64 (by omega) (by omega) | (refine ⟨?_, ?_⟩ <;> first | omega | decide | exact inR64 (by omega) (by omega)))), kml⟩, ⟨(by (subst hA; (try simp only [natCast_eq] at *); (try (simp only [Ar.real, NV.val, Int.ofNat_eq_natCast, Int.toNat_natCast])); first | done | omega | decide | exact inR64 (by omega) (by omega) | (refine ⟨?_, ?_⟩ <;> first | omega | decide | exact inR64 (by omega) (by omega)))), kmr⟩, (by (subst hA; (try simp only [natCast_eq] at *); (try (simp only [Ar.real, NV.val, Int.ofNat_eq_natCast, Int.toNat_natCast])); first | done | omega | decide | exact inR64 (by omega) (by omega) | (refine ⟨?_, ?_⟩ <;> first | omega | decide | exact inR64 (by omega) (by omega)))), ⟨kmn, kml, (by (subst hA; (try simp only [natCast_eq] at *); (try (simp only [Ar.real, NV.val, Int.ofNat_eq_natCast, Int.toNat_natCast])); first | done | omega | decide | exact inR64 (by omega) (by omega) | (refine ⟨?_, ?_⟩ <;> first | omega | decide | exact inR64 (by omega) (by omega))))⟩, ⟨(by (subst hA; (try simp only [natCast_eq] at *); (try (simp only [Ar.real, NV.val, Int.ofNat_eq_natCast, Int.toNat_natCast])); first | done | omega | decide | exact inR64 (by omega) (by omega) | (refine ⟨?_, ?_⟩ <;> first | omega | decide | exact inR64 (by omega) (by omega)))), kmr2⟩, (by (subst hA; (try simp only [natCast_eq] at *); (try (simp only [Ar.real, NV.val, Int.ofNat_eq_natCast, Int.toNat_natCast])); first | done | omega | decide | exact inR64 (by omega) (by omega) | (refine ⟨?_, ?_⟩ <;> first | omega | decide | exact inR64 (by omega) (by omega)))), ⟨⟨kml2, trivial⟩, (by (subst hA; (try simp only [natCast_eq] at *); (try (simp only [Ar.real, NV.val, Int.ofNat_eq_natCast, Int.toNat_natCast])); first | done | omega | decide | exact inR64 (by omega) (by omega) | (refine ⟨?_, ?_⟩ <;> first | omega | decide | exact inR64 (by omega) (by omega))))⟩, ?_⟩
                refine DS.blk hA 3 (.row 23 1 (.s s) (fun e => [.ro 1 (.s 64) (fun x => [.int .u8 (Si (i + 1) e.val x.val)])])) ?_ ?_
                · (try cbv) <;> (repeat' (first | exact trivial | exact rfl | apply And.intro | exact fun _ => rfl | (intro _ hle; first | exact hup _ hle | refine chunk_le hA rfl hle rfl ?_ | refine cat_le hA ?_ | refine upd_le hA ?_ | refine int_le ?_ | skip)))
                refine DS.runK hA hT (by rw [hP]; exact P_mixed) 4 rfl ?_
                cbv
                refine ⟨(by (subst hA; (try simp only [natCast_eq] at *); (try (simp only [Ar.real, NV.val, Int.ofNat_eq_natCast, Int.toNat_natCast])); first | done | omega | decide | exact inR64 (by omega) (by omega) | (refine ⟨?_, ?_⟩ <;> first | omega | decide | exact inR64 (by omega) (by omega)))), (by (subst hA; (try simp only [natCast_eq] at *); (try (simp only [Ar.real, NV.val, Int.ofNat_eq_natCast, Int.toNat_natCast])); first | done | omega | decide | exact inR64 (by omega) (by omega) | (refine ⟨?_, ?_⟩ <;> first | omega | decide | exact inR64 (by omega) (by omega)))), (by (subst hA; (try simp only [natCast_eq] at *); (try (simp only [Ar.real, NV.val, Int.ofNat_eq_natCast, Int.toNat_natCast])); first | done | omega | decide | exact inR64 (by omega) (by omega) | (refine ⟨?_, ?_⟩ <;> first | omega | decide | exact inR64 (by omega) (by omega)))), (by (subst hA; (try simp only [natCast_eq] at *); (try (simp only [Ar.real, NV.val, Int.ofNat_eq_natCast, Int.toNat_natCast])); first | done | omega | decide | exact inR64 (by omega) (by omega) | (refine ⟨?_, ?_⟩ <;> first | omega | decide | exact inR64 (by omega) (by omega)))), ?_⟩
                refine DF.fin (by kernel_rfl) (by kernel_rfl) ?_
                cbv
                refine ⟨(by (subst hA; (try simp only [natCast_eq] at *); (try (simp only [Ar.real, NV.val, Int.ofNat_eq_natCast, Int.toNat_natCast])); first | done | omega | decide | exact inR64 (by omega) (by omega) | (refine ⟨?_, ?_⟩ <;> first | omega | decide | exact inR64 (by omega) (by omega)))), (by (subst hA; (try simp only [natCast_eq] at *); (try (simp only [Ar.real, NV.val, Int.ofNat_eq_natCast, Int.toNat_natCast])); first | done | omega | decide | exact inR64 (by omega) (by omega) | (refine ⟨?_, ?_⟩ <;> first | omega | decide | exact inR64 (by omega) (by omega)))), (by (subst hA; (try simp only [natCast_eq] at *); (try (simp only [Ar.real, NV.val, Int.ofNat_eq_natCast, Int.toNat_natCast])); first | done | omega | decide | exact inR64 (by omega) (by omega) | (refine ⟨?_, ?_⟩ <;> first | omega | decide | exact inR64 (by omega) (by omega)))), hR _ _ ⟨i + 1, 44, [], rfl, rfl, ?_, him, (by show s - (i + 1) < s - i; omega)⟩⟩
                clear hR
                (try cbv) <;> (repeat' (first | exact trivial | exact rfl | apply And.intro | exact fun _ => rfl | (intro _ hle; first | exact hup1 _ hle | exact hup2 _ hle | refine chunk_le hA rfl hle rfl ?_ | refine cat_le hA ?_ | refine upd_le hA ?_ | refine int_le ?_ | skip)))
                all_goals (subst hA; (try simp only [natCast_eq] at *); (try (simp only [Ar.real, NV.val, Int.ofNat_eq_natCast, Int.toNat_natCast])); first | done | omega | decide | exact inR64 (by omega) (by omega) | (refine ⟨?_, ?_⟩ <;> first | omega | decide | exact inR64 (by omega) (by omega)))
      · have him : i = s := by clear hR sS lS wS mSi mE m0; subst hA; simp [Ar.real] at q1; omega
        subst him
        clear hR
        cbv
        refine Fin.le hA 0 [(3, 0), (4, 1), (5, 2)] (.agg [.sl 0 1 (.l 0) (.s i), .sl 1 1 (.l 0) (.s i), .sl 2 1 (.l 0) (.s i), .lit .i64 (-1)]) _ 400 rfl rfl rfl ?_ ?_ (by rw [← hK]; exact ⟨rfl, rfl, rfl⟩)
        · (try cbv) <;> (repeat' (first | exact trivial | exact rfl | apply And.intro | exact fun _ => rfl | (intro _ hle; first | refine chunk_le hA rfl hle rfl ?_ | refine cat_le hA ?_ | refine upd_le hA ?_ | (try cbv))))
        · have hS2 : ∀ e, ltNV A e (.s i) → leL (leSV A 4) [.ro 1 (.s 64) (fun x => [.int .u8 (Si i e.val x.val)])] [.ro 1 (.s 64) (fun x => [.int .u8 (S' e.val x.val)])] := fun e he =>
            Rws.le hA (f := Si i) (g := S') (len := 64) (n := i) (Rws.base .u8 64 (Si i) i) he (Nat.le_refl _) rfl (fun x hx => sE _ x (by subst hA; exact ltNV_real.1 he))
          have hL2 : ∀ e, ltNV A e (.s i) → leL (leSV A 4) [.ro 1 (.s 64) (fun x => [.int .u8 (Li i e.val x.val)])] [.ro 1 (.s 64) (fun x => [.int .u8 (S' e.val x.val)])] := fun e he =>
            Rws.le hA (f := Li i) (g := S') (len := 64) (n := i) (Rws.base .u8 64 (Li i) i) he (Nat.le_refl _) rfl (fun x hx => lE _ x (by subst hA; exact ltNV_real.1 he))
          have hW2 : ∀ e, ltNV A e (.s i) → leL (leSV A 4) [.bs (Wi i e.val)] [.bs (W' e.val)] := fun e he =>
            Bls.le hA (f := Wi i) (g := W') (Bls.base (Wi i) i) he (Nat.le_refl _) (wE _ (by subst hA; exact ltNV_real.1 he))
          (try cbv) <;> (repeat' (first | exact trivial | exact rfl | apply And.intro | exact fun _ => rfl | (intro _ hle; first | exact hS2 _ hle | exact hL2 _ hle | exact hW2 _ hle | refine chunk_le hA rfl hle rfl ?_ | refine cat_le hA ?_ | refine upd_le hA ?_ | refine int_le ?_ | skip)))
  generalize hA : Ar.real = A
  refine FnTr.dat hA h0 _ _ ?_
  (try cbv) <;> (repeat' (first | exact trivial | exact rfl | apply And.intro | exact fun _ => rfl | (intro _ hle; first | refine chunk_le hA rfl hle rfl ?_ | refine cat_le hA ?_ | refine upd_le hA ?_ | refine int_le ?_ | skip)))
  all_goals (subst hA; (try simp only [natCast_eq] at *); (try (simp only [Ar.real, NV.val, Int.ofNat_eq_natCast, Int.toNat_natCast])); first | done | omega | decide | exact inR64 (by omega) (by omega) | (refine ⟨?_, ?_⟩ <;> first | omega | decide | exact inR64 (by omega) (by omega)))
end Go.Proofs.Ytnjjgipblimbfaa.Dsk
