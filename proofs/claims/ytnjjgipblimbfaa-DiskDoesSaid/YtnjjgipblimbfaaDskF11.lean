/-
  Disks: a crash.
-/
import Derived.Test.YtnjjgipblimbfaaDskF10
set_option linter.unusedVariables false
set_option linter.unusedSimpArgs false
namespace Go.Proofs.Ytnjjgipblimbfaa.Dsk
open Go.Eng
open Go.DskLaw (q64 secV clampB crash1 crashP crashP_keys)
set_option maxRecDepth 100000
set_option maxHeartbeats 4000000
set_option linter.unusedVariables false

theorem crash_nil {P : Program} {G : Gl} (hP : P = Try.prog) {n : Nat} {ks kb : Nat → Int} : FnTr P G 18 [.nilp, .ro 2 (.s n) (fun e => [.int .i64 (ks e.val), .int .i64 (kb e.val)])] [] 0 (Gives (.tup []) [] 0) := by
  have hT : T.Ok P := hP ▸ T_ok
  refine FnTr.intro (fn := Try.f18) (c := bodyOf Try.f18) (by rw [hP]; rfl) rfl rfl hT ?_
  generalize hA : Ar.real = A
  generalize hK : Gives _ _ _ = K
  cbv
  refine Fin.le hA 0 [] (.tup []) ([]) 0 rfl rfl rfl ?_ ?_ (by rw [← hK]; exact ⟨rfl, rfl, rfl⟩)
  · (try cbv) <;> (repeat' (first | exact trivial | exact rfl | apply And.intro | exact fun _ => rfl | (intro _ hle; first | refine chunk_le hA rfl hle rfl ?_ | refine cat_le hA ?_ | refine upd_le hA ?_ | (try cbv))))
  · (try cbv) <;> (repeat' (first | exact trivial | exact rfl | apply And.intro | exact fun _ => rfl | (intro _ hle; first | refine chunk_le hA rfl hle rfl ?_ | refine cat_le hA ?_ | refine upd_le hA ?_ | (try cbv))))
theorem crash_fn {P : Program} {G : Gl} (hP : P = Try.prog) {N s n : Nat} {S S' : Nat → Int} {L L' : Int → Option (Nat → Int)} {ar : Bool} {ca : Int} {ks kb : Nat → Int} (hN : N = 64 * s) (hs : s ≤ 4096) (hn : n ≤ 1000000)
    (hk : ∀ k g, L k = some g → 0 ≤ k ∧ k < (s : Int)) (hS : ∀ x, x < N → S' x = (crashP S L ks kb n).1 x) (hL : ∀ k, L' k = none) :
    FnTr P G 18 [.ptr 0 0, .ro 2 (.s n) (fun e => [.int .i64 (ks e.val), .int .i64 (kb e.val)])] (DH N S L ar ca) 3 (Gives (.tup []) (DH N S' L' false 0) 3) := by
  have hM : MapTy P _ 64 := hP ▸ map_ty
  have hAr : ArrTy P _ 64 := hP ▸ arr_ty
  have hSl : SlTy P _ := hP ▸ sl_ty
  obtain ⟨Si, hSi⟩ : ∃ Si : Nat → Nat → Int, Si = fun (i : Nat) => (crashP S L ks kb i).1 := ⟨_, rfl⟩
  obtain ⟨Li, hLi⟩ : ∃ Li : Nat → Int → Option (Nat → Int), Li = fun (i : Nat) => (crashP S L ks kb i).2 := ⟨_, rfl⟩
  have h1 : ∀ i, Li i (ks i) = none → Si (i + 1) = Si i ∧ Li (i + 1) = Li i := fun i h => by
    rw [hSi, hLi]; rw [hLi] at h
    show (crash1 _ _ _ _).1 = _ ∧ (crash1 _ _ _ _).2 = _
    unfold crash1
    simp only [] at h
    rw [h]
    exact ⟨rfl, rfl⟩
  have h2 : ∀ i g, Li i (ks i) = some g → (∀ x, Si (i + 1) x = if 64 * (ks i).toNat ≤ x ∧ x < 64 * (ks i).toNat + clampB (kb i) then g (x - 64 * (ks i).toNat) else Si i x) ∧ (∀ k, Li (i + 1) k = if k = ks i then none else Li i k) := fun i g h => by
    rw [hSi, hLi]; rw [hLi] at h
    show (∀ x, (crash1 _ _ _ _).1 x = _) ∧ ∀ k, (crash1 _ _ _ _).2 k = _
    unfold crash1
    simp only [] at h
    rw [h]
    exact ⟨fun _ => rfl, fun _ => rfl⟩
  have hkey : ∀ i g, Li i (ks i) = some g → 0 ≤ ks i ∧ ks i < (s : Int) := fun i g h => by rw [hLi] at h; exact crashP_keys hk i _ _ h
  have hS0 : ∀ x, S x = Si 0 x := fun x => by rw [hSi]; rfl
  have hL0 : ∀ k, L k = Li 0 k := fun k => by rw [hLi]; rfl
  have hSn : ∀ x, x < N → Si n x = S' x := fun x hx => by rw [hS x hx, hSi]
  clear hSi hLi hS hk
  have hT : T.Ok P := hP ▸ T_ok
  refine FnTr.intro (fn := Try.f18) (c := bodyOf Try.f18) (by rw [hP]; rfl) rfl rfl hT ?_
  generalize hA : Ar.real = A
  generalize hK : Gives _ _ _ = K
  cbv
  refine LS.leU hT hA 3 (fun (i : Nat) => [(12, .int .i64 (i : Int))]) [] (fun i => [(1, .row 5 1 (.s N) (fun e => [.int .u8 (Si i e.val)])), (2, .wm 64 (Li i))]) (fun i => i ≤ n) (fun i => n - i) 0 [] rfl rfl ?_ ?_ ?_
  · (try cbv) <;> (repeat' (first | exact trivial | exact rfl | apply And.intro | exact fun _ => rfl | (intro _ hle; first | refine chunk_le hA rfl hle rfl ?_ | refine cat_le hA ?_ | refine upd_le hA ?_ | (try cbv))))
    all_goals first | exact hS0 _ | exact hL0
  · exact Nat.zero_le _
  · intro R hR i hi
    cbv
    refine ⟨fun h3 => ?_, fun h3 => ?_⟩
    · have him : i < n := by clear h1 h2 hkey hR; subst hA; simpa [Ar.real] using h3
      cbv
      refine ⟨(by (subst hA; (try simp only [natCast_eq] at *); (try (simp only [Ar.real, NV.val, Int.ofNat_eq_natCast, Int.toNat_natCast])); first | done | omega | decide | exact inR64 (by omega) (by omega) | (refine ⟨?_, ?_⟩ <;> first | omega | decide | exact inR64 (by omega) (by omega)))), ?_⟩
      have kn : A.nat (Int.ofNat i) = i := by subst hA; rfl
      cases hlk : Li i (ks i) with
      | none =>
        obtain ⟨e1, e2⟩ := h1 i hlk
        clear h1 h2 hkey
        refine DS.runK hA hT (by rw [hP]; exact P_mixed) 1 rfl ?_
        cbv
        refine OD.did [2] rfl (lookup_did (k := ks (A.nat (Int.ofNat i))) hM rfl rfl rfl rfl false (fun _ => 0) (.inr ⟨rfl, by rw [kn]; exact hlk, rfl⟩)) rfl ?_
        cbv
        refine DF.fin (by kernel_rfl) (by kernel_rfl) ?_
        cbv
        refine ⟨(by (subst hA; (try simp only [natCast_eq] at *); (try (simp only [Ar.real, NV.val, Int.ofNat_eq_natCast, Int.toNat_natCast])); first | done | omega | decide | exact inR64 (by omega) (by omega) | (refine ⟨?_, ?_⟩ <;> first | omega | decide | exact inR64 (by omega) (by omega)))), hR _ _ ⟨i + 1, 3, [], rfl, rfl, ?_, him, (by show n - (i + 1) < n - i; omega)⟩⟩
        clear hR
        (try cbv) <;> (repeat' (first | exact trivial | exact rfl | apply And.intro | exact fun _ => rfl | (intro _ hle; first | refine chunk_le hA rfl hle rfl ?_ | refine cat_le hA ?_ | refine upd_le hA ?_ | refine int_le ?_ | skip)))
        all_goals first | exact congrFun e1.symm _ | exact fun k => congrFun e2.symm k | (subst hA; (try simp only [natCast_eq] at *); (try (simp only [Ar.real, NV.val, Int.ofNat_eq_natCast, Int.toNat_natCast])); first | done | omega | decide | exact inR64 (by omega) (by omega) | (refine ⟨?_, ?_⟩ <;> first | omega | decide | exact inR64 (by omega) (by omega)))
      | some g =>
        obtain ⟨e1, e2⟩ := h2 i g hlk
        obtain ⟨q, hq⟩ : ∃ q : Nat, ks i = (q : Int) := ⟨(ks i).toNat, by have := hkey i g hlk; omega⟩
        have hqs : q < s := by have := hkey i g hlk; simp only [natCast_eq] at *; omega
        obtain ⟨o, ho⟩ : ∃ o, o = 64 * q := ⟨_, rfl⟩
        obtain ⟨m, hm⟩ : ∃ m, m = clampB (kb i) := ⟨_, rfl⟩
        have hm64 : m ≤ 64 := by rw [hm]; unfold clampB; omega
        have hmv : (if (if (0 : Int) > kb i then 0 else kb i) > 64 then 64 else (if (0 : Int) > kb i then 0 else kb i)) = (m : Int) := by
          rw [hm]; unfold clampB; split <;> split <;> omega
        have a1 := at_fn (P := P) (G := G) (S := Si i) (L := Li i) (ar := ar) (ca := ca) hP hN hs hqs ho
        rw [hq] at e1
        rw [← hm, show ((q : Int)).toNat = q from rfl, ← ho] at e1
        clear h1 h2 hkey
        refine DS.runK hA hT (by rw [hP]; exact P_mixed) 1 rfl ?_
        cbv
        refine OD.did [2] rfl (lookup_did (k := ks (A.nat (Int.ofNat i))) hM rfl rfl rfl rfl true g (.inl ⟨rfl, by rw [kn]; exact hlk⟩)) rfl ?_
        cbv
        refine DF.fin (by kernel_rfl) (by kernel_rfl) ?_
        cbv
        refine DS.runK hA hT (by rw [hP]; exact P_mixed) 4 rfl ?_
        cbv
        refine CD.pass hA (a1) [(0, 0), (1, 1), (2, 2)] [] rfl ⟨rfl, rfl, rfl, rfl, ?_, ?_⟩ rfl (.inl rfl) ?_
        · (try cbv) <;> (repeat' (first | exact trivial | exact rfl | apply And.intro | exact fun _ => rfl | (intro _ hle; first | refine chunk_le hA rfl hle rfl ?_ | refine cat_le hA ?_ | refine upd_le hA ?_ | (try cbv)))) <;> (try (subst hA; (try simp only [natCast_eq] at *); (try (simp only [Ar.real, NV.val, Int.ofNat_eq_natCast, Int.toNat_natCast])); first | done | omega | decide | exact inR64 (by omega) (by omega) | (refine ⟨?_, ?_⟩ <;> first | omega | decide | exact inR64 (by omega) (by omega))))
        · (try cbv) <;> (repeat' (first | exact trivial | exact rfl | apply And.intro | exact fun _ => rfl | (intro _ hle; first | refine chunk_le hA rfl hle rfl ?_ | refine cat_le hA ?_ | refine upd_le hA ?_ | (try cbv))))
        cbv
        have hN64 : A.min (A.max (kb (NV.s (A.nat (Int.ofNat i))).val) 0) 64 = (m : Int) ∧ m ≤ 64 := ⟨by subst hA; exact hmv, hm64⟩
        refine OD.did [18] rfl (sliceArr_did (g := g) (.s m) hAr rfl rfl rfl rfl hN64) rfl ?_
        cbv
        refine OD.did [1] rfl (copy_did (S := Si i) (S' := Si (i + 1)) hSl rfl rfl rfl rfl (Ints.base .u8 (Si i) N) rfl (Ints.base .u8 g m) (show o + 64 ≤ N by omega) (fun x hx => by rw [e1 x]; show _ = if o ≤ x ∧ x < o + min m 64 then _ else _; rw [Nat.min_eq_left hm64]; rfl)) rfl ?_
        cbv
        refine DF.fin (by kernel_rfl) (by kernel_rfl) ?_
        cbv
        refine DS.runK hA hT (by rw [hP]; exact P_mixed) 1 rfl ?_
        cbv
        refine OD.did [2] rfl (delete_did hM rfl rfl rfl rfl rfl) rfl ?_
        cbv
        refine DF.fin (by kernel_rfl) (by kernel_rfl) ?_
        cbv
        refine ⟨(by (subst hA; (try simp only [natCast_eq] at *); (try (simp only [Ar.real, NV.val, Int.ofNat_eq_natCast, Int.toNat_natCast])); first | done | omega | decide | exact inR64 (by omega) (by omega) | (refine ⟨?_, ?_⟩ <;> first | omega | decide | exact inR64 (by omega) (by omega)))), hR _ _ ⟨i + 1, 3, [], rfl, rfl, ?_, him, (by show n - (i + 1) < n - i; omega)⟩⟩
        clear hR
        (try cbv) <;> (repeat' (first | exact trivial | exact rfl | apply And.intro | exact fun _ => rfl | (intro _ hle; first | refine chunk_le hA rfl hle rfl ?_ | refine cat_le hA ?_ | refine upd_le hA ?_ | refine int_le ?_ | skip)))
        all_goals first | (intro k; rw [e2 k]; show updL (Li i) (ks (A.nat (Int.ofNat i))) none k = _; rw [kn]; rfl) | (subst hA; (try simp only [natCast_eq] at *); (try (simp only [Ar.real, NV.val, Int.ofNat_eq_natCast, Int.toNat_natCast])); first | done | omega | decide | exact inR64 (by omega) (by omega) | (refine ⟨?_, ?_⟩ <;> first | omega | decide | exact inR64 (by omega) (by omega)))
    · have him : i = n := by clear h1 h2 hkey hR; subst hA; simp [Ar.real] at h3; omega
      subst him
      clear h1 h2 hkey hR
      cbv
      refine OS.did (clear_did (sz := 64) hM rfl rfl rfl rfl rfl) ?_
      cbv
      have hp2 : ∀ e, ltNV A e (.s N) → leL (leSV A 4) [.int .u8 (Si i e.val)] [.int .u8 (S' e.val)] := fun e he => by
        refine int_le ?_
        exact hSn _ (by subst hA; exact ltNV_real.1 he)
      refine Fin.le hA 3 [] (.tup []) (DH N S' L' false 0) 3 rfl rfl rfl ?_ ?_ (by rw [← hK]; exact ⟨rfl, rfl, rfl⟩)
      · (try cbv) <;> (repeat' (first | exact trivial | exact rfl | apply And.intro | exact fun _ => rfl | (intro _ hle; first | refine chunk_le hA rfl hle rfl ?_ | refine cat_le hA ?_ | refine upd_le hA ?_ | (try cbv))))
      · (try cbv) <;> (repeat' (first | exact trivial | exact rfl | apply And.intro | exact fun _ => rfl | (intro _ hle; first | exact hp2 _ hle | refine chunk_le hA rfl hle rfl ?_ | refine cat_le hA ?_ | refine upd_le hA ?_ | refine int_le ?_ | skip)))
        exact fun k => (hL k).symm
end Go.Proofs.Ytnjjgipblimbfaa.Dsk
