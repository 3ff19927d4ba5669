/-
  Whole numbers sorted: a few.
-/
import Derived.Test.YtnjjgipblimbfaaDskF20
import Derived.Test.YtnjjgipblimbfaaDskW
import Derived.Test.YtnjjgipblimbfaaEngThree
set_option linter.unusedVariables false
set_option linter.unusedSimpArgs false
namespace Go.Proofs.Ytnjjgipblimbfaa.Dsk
open Go.Eng
open Go.DskLaw (SeenIs EnumIs SrtTo Mov)
set_option maxRecDepth 100000
set_option maxHeartbeats 4000000
set_option linter.unusedVariables false

theorem str_ty : Try.prog.underlying 9 = some .string := by kernel_rfl
theorem len64_fn {P : Program} {G : Gl} (hP : P = Try.prog) {x : Int} (hx : 0 ≤ x ∧ x ≤ 200) : FnTr P G 82 [.int .u64 x] [] 0 (Gives .any [] 0) := by
  have hu : P.underlying _ = some .string := hP ▸ str_ty
  have hT : T.Ok P := hP ▸ T_ok
  refine FnTr.intro (fn := Try.f82) (c := bodyOf Try.f82) (by rw [hP]; rfl) rfl rfl hT ?_
  generalize hA : Ar.real = A
  generalize hK : Gives _ _ _ = K
  cbv
  have k1 : A.ge x 4294967296 = false := by subst hA; simp [Ar.real]; omega
  have k2 : A.ge x 65536 = false := by subst hA; simp [Ar.real]; omega
  have k3 : A.ge x 256 = false := by subst hA; simp [Ar.real]; omega
  first | refine testR k1 rfl ?_ | refine testL k1 rfl ?_
  cbv
  first | refine testR k2 rfl ?_ | refine testL k2 rfl ?_
  cbv
  first | refine testR k3 rfl ?_ | refine testL k3 rfl ?_
  cbv
  have kc : A.conv .u8 x = x := by subst hA; show IntKind.u8.wrap x = x; obtain ⟨n, rfl⟩ : ∃ n : Nat, x = (n : Int) := ⟨x.toNat, by omega⟩; rw [wrap_u8]; omega
  refine OS.idxStr (m := 256) (kd := .u8) (i := A.conv .u8 x) hu rfl rfl (by kernel_rfl) (by rw [kc]; omega) (fun b hb1 hb2 => ?_)
  cbv
  have kb : A.conv .i64 b = b := by subst hA; show IntKind.i64.wrap b = b; rw [IntKind.wrap_i64]; omega
  have kr : A.inR .i64 (A.add 0 (A.conv .i64 b)) := by rw [kb]; subst hA; exact inR64 (by simp only [Ar.real]; omega) (by simp only [Ar.real]; omega)
  refine ⟨kr, ?_⟩
  refine Fin.le hA 0 [] (.any) ([]) 0 rfl rfl rfl ?_ ?_ (by rw [← hK]; exact ⟨rfl, rfl, rfl⟩)
  · (try cbv) <;> (repeat' (first | exact trivial | exact rfl | apply And.intro | exact fun _ => rfl | (intro _ hle; first | refine chunk_le hA rfl hle rfl ?_ | refine cat_le hA ?_ | refine upd_le hA ?_ | (try cbv))))
  · (try cbv) <;> (repeat' (first | exact trivial | exact rfl | apply And.intro | exact fun _ => rfl | (intro _ hle; first | refine chunk_le hA rfl hle rfl ?_ | refine cat_le hA ?_ | refine upd_le hA ?_ | (try cbv))))
theorem len_bits {P : Program} {G : Gl} (hP : P = Try.prog) {x : Int} (hx : 0 ≤ x ∧ x ≤ 200) : FnTr P G 71 [.int .u64 x] [] 0 (Gives .any [] 0) := by
  have c1 := len64_fn (P := P) (G := G) hP hx
  have hT : T.Ok P := hP ▸ T_ok
  refine FnTr.intro (fn := Try.f71) (c := bodyOf Try.f71) (by rw [hP]; rfl) rfl rfl hT ?_
  generalize hA : Ar.real = A
  generalize hK : Gives _ _ _ = K
  cbv
  refine CS.le hA (c1) [] rfl rfl rfl ?_ ?_ ?_
  · (try cbv) <;> (repeat' (first | exact trivial | exact rfl | apply And.intro | exact fun _ => rfl | (intro _ hle; first | refine chunk_le hA rfl hle rfl ?_ | refine cat_le hA ?_ | refine upd_le hA ?_ | (try cbv)))) <;> (try (subst hA; (try simp only [natCast_eq] at *); (try (simp only [Ar.real, NV.val, Int.ofNat_eq_natCast, Int.toNat_natCast])); first | done | omega | decide | exact inR64 (by omega) (by omega) | (refine ⟨?_, ?_⟩ <;> first | omega | decide | exact inR64 (by omega) (by omega))))
  · (try cbv) <;> (repeat' (first | exact trivial | exact rfl | apply And.intro | exact fun _ => rfl | (intro _ hle; first | refine chunk_le hA rfl hle rfl ?_ | refine cat_le hA ?_ | refine upd_le hA ?_ | (try cbv))))
  cbv
  refine Fin.le hA 0 [] (.any) ([]) 0 rfl rfl rfl ?_ ?_ (by rw [← hK]; exact ⟨rfl, rfl, rfl⟩)
  · (try cbv) <;> (repeat' (first | exact trivial | exact rfl | apply And.intro | exact fun _ => rfl | (intro _ hle; first | refine chunk_le hA rfl hle rfl ?_ | refine cat_le hA ?_ | refine upd_le hA ?_ | (try cbv))))
  · (try cbv) <;> (repeat' (first | exact trivial | exact rfl | apply And.intro | exact fun _ => rfl | (intro _ hle; first | refine chunk_le hA rfl hle rfl ?_ | refine cat_le hA ?_ | refine upd_le hA ?_ | (try cbv))))
theorem less_fn {P : Program} {G : Gl} (hP : P = Try.prog) {x y : Int} {r : Bool} (hr : r = true ↔ x < y) : FnTr P G 78 [.int .i64 x, .int .i64 y] [] 0 (Gives (.bs r) [] 0) := by
  have c1 : FnTr P G 88 [.int .i64 x] [] 0 (Gives (.bl false) [] 0) := by
    have hT : T.Ok P := hP ▸ T_ok
    refine FnTr.intro (fn := Try.f88) (c := bodyOf Try.f88) (by rw [hP]; rfl) rfl rfl hT ?_
    generalize hA : Ar.real = A
    generalize hK : Gives _ _ _ = K
    cbv
    refine Fin.le hA 0 [] (.bl false) ([]) 0 rfl rfl rfl ?_ ?_ (by rw [← hK]; exact ⟨rfl, rfl, rfl⟩)
    · (try cbv) <;> (repeat' (first | exact trivial | exact rfl | apply And.intro | exact fun _ => rfl | (intro _ hle; first | refine chunk_le hA rfl hle rfl ?_ | refine cat_le hA ?_ | refine upd_le hA ?_ | (try cbv))))
      subst hA; simp [Ar.real]
    · (try cbv) <;> (repeat' (first | exact trivial | exact rfl | apply And.intro | exact fun _ => rfl | (intro _ hle; first | refine chunk_le hA rfl hle rfl ?_ | refine cat_le hA ?_ | refine upd_le hA ?_ | (try cbv))))
  have hT : T.Ok P := hP ▸ T_ok
  refine FnTr.intro (fn := Try.f78) (c := bodyOf Try.f78) (by rw [hP]; rfl) rfl rfl hT ?_
  generalize hA : Ar.real = A
  generalize hK : Gives _ _ _ = K
  cbv
  refine CS.le hA (c1) [] rfl rfl rfl ?_ ?_ ?_
  · (try cbv) <;> (repeat' (first | exact trivial | exact rfl | apply And.intro | exact fun _ => rfl | (intro _ hle; first | refine chunk_le hA rfl hle rfl ?_ | refine cat_le hA ?_ | refine upd_le hA ?_ | (try cbv)))) <;> (try (subst hA; (try simp only [natCast_eq] at *); (try (simp only [Ar.real, NV.val, Int.ofNat_eq_natCast, Int.toNat_natCast])); first | done | omega | decide | exact inR64 (by omega) (by omega) | (refine ⟨?_, ?_⟩ <;> first | omega | decide | exact inR64 (by omega) (by omega))))
  · (try cbv) <;> (repeat' (first | exact trivial | exact rfl | apply And.intro | exact fun _ => rfl | (intro _ hle; first | refine chunk_le hA rfl hle rfl ?_ | refine cat_le hA ?_ | refine upd_le hA ?_ | (try cbv))))
  cbv
  refine Fin.le hA 0 [] (.bs r) ([]) 0 rfl rfl rfl ?_ ?_ (by rw [← hK]; exact ⟨rfl, rfl, rfl⟩)
  · (try cbv) <;> (repeat' (first | exact trivial | exact rfl | apply And.intro | exact fun _ => rfl | (intro _ hle; first | refine chunk_le hA rfl hle rfl ?_ | refine cat_le hA ?_ | refine upd_le hA ?_ | (try cbv))))
    subst hA; rw [Bool.eq_iff_iff, hr]; simp [Ar.real]
  · (try cbv) <;> (repeat' (first | exact trivial | exact rfl | apply And.intro | exact fun _ => rfl | (intro _ hle; first | refine chunk_le hA rfl hle rfl ?_ | refine cat_le hA ?_ | refine upd_le hA ?_ | (try cbv))))
theorem isort_fn {P : Program} {G : Gl} (hP : P = Try.prog) {n : Nat} {f g : Nat → Int} {L : Int → Option (Nat → Int)} (hn : n ≤ 1000) (hf : EnumIs L n f) (hg : ∀ f', EnumIs L n f' → SrtTo f' n → ∀ i, i < n → f' i = g i) :
    FnTr P G 72 [.sl 0 1 (.l 0) (.s n), .lit .i64 0, .int .i64 (n : Int)] [(0, .row 3 1 (.s n) (fun e => [.int .i64 (f e.val)]))] 1 (Gives (.tup []) [(0, .row 3 1 (.s n) (fun e => [.int .i64 (g e.val)]))] 1) := by
  have c1 : ∀ x y : Int, ∀ r : Bool, (r = true ↔ x < y) → FnTr P G 78 [.int .i64 x, .int .i64 y] [] 0 (Gives (.bs r) [] 0) := fun x y r h => less_fn hP h
  have hT : T.Ok P := hP ▸ T_ok
  refine FnTr.intro (fn := Try.f72) (c := bodyOf Try.f72) (by rw [hP]; rfl) rfl rfl hT ?_
  generalize hA : Ar.real = A
  generalize hK : Gives _ _ _ = K
  cbv
  refine LS.le2 hT hA 1 (fun (i : Nat) (f : Nat → Int) => [(6, .int .i64 (i : Int))]) (fun i f => [(0, .row 3 1 (.s n) (fun e => [.int .i64 (f e.val)]))]) (fun i f => 1 ≤ i ∧ (i ≤ n ∨ i = 1) ∧ EnumIs L n f ∧ SrtTo f i) (fun i _ => n - i) 1 f [] rfl rfl ?_ ?_ ?_
  · (try cbv) <;> (repeat' (first | exact trivial | exact rfl | apply And.intro | exact fun _ => rfl | (intro _ hle; first | refine chunk_le hA rfl hle rfl ?_ | refine cat_le hA ?_ | refine upd_le hA ?_ | refine int_le ?_ | skip)))
    all_goals first | (subst hA; (try simp only [natCast_eq] at *); (try (simp only [Ar.real, NV.val, Int.ofNat_eq_natCast, Int.toNat_natCast])); first | done | omega | decide | exact inR64 (by omega) (by omega) | (refine ⟨?_, ?_⟩ <;> first | omega | decide | exact inR64 (by omega) (by omega))) | (subst hA; rfl)
  · exact ⟨Nat.le_refl _, .inr rfl, hf, fun u v h1 h2 => by omega⟩
  · intro R hR i f1 hi
    cbv
    obtain ⟨hi1, hi2, hi3, hi4⟩ := hi
    refine ⟨fun q1 => ?_, fun q1 => ?_⟩
    · have hin : i < n := by clear hR c1 hg; subst hA; simp [Ar.real] at q1; omega
      cbv
      refine LS.le2 hT hA 1 (fun (j : Nat) (f : Nat → Int) => [(7, .int .i64 (j : Int))]) (fun j f => [(0, .row 3 1 (.s n) (fun e => [.int .i64 (f e.val)]))]) (fun j f => j ≤ i ∧ EnumIs L n f ∧ Mov f i j) (fun j _ => j) i f1 [] rfl rfl ?_ ?_ ?_
      · clear hR
        (try cbv) <;> (repeat' (first | exact trivial | exact rfl | apply And.intro | exact fun _ => rfl | (intro _ hle; first | refine chunk_le hA rfl hle rfl ?_ | refine cat_le hA ?_ | refine upd_le hA ?_ | refine int_le ?_ | skip)))
      · exact ⟨Nat.le_refl _, hi3, Mov.start hi4⟩
      · intro Q hQ j f2 hj
        cbv
        obtain ⟨hj1, hj2, hj3⟩ := hj
        by_cases hj0 : j = 0
        · have k1 : A.gt (Int.ofNat j) 0 = false := by clear hR hQ; subst hA; simp [Ar.real]; omega
          have hsr := hj3.fin (.inl hj0)
          clear hQ
          refine DS.runK hA hT (by rw [hP]; exact P_mixed) 2 rfl ?_
          cbv
          first | refine testR k1 rfl ?_ | refine testL k1 rfl ?_
          cbv
          refine DF.fin (by kernel_rfl) (by kernel_rfl) ?_
          cbv
          refine ⟨(by (subst hA; (try simp only [natCast_eq] at *); (try (simp only [Ar.real, NV.val, Int.ofNat_eq_natCast, Int.toNat_natCast])); first | done | omega | decide | exact inR64 (by omega) (by omega) | (refine ⟨?_, ?_⟩ <;> first | omega | decide | exact inR64 (by omega) (by omega)))), hR _ _ _ ⟨i + 1, f2, 1, [], rfl, rfl, ?_, ⟨by omega, by omega, hj2, hsr⟩, (by show n - (i + 1) < n - i; omega)⟩⟩
          clear hR
          (try cbv) <;> (repeat' (first | exact trivial | exact rfl | apply And.intro | exact fun _ => rfl | (intro _ hle; first | refine chunk_le hA rfl hle rfl ?_ | refine cat_le hA ?_ | refine upd_le hA ?_ | refine int_le ?_ | skip)))
          all_goals (subst hA; (try simp only [natCast_eq] at *); (try (simp only [Ar.real, NV.val, Int.ofNat_eq_natCast, Int.toNat_natCast])); first | done | omega | decide | exact inR64 (by omega) (by omega) | (refine ⟨?_, ?_⟩ <;> first | omega | decide | exact inR64 (by omega) (by omega)))
        · have k1 : A.gt (Int.ofNat j) 0 = true := by clear hR hQ; subst hA; simp [Ar.real]; omega
          obtain ⟨y, hy⟩ : ∃ y, j = y + 1 := ⟨j - 1, by omega⟩
          have ky : A.sub (Int.ofNat j) 1 = Int.ofNat y := by clear hR hQ; subst hA; show (j : Int) - 1 = (y : Int); omega
          have kyn : A.nat (A.sub (Int.ofNat j) 1) = y := by rw [ky]; clear hR hQ; subst hA; rfl
          have kjn : A.nat (Int.ofNat j) = j := by clear hR hQ; subst hA; rfl
          have kyi : A.idx (A.sub (Int.ofNat j) 1) n := by rw [ky]; clear hR hQ; subst hA; exact ⟨Int.natCast_nonneg _, by show y < n; omega⟩
          have kji : A.idx (Int.ofNat j) n := by clear hR hQ; subst hA; exact ⟨Int.natCast_nonneg _, by show j < n; omega⟩
          have kyr : A.inR .i64 (A.sub (Int.ofNat j) 1) := by rw [ky]; clear hR hQ; subst hA; exact inR64 (by simp only [Int.ofNat_eq_natCast]; omega) (by simp only [Int.ofNat_eq_natCast]; omega)
          have kjl : A.leN (A.addN (A.nat (Int.ofNat j)) 1) n := by rw [kjn]; clear hR hQ; subst hA; show j + 1 ≤ n; omega
          have kyl : A.leN (A.addN (A.nat (A.sub (Int.ofNat j) 1)) 1) n := by rw [kyn]; clear hR hQ; subst hA; show y + 1 ≤ n; omega
          refine DS.runK hA hT (by rw [hP]; exact P_mixed) 2 rfl ?_
          cbv
          first | refine testR k1 rfl ?_ | refine testL k1 rfl ?_
          cbv
          refine ⟨kji, kjl, kyr, kyi, kyl, ?_⟩
          by_cases hlt : f2 j < f2 y
          · have a1 := c1 (f2 j) (f2 y) true ⟨fun _ => hlt, fun _ => rfl⟩
            refine CD.pass hA (FnTr.res hA a1 (.bl true) rfl) [] [] rfl ⟨rfl, rfl, rfl, rfl, ?_, ?_⟩ rfl (.inl rfl) ?_
            · clear hR hQ
              (try cbv) <;> (repeat' (first | exact trivial | exact rfl | apply And.intro | exact fun _ => rfl | (intro _ hle; first | refine chunk_le hA rfl hle rfl ?_ | refine cat_le hA ?_ | refine upd_le hA ?_ | (try cbv))))
              all_goals first | exact congrArg f2 kjn | exact congrArg f2 kyn
            · (try cbv) <;> (repeat' (first | exact trivial | exact rfl | apply And.intro | exact fun _ => rfl | (intro _ hle; first | refine chunk_le hA rfl hle rfl ?_ | refine cat_le hA ?_ | refine upd_le hA ?_ | (try cbv))))
            cbv
            refine DF.fin (by kernel_rfl) (by kernel_rfl) ?_
            cbv
            obtain ⟨f3, hf3⟩ : ∃ f3 : Nat → Int, ∀ u, f3 u = if u = j then f2 y else if u = y then f2 j else f2 u := ⟨_, fun _ => rfl⟩
            have he3 : EnumIs L n f3 := hj2.swap (j := j) (by omega) (fun u _ => by rw [hf3, show j - 1 = y by omega])
            have hm3 : Mov f3 i y := by
              have := hj3.step (f' := f3) (by omega) (by rw [show j - 1 = y by omega]; exact hlt) (fun u _ => by rw [hf3, show j - 1 = y by omega])
              rw [show j - 1 = y by omega] at this
              exact this
            have hup : ∀ e, ltNV A e (.s n) → leL (leSV A 4) (updF A 1 (.s (A.nat (A.sub (Int.ofNat j) 1))) 0 [.int .i64 (f2 (A.nat (Int.ofNat j)))] (updF A 1 (.s (A.nat (Int.ofNat j))) 0 [.int .i64 (f2 (A.nat (A.sub (Int.ofNat j) 1)))] (fun e => [.int .i64 (f2 e.val)])) e) [.int .i64 (f3 e.val)] := fun e he =>
              Ints.le hA (Ints.upd hA (A.nat (A.sub (Int.ofNat j) 1)) rfl (Ints.upd hA (A.nat (Int.ofNat j)) rfl (Ints.base .i64 f2 n))) he (Nat.le_refl _) (by
                rw [kyn, kjn, hf3]
                by_cases q : e.val = j
                · rw [if_pos q, if_neg (by omega), if_pos q]
                · rw [if_neg q, if_neg q])
            refine DS.runK hA hT (by rw [hP]; exact P_mixed) 2 rfl ?_
            cbv
            refine ⟨kyr, kyr, kyi, kyl, kji, kjl, kji, kjl, kyi, kyl, ?_⟩
            refine DF.fin (by kernel_rfl) (by kernel_rfl) ?_
            cbv
            refine ⟨kyr, hQ _ _ _ ⟨y, f3, 1, [], rfl, rfl, ?_, ⟨by omega, he3, hm3⟩, (by show y < j; omega)⟩⟩
            clear hR hQ
            (try cbv) <;> (repeat' (first | exact trivial | exact rfl | apply And.intro | exact fun _ => rfl | (intro _ hle; first | exact hup _ hle | refine chunk_le hA rfl hle rfl ?_ | refine cat_le hA ?_ | refine upd_le hA ?_ | refine int_le ?_ | skip)))
            all_goals first | exact ky | (subst hA; (try simp only [natCast_eq] at *); (try (simp only [Ar.real, NV.val, Int.ofNat_eq_natCast, Int.toNat_natCast])); first | done | omega | decide | exact inR64 (by omega) (by omega) | (refine ⟨?_, ?_⟩ <;> first | omega | decide | exact inR64 (by omega) (by omega)))
          · have a1 := c1 (f2 j) (f2 y) false ⟨fun h => (by cases h), fun h => absurd h hlt⟩
            have hne : f2 y ≠ f2 j := fun e => by have := hj2.inj y j (by omega) (by omega) e; omega
            have hsr := hj3.fin (.inr ⟨by omega, by rw [show j - 1 = y by omega]; omega⟩)
            clear hQ
            refine CD.pass hA (FnTr.res hA a1 (.bl false) rfl) [] [] rfl ⟨rfl, rfl, rfl, rfl, ?_, ?_⟩ rfl (.inl rfl) ?_
            · clear hR
              (try cbv) <;> (repeat' (first | exact trivial | exact rfl | apply And.intro | exact fun _ => rfl | (intro _ hle; first | refine chunk_le hA rfl hle rfl ?_ | refine cat_le hA ?_ | refine upd_le hA ?_ | (try cbv))))
              all_goals first | exact congrArg f2 kjn | exact congrArg f2 kyn
            · (try cbv) <;> (repeat' (first | exact trivial | exact rfl | apply And.intro | exact fun _ => rfl | (intro _ hle; first | refine chunk_le hA rfl hle rfl ?_ | refine cat_le hA ?_ | refine upd_le hA ?_ | (try cbv))))
            cbv
            refine DF.fin (by kernel_rfl) (by kernel_rfl) ?_
            cbv
            refine ⟨(by (subst hA; (try simp only [natCast_eq] at *); (try (simp only [Ar.real, NV.val, Int.ofNat_eq_natCast, Int.toNat_natCast])); first | done | omega | decide | exact inR64 (by omega) (by omega) | (refine ⟨?_, ?_⟩ <;> first | omega | decide | exact inR64 (by omega) (by omega)))), hR _ _ _ ⟨i + 1, f2, 1, [], rfl, rfl, ?_, ⟨by omega, by omega, hj2, hsr⟩, (by show n - (i + 1) < n - i; omega)⟩⟩
            clear hR
            (try cbv) <;> (repeat' (first | exact trivial | exact rfl | apply And.intro | exact fun _ => rfl | (intro _ hle; first | refine chunk_le hA rfl hle rfl ?_ | refine cat_le hA ?_ | refine upd_le hA ?_ | refine int_le ?_ | skip)))
            all_goals (subst hA; (try simp only [natCast_eq] at *); (try (simp only [Ar.real, NV.val, Int.ofNat_eq_natCast, Int.toNat_natCast])); first | done | omega | decide | exact inR64 (by omega) (by omega) | (refine ⟨?_, ?_⟩ <;> first | omega | decide | exact inR64 (by omega) (by omega)))
    · have hin : n ≤ i := by clear hR c1 hg; subst hA; simp [Ar.real] at q1; omega
      clear hR
      have hsr : SrtTo f1 n := fun u v h1 h2 => hi4 u v h1 (by omega)
      have hgg := hg f1 hi3 hsr
      have hp2 : ∀ e, ltNV A e (.s n) → leL (leSV A 4) [.int .i64 (f1 e.val)] [.int .i64 (g e.val)] := fun e he => by
        refine int_le ?_
        exact hgg _ (by subst hA; exact ltNV_real.1 he)
      cbv
      refine Fin.le hA 1 [] (.tup []) ([(0, .row 3 1 (.s n) (fun e => [.int .i64 (g e.val)]))]) 1 rfl rfl rfl ?_ ?_ (by rw [← hK]; exact ⟨rfl, rfl, rfl⟩)
      · (try cbv) <;> (repeat' (first | exact trivial | exact rfl | apply And.intro | exact fun _ => rfl | (intro _ hle; first | refine chunk_le hA rfl hle rfl ?_ | refine cat_le hA ?_ | refine upd_le hA ?_ | (try cbv))))
      · (try cbv) <;> (repeat' (first | exact trivial | exact rfl | apply And.intro | exact fun _ => rfl | (intro _ hle; first | exact hp2 _ hle | refine chunk_le hA rfl hle rfl ?_ | refine cat_le hA ?_ | refine upd_le hA ?_ | refine int_le ?_ | skip)))
end Go.Proofs.Ytnjjgipblimbfaa.Dsk
