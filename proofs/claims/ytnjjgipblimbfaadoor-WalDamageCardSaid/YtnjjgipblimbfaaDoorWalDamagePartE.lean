/-
  A verified symbolic executor over the code of the model, and what it shows of this program: part 5 of 6 (LawWalDamage).
-/
import Derived.Test.YtnjjgipblimbfaaDoorWalDamagePartD
set_option linter.unusedVariables false
set_option linter.unusedSimpArgs false
namespace Go.Proofs.YtnjjgipblimbfaaDoor.Dsk
open Go.Eng
open Go.DskLaw (q64 secV isB)
open Go.WalLaw
set_option maxRecDepth 100000
set_option maxHeartbeats 1000000
theorem beq_fn {P : Program} {G : Gl} (hP : P = Tryd.prog) {n m : Nat} {f g : Nat → Int} {res : Bool} {N M : NV} (hN : N.val = n) (hM : M.val = m) (hf : ∀ i, i < n → 0 ≤ f i ∧ f i < 256) (hg : ∀ i, i < m → 0 ≤ g i ∧ g i < 256) (hres : res = true ↔ (n = m ∧ ∀ i, i < n → f i = g i)) :
    FnTr P G 102 [.ro 1 N (fun e => [.int .u8 (f e.val)]), .ro 1 M (fun e => [.int .u8 (g e.val)])] [] 0 (Gives (.bs res) [] 0) := by
  subst hN hM
  have hT : T.Ok P := hP ▸ T_ok
  refine FnTr.intro (fn := Tryd.f102) (c := bodyOf Tryd.f102) (by rw [hP]; rfl) rfl rfl hT ?_
  generalize hA : Ar.real = A
  generalize hK : Gives _ _ _ = K
  cbv
  refine ⟨fun e _ => rfl, fun e _ => rfl, ?_⟩
  refine Fin.le hA 0 [] (.bs res) [] 0 rfl rfl rfl ?_ ?_ (by rw [← hK]; exact ⟨rfl, rfl, rfl⟩)
  · cbv
    subst hA
    rw [Bool.eq_iff_iff]
    exact (bytes_eq hf hg).trans hres.symm
  · trivial

theorem shl_or64 (x : Nat) (y : Int) (hx : x < 72057594037927936) (hy : 0 ≤ y ∧ y ≤ 255) : wOp .or .u64 (Ar.real.shl .u64 (x : Int) 8) y = ((x * 256 + y.toNat : Nat) : Int) := by
  obtain ⟨z, hz⟩ : ∃ z : Nat, y = (z : Int) := ⟨y.toNat, by omega⟩
  subst hz
  have hz : z < 256 := by omega
  have e1 : Ar.real.shl .u64 (x : Int) 8 = ((x * 256 : Nat) : Int) := by
    show IntKind.u64.wrap ((x : Int) * 2 ^ (Nat.min (8 : Int).toNat IntKind.u64.bits)) = _
    rw [show ((x : Int) * 2 ^ (Nat.min (8 : Int).toNat IntKind.u64.bits)) = ((x * 256 : Nat) : Int) by rw [Int.natCast_mul]; rfl]
    simp only [IntKind.wrap, IntKind.bits, IntKind.signed]
    simp
    omega
  rw [e1]
  show IntKind.u64.wrap ((BitVec.ofInt 64 ((x * 256 : Nat) : Int) ||| BitVec.ofInt 64 (z : Int)).toNat : Int) = _
  have e2 : (BitVec.ofInt 64 ((x * 256 : Nat) : Int) ||| BitVec.ofInt 64 (z : Int)).toNat = x * 256 + z := by
    rw [BitVec.toNat_or, BitVec.ofInt_natCast, BitVec.ofInt_natCast, BitVec.toNat_ofNat, BitVec.toNat_ofNat, Nat.mod_eq_of_lt (by omega), Nat.mod_eq_of_lt (by omega)]
    rw [show x * 256 = x <<< 8 by rw [Nat.shiftLeft_eq], ← Nat.shiftLeft_add_eq_or_of_lt (by omega)]
  rw [e2]
  simp only [IntKind.wrap, IntKind.bits, IntKind.signed, Int.toNat_natCast]
  simp
  omega

theorem gen_off {P : Program} {G : Gl} (hP : P = Tryd.prog) {N : Nat} {S : Nat → Int} {L : Int → Option (Nat → Int)} {ar : Bool} {ca i : Int} (h : ar = true ∧ ca = 0) :
    FnTr P G 85 [.ptr 0 0, .int .i64 i] (DH N S L ar ca) 3 (Gives (.tup [.lit .i64 0, .lit .i64 6]) (DH N S L ar ca) 3) := by
  have a1 := read_off (P := P) (G := G) (N := N) (S := S) (L := L) (i := i) hP h
  have hT : T.Ok P := hP ▸ T_ok
  refine FnTr.intro (fn := Tryd.f85) (c := bodyOf Tryd.f85) (by rw [hP]; rfl) rfl rfl hT ?_
  generalize hA : Ar.real = A
  generalize hK : Gives _ _ _ = K
  cbv
  refine CS.le hA (a1) [(0, 0), (1, 1), (2, 2)] rfl rfl rfl ?_ ?_ ?_
  · (try cbv) <;> (repeat' (first | exact trivial | exact rfl | apply And.intro | exact fun _ => rfl | (intro _ hle; first | refine chunk_le hA rfl hle rfl ?_ | refine cat_le hA ?_ | refine upd_le hA ?_ | (try cbv)))) <;> (try (subst hA; (try simp only [natCast_eq] at *); (try (simp only [Ar.real, NV.val, Int.ofNat_eq_natCast, Int.toNat_natCast])); first | done | omega | decide | exact inR64 (by omega) (by omega) | (refine ⟨?_, ?_⟩ <;> first | omega | decide | exact inR64 (by omega) (by omega))))
  · (try cbv) <;> (repeat' (first | exact trivial | exact rfl | apply And.intro | exact fun _ => rfl | (intro _ hle; first | refine chunk_le hA rfl hle rfl ?_ | refine cat_le hA ?_ | refine upd_le hA ?_ | (try cbv))))
  cbv
  refine Fin.le hA 3 [] (.tup [.lit .i64 0, .lit .i64 6]) (DH N S L ar ca) 3 rfl rfl rfl ?_ ?_ (by rw [← hK]; exact ⟨rfl, rfl, rfl⟩)
  · (try cbv) <;> (repeat' (first | exact trivial | exact rfl | apply And.intro | exact fun _ => rfl | (intro _ hle; first | refine chunk_le hA rfl hle rfl ?_ | refine cat_le hA ?_ | refine upd_le hA ?_ | (try cbv))))
  · (try cbv) <;> (repeat' (first | exact trivial | exact rfl | apply And.intro | exact fun _ => rfl | (intro _ hle; first | refine chunk_le hA rfl hle rfl ?_ | refine cat_le hA ?_ | refine upd_le hA ?_ | (try cbv))))

theorem gen_fn {P : Program} {G : Gl} (hP : P = Tryd.prog) {N s sec g : Nat} {S v : Nat → Int} {L : Int → Option (Nat → Int)} {ar : Bool} {ca : Int} (h : ¬ (ar = true ∧ ca = 0)) (hN : N = 64 * s) (hs : 4 ≤ s ∧ s ≤ 4096) (hi : sec < 2) (hv : v = secV S L sec) (hb : isB v) (hg : GenIs v sec g) :
    FnTr P G 85 [.ptr 0 0, .int .i64 (sec : Int)] (DH N S L ar ca) 3 (Gives (.tup [.int .i64 (g : Int), .lit .i64 0]) (DH N S L ar ca) 1000) := by
  have a1 := read_fn (P := P) (G := G) (S := S) (L := L) (ar := ar) (ca := ca) hP h hN hs.2 (i := sec) (by omega) hv
  obtain ⟨X, hX⟩ : ∃ X : Nat → Nat, ∀ j, X j = genN v j := ⟨_, fun _ => rfl⟩
  have hX0 : X 0 = 0 := hX 0
  have hXlt : ∀ j, j ≤ 8 → X j < 256 ^ j := fun j hj => by rw [hX]; exact genN_lt v (fun i hi => hb i (by omega)) j hj
  have hXs : ∀ j, j < 8 → wOp .or .u64 (Ar.real.shl .u64 (X j : Int) 8) (v j) = (X (j + 1) : Int) := fun j hj => by
    have h1 := hXlt j (by omega)
    have h2 : (256 : Nat) ^ j ≤ 256 ^ 7 := Nat.pow_le_pow_right (by decide) (by omega)
    rw [hX, hX]
    rw [hX] at h1
    exact shl_or64 _ _ (by omega) (hb j (by omega))
  have hX8 : X 8 = genN v 8 := hX 8
  clear hX
  have hT : T.Ok P := hP ▸ T_ok
  refine FnTr.intro (fn := Tryd.f85) (c := bodyOf Tryd.f85) (by rw [hP]; rfl) rfl rfl hT ?_
  generalize hA : Ar.real = A
  generalize hK : Gives _ _ _ = K
  cbv
  refine CS.le hA (a1) [(0, 0), (1, 1), (2, 2)] rfl rfl rfl ?_ ?_ ?_
  · (try cbv) <;> (repeat' (first | exact trivial | exact rfl | apply And.intro | exact fun _ => rfl | (intro _ hle; first | refine chunk_le hA rfl hle rfl ?_ | refine cat_le hA ?_ | refine upd_le hA ?_ | (try cbv)))) <;> (try (subst hA; (try simp only [natCast_eq] at *); (try (simp only [Ar.real, NV.val, Int.ofNat_eq_natCast, Int.toNat_natCast])); first | done | omega | decide | exact inR64 (by omega) (by omega) | (refine ⟨?_, ?_⟩ <;> first | omega | decide | exact inR64 (by omega) (by omega))))
  · (try cbv) <;> (repeat' (first | exact trivial | exact rfl | apply And.intro | exact fun _ => rfl | (intro _ hle; first | refine chunk_le hA rfl hle rfl ?_ | refine cat_le hA ?_ | refine upd_le hA ?_ | (try cbv))))
  cbv
  refine ⟨(by (subst hA; (try simp only [natCast_eq] at *); (try (simp only [Ar.real, NV.val, Int.ofNat_eq_natCast, Int.toNat_natCast])); first | done | omega | decide | exact inR64 (by omega) (by omega) | (refine ⟨?_, ?_⟩ <;> first | omega | decide | exact inR64 (by omega) (by omega)))), ?_⟩
  refine LS.le hT hA 24 (fun (i : Nat) => [(8, .int .u64 ((X i : Nat) : Int)), (23, .int .i64 (i : Int))]) (fun _ => DH N S L ar ca) (fun i => i ≤ 8) (fun i => 8 - i) 0 [] rfl rfl ?_ ?_ ?_
  · (try cbv) <;> (repeat' (first | exact trivial | exact rfl | apply And.intro | exact fun _ => rfl | (intro _ hle; first | refine chunk_le hA rfl hle rfl ?_ | refine cat_le hA ?_ | refine upd_le hA ?_ | (try cbv))))
    all_goals (subst hA; rw [hX0]; rfl)
  · exact Nat.zero_le _
  · intro R hR i hi
    cbv
    refine ⟨fun q1 => ?_, fun q1 => ?_⟩
    · have hi8 : i < 8 := by clear hR hX0 hXs hXlt hX8 hb hg; subst hA; simp [Ar.real] at q1; omega
      have hXs := hXs i hi8
      have hv1 := hb i (by omega)
      clear hX0 hXlt hX8 hb hg
      have kn : A.nat (Int.ofNat i) = i := by clear hR hXs; subst hA; rfl
      have kv : (addNV A (.l 0) (.s (A.nat (Int.ofNat i)))).val = i := by clear hR hXs kn; subst hA; rw [addNV_zero]; rfl
      have kx : A.w .or .u64 (A.shl .u64 ((X i : Nat) : Int) 8) (A.conv .u64 (v (addNV A (.l 0) (.s (A.nat (Int.ofNat i)))).val)) = ((X (i + 1) : Nat) : Int) := by
        rw [kv]
        clear hR kn kv
        subst hA
        have e : Ar.real.conv .u64 (v i) = v i := by
          show IntKind.u64.wrap (v i) = v i
          simp only [IntKind.wrap, IntKind.bits, IntKind.signed]
          simp
          omega
        rw [e]; exact hXs
      clear hXs
      cbv
      refine ⟨(by (subst hA; (try simp only [natCast_eq] at *); (try (simp only [Ar.real, NV.val, Int.ofNat_eq_natCast, Int.toNat_natCast])); first | done | omega | decide | exact inR64 (by omega) (by omega) | (refine ⟨?_, ?_⟩ <;> first | omega | decide | exact inR64 (by omega) (by omega)))), (by (subst hA; (try simp only [natCast_eq] at *); (try (simp only [Ar.real, NV.val, Int.ofNat_eq_natCast, Int.toNat_natCast])); first | done | omega | decide | exact inR64 (by omega) (by omega) | (refine ⟨?_, ?_⟩ <;> first | omega | decide | exact inR64 (by omega) (by omega)))), (by (subst hA; (try simp only [natCast_eq] at *); (try (simp only [Ar.real, NV.val, Int.ofNat_eq_natCast, Int.toNat_natCast])); first | done | omega | decide | exact inR64 (by omega) (by omega) | (refine ⟨?_, ?_⟩ <;> first | omega | decide | exact inR64 (by omega) (by omega)))), hR _ _ ⟨i + 1, 24, [], rfl, rfl, ?_, hi8, (by show 8 - (i + 1) < 8 - i; omega)⟩⟩
      clear hR
      (try cbv) <;> (repeat' (first | exact trivial | exact rfl | apply And.intro | exact fun _ => rfl | (intro _ hle; first | refine chunk_le hA rfl hle rfl ?_ | refine cat_le hA ?_ | refine upd_le hA ?_ | (try cbv))))
      all_goals first | exact kx | (subst hA; (try simp only [natCast_eq] at *); (try (simp only [Ar.real, NV.val, Int.ofNat_eq_natCast, Int.toNat_natCast])); first | done | omega | decide | exact inR64 (by omega) (by omega) | (refine ⟨?_, ?_⟩ <;> first | omega | decide | exact inR64 (by omega) (by omega)))
    · have hi8 : i = 8 := by clear hR hX0 hXs hXlt hX8 hb hg; subst hA; simp [Ar.real] at q1; omega
      subst hi8
      clear hR hX0 hXs
      have hlt := hXlt 8 (Nat.le_refl _)
      clear hXlt
      obtain ⟨x, hx⟩ : ∃ x, x = X 8 := ⟨_, rfl⟩
      have hG : GenOk v sec ↔ (1 ≤ x ∧ x ≤ 1099511627776 ∧ x % 2 = sec ∧ ∀ i, i < 64 → v i = headB x i) := by rw [hx, hX8]; exact Iff.rfl
      have hg2 : (GenOk v sec ∧ g = x) ∨ (¬ GenOk v sec ∧ g = 0) := by rw [hx, hX8]; exact hg
      clear hX8 hg
      by_cases g1 : x < 1
      · have g0 : g = 0 := by rcases hg2 with h | h; exact absurd (hG.1 h.1).1 (by omega); exact h.2
        have k1 : A.lt ((X 8 : Nat) : Int) 1 = true := by rw [← hx]; clear hG hg2; subst hA; simp [Ar.real]; omega
        clear hG hg2 hb
        cbv
        first | refine testR k1 rfl ?_ | refine testL k1 rfl ?_
        cbv
        refine Fin.le hA 3 [] (.tup [.int .i64 (g : Int), .lit .i64 0]) (DH N S L ar ca) 1000 rfl rfl rfl ?_ ?_ (by rw [← hK]; exact ⟨rfl, rfl, rfl⟩)
        · (try cbv) <;> (repeat' (first | exact trivial | exact rfl | apply And.intro | exact fun _ => rfl | (intro _ hle; first | refine chunk_le hA rfl hle rfl ?_ | refine cat_le hA ?_ | refine upd_le hA ?_ | (try cbv))))
          all_goals (subst hA; (try simp only [natCast_eq] at *); (try (simp only [Ar.real, NV.val, Int.ofNat_eq_natCast, Int.toNat_natCast])); first | done | omega | decide | exact inR64 (by omega) (by omega) | (refine ⟨?_, ?_⟩ <;> first | omega | decide | exact inR64 (by omega) (by omega)))
        · (try cbv) <;> (repeat' (first | exact trivial | exact rfl | apply And.intro | exact fun _ => rfl | (intro _ hle; first | refine chunk_le hA rfl hle rfl ?_ | refine cat_le hA ?_ | refine upd_le hA ?_ | (try cbv))))
      have k1 : A.lt ((X 8 : Nat) : Int) 1 = false := by rw [← hx]; clear hG hg2; subst hA; simp [Ar.real]; omega
      by_cases g2 : 1099511627776 < x
      · have g0 : g = 0 := by rcases hg2 with h | h; exact absurd (hG.1 h.1).2.1 (by omega); exact h.2
        have k2 : A.gt ((X 8 : Nat) : Int) 1099511627776 = true := by rw [← hx]; clear hG hg2; subst hA; simp [Ar.real]; omega
        clear hG hg2 hb
        cbv
        first | refine testR k1 rfl ?_ | refine testL k1 rfl ?_
        cbv
        first | refine testR k2 rfl ?_ | refine testL k2 rfl ?_
        cbv
        refine Fin.le hA 3 [] (.tup [.int .i64 (g : Int), .lit .i64 0]) (DH N S L ar ca) 1000 rfl rfl rfl ?_ ?_ (by rw [← hK]; exact ⟨rfl, rfl, rfl⟩)
        · (try cbv) <;> (repeat' (first | exact trivial | exact rfl | apply And.intro | exact fun _ => rfl | (intro _ hle; first | refine chunk_le hA rfl hle rfl ?_ | refine cat_le hA ?_ | refine upd_le hA ?_ | (try cbv))))
          all_goals (subst hA; (try simp only [natCast_eq] at *); (try (simp only [Ar.real, NV.val, Int.ofNat_eq_natCast, Int.toNat_natCast])); first | done | omega | decide | exact inR64 (by omega) (by omega) | (refine ⟨?_, ?_⟩ <;> first | omega | decide | exact inR64 (by omega) (by omega)))
        · (try cbv) <;> (repeat' (first | exact trivial | exact rfl | apply And.intro | exact fun _ => rfl | (intro _ hle; first | refine chunk_le hA rfl hle rfl ?_ | refine cat_le hA ?_ | refine upd_le hA ?_ | (try cbv))))
      have k2 : A.gt ((X 8 : Nat) : Int) 1099511627776 = false := by rw [← hx]; clear hG hg2; subst hA; simp [Ar.real]; omega
      have kc : A.conv .i64 ((X 8 : Nat) : Int) = (x : Int) := by
        rw [← hx]; clear hG hg2; subst hA
        show IntKind.i64.wrap (x : Int) = (x : Int)
        simp only [IntKind.wrap, IntKind.bits, IntKind.signed]
        simp
        omega
      have kr : A.rem (x : Int) 2 = ((x % 2 : Nat) : Int) := by clear hG hg2 k1 k2 kc; subst hA; rfl
      by_cases g3 : ¬ x % 2 = sec
      · have g0 : g = 0 := by rcases hg2 with h | h; exact absurd (hG.1 h.1).2.2.1 g3; exact h.2
        have k3 : A.ne (A.rem (A.conv .i64 ((X 8 : Nat) : Int)) 2) (Int.ofNat sec) = true := by rw [kc, kr]; clear hG hg2 k1 k2 kc kr; subst hA; simp [Ar.real]; omega
        clear hG hg2 hb
        cbv
        first | refine testR k1 rfl ?_ | refine testL k1 rfl ?_
        cbv
        first | refine testR k2 rfl ?_ | refine testL k2 rfl ?_
        cbv
        refine ⟨(by (subst hA; (try simp only [natCast_eq] at *); (try (simp only [Ar.real, NV.val, Int.ofNat_eq_natCast, Int.toNat_natCast])); first | done | omega | decide | exact inR64 (by omega) (by omega) | (refine ⟨?_, ?_⟩ <;> first | omega | decide | exact inR64 (by omega) (by omega)))), ?_⟩
        first | refine testR k3 rfl ?_ | refine testL k3 rfl ?_
        cbv
        refine Fin.le hA 3 [] (.tup [.int .i64 (g : Int), .lit .i64 0]) (DH N S L ar ca) 1000 rfl rfl rfl ?_ ?_ (by rw [← hK]; exact ⟨rfl, rfl, rfl⟩)
        · (try cbv) <;> (repeat' (first | exact trivial | exact rfl | apply And.intro | exact fun _ => rfl | (intro _ hle; first | refine chunk_le hA rfl hle rfl ?_ | refine cat_le hA ?_ | refine upd_le hA ?_ | (try cbv))))
          all_goals (clear k1 k2 k3 kc kr; (subst hA; (try simp only [natCast_eq] at *); (try (simp only [Ar.real, NV.val, Int.ofNat_eq_natCast, Int.toNat_natCast])); first | done | omega | decide | exact inR64 (by omega) (by omega) | (refine ⟨?_, ?_⟩ <;> first | omega | decide | exact inR64 (by omega) (by omega))))
        · (try cbv) <;> (repeat' (first | exact trivial | exact rfl | apply And.intro | exact fun _ => rfl | (intro _ hle; first | refine chunk_le hA rfl hle rfl ?_ | refine cat_le hA ?_ | refine upd_le hA ?_ | (try cbv))))
      have g3 := Decidable.not_not.1 g3
      have k3 : A.ne (A.rem (A.conv .i64 ((X 8 : Nat) : Int)) 2) (Int.ofNat sec) = false := by rw [kc, kr]; clear hG hg2 k1 k2 kc kr; subst hA; simp [Ar.real]; omega
      obtain ⟨hd, hhd⟩ : ∃ hd : Nat → Int, ∀ i, hd i = headB x i := ⟨_, fun _ => rfl⟩
      have c1 := head_fn (P := P) (G := G) (g := x) (f := hd) hP (by omega) (fun i _ => hhd i)
      have bh : ∀ i, i < 64 → 0 ≤ hd i ∧ hd i < 256 := fun i _ => by rw [hhd]; have := headB_range x i; omega
      have bv : ∀ i, i < 64 → 0 ≤ v i ∧ v i < 256 := fun i hi => by have := hb i hi; omega
      by_cases g4 : ∀ i, i < 64 → v i = hd i
      · have g0 : g = x := by
          rcases hg2 with h | h
          · exact h.2
          · exact absurd (hG.2 ⟨by omega, by omega, g3, fun i hi => by rw [g4 i hi, hhd]⟩) h.1
        have c2 := beq_fn (P := P) (G := G) (n := 64) (m := 64) (f := v) (g := hd) (res := true) (N := .l 64) (M := .l 64) hP rfl rfl bv bh ⟨fun _ => ⟨rfl, g4⟩, fun _ => rfl⟩
        clear hG hg2 hb hhd bh bv g4
        cbv
        first | refine testR k1 rfl ?_ | refine testL k1 rfl ?_
        cbv
        first | refine testR k2 rfl ?_ | refine testL k2 rfl ?_
        cbv
        refine ⟨(by (subst hA; (try simp only [natCast_eq] at *); (try (simp only [Ar.real, NV.val, Int.ofNat_eq_natCast, Int.toNat_natCast])); first | done | omega | decide | exact inR64 (by omega) (by omega) | (refine ⟨?_, ?_⟩ <;> first | omega | decide | exact inR64 (by omega) (by omega)))), ?_⟩
        first | refine testR k3 rfl ?_ | refine testL k3 rfl ?_
        cbv
        refine CS.le hA c1 [] rfl rfl rfl ?_ ?_ ?_
        · (try cbv) <;> (repeat' (first | exact trivial | exact rfl | apply And.intro | exact fun _ => rfl | (intro _ hle; first | refine chunk_le hA rfl hle rfl ?_ | refine cat_le hA ?_ | refine upd_le hA ?_ | (try cbv))))
          all_goals exact kc
        · (try cbv) <;> (repeat' (first | exact trivial | exact rfl | apply And.intro | exact fun _ => rfl | (intro _ hle; first | refine chunk_le hA rfl hle rfl ?_ | refine cat_le hA ?_ | refine upd_le hA ?_ | (try cbv))))
        cbv
        refine CS.leR hA (c2) (.bl true) [] rfl rfl rfl ?_ ?_ ?_ ?_
        · (try cbv) <;> (repeat' (first | exact trivial | exact rfl | apply And.intro | exact fun _ => rfl | (intro _ hle; first | refine chunk_le hA rfl hle rfl ?_ | refine cat_le hA ?_ | refine upd_le hA ?_ | (try cbv)))) <;> (try (subst hA; (try simp only [natCast_eq] at *); (try (simp only [Ar.real, NV.val, Int.ofNat_eq_natCast, Int.toNat_natCast])); first | done | omega | decide | exact inR64 (by omega) (by omega) | (refine ⟨?_, ?_⟩ <;> first | omega | decide | exact inR64 (by omega) (by omega))))
        · (try cbv) <;> (repeat' (first | exact trivial | exact rfl | apply And.intro | exact fun _ => rfl | (intro _ hle; first | refine chunk_le hA rfl hle rfl ?_ | refine cat_le hA ?_ | refine upd_le hA ?_ | (try cbv)))) <;> (try (subst hA; (try simp only [natCast_eq] at *); (try (simp only [Ar.real, NV.val, Int.ofNat_eq_natCast, Int.toNat_natCast])); first | done | omega | decide | exact inR64 (by omega) (by omega) | (refine ⟨?_, ?_⟩ <;> first | omega | decide | exact inR64 (by omega) (by omega))))
        · (try cbv) <;> (repeat' (first | exact trivial | exact rfl | apply And.intro | exact fun _ => rfl | (intro _ hle; first | refine chunk_le hA rfl hle rfl ?_ | refine cat_le hA ?_ | refine upd_le hA ?_ | (try cbv))))
        cbv
        refine Fin.le hA 3 [] (.tup [.int .i64 (g : Int), .lit .i64 0]) (DH N S L ar ca) 1000 rfl rfl rfl ?_ ?_ (by rw [← hK]; exact ⟨rfl, rfl, rfl⟩)
        · (try cbv) <;> (repeat' (first | exact trivial | exact rfl | apply And.intro | exact fun _ => rfl | (intro _ hle; first | refine chunk_le hA rfl hle rfl ?_ | refine cat_le hA ?_ | refine upd_le hA ?_ | (try cbv))))
          all_goals first | (rw [g0]; exact kc) | (clear k1 k2 k3 kc kr; (subst hA; (try simp only [natCast_eq] at *); (try (simp only [Ar.real, NV.val, Int.ofNat_eq_natCast, Int.toNat_natCast])); first | done | omega | decide | exact inR64 (by omega) (by omega) | (refine ⟨?_, ?_⟩ <;> first | omega | decide | exact inR64 (by omega) (by omega))))
        · (try cbv) <;> (repeat' (first | exact trivial | exact rfl | apply And.intro | exact fun _ => rfl | (intro _ hle; first | refine chunk_le hA rfl hle rfl ?_ | refine cat_le hA ?_ | refine upd_le hA ?_ | (try cbv))))
      · have g0 : g = 0 := by
          rcases hg2 with h | h
          · exact absurd (fun i hi => by rw [(hG.1 h.1).2.2.2 i hi, hhd]) g4
          · exact h.2
        have c2 := beq_fn (P := P) (G := G) (n := 64) (m := 64) (f := v) (g := hd) (res := false) (N := .l 64) (M := .l 64) hP rfl rfl bv bh ⟨fun h => (by cases h), fun h => absurd h.2 g4⟩
        clear hG hg2 hb hhd bh bv g4
        cbv
        first | refine testR k1 rfl ?_ | refine testL k1 rfl ?_
        cbv
        first | refine testR k2 rfl ?_ | refine testL k2 rfl ?_
        cbv
        refine ⟨(by (subst hA; (try simp only [natCast_eq] at *); (try (simp only [Ar.real, NV.val, Int.ofNat_eq_natCast, Int.toNat_natCast])); first | done | omega | decide | exact inR64 (by omega) (by omega) | (refine ⟨?_, ?_⟩ <;> first | omega | decide | exact inR64 (by omega) (by omega)))), ?_⟩
        first | refine testR k3 rfl ?_ | refine testL k3 rfl ?_
        cbv
        refine CS.le hA c1 [] rfl rfl rfl ?_ ?_ ?_
        · (try cbv) <;> (repeat' (first | exact trivial | exact rfl | apply And.intro | exact fun _ => rfl | (intro _ hle; first | refine chunk_le hA rfl hle rfl ?_ | refine cat_le hA ?_ | refine upd_le hA ?_ | (try cbv))))
          all_goals exact kc
        · (try cbv) <;> (repeat' (first | exact trivial | exact rfl | apply And.intro | exact fun _ => rfl | (intro _ hle; first | refine chunk_le hA rfl hle rfl ?_ | refine cat_le hA ?_ | refine upd_le hA ?_ | (try cbv))))
        cbv
        refine CS.leR hA (c2) (.bl false) [] rfl rfl rfl ?_ ?_ ?_ ?_
        · (try cbv) <;> (repeat' (first | exact trivial | exact rfl | apply And.intro | exact fun _ => rfl | (intro _ hle; first | refine chunk_le hA rfl hle rfl ?_ | refine cat_le hA ?_ | refine upd_le hA ?_ | (try cbv)))) <;> (try (subst hA; (try simp only [natCast_eq] at *); (try (simp only [Ar.real, NV.val, Int.ofNat_eq_natCast, Int.toNat_natCast])); first | done | omega | decide | exact inR64 (by omega) (by omega) | (refine ⟨?_, ?_⟩ <;> first | omega | decide | exact inR64 (by omega) (by omega))))
        · (try cbv) <;> (repeat' (first | exact trivial | exact rfl | apply And.intro | exact fun _ => rfl | (intro _ hle; first | refine chunk_le hA rfl hle rfl ?_ | refine cat_le hA ?_ | refine upd_le hA ?_ | (try cbv)))) <;> (try (subst hA; (try simp only [natCast_eq] at *); (try (simp only [Ar.real, NV.val, Int.ofNat_eq_natCast, Int.toNat_natCast])); first | done | omega | decide | exact inR64 (by omega) (by omega) | (refine ⟨?_, ?_⟩ <;> first | omega | decide | exact inR64 (by omega) (by omega))))
        · (try cbv) <;> (repeat' (first | exact trivial | exact rfl | apply And.intro | exact fun _ => rfl | (intro _ hle; first | refine chunk_le hA rfl hle rfl ?_ | refine cat_le hA ?_ | refine upd_le hA ?_ | (try cbv))))
        cbv
        refine Fin.le hA 3 [] (.tup [.int .i64 (g : Int), .lit .i64 0]) (DH N S L ar ca) 1000 rfl rfl rfl ?_ ?_ (by rw [← hK]; exact ⟨rfl, rfl, rfl⟩)
        · (try cbv) <;> (repeat' (first | exact trivial | exact rfl | apply And.intro | exact fun _ => rfl | (intro _ hle; first | refine chunk_le hA rfl hle rfl ?_ | refine cat_le hA ?_ | refine upd_le hA ?_ | (try cbv))))
          all_goals (clear k1 k2 k3 kc kr; (subst hA; (try simp only [natCast_eq] at *); (try (simp only [Ar.real, NV.val, Int.ofNat_eq_natCast, Int.toNat_natCast])); first | done | omega | decide | exact inR64 (by omega) (by omega) | (refine ⟨?_, ?_⟩ <;> first | omega | decide | exact inR64 (by omega) (by omega))))
        · (try cbv) <;> (repeat' (first | exact trivial | exact rfl | apply And.intro | exact fun _ => rfl | (intro _ hle; first | refine chunk_le hA rfl hle rfl ?_ | refine cat_le hA ?_ | refine upd_le hA ?_ | (try cbv))))
end Go.Proofs.YtnjjgipblimbfaaDoor.Dsk
namespace Go.Proofs.YtnjjgipblimbfaaDoor.Dsk
open Go.Eng
open Go.DskLaw (q64 secV isB needN)
open Go.WalLaw
set_option maxRecDepth 100000
set_option maxHeartbeats 1000000
theorem newest_off {P : Program} {G : Gl} (hP : P = Tryd.prog) {N : Nat} {S : Nat → Int} {L : Int → Option (Nat → Int)} {ar : Bool} {ca : Int} (h : ar = true ∧ ca = 0) :
    FnTr P G 56 [.ptr 0 0] (DH N S L ar ca) 3 (Gives (.tup [.lit .i64 0, .lit .i64 6]) (DH N S L ar ca) 3) := by
  have a1 := gen_off (P := P) (G := G) (N := N) (S := S) (L := L) (i := 0) hP h
  have hT : T.Ok P := hP ▸ T_ok
  refine FnTr.intro (fn := Tryd.f56) (c := bodyOf Tryd.f56) (by rw [hP]; rfl) rfl rfl hT ?_
  generalize hA : Ar.real = A
  generalize hK : Gives _ _ _ = K
  cbv
  refine LS.rounds hA 1 hT ?_
  cbv
  refine CS.le hA (a1) [(0, 0), (1, 1), (2, 2)] rfl rfl rfl ?_ ?_ ?_
  · (try cbv) <;> (repeat' (first | exact trivial | exact rfl | apply And.intro | exact fun _ => rfl | (intro _ hle; first | refine chunk_le hA rfl hle rfl ?_ | refine cat_le hA ?_ | refine upd_le hA ?_ | (try cbv)))) <;> (try (subst hA; (try simp only [natCast_eq] at *); (try (simp only [Ar.real, NV.val, Int.ofNat_eq_natCast, Int.toNat_natCast])); first | done | omega | decide | exact inR64 (by omega) (by omega) | (refine ⟨?_, ?_⟩ <;> first | omega | decide | exact inR64 (by omega) (by omega))))
  · (try cbv) <;> (repeat' (first | exact trivial | exact rfl | apply And.intro | exact fun _ => rfl | (intro _ hle; first | refine chunk_le hA rfl hle rfl ?_ | refine cat_le hA ?_ | refine upd_le hA ?_ | (try cbv))))
  cbv
  refine Fin.le hA 3 [] (.tup [.lit .i64 0, .lit .i64 6]) (DH N S L ar ca) 3 rfl rfl rfl ?_ ?_ (by rw [← hK]; exact ⟨rfl, rfl, rfl⟩)
  · (try cbv) <;> (repeat' (first | exact trivial | exact rfl | apply And.intro | exact fun _ => rfl | (intro _ hle; first | refine chunk_le hA rfl hle rfl ?_ | refine cat_le hA ?_ | refine upd_le hA ?_ | (try cbv))))
  · (try cbv) <;> (repeat' (first | exact trivial | exact rfl | apply And.intro | exact fun _ => rfl | (intro _ hle; first | refine chunk_le hA rfl hle rfl ?_ | refine cat_le hA ?_ | refine upd_le hA ?_ | (try cbv))))

theorem newest_fn {P : Program} {G : Gl} (hP : P = Tryd.prog) {N s g0 g1 g : Nat} {S : Nat → Int} {V : Nat → Nat → Int} {L : Int → Option (Nat → Int)} {ar : Bool} {ca : Int} (h : ¬ (ar = true ∧ ca = 0)) (hN : N = 64 * s) (hs : 4 ≤ s ∧ s ≤ 4096) (hV : ∀ i, i < 2 → V i = secV S L i ∧ isB (V i)) (h0 : GenIs (V 0) 0 g0) (h1 : GenIs (V 1) 1 g1) (hg : g = max g0 g1) :
    FnTr P G 56 [.ptr 0 0] (DH N S L ar ca) 3 (Gives (.tup [.int .i64 (g : Int), .lit .i64 0]) (DH N S L ar ca) 3) := by
  have a1 := gen_fn (P := P) (G := G) hP h hN hs (sec := 0) (by omega) (hV 0 (by omega)).1 (hV 0 (by omega)).2 h0
  have a2 := gen_fn (P := P) (G := G) hP h hN hs (sec := 1) (by omega) (hV 1 (by omega)).1 (hV 1 (by omega)).2 h1
  have hm : max (max (0 : Int) (g0 : Int)) (g1 : Int) = (g : Int) := by omega
  clear hV h0 h1 hg
  have hT : T.Ok P := hP ▸ T_ok
  refine FnTr.intro (fn := Tryd.f56) (c := bodyOf Tryd.f56) (by rw [hP]; rfl) rfl rfl hT ?_
  generalize hA : Ar.real = A
  generalize hK : Gives _ _ _ = K
  cbv
  refine LS.rounds hA 3 hT ?_
  cbv
  refine CS.le hA (a1) [(0, 0), (1, 1), (2, 2)] rfl rfl rfl ?_ ?_ ?_
  · (try cbv) <;> (repeat' (first | exact trivial | exact rfl | apply And.intro | exact fun _ => rfl | (intro _ hle; first | refine chunk_le hA rfl hle rfl ?_ | refine cat_le hA ?_ | refine upd_le hA ?_ | (try cbv)))) <;> (try (subst hA; (try simp only [natCast_eq] at *); (try (simp only [Ar.real, NV.val, Int.ofNat_eq_natCast, Int.toNat_natCast])); first | done | omega | decide | exact inR64 (by omega) (by omega) | (refine ⟨?_, ?_⟩ <;> first | omega | decide | exact inR64 (by omega) (by omega))))
  · (try cbv) <;> (repeat' (first | exact trivial | exact rfl | apply And.intro | exact fun _ => rfl | (intro _ hle; first | refine chunk_le hA rfl hle rfl ?_ | refine cat_le hA ?_ | refine upd_le hA ?_ | (try cbv))))
  cbv
  refine CS.le hA (a2) [(0, 0), (1, 1), (2, 2)] rfl rfl rfl ?_ ?_ ?_
  · (try cbv) <;> (repeat' (first | exact trivial | exact rfl | apply And.intro | exact fun _ => rfl | (intro _ hle; first | refine chunk_le hA rfl hle rfl ?_ | refine cat_le hA ?_ | refine upd_le hA ?_ | (try cbv)))) <;> (try (subst hA; (try simp only [natCast_eq] at *); (try (simp only [Ar.real, NV.val, Int.ofNat_eq_natCast, Int.toNat_natCast])); first | done | omega | decide | exact inR64 (by omega) (by omega) | (refine ⟨?_, ?_⟩ <;> first | omega | decide | exact inR64 (by omega) (by omega))))
  · (try cbv) <;> (repeat' (first | exact trivial | exact rfl | apply And.intro | exact fun _ => rfl | (intro _ hle; first | refine chunk_le hA rfl hle rfl ?_ | refine cat_le hA ?_ | refine upd_le hA ?_ | (try cbv))))
  cbv
  refine Fin.le hA 3 [] (.tup [.int .i64 (g : Int), .lit .i64 0]) (DH N S L ar ca) 3 rfl rfl rfl ?_ ?_ (by rw [← hK]; exact ⟨rfl, rfl, rfl⟩)
  · (try cbv) <;> (repeat' (first | exact trivial | exact rfl | apply And.intro | exact fun _ => rfl | (intro _ hle; first | refine chunk_le hA rfl hle rfl ?_ | refine cat_le hA ?_ | refine upd_le hA ?_ | (try cbv))))
    subst hA
    simp only [natCast_eq] at *
    simp only [Ar.real, Int.ofNat_eq_natCast]
    split <;> split <;> omega
  · (try cbv) <;> (repeat' (first | exact trivial | exact rfl | apply And.intro | exact fun _ => rfl | (intro _ hle; first | refine chunk_le hA rfl hle rfl ?_ | refine cat_le hA ?_ | refine upd_le hA ?_ | (try cbv))))

theorem wasked_ok {P : Program} {G : Gl} (hP : P = Tryd.prog) {N s : Nat} {S : Nat → Int} {L : Int → Option (Nat → Int)} {ar : Bool} {ca : Int} (hN : N = 64 * s) (hs : 4 ≤ s ∧ s ≤ 4096) :
    FnTr P G 54 [.ptr 0 0] (DH N S L ar ca) 3 (Gives (.lit .i64 0) (DH N S L ar ca) 3) := by
  have a1 := len_fn (P := P) (G := G) (S := S) (L := L) (ar := ar) (ca := ca) hP hN (by omega)
  have hT : T.Ok P := hP ▸ T_ok
  refine FnTr.intro (fn := Tryd.f54) (c := bodyOf Tryd.f54) (by rw [hP]; rfl) rfl rfl hT ?_
  generalize hA : Ar.real = A
  generalize hK : Gives _ _ _ = K
  cbv
  have k1 : A.lt (s : Int) 4 = false := by subst hA; simp [Ar.real]; omega
  refine CS.le hA (a1) [(0, 0), (1, 1), (2, 2)] rfl rfl rfl ?_ ?_ ?_
  · (try cbv) <;> (repeat' (first | exact trivial | exact rfl | apply And.intro | exact fun _ => rfl | (intro _ hle; first | refine chunk_le hA rfl hle rfl ?_ | refine cat_le hA ?_ | refine upd_le hA ?_ | (try cbv)))) <;> (try (subst hA; (try simp only [natCast_eq] at *); (try (simp only [Ar.real, NV.val, Int.ofNat_eq_natCast, Int.toNat_natCast])); first | done | omega | decide | exact inR64 (by omega) (by omega) | (refine ⟨?_, ?_⟩ <;> first | omega | decide | exact inR64 (by omega) (by omega))))
  · (try cbv) <;> (repeat' (first | exact trivial | exact rfl | apply And.intro | exact fun _ => rfl | (intro _ hle; first | refine chunk_le hA rfl hle rfl ?_ | refine cat_le hA ?_ | refine upd_le hA ?_ | (try cbv))))
  cbv
  first | refine testR k1 rfl ?_ | refine testL k1 rfl ?_
  cbv
  refine Fin.le hA 3 [] (.lit .i64 0) (DH N S L ar ca) 3 rfl rfl rfl ?_ ?_ (by rw [← hK]; exact ⟨rfl, rfl, rfl⟩)
  · (try cbv) <;> (repeat' (first | exact trivial | exact rfl | apply And.intro | exact fun _ => rfl | (intro _ hle; first | refine chunk_le hA rfl hle rfl ?_ | refine cat_le hA ?_ | refine upd_le hA ?_ | (try cbv))))
  · (try cbv) <;> (repeat' (first | exact trivial | exact rfl | apply And.intro | exact fun _ => rfl | (intro _ hle; first | refine chunk_le hA rfl hle rfl ?_ | refine cat_le hA ?_ | refine upd_le hA ?_ | (try cbv))))

theorem full_fn {P : Program} {G : Gl} (hP : P = Tryd.prog) {N s h n m : Nat} {S f : Nat → Int} {L : Int → Option (Nat → Int)} {ar : Bool} {ca : Int} {r : Bool} (hN : N = 64 * s) (hs : 4 ≤ s ∧ s ≤ 4096) (hh : h = (s - 2) / 2) (hn : n ≤ 1000000) (hm : m = needN (n + 4)) (hr : r = true ↔ (65536 < n + 4 ∨ h < m)) :
    FnTr P G 55 [.ptr 0 0, By n f] (DH N S L ar ca) 3 (Gives (.bs r) (DH N S L ar ca) 10) := by
  have a1 := half_fn (P := P) (G := G) (S := S) (L := L) (ar := ar) (ca := ca) hP hN hs hh
  have a2 := need_fn (P := P) (G := G) (n := (n : Int) + 4) (m := m) hP (by omega) (by rw [hm]; congr 1)
  by_cases q1 : 65536 < n + 4
  · have hr : r = true := hr.2 (.inl q1)
    subst hr
    have hT : T.Ok P := hP ▸ T_ok
    refine FnTr.intro (fn := Tryd.f55) (c := bodyOf Tryd.f55) (by rw [hP]; rfl) rfl rfl hT ?_
    generalize hA : Ar.real = A
    generalize hK : Gives _ _ _ = K
    cbv
    have k1 : A.gt (A.add (A.i2 n) 4) 65536 = true := by subst hA; simp [Ar.real]; omega
    refine ⟨(by (subst hA; (try simp only [natCast_eq] at *); (try (simp only [Ar.real, NV.val, Int.ofNat_eq_natCast, Int.toNat_natCast])); first | done | omega | decide | exact inR64 (by omega) (by omega) | (refine ⟨?_, ?_⟩ <;> first | omega | decide | exact inR64 (by omega) (by omega)))), ?_⟩
    first | refine testR k1 rfl ?_ | refine testL k1 rfl ?_
    cbv
    refine Fin.le hA 3 [] (.bs true) (DH N S L ar ca) 10 rfl rfl rfl ?_ ?_ (by rw [← hK]; exact ⟨rfl, rfl, rfl⟩)
    · (try cbv) <;> (repeat' (first | exact trivial | exact rfl | apply And.intro | exact fun _ => rfl | (intro _ hle; first | refine chunk_le hA rfl hle rfl ?_ | refine cat_le hA ?_ | refine upd_le hA ?_ | (try cbv))))
    · (try cbv) <;> (repeat' (first | exact trivial | exact rfl | apply And.intro | exact fun _ => rfl | (intro _ hle; first | refine chunk_le hA rfl hle rfl ?_ | refine cat_le hA ?_ | refine upd_le hA ?_ | (try cbv))))
  · have hr : r = true ↔ h < m := hr.trans ⟨fun q => q.resolve_left q1, .inr⟩
    clear hm hh
    have hT : T.Ok P := hP ▸ T_ok
    refine FnTr.intro (fn := Tryd.f55) (c := bodyOf Tryd.f55) (by rw [hP]; rfl) rfl rfl hT ?_
    generalize hA : Ar.real = A
    generalize hK : Gives _ _ _ = K
    cbv
    have k1 : A.gt (A.add (A.i2 n) 4) 65536 = false := by clear hr; subst hA; simp [Ar.real]; omega
    refine ⟨(by (subst hA; (try simp only [natCast_eq] at *); (try (simp only [Ar.real, NV.val, Int.ofNat_eq_natCast, Int.toNat_natCast])); first | done | omega | decide | exact inR64 (by omega) (by omega) | (refine ⟨?_, ?_⟩ <;> first | omega | decide | exact inR64 (by omega) (by omega)))), ?_⟩
    first | refine testR k1 rfl ?_ | refine testL k1 rfl ?_
    cbv
    refine ⟨(by (subst hA; (try simp only [natCast_eq] at *); (try (simp only [Ar.real, NV.val, Int.ofNat_eq_natCast, Int.toNat_natCast])); first | done | omega | decide | exact inR64 (by omega) (by omega) | (refine ⟨?_, ?_⟩ <;> first | omega | decide | exact inR64 (by omega) (by omega)))), ?_⟩
    refine CS.le hA (a2) [] rfl rfl rfl ?_ ?_ ?_
    · (try cbv) <;> (repeat' (first | exact trivial | exact rfl | apply And.intro | exact fun _ => rfl | (intro _ hle; first | refine chunk_le hA rfl hle rfl ?_ | refine cat_le hA ?_ | refine upd_le hA ?_ | (try cbv)))) <;> (try (subst hA; (try simp only [natCast_eq] at *); (try (simp only [Ar.real, NV.val, Int.ofNat_eq_natCast, Int.toNat_natCast])); first | done | omega | decide | exact inR64 (by omega) (by omega) | (refine ⟨?_, ?_⟩ <;> first | omega | decide | exact inR64 (by omega) (by omega))))
    · (try cbv) <;> (repeat' (first | exact trivial | exact rfl | apply And.intro | exact fun _ => rfl | (intro _ hle; first | refine chunk_le hA rfl hle rfl ?_ | refine cat_le hA ?_ | refine upd_le hA ?_ | (try cbv))))
    cbv
    refine CS.le hA (a1) [(0, 0), (1, 1), (2, 2)] rfl rfl rfl ?_ ?_ ?_
    · (try cbv) <;> (repeat' (first | exact trivial | exact rfl | apply And.intro | exact fun _ => rfl | (intro _ hle; first | refine chunk_le hA rfl hle rfl ?_ | refine cat_le hA ?_ | refine upd_le hA ?_ | (try cbv)))) <;> (try (subst hA; (try simp only [natCast_eq] at *); (try (simp only [Ar.real, NV.val, Int.ofNat_eq_natCast, Int.toNat_natCast])); first | done | omega | decide | exact inR64 (by omega) (by omega) | (refine ⟨?_, ?_⟩ <;> first | omega | decide | exact inR64 (by omega) (by omega))))
    · (try cbv) <;> (repeat' (first | exact trivial | exact rfl | apply And.intro | exact fun _ => rfl | (intro _ hle; first | refine chunk_le hA rfl hle rfl ?_ | refine cat_le hA ?_ | refine upd_le hA ?_ | (try cbv))))
    cbv
    refine Fin.le hA 3 [] (.bs r) (DH N S L ar ca) 10 rfl rfl rfl ?_ ?_ (by rw [← hK]; exact ⟨rfl, rfl, rfl⟩)
    · (try cbv) <;> (repeat' (first | exact trivial | exact rfl | apply And.intro | exact fun _ => rfl | (intro _ hle; first | refine chunk_le hA rfl hle rfl ?_ | refine cat_le hA ?_ | refine upd_le hA ?_ | (try cbv))))
      subst hA
      rw [Bool.eq_iff_iff, hr]
      simp [Ar.real]
    · (try cbv) <;> (repeat' (first | exact trivial | exact rfl | apply And.intro | exact fun _ => rfl | (intro _ hle; first | refine chunk_le hA rfl hle rfl ?_ | refine cat_le hA ?_ | refine upd_le hA ?_ | (try cbv))))
end Go.Proofs.YtnjjgipblimbfaaDoor.Dsk
namespace Go.WalLaw
open Go.DskLaw
/-- A disk. -/
structure Dk where
  S : Nat → Int
  L : Int → Option (Nat → Int)
  ar : Bool
  ca : Int
def offD (d : Dk) : Prop := d.ar = true ∧ d.ca = 0
/-- A disk that may be. -/
structure DkOk (s : Nat) (d : Dk) : Prop where
  hca : 0 ≤ d.ca ∧ d.ca ≤ 9223372036854775807
  key : ∀ k g, d.L k = some g → 0 ≤ k ∧ k < (s : Int)
  sb : ∀ x, x < 64 * s → 0 ≤ d.S x ∧ d.S x ≤ 255
  lb : ∀ k g, d.L k = some g → ∀ x, x < 64 → 0 ≤ g x ∧ g x ≤ 255
def decD (d : Dk) : Int := if d.ar then d.ca - 1 else d.ca
def flushD (d : Dk) : Dk := ⟨fun x => secV d.S d.L (x / 64) (x % 64), fun _ => none, d.ar, decD d⟩
def writeD (d : Dk) (i : Nat) (f : Nat → Int) : Dk := ⟨d.S, fun k => if k = (i : Int) then some f else d.L k, d.ar, decD d⟩
def putK (d : Dk) (n : Nat) : Nat := if d.ar then min (needN n) d.ca.toNat else needN n
def putD (d : Dk) (first n : Nat) (f : Nat → Int) : Dk := ⟨d.S, fun i => if (first : Int) ≤ i ∧ i < (first : Int) + putK d n then some (pcs n f (i - first).toNat) else d.L i, d.ar, if d.ar then d.ca - putK d n else d.ca⟩
noncomputable def wipeD (d : Dk) (first fin : Nat) : Option Nat × Dk :=
  let r := wipeP (fun i => secV d.S d.L i) d.ar (fin - first) first 0 d.L d.ca
  (r.1, ⟨d.S, r.2.1, d.ar, r.2.2⟩)
theorem putK_le (d : Dk) (n : Nat) : putK d n ≤ needN n := by
  unfold putK; split
  · exact Nat.min_le_left _ _
  · exact Nat.le_refl _

/-- A base is put down as a generation. -/
inductive LayIs (d : Dk) (gen fi en n : Nat) (f : Nat → Int) : Dk → Int → Int → Prop
  | put : putK d n < needN n → LayIs d gen fi en n f (putD d fi n f) 0 6
  | wipe0 : putK d n = needN n → offD (putD d fi n f) → LayIs d gen fi en n f (putD d fi n f) 0 6
  | wipe {d2 : Dk} : putK d n = needN n → ¬ offD (putD d fi n f) → wipeD (putD d fi n f) (fi + needN n) en = (none, d2) → LayIs d gen fi en n f d2 0 6
  | flush {d2 : Dk} {m : Nat} : putK d n = needN n → ¬ offD (putD d fi n f) → wipeD (putD d fi n f) (fi + needN n) en = (some m, d2) → offD d2 → LayIs d gen fi en n f d2 0 6
  | write {d2 : Dk} {m : Nat} : putK d n = needN n → ¬ offD (putD d fi n f) → wipeD (putD d fi n f) (fi + needN n) en = (some m, d2) → ¬ offD d2 → offD (flushD d2) → LayIs d gen fi en n f (flushD d2) 0 6
  | again {d2 : Dk} {m : Nat} : putK d n = needN n → ¬ offD (putD d fi n f) → wipeD (putD d fi n f) (fi + needN n) en = (some m, d2) → ¬ offD d2 → ¬ offD (flushD d2) → offD (writeD (flushD d2) (gen % 2) (headB gen)) → LayIs d gen fi en n f (writeD (flushD d2) (gen % 2) (headB gen)) 0 6
  | ok {d2 : Dk} {m : Nat} : putK d n = needN n → ¬ offD (putD d fi n f) → wipeD (putD d fi n f) (fi + needN n) en = (some m, d2) → ¬ offD d2 → ¬ offD (flushD d2) → ¬ offD (writeD (flushD d2) (gen % 2) (headB gen)) → LayIs d gen fi en n f (flushD (writeD (flushD d2) (gen % 2) (headB gen))) ((fi + needN n : Nat) : Int) 0

theorem layIs_ex (d : Dk) (gen fi en n : Nat) (f : Nat → Int) : ∃ d' at' e, LayIs d gen fi en n f d' at' e := by
  rcases Nat.lt_or_ge (putK d n) (needN n) with h | h
  · exact ⟨_, _, _, .put h⟩
  have h : putK d n = needN n := Nat.le_antisymm (putK_le d n) h
  by_cases h1 : offD (putD d fi n f)
  · exact ⟨_, _, _, .wipe0 h h1⟩
  obtain ⟨⟨on, d2⟩, hw⟩ : ∃ r, wipeD (putD d fi n f) (fi + needN n) en = r := ⟨_, rfl⟩
  cases on with
  | none => exact ⟨_, _, _, .wipe h h1 hw⟩
  | some m =>
    by_cases h2 : offD d2
    · exact ⟨_, _, _, .flush h h1 hw h2⟩
    by_cases h3 : offD (flushD d2)
    · exact ⟨_, _, _, .write h h1 hw h2 h3⟩
    by_cases h4 : offD (writeD (flushD d2) (gen % 2) (headB gen))
    · exact ⟨_, _, _, .again h h1 hw h2 h3 h4⟩
    · exact ⟨_, _, _, .ok h h1 hw h2 h3 h4⟩

section
variable {s : Nat} {d : Dk}
theorem DkOk.dec (h : DkOk s d) (ho : ¬ offD d) : 0 ≤ decD d ∧ decD d ≤ 9223372036854775807 := by
  have := h.hca
  unfold decD
  split
  · have : d.ca ≠ 0 := fun e => ho ⟨by assumption, e⟩
    omega
  · exact this
theorem DkOk.bytes (h : DkOk s d) (t : Nat) (ht : t < s) : isB (secV d.S d.L t) := by
  intro x hx
  unfold secV
  cases e : d.L (t : Int) with
  | some g => exact h.lb _ g e x hx
  | none => exact h.sb _ (by omega)
theorem DkOk.flush (h : DkOk s d) (ho : ¬ offD d) : DkOk s (flushD d) where
  hca := h.dec ho
  key := fun k g e => by cases e
  sb := fun x hx => h.bytes (x / 64) (by omega) (x % 64) (by omega)
  lb := fun k g e => by cases e
theorem DkOk.write (h : DkOk s d) (ho : ¬ offD d) {i : Nat} {f : Nat → Int} (hi : i < s) (hf : ∀ x, x < 64 → 0 ≤ f x ∧ f x ≤ 255) : DkOk s (writeD d i f) where
  hca := h.dec ho
  key := fun k g e => by
    have e : (if k = (i : Int) then some f else d.L k) = some g := e
    by_cases q : k = (i : Int)
    · omega
    · rw [if_neg q] at e; exact h.key k g e
  sb := h.sb
  lb := fun k g e => by
    have e : (if k = (i : Int) then some f else d.L k) = some g := e
    by_cases q : k = (i : Int)
    · rw [if_pos q] at e; cases e; exact hf
    · rw [if_neg q] at e; exact h.lb k g e
theorem pcs_range {n : Nat} {f : Nat → Int} (hf : ∀ i, i < n → 0 ≤ f i ∧ f i ≤ 255) (j x : Nat) : 0 ≤ pcs n f j x ∧ pcs n f j x ≤ 255 := by
  unfold pcs
  split
  · split
    · exact hf _ (by assumption)
    · omega
  · split
    · omega
    · split
      · split <;> omega
      · omega
theorem DkOk.put (h : DkOk s d) {first n : Nat} {f : Nat → Int} (hi : first + needN n ≤ s) (hf : ∀ i, i < n → 0 ≤ f i ∧ f i ≤ 255) : DkOk s (putD d first n f) where
  hca := by
    have := h.hca
    show 0 ≤ (if d.ar then d.ca - putK d n else d.ca) ∧ (if d.ar then d.ca - putK d n else d.ca) ≤ _
    unfold putK
    split
    · omega
    · exact this
  key := fun k g e => by
    have e : (if (first : Int) ≤ k ∧ k < (first : Int) + putK d n then some (pcs n f (k - first).toNat) else d.L k) = some g := e
    have := putK_le d n
    by_cases q : (first : Int) ≤ k ∧ k < (first : Int) + putK d n
    · omega
    · rw [if_neg q] at e; exact h.key k g e
  sb := h.sb
  lb := fun k g e => by
    have e : (if (first : Int) ≤ k ∧ k < (first : Int) + putK d n then some (pcs n f (k - first).toNat) else d.L k) = some g := e
    by_cases q : (first : Int) ≤ k ∧ k < (first : Int) + putK d n
    · rw [if_pos q] at e; cases e; exact fun x _ => pcs_range hf _ x
    · rw [if_neg q] at e; exact h.lb k g e
end
/-- What waits is bytes of the disk's sectors. -/
structure LOk (s : Nat) (L : Int → Option (Nat → Int)) : Prop where
  key : ∀ k g, L k = some g → 0 ≤ k ∧ k < (s : Int)
  lb : ∀ k g, L k = some g → ∀ x, x < 64 → 0 ≤ g x ∧ g x ≤ 255
theorem wipeP_ok {s : Nat} {V : Nat → Nat → Int} {ar : Bool} : ∀ (k x n : Nat) (L : Int → Option (Nat → Int)) (ca : Int), x + k ≤ s → LOk s L → (0 ≤ ca ∧ ca ≤ 9223372036854775807) →
    LOk s (wipeP V ar k x n L ca).2.1 ∧ (0 ≤ (wipeP V ar k x n L ca).2.2 ∧ (wipeP V ar k x n L ca).2.2 ≤ 9223372036854775807) := by
  intro k
  induction k with
  | zero => intro x n L ca _ h1 h2; exact ⟨h1, h2⟩
  | succ k ih =>
    intro x n L ca hx h1 h2
    by_cases ho : ar = true ∧ ca = 0
    · rw [wipeP_off ho]; exact ⟨h1, h2⟩
    · by_cases hb : ∀ i, i < 64 → V x i = 0
      · rw [wipeP_blank ho hb]; exact ih _ _ _ _ (by omega) h1 h2
      · rw [wipeP_full ho hb]
        refine ih _ _ _ _ (by omega) ⟨fun j g e => ?_, fun j g e => ?_⟩ ?_
        · have e : (if j = (x : Int) then some (fun _ => (0 : Int)) else L j) = some g := e
          by_cases q : j = (x : Int)
          · omega
          · rw [if_neg q] at e; exact h1.key j g e
        · have e : (if j = (x : Int) then some (fun _ => (0 : Int)) else L j) = some g := e
          by_cases q : j = (x : Int)
          · rw [if_pos q] at e; cases e; intro y _; exact ⟨Int.le_refl 0, (by decide : (0 : Int) ≤ 255)⟩
          · rw [if_neg q] at e; exact h1.lb j g e
        · split
          · have : ca ≠ 0 := fun e => ho ⟨by assumption, e⟩
            omega
          · exact h2
theorem DkOk.wipe {s : Nat} {d d2 : Dk} {first fin : Nat} {on : Option Nat} (h : DkOk s d) (hf : first ≤ fin ∧ fin ≤ s) (hw : wipeD d first fin = (on, d2)) : DkOk s d2 := by
  obtain ⟨_, e2⟩ := Prod.mk.inj hw
  subst e2
  have := wipeP_ok (s := s) (V := fun i => secV d.S d.L i) (ar := d.ar) (fin - first) first 0 d.L d.ca (by omega) ⟨h.key, h.lb⟩ h.hca
  exact ⟨this.2, this.1.key, h.sb, this.1.lb⟩

/-! ### Sealed bytes -/
def cutF (n : Nat) (b : Nat → Int) (i : Nat) : Int := if i < n then b i else 0
def bvF (n : Nat) (b : Nat → Int) (i : Nat) : BitVec 32 := BitVec.ofInt 32 (cutF n b i)
def sealF (n : Nat) (b : Nat → Int) (i : Nat) : Int := CrcLaw.sealB (cutF n b) (CrcLaw.more (bvF n b) 0#32 n) n i
theorem cutF_range {n : Nat} {b : Nat → Int} (hb : ∀ i, i < n → 0 ≤ b i ∧ b i ≤ 255) (i : Nat) : 0 ≤ cutF n b i ∧ cutF n b i < 256 := by
  unfold cutF
  split
  · have := hb i (by assumption); omega
  · omega
theorem bvF_nat {n : Nat} {b : Nat → Int} (hb : ∀ i, i < n → 0 ≤ b i ∧ b i ≤ 255) (i : Nat) : cutF n b i = ((bvF n b i).toNat : Int) := by
  have h := cutF_range hb i
  unfold bvF
  obtain ⟨k, hk⟩ : ∃ k : Nat, cutF n b i = (k : Int) := ⟨(cutF n b i).toNat, by omega⟩
  rw [hk, BitVec.ofInt_natCast, BitVec.toNat_ofNat, Nat.mod_eq_of_lt (by omega)]
theorem bvF_lt {n : Nat} {b : Nat → Int} (hb : ∀ i, i < n → 0 ≤ b i ∧ b i ≤ 255) (i : Nat) : (bvF n b i).toNat < 256 := by
  have h := cutF_range hb i
  rw [bvF_nat hb] at h
  omega
theorem sealF_range {n : Nat} {b : Nat → Int} (hb : ∀ i, i < n → 0 ≤ b i ∧ b i ≤ 255) (i : Nat) : 0 ≤ sealF n b i ∧ sealF n b i ≤ 255 := by
  have := CrcLaw.sealB_rng (s := CrcLaw.more (bvF n b) 0#32 n) (n := n) (fun i _ => cutF_range hb i) i
  unfold sealF
  omega
end Go.WalLaw
namespace Go.Proofs.YtnjjgipblimbfaaDoor.Dsk
open Go.Eng
open Go.DskLaw (q64 secV isB needN pcs wipeP)
open Go.WalLaw
open Go.CrcLaw (four)
set_option maxRecDepth 100000
set_option maxHeartbeats 1000000
theorem seal2_fn {P : Program} (hP : P = Tryd.prog) {n m : Nat} {fr b hi : Nat → Int} (hfr : ∀ i, fr i = ((four i).toNat : Int)) (hb : ∀ i, i < n → 0 ≤ b i ∧ b i ≤ 255) (hn : n ≤ 1000000000) (hm : m = n + 4) (hh : ∀ i, i < m → hi i = sealF n b i) :
    FnTr P (Gf fr) 18 [By n b] [] 0 (Gives (By m hi) [] 1) := by
  have h := seal_fn hP hfr (gi := cutF n b) (g := bvF n b) (bvF_nat hb) hn hm hh
  obtain ⟨c, hc⟩ : ∃ c : Nat → Int, c = cutF n b := ⟨_, rfl⟩
  have hcb : ∀ i, i < n → b i = c i := fun i hi => by rw [hc]; unfold cutF; rw [if_pos hi]
  rw [← hc] at h
  generalize hA : Ar.real = A
  refine FnTr.as hA h ?_ ?_ ?_ rfl
  · (try cbv) <;> (repeat' (first | exact trivial | exact rfl | apply And.intro | exact fun _ => rfl | (intro _ hle; first | refine chunk_le hA rfl hle rfl ?_ | refine cat_le hA ?_ | refine upd_le hA ?_ | (try cbv))))
    all_goals (refine hcb _ ?_; subst hA; exact ltNV_real.1 (by assumption))
  · (try cbv) <;> (repeat' (first | exact trivial | exact rfl | apply And.intro | exact fun _ => rfl | (intro _ hle; first | refine chunk_le hA rfl hle rfl ?_ | refine cat_le hA ?_ | refine upd_le hA ?_ | (try cbv))))
  · (try cbv) <;> (repeat' (first | exact trivial | exact rfl | apply And.intro | exact fun _ => rfl | (intro _ hle; first | refine chunk_le hA rfl hle rfl ?_ | refine cat_le hA ?_ | refine upd_le hA ?_ | (try cbv))))

abbrev DHd (N : Nat) (d : Dk) : Hl := DH N d.S d.L d.ar d.ca
section
variable {P : Program} {G : Gl} {N s : Nat} {d d1 d2 : Dk}
theorem put_all (hP : P = Tryd.prog) {n first fin : Nat} {f : Nat → Int} {at' : Int} (hN : N = 64 * s) (hs : s ≤ 4096) (hok : DkOk s d) (h : first + needN n ≤ fin ∧ fin ≤ s) (hn : n ≤ 65536) (hk : putK d n = needN n) (hd : d1 = putD d first n f) (ha : at' = ((first + needN n : Nat) : Int)) :
    FnTr P G 60 [.ptr 0 0, .int .i64 (first : Int), .int .i64 (fin : Int), By n f] (DHd N d) 3 (Gives (.tup [.int .i64 at', .lit .i64 0]) (DHd N d1) 3) := by
  have h1 := put_ok (P := P) (G := G) (S := d.S) (L := d.L) (L' := d1.L) (f := f) (ar := d.ar) (ca := d.ca) (ca' := d1.ca) (at' := at') (e' := 0) (k := putK d n) hP hN hs h hn hok.hca (by
    unfold putK; cases e : d.ar
    · exact .inl ⟨rfl, rfl⟩
    · exact .inr ⟨rfl, rfl⟩) (fun i => by rw [hd]; rfl) (by rw [hd]; rfl) (.inl ⟨hk, ha, rfl⟩)
  have eS : d1.S = d.S := by rw [hd]; rfl
  have eA : d1.ar = d.ar := by rw [hd]; rfl
  show FnTr _ _ _ _ _ _ (Gives _ (DH N d1.S d1.L d1.ar d1.ca) 3)
  rw [eS, eA]
  clear hd hk ha hok
  generalize hA : Ar.real = A
  refine FnTr.as hA h1 ?_ ?_ ?_ rfl
  · (try cbv) <;> (repeat' (first | exact trivial | exact rfl | apply And.intro | exact fun _ => rfl | (intro _ hle; first | refine chunk_le hA rfl hle rfl ?_ | refine cat_le hA ?_ | refine upd_le hA ?_ | (try cbv))))
  · (try cbv) <;> (repeat' (first | exact trivial | exact rfl | apply And.intro | exact fun _ => rfl | (intro _ hle; first | refine chunk_le hA rfl hle rfl ?_ | refine cat_le hA ?_ | refine upd_le hA ?_ | (try cbv))))
  · (try cbv) <;> (repeat' (first | exact trivial | exact rfl | apply And.intro | exact fun _ => rfl | (intro _ hle; first | refine chunk_le hA rfl hle rfl ?_ | refine cat_le hA ?_ | refine upd_le hA ?_ | (try cbv))))
theorem put_part (hP : P = Tryd.prog) {n first fin : Nat} {f : Nat → Int} (hN : N = 64 * s) (hs : s ≤ 4096) (hok : DkOk s d) (h : first + needN n ≤ fin ∧ fin ≤ s) (hn : n ≤ 65536) (hk : putK d n < needN n) (hd : d1 = putD d first n f) :
    FnTr P G 60 [.ptr 0 0, .int .i64 (first : Int), .int .i64 (fin : Int), By n f] (DHd N d) 3 (Gives (.tup [.lit .i64 0, .lit .i64 6]) (DHd N d1) 3) := by
  have h1 := put_ok (P := P) (G := G) (S := d.S) (L := d.L) (L' := d1.L) (f := f) (ar := d.ar) (ca := d.ca) (ca' := d1.ca) (at' := 0) (e' := 6) (k := putK d n) hP hN hs h hn hok.hca (by
    unfold putK; cases e : d.ar
    · exact .inl ⟨rfl, rfl⟩
    · exact .inr ⟨rfl, rfl⟩) (fun i => by rw [hd]; rfl) (by rw [hd]; rfl) (.inr ⟨hk, rfl, rfl⟩)
  have eS : d1.S = d.S := by rw [hd]; rfl
  have eA : d1.ar = d.ar := by rw [hd]; rfl
  show FnTr _ _ _ _ _ _ (Gives _ (DH N d1.S d1.L d1.ar d1.ca) 3)
  rw [eS, eA]
  clear hd hk hok
  generalize hA : Ar.real = A
  refine FnTr.as hA h1 ?_ ?_ ?_ rfl
  · (try cbv) <;> (repeat' (first | exact trivial | exact rfl | apply And.intro | exact fun _ => rfl | (intro _ hle; first | refine chunk_le hA rfl hle rfl ?_ | refine cat_le hA ?_ | refine upd_le hA ?_ | (try cbv))))
  · (try cbv) <;> (repeat' (first | exact trivial | exact rfl | apply And.intro | exact fun _ => rfl | (intro _ hle; first | refine chunk_le hA rfl hle rfl ?_ | refine cat_le hA ?_ | refine upd_le hA ?_ | (try cbv))))
  · (try cbv) <;> (repeat' (first | exact trivial | exact rfl | apply And.intro | exact fun _ => rfl | (intro _ hle; first | refine chunk_le hA rfl hle rfl ?_ | refine cat_le hA ?_ | refine upd_le hA ?_ | (try cbv))))
theorem wipe_all (hP : P = Tryd.prog) {first fin m : Nat} (hN : N = 64 * s) (hs : s ≤ 4096) (hok : 0 ≤ d.ca ∧ d.ca ≤ 9223372036854775807) (h : first ≤ fin ∧ fin ≤ s) (ho : ¬ offD d) (hw : wipeD d first fin = (some m, d1)) :
    FnTr P G 68 [.ptr 0 0, .int .i64 (first : Int), .int .i64 (fin : Int)] (DHd N d) 3 (Gives (.tup [.int .i64 (m : Int), .lit .i64 0]) (DHd N d1) 3) := by
  obtain ⟨⟨on, L', c'⟩, hr⟩ : ∃ r, wipeP (fun i => secV d.S d.L i) d.ar (fin - first) first 0 d.L d.ca = r := ⟨_, rfl⟩
  have hw : ((wipeP (fun i => secV d.S d.L i) d.ar (fin - first) first 0 d.L d.ca).1, (⟨d.S, (wipeP (fun i => secV d.S d.L i) d.ar (fin - first) first 0 d.L d.ca).2.1, d.ar, (wipeP (fun i => secV d.S d.L i) d.ar (fin - first) first 0 d.L d.ca).2.2⟩ : Dk)) = (some m, d1) := hw
  rw [hr] at hw
  obtain ⟨e1, e2⟩ := Prod.mk.inj hw
  subst e2
  exact wipe_ok hP hN hs h ho hok (V := fun i => secV d.S d.L i) (fun _ _ => rfl) hr (fun n hn => by have q := hn.symm.trans e1; cases q; exact ⟨rfl, rfl, rfl⟩) (fun hn => by have q := hn.symm.trans e1; cases q)
theorem wipe_part (hP : P = Tryd.prog) {first fin : Nat} (hN : N = 64 * s) (hs : s ≤ 4096) (hok : 0 ≤ d.ca ∧ d.ca ≤ 9223372036854775807) (h : first ≤ fin ∧ fin ≤ s) (ho : ¬ offD d) (hw : wipeD d first fin = (none, d1)) :
    FnTr P G 68 [.ptr 0 0, .int .i64 (first : Int), .int .i64 (fin : Int)] (DHd N d) 3 (Gives (.tup [.lit .i64 0, .lit .i64 6]) (DHd N d1) 3) := by
  obtain ⟨⟨on, L', c'⟩, hr⟩ : ∃ r, wipeP (fun i => secV d.S d.L i) d.ar (fin - first) first 0 d.L d.ca = r := ⟨_, rfl⟩
  have hw : ((wipeP (fun i => secV d.S d.L i) d.ar (fin - first) first 0 d.L d.ca).1, (⟨d.S, (wipeP (fun i => secV d.S d.L i) d.ar (fin - first) first 0 d.L d.ca).2.1, d.ar, (wipeP (fun i => secV d.S d.L i) d.ar (fin - first) first 0 d.L d.ca).2.2⟩ : Dk)) = (none, d1) := hw
  rw [hr] at hw
  obtain ⟨e1, e2⟩ := Prod.mk.inj hw
  subst e2
  exact wipe_ok hP hN hs h ho hok (V := fun i => secV d.S d.L i) (fun _ _ => rfl) hr (fun n hn => by have q := hn.symm.trans e1; cases q) (fun hn => ⟨rfl, rfl, rfl⟩)
theorem flush_all (hP : P = Tryd.prog) (hN : N = 64 * s) (hs : 1 ≤ s ∧ s ≤ 4096) (hok : DkOk s d) (ho : ¬ offD d) (hd : d1 = flushD d) :
    FnTr P G 31 [.ptr 0 0] (DHd N d) 3 (Gives (.lit .i64 0) (DHd N d1) 3) := by
  subst hd
  exact flush_ok (S' := (flushD d).S) (L' := (flushD d).L) (ca' := (flushD d).ca) hP ho hN hs rfl hok.hca hok.key (fun _ _ => rfl) (fun _ => rfl)
theorem write_all (hP : P = Tryd.prog) {i : Nat} {f : Nat → Int} (hN : N = 64 * s) (hs : s ≤ 4096) (hok : DkOk s d) (ho : ¬ offD d) (hi : i < s) (hd : d1 = writeD d i f) :
    FnTr P G 30 [.ptr 0 0, .int .i64 (i : Int), By 64 f] (DHd N d) 3 (Gives (.lit .i64 0) (DHd N d1) 3) := by
  subst hd
  exact write_ok (L' := (writeD d i f).L) (ca' := (writeD d i f).ca) hP ho hN hs hi rfl (fun _ => rfl) rfl hok.hca
end
end Go.Proofs.YtnjjgipblimbfaaDoor.Dsk
namespace Go.Proofs.YtnjjgipblimbfaaDoor.Dsk
open Go.Eng
open Go.DskLaw (q64 secV isB needN pcs wipeP)
open Go.WalLaw
open Go.CrcLaw (four)
set_option maxRecDepth 100000
set_option maxHeartbeats 1000000
section
variable {P : Program} {fr : Nat → Int} {N s h gen fi en nb n a1 m : Nat} {b f hd : Nat → Int} {d d1 d2 d3 d4 d5 : Dk}
theorem lay_put (hP : P = Tryd.prog) (hfr : ∀ i, fr i = ((four i).toNat : Int)) (hN : N = 64 * s) (hs : 4 ≤ s ∧ s ≤ 4096) (hh : h = (s - 2) / 2) (hg : gen ≤ 1099511627777) (hfi : fi = 2 + gen % 2 * h) (hen : en = fi + h) (hb : ∀ i, i < nb → 0 ≤ b i ∧ b i ≤ 255) (hn : n = nb + 4) (hn6 : n ≤ 65536) (hnh : needN n ≤ h) (hf : ∀ i, i < n → f i = sealF nb b i) (hes : en ≤ s) (ha1 : a1 = fi + needN n) (ok : DkOk s d) (hk : putK d n < needN n) (hd1 : d1 = putD d fi n f) :
    FnTr P (Gf fr) 57 [.ptr 0 0, .int .i64 (gen : Int), By nb b] (DHd N d) 3 (Gives (.tup [.lit .i64 0, .lit .i64 6]) (DHd N d1) 3) := by
  have c1 := first_fn (P := P) (G := Gf fr) (S := d.S) (L := d.L) (ar := d.ar) (ca := d.ca) hP hN hs hh hg hfi
  have c2 := end_fn (P := P) (G := Gf fr) (S := d.S) (L := d.L) (ar := d.ar) (ca := d.ca) hP hN hs hh hg hfi hen
  have c3 := seal2_fn (P := P) hP hfr hb (by omega) hn hf
  have c4 := put_part (P := P) (G := Gf fr) (f := f) hP hN hs.2 ok ⟨by omega, hes⟩ hn6 hk hd1
  clear hfr hh hfi hen hb hn hn6 hnh hf hes ha1 ok hN hs hk hd1
  have hT : T.Ok P := hP ▸ T_ok
  refine FnTr.introD (fn := Tryd.f57) (fg := Tryd.f86) (g := 86) (by rw [hP]; rfl) rfl rfl (by rw [hP]; rfl) rfl rfl rfl rfl rfl rfl rfl rfl rfl hT ?_
  generalize hA : Ar.real = A
  generalize hK : Gives _ _ _ = K
  cbv
  refine CS.le hA (c1) [(0, 0), (1, 1), (2, 2)] rfl rfl rfl ?_ ?_ ?_
  · (try cbv) <;> (repeat' (first | exact trivial | exact rfl | apply And.intro | exact fun _ => rfl | (intro _ hle; first | refine chunk_le hA rfl hle rfl ?_ | refine cat_le hA ?_ | refine upd_le hA ?_ | (try cbv)))) <;> (try (subst hA; (try simp only [natCast_eq] at *); (try (simp only [Ar.real, NV.val, Int.ofNat_eq_natCast, Int.toNat_natCast])); first | done | omega | decide | exact inR64 (by omega) (by omega) | (refine ⟨?_, ?_⟩ <;> first | omega | decide | exact inR64 (by omega) (by omega))))
  · (try cbv) <;> (repeat' (first | exact trivial | exact rfl | apply And.intro | exact fun _ => rfl | (intro _ hle; first | refine chunk_le hA rfl hle rfl ?_ | refine cat_le hA ?_ | refine upd_le hA ?_ | (try cbv))))
  cbv
  refine CS.le hA (c2) [(0, 0), (1, 1), (2, 2)] rfl rfl rfl ?_ ?_ ?_
  · (try cbv) <;> (repeat' (first | exact trivial | exact rfl | apply And.intro | exact fun _ => rfl | (intro _ hle; first | refine chunk_le hA rfl hle rfl ?_ | refine cat_le hA ?_ | refine upd_le hA ?_ | (try cbv)))) <;> (try (subst hA; (try simp only [natCast_eq] at *); (try (simp only [Ar.real, NV.val, Int.ofNat_eq_natCast, Int.toNat_natCast])); first | done | omega | decide | exact inR64 (by omega) (by omega) | (refine ⟨?_, ?_⟩ <;> first | omega | decide | exact inR64 (by omega) (by omega))))
  · (try cbv) <;> (repeat' (first | exact trivial | exact rfl | apply And.intro | exact fun _ => rfl | (intro _ hle; first | refine chunk_le hA rfl hle rfl ?_ | refine cat_le hA ?_ | refine upd_le hA ?_ | (try cbv))))
  cbv
  refine CS.le hA (c3) [] rfl rfl rfl ?_ ?_ ?_
  · (try cbv) <;> (repeat' (first | exact trivial | exact rfl | apply And.intro | exact fun _ => rfl | (intro _ hle; first | refine chunk_le hA rfl hle rfl ?_ | refine cat_le hA ?_ | refine upd_le hA ?_ | (try cbv)))) <;> (try (subst hA; (try simp only [natCast_eq] at *); (try (simp only [Ar.real, NV.val, Int.ofNat_eq_natCast, Int.toNat_natCast])); first | done | omega | decide | exact inR64 (by omega) (by omega) | (refine ⟨?_, ?_⟩ <;> first | omega | decide | exact inR64 (by omega) (by omega))))
  · (try cbv) <;> (repeat' (first | exact trivial | exact rfl | apply And.intro | exact fun _ => rfl | (intro _ hle; first | refine chunk_le hA rfl hle rfl ?_ | refine cat_le hA ?_ | refine upd_le hA ?_ | (try cbv))))
  cbv
  refine CS.le hA (c4) [(0, 0), (1, 1), (2, 2)] rfl rfl rfl ?_ ?_ ?_
  · (try cbv) <;> (repeat' (first | exact trivial | exact rfl | apply And.intro | exact fun _ => rfl | (intro _ hle; first | refine chunk_le hA rfl hle rfl ?_ | refine cat_le hA ?_ | refine upd_le hA ?_ | (try cbv)))) <;> (try (subst hA; (try simp only [natCast_eq] at *); (try (simp only [Ar.real, NV.val, Int.ofNat_eq_natCast, Int.toNat_natCast])); first | done | omega | decide | exact inR64 (by omega) (by omega) | (refine ⟨?_, ?_⟩ <;> first | omega | decide | exact inR64 (by omega) (by omega))))
  · (try cbv) <;> (repeat' (first | exact trivial | exact rfl | apply And.intro | exact fun _ => rfl | (intro _ hle; first | refine chunk_le hA rfl hle rfl ?_ | refine cat_le hA ?_ | refine upd_le hA ?_ | (try cbv))))
  cbv
  refine DS.runK hA hT (by rw [hP]; exact P_mixed) 1 rfl ?_
  cbv
  refine DF.fin (by kernel_rfl) (by kernel_rfl) ?_
  cbv
  refine Fin.le hA 3 [] (.tup [.lit .i64 0, .lit .i64 6]) (DHd N d1) 3 rfl rfl rfl ?_ ?_ (by rw [← hK]; exact ⟨rfl, rfl, rfl⟩)
  · (try cbv) <;> (repeat' (first | exact trivial | exact rfl | apply And.intro | exact fun _ => rfl | (intro _ hle; first | refine chunk_le hA rfl hle rfl ?_ | refine cat_le hA ?_ | refine upd_le hA ?_ | (try cbv))))
  · (try cbv) <;> (repeat' (first | exact trivial | exact rfl | apply And.intro | exact fun _ => rfl | (intro _ hle; first | refine chunk_le hA rfl hle rfl ?_ | refine cat_le hA ?_ | refine upd_le hA ?_ | (try cbv))))

theorem lay_wipe0 (hP : P = Tryd.prog) (hfr : ∀ i, fr i = ((four i).toNat : Int)) (hN : N = 64 * s) (hs : 4 ≤ s ∧ s ≤ 4096) (hh : h = (s - 2) / 2) (hg : gen ≤ 1099511627777) (hfi : fi = 2 + gen % 2 * h) (hen : en = fi + h) (hb : ∀ i, i < nb → 0 ≤ b i ∧ b i ≤ 255) (hn : n = nb + 4) (hn6 : n ≤ 65536) (hnh : needN n ≤ h) (hf : ∀ i, i < n → f i = sealF nb b i) (hes : en ≤ s) (ha1 : a1 = fi + needN n) (ok : DkOk s d) (hk : putK d n = needN n) (hd1 : d1 = putD d fi n f) (o1 : offD d1) :
    FnTr P (Gf fr) 57 [.ptr 0 0, .int .i64 (gen : Int), By nb b] (DHd N d) 3 (Gives (.tup [.lit .i64 0, .lit .i64 6]) (DHd N d1) 3) := by
  have c1 := first_fn (P := P) (G := Gf fr) (S := d.S) (L := d.L) (ar := d.ar) (ca := d.ca) hP hN hs hh hg hfi
  have c2 := end_fn (P := P) (G := Gf fr) (S := d.S) (L := d.L) (ar := d.ar) (ca := d.ca) hP hN hs hh hg hfi hen
  have c3 := seal2_fn (P := P) hP hfr hb (by omega) hn hf
  have c2' := end_fn (P := P) (G := Gf fr) (S := d1.S) (L := d1.L) (ar := d1.ar) (ca := d1.ca) hP hN hs hh hg hfi hen
  have c4 := put_all (P := P) (G := Gf fr) (f := f) hP hN hs.2 ok ⟨by omega, hes⟩ hn6 hk hd1 (at' := (a1 : Int)) (by rw [ha1])
  have c5 := wipe_off (P := P) (G := Gf fr) (S := d1.S) (L := d1.L) (a := (a1 : Int)) (b := (en : Int)) hP hN hs.2 ⟨by omega, by omega, by omega⟩ o1
  clear hfr hh hfi hen hb hn hn6 hnh hf hes ha1 ok hN hs hk hd1 o1
  have hT : T.Ok P := hP ▸ T_ok
  refine FnTr.introD (fn := Tryd.f57) (fg := Tryd.f86) (g := 86) (by rw [hP]; rfl) rfl rfl (by rw [hP]; rfl) rfl rfl rfl rfl rfl rfl rfl rfl rfl hT ?_
  generalize hA : Ar.real = A
  generalize hK : Gives _ _ _ = K
  cbv
  refine CS.le hA (c1) [(0, 0), (1, 1), (2, 2)] rfl rfl rfl ?_ ?_ ?_
  · (try cbv) <;> (repeat' (first | exact trivial | exact rfl | apply And.intro | exact fun _ => rfl | (intro _ hle; first | refine chunk_le hA rfl hle rfl ?_ | refine cat_le hA ?_ | refine upd_le hA ?_ | (try cbv)))) <;> (try (subst hA; (try simp only [natCast_eq] at *); (try (simp only [Ar.real, NV.val, Int.ofNat_eq_natCast, Int.toNat_natCast])); first | done | omega | decide | exact inR64 (by omega) (by omega) | (refine ⟨?_, ?_⟩ <;> first | omega | decide | exact inR64 (by omega) (by omega))))
  · (try cbv) <;> (repeat' (first | exact trivial | exact rfl | apply And.intro | exact fun _ => rfl | (intro _ hle; first | refine chunk_le hA rfl hle rfl ?_ | refine cat_le hA ?_ | refine upd_le hA ?_ | (try cbv))))
  cbv
  refine CS.le hA (c2) [(0, 0), (1, 1), (2, 2)] rfl rfl rfl ?_ ?_ ?_
  · (try cbv) <;> (repeat' (first | exact trivial | exact rfl | apply And.intro | exact fun _ => rfl | (intro _ hle; first | refine chunk_le hA rfl hle rfl ?_ | refine cat_le hA ?_ | refine upd_le hA ?_ | (try cbv)))) <;> (try (subst hA; (try simp only [natCast_eq] at *); (try (simp only [Ar.real, NV.val, Int.ofNat_eq_natCast, Int.toNat_natCast])); first | done | omega | decide | exact inR64 (by omega) (by omega) | (refine ⟨?_, ?_⟩ <;> first | omega | decide | exact inR64 (by omega) (by omega))))
  · (try cbv) <;> (repeat' (first | exact trivial | exact rfl | apply And.intro | exact fun _ => rfl | (intro _ hle; first | refine chunk_le hA rfl hle rfl ?_ | refine cat_le hA ?_ | refine upd_le hA ?_ | (try cbv))))
  cbv
  refine CS.le hA (c3) [] rfl rfl rfl ?_ ?_ ?_
  · (try cbv) <;> (repeat' (first | exact trivial | exact rfl | apply And.intro | exact fun _ => rfl | (intro _ hle; first | refine chunk_le hA rfl hle rfl ?_ | refine cat_le hA ?_ | refine upd_le hA ?_ | (try cbv)))) <;> (try (subst hA; (try simp only [natCast_eq] at *); (try (simp only [Ar.real, NV.val, Int.ofNat_eq_natCast, Int.toNat_natCast])); first | done | omega | decide | exact inR64 (by omega) (by omega) | (refine ⟨?_, ?_⟩ <;> first | omega | decide | exact inR64 (by omega) (by omega))))
  · (try cbv) <;> (repeat' (first | exact trivial | exact rfl | apply And.intro | exact fun _ => rfl | (intro _ hle; first | refine chunk_le hA rfl hle rfl ?_ | refine cat_le hA ?_ | refine upd_le hA ?_ | (try cbv))))
  cbv
  refine CS.le hA (c4) [(0, 0), (1, 1), (2, 2)] rfl rfl rfl ?_ ?_ ?_
  · (try cbv) <;> (repeat' (first | exact trivial | exact rfl | apply And.intro | exact fun _ => rfl | (intro _ hle; first | refine chunk_le hA rfl hle rfl ?_ | refine cat_le hA ?_ | refine upd_le hA ?_ | (try cbv)))) <;> (try (subst hA; (try simp only [natCast_eq] at *); (try (simp only [Ar.real, NV.val, Int.ofNat_eq_natCast, Int.toNat_natCast])); first | done | omega | decide | exact inR64 (by omega) (by omega) | (refine ⟨?_, ?_⟩ <;> first | omega | decide | exact inR64 (by omega) (by omega))))
  · (try cbv) <;> (repeat' (first | exact trivial | exact rfl | apply And.intro | exact fun _ => rfl | (intro _ hle; first | refine chunk_le hA rfl hle rfl ?_ | refine cat_le hA ?_ | refine upd_le hA ?_ | (try cbv))))
  cbv
  refine DS.runK hA hT (by rw [hP]; exact P_mixed) 12 rfl ?_
  cbv
  refine CD.pass hA (c2') [(0, 0), (1, 1), (2, 2)] [] rfl ⟨rfl, rfl, rfl, rfl, ?_, ?_⟩ rfl (.inl rfl) ?_
  · (try cbv) <;> (repeat' (first | exact trivial | exact rfl | apply And.intro | exact fun _ => rfl | (intro _ hle; first | refine chunk_le hA rfl hle rfl ?_ | refine cat_le hA ?_ | refine upd_le hA ?_ | (try cbv)))) <;> (try (subst hA; (try simp only [natCast_eq] at *); (try (simp only [Ar.real, NV.val, Int.ofNat_eq_natCast, Int.toNat_natCast])); first | done | omega | decide | exact inR64 (by omega) (by omega) | (refine ⟨?_, ?_⟩ <;> first | omega | decide | exact inR64 (by omega) (by omega))))
  · (try cbv) <;> (repeat' (first | exact trivial | exact rfl | apply And.intro | exact fun _ => rfl | (intro _ hle; first | refine chunk_le hA rfl hle rfl ?_ | refine cat_le hA ?_ | refine upd_le hA ?_ | (try cbv))))
  cbv
  refine CD.pass hA (c5) [(0, 0), (1, 1), (2, 2)] [] rfl ⟨rfl, rfl, rfl, rfl, ?_, ?_⟩ rfl (.inl rfl) ?_
  · (try cbv) <;> (repeat' (first | exact trivial | exact rfl | apply And.intro | exact fun _ => rfl | (intro _ hle; first | refine chunk_le hA rfl hle rfl ?_ | refine cat_le hA ?_ | refine upd_le hA ?_ | (try cbv)))) <;> (try (subst hA; (try simp only [natCast_eq] at *); (try (simp only [Ar.real, NV.val, Int.ofNat_eq_natCast, Int.toNat_natCast])); first | done | omega | decide | exact inR64 (by omega) (by omega) | (refine ⟨?_, ?_⟩ <;> first | omega | decide | exact inR64 (by omega) (by omega))))
  · (try cbv) <;> (repeat' (first | exact trivial | exact rfl | apply And.intro | exact fun _ => rfl | (intro _ hle; first | refine chunk_le hA rfl hle rfl ?_ | refine cat_le hA ?_ | refine upd_le hA ?_ | (try cbv))))
  cbv
  refine DF.fin (by kernel_rfl) (by kernel_rfl) ?_
  cbv
  refine DS.runK hA hT (by rw [hP]; exact P_mixed) 1 rfl ?_
  cbv
  refine DF.fin (by kernel_rfl) (by kernel_rfl) ?_
  cbv
  refine Fin.le hA 3 [] (.tup [.lit .i64 0, .lit .i64 6]) (DHd N d1) 3 rfl rfl rfl ?_ ?_ (by rw [← hK]; exact ⟨rfl, rfl, rfl⟩)
  · (try cbv) <;> (repeat' (first | exact trivial | exact rfl | apply And.intro | exact fun _ => rfl | (intro _ hle; first | refine chunk_le hA rfl hle rfl ?_ | refine cat_le hA ?_ | refine upd_le hA ?_ | (try cbv))))
  · (try cbv) <;> (repeat' (first | exact trivial | exact rfl | apply And.intro | exact fun _ => rfl | (intro _ hle; first | refine chunk_le hA rfl hle rfl ?_ | refine cat_le hA ?_ | refine upd_le hA ?_ | (try cbv))))

theorem lay_wipe (hP : P = Tryd.prog) (hfr : ∀ i, fr i = ((four i).toNat : Int)) (hN : N = 64 * s) (hs : 4 ≤ s ∧ s ≤ 4096) (hh : h = (s - 2) / 2) (hg : gen ≤ 1099511627777) (hfi : fi = 2 + gen % 2 * h) (hen : en = fi + h) (hb : ∀ i, i < nb → 0 ≤ b i ∧ b i ≤ 255) (hn : n = nb + 4) (hn6 : n ≤ 65536) (hnh : needN n ≤ h) (hf : ∀ i, i < n → f i = sealF nb b i) (hes : en ≤ s) (ha1 : a1 = fi + needN n) (ok : DkOk s d) (hk : putK d n = needN n) (hd1 : d1 = putD d fi n f) (hw : wipeD d1 a1 en = (none, d2)) (o1 : ¬ offD d1) (k1 : 0 ≤ d1.ca ∧ d1.ca ≤ 9223372036854775807) :
    FnTr P (Gf fr) 57 [.ptr 0 0, .int .i64 (gen : Int), By nb b] (DHd N d) 3 (Gives (.tup [.lit .i64 0, .lit .i64 6]) (DHd N d2) 3) := by
  have c1 := first_fn (P := P) (G := Gf fr) (S := d.S) (L := d.L) (ar := d.ar) (ca := d.ca) hP hN hs hh hg hfi
  have c2 := end_fn (P := P) (G := Gf fr) (S := d.S) (L := d.L) (ar := d.ar) (ca := d.ca) hP hN hs hh hg hfi hen
  have c3 := seal2_fn (P := P) hP hfr hb (by omega) hn hf
  have c2' := end_fn (P := P) (G := Gf fr) (S := d1.S) (L := d1.L) (ar := d1.ar) (ca := d1.ca) hP hN hs hh hg hfi hen
  have c4 := put_all (P := P) (G := Gf fr) (f := f) hP hN hs.2 ok ⟨by omega, hes⟩ hn6 hk hd1 (at' := (a1 : Int)) (by rw [ha1])
  have c5 := wipe_part (P := P) (G := Gf fr) hP hN hs.2 k1 ⟨by omega, hes⟩ o1 hw
  clear hfr hh hfi hen hb hn hn6 hnh hf hes ha1 ok hN hs hk hd1 hw o1 k1
  have hT : T.Ok P := hP ▸ T_ok
  refine FnTr.introD (fn := Tryd.f57) (fg := Tryd.f86) (g := 86) (by rw [hP]; rfl) rfl rfl (by rw [hP]; rfl) rfl rfl rfl rfl rfl rfl rfl rfl rfl hT ?_
  generalize hA : Ar.real = A
  generalize hK : Gives _ _ _ = K
  cbv
  refine CS.le hA (c1) [(0, 0), (1, 1), (2, 2)] rfl rfl rfl ?_ ?_ ?_
  · (try cbv) <;> (repeat' (first | exact trivial | exact rfl | apply And.intro | exact fun _ => rfl | (intro _ hle; first | refine chunk_le hA rfl hle rfl ?_ | refine cat_le hA ?_ | refine upd_le hA ?_ | (try cbv)))) <;> (try (subst hA; (try simp only [natCast_eq] at *); (try (simp only [Ar.real, NV.val, Int.ofNat_eq_natCast, Int.toNat_natCast])); first | done | omega | decide | exact inR64 (by omega) (by omega) | (refine ⟨?_, ?_⟩ <;> first | omega | decide | exact inR64 (by omega) (by omega))))
  · (try cbv) <;> (repeat' (first | exact trivial | exact rfl | apply And.intro | exact fun _ => rfl | (intro _ hle; first | refine chunk_le hA rfl hle rfl ?_ | refine cat_le hA ?_ | refine upd_le hA ?_ | (try cbv))))
  cbv
  refine CS.le hA (c2) [(0, 0), (1, 1), (2, 2)] rfl rfl rfl ?_ ?_ ?_
  · (try cbv) <;> (repeat' (first | exact trivial | exact rfl | apply And.intro | exact fun _ => rfl | (intro _ hle; first | refine chunk_le hA rfl hle rfl ?_ | refine cat_le hA ?_ | refine upd_le hA ?_ | (try cbv)))) <;> (try (subst hA; (try simp only [natCast_eq] at *); (try (simp only [Ar.real, NV.val, Int.ofNat_eq_natCast, Int.toNat_natCast])); first | done | omega | decide | exact inR64 (by omega) (by omega) | (refine ⟨?_, ?_⟩ <;> first | omega | decide | exact inR64 (by omega) (by omega))))
  · (try cbv) <;> (repeat' (first | exact trivial | exact rfl | apply And.intro | exact fun _ => rfl | (intro _ hle; first | refine chunk_le hA rfl hle rfl ?_ | refine cat_le hA ?_ | refine upd_le hA ?_ | (try cbv))))
  cbv
  refine CS.le hA (c3) [] rfl rfl rfl ?_ ?_ ?_
  · (try cbv) <;> (repeat' (first | exact trivial | exact rfl | apply And.intro | exact fun _ => rfl | (intro _ hle; first | refine chunk_le hA rfl hle rfl ?_ | refine cat_le hA ?_ | refine upd_le hA ?_ | (try cbv)))) <;> (try (subst hA; (try simp only [natCast_eq] at *); (try (simp only [Ar.real, NV.val, Int.ofNat_eq_natCast, Int.toNat_natCast])); first | done | omega | decide | exact inR64 (by omega) (by omega) | (refine ⟨?_, ?_⟩ <;> first | omega | decide | exact inR64 (by omega) (by omega))))
  · (try cbv) <;> (repeat' (first | exact trivial | exact rfl | apply And.intro | exact fun _ => rfl | (intro _ hle; first | refine chunk_le hA rfl hle rfl ?_ | refine cat_le hA ?_ | refine upd_le hA ?_ | (try cbv))))
  cbv
  refine CS.le hA (c4) [(0, 0), (1, 1), (2, 2)] rfl rfl rfl ?_ ?_ ?_
  · (try cbv) <;> (repeat' (first | exact trivial | exact rfl | apply And.intro | exact fun _ => rfl | (intro _ hle; first | refine chunk_le hA rfl hle rfl ?_ | refine cat_le hA ?_ | refine upd_le hA ?_ | (try cbv)))) <;> (try (subst hA; (try simp only [natCast_eq] at *); (try (simp only [Ar.real, NV.val, Int.ofNat_eq_natCast, Int.toNat_natCast])); first | done | omega | decide | exact inR64 (by omega) (by omega) | (refine ⟨?_, ?_⟩ <;> first | omega | decide | exact inR64 (by omega) (by omega))))
  · (try cbv) <;> (repeat' (first | exact trivial | exact rfl | apply And.intro | exact fun _ => rfl | (intro _ hle; first | refine chunk_le hA rfl hle rfl ?_ | refine cat_le hA ?_ | refine upd_le hA ?_ | (try cbv))))
  cbv
  refine DS.runK hA hT (by rw [hP]; exact P_mixed) 12 rfl ?_
  cbv
  refine CD.pass hA (c2') [(0, 0), (1, 1), (2, 2)] [] rfl ⟨rfl, rfl, rfl, rfl, ?_, ?_⟩ rfl (.inl rfl) ?_
  · (try cbv) <;> (repeat' (first | exact trivial | exact rfl | apply And.intro | exact fun _ => rfl | (intro _ hle; first | refine chunk_le hA rfl hle rfl ?_ | refine cat_le hA ?_ | refine upd_le hA ?_ | (try cbv)))) <;> (try (subst hA; (try simp only [natCast_eq] at *); (try (simp only [Ar.real, NV.val, Int.ofNat_eq_natCast, Int.toNat_natCast])); first | done | omega | decide | exact inR64 (by omega) (by omega) | (refine ⟨?_, ?_⟩ <;> first | omega | decide | exact inR64 (by omega) (by omega))))
  · (try cbv) <;> (repeat' (first | exact trivial | exact rfl | apply And.intro | exact fun _ => rfl | (intro _ hle; first | refine chunk_le hA rfl hle rfl ?_ | refine cat_le hA ?_ | refine upd_le hA ?_ | (try cbv))))
  cbv
  refine CD.pass hA (c5) [(0, 0), (1, 1), (2, 2)] [] rfl ⟨rfl, rfl, rfl, rfl, ?_, ?_⟩ rfl (.inl rfl) ?_
  · (try cbv) <;> (repeat' (first | exact trivial | exact rfl | apply And.intro | exact fun _ => rfl | (intro _ hle; first | refine chunk_le hA rfl hle rfl ?_ | refine cat_le hA ?_ | refine upd_le hA ?_ | (try cbv)))) <;> (try (subst hA; (try simp only [natCast_eq] at *); (try (simp only [Ar.real, NV.val, Int.ofNat_eq_natCast, Int.toNat_natCast])); first | done | omega | decide | exact inR64 (by omega) (by omega) | (refine ⟨?_, ?_⟩ <;> first | omega | decide | exact inR64 (by omega) (by omega))))
  · (try cbv) <;> (repeat' (first | exact trivial | exact rfl | apply And.intro | exact fun _ => rfl | (intro _ hle; first | refine chunk_le hA rfl hle rfl ?_ | refine cat_le hA ?_ | refine upd_le hA ?_ | (try cbv))))
  cbv
  refine DF.fin (by kernel_rfl) (by kernel_rfl) ?_
  cbv
  refine DS.runK hA hT (by rw [hP]; exact P_mixed) 1 rfl ?_
  cbv
  refine DF.fin (by kernel_rfl) (by kernel_rfl) ?_
  cbv
  refine Fin.le hA 3 [] (.tup [.lit .i64 0, .lit .i64 6]) (DHd N d2) 3 rfl rfl rfl ?_ ?_ (by rw [← hK]; exact ⟨rfl, rfl, rfl⟩)
  · (try cbv) <;> (repeat' (first | exact trivial | exact rfl | apply And.intro | exact fun _ => rfl | (intro _ hle; first | refine chunk_le hA rfl hle rfl ?_ | refine cat_le hA ?_ | refine upd_le hA ?_ | (try cbv))))
  · (try cbv) <;> (repeat' (first | exact trivial | exact rfl | apply And.intro | exact fun _ => rfl | (intro _ hle; first | refine chunk_le hA rfl hle rfl ?_ | refine cat_le hA ?_ | refine upd_le hA ?_ | (try cbv))))

theorem lay_flush (hP : P = Tryd.prog) (hfr : ∀ i, fr i = ((four i).toNat : Int)) (hN : N = 64 * s) (hs : 4 ≤ s ∧ s ≤ 4096) (hh : h = (s - 2) / 2) (hg : gen ≤ 1099511627777) (hfi : fi = 2 + gen % 2 * h) (hen : en = fi + h) (hb : ∀ i, i < nb → 0 ≤ b i ∧ b i ≤ 255) (hn : n = nb + 4) (hn6 : n ≤ 65536) (hnh : needN n ≤ h) (hf : ∀ i, i < n → f i = sealF nb b i) (hes : en ≤ s) (ha1 : a1 = fi + needN n) (ok : DkOk s d) (hk : putK d n = needN n) (hd1 : d1 = putD d fi n f) (hw : wipeD d1 a1 en = (some m, d2)) (o1 : ¬ offD d1) (k1 : 0 ≤ d1.ca ∧ d1.ca ≤ 9223372036854775807) (o2 : offD d2) :
    FnTr P (Gf fr) 57 [.ptr 0 0, .int .i64 (gen : Int), By nb b] (DHd N d) 3 (Gives (.tup [.lit .i64 0, .lit .i64 6]) (DHd N d2) 3) := by
  have c1 := first_fn (P := P) (G := Gf fr) (S := d.S) (L := d.L) (ar := d.ar) (ca := d.ca) hP hN hs hh hg hfi
  have c2 := end_fn (P := P) (G := Gf fr) (S := d.S) (L := d.L) (ar := d.ar) (ca := d.ca) hP hN hs hh hg hfi hen
  have c3 := seal2_fn (P := P) hP hfr hb (by omega) hn hf
  have c2' := end_fn (P := P) (G := Gf fr) (S := d1.S) (L := d1.L) (ar := d1.ar) (ca := d1.ca) hP hN hs hh hg hfi hen
  have c4 := put_all (P := P) (G := Gf fr) (f := f) hP hN hs.2 ok ⟨by omega, hes⟩ hn6 hk hd1 (at' := (a1 : Int)) (by rw [ha1])
  have c5 := wipe_all (P := P) (G := Gf fr) hP hN hs.2 k1 ⟨by omega, hes⟩ o1 hw
  have c6 := flush_off (P := P) (G := Gf fr) (N := N) (S := d2.S) (L := d2.L) hP o2
  clear hfr hh hfi hen hb hn hn6 hnh hf hes ha1 ok hN hs hk hd1 hw o1 k1 o2
  have hT : T.Ok P := hP ▸ T_ok
  refine FnTr.introD (fn := Tryd.f57) (fg := Tryd.f86) (g := 86) (by rw [hP]; rfl) rfl rfl (by rw [hP]; rfl) rfl rfl rfl rfl rfl rfl rfl rfl rfl hT ?_
  generalize hA : Ar.real = A
  generalize hK : Gives _ _ _ = K
  cbv
  refine CS.le hA (c1) [(0, 0), (1, 1), (2, 2)] rfl rfl rfl ?_ ?_ ?_
  · (try cbv) <;> (repeat' (first | exact trivial | exact rfl | apply And.intro | exact fun _ => rfl | (intro _ hle; first | refine chunk_le hA rfl hle rfl ?_ | refine cat_le hA ?_ | refine upd_le hA ?_ | (try cbv)))) <;> (try (subst hA; (try simp only [natCast_eq] at *); (try (simp only [Ar.real, NV.val, Int.ofNat_eq_natCast, Int.toNat_natCast])); first | done | omega | decide | exact inR64 (by omega) (by omega) | (refine ⟨?_, ?_⟩ <;> first | omega | decide | exact inR64 (by omega) (by omega))))
  · (try cbv) <;> (repeat' (first | exact trivial | exact rfl | apply And.intro | exact fun _ => rfl | (intro _ hle; first | refine chunk_le hA rfl hle rfl ?_ | refine cat_le hA ?_ | refine upd_le hA ?_ | (try cbv))))
  cbv
  refine CS.le hA (c2) [(0, 0), (1, 1), (2, 2)] rfl rfl rfl ?_ ?_ ?_
  · (try cbv) <;> (repeat' (first | exact trivial | exact rfl | apply And.intro | exact fun _ => rfl | (intro _ hle; first | refine chunk_le hA rfl hle rfl ?_ | refine cat_le hA ?_ | refine upd_le hA ?_ | (try cbv)))) <;> (try (subst hA; (try simp only [natCast_eq] at *); (try (simp only [Ar.real, NV.val, Int.ofNat_eq_natCast, Int.toNat_natCast])); first | done | omega | decide | exact inR64 (by omega) (by omega) | (refine ⟨?_, ?_⟩ <;> first | omega | decide | exact inR64 (by omega) (by omega))))
  · (try cbv) <;> (repeat' (first | exact trivial | exact rfl | apply And.intro | exact fun _ => rfl | (intro _ hle; first | refine chunk_le hA rfl hle rfl ?_ | refine cat_le hA ?_ | refine upd_le hA ?_ | (try cbv))))
  cbv
  refine CS.le hA (c3) [] rfl rfl rfl ?_ ?_ ?_
  · (try cbv) <;> (repeat' (first | exact trivial | exact rfl | apply And.intro | exact fun _ => rfl | (intro _ hle; first | refine chunk_le hA rfl hle rfl ?_ | refine cat_le hA ?_ | refine upd_le hA ?_ | (try cbv)))) <;> (try (subst hA; (try simp only [natCast_eq] at *); (try (simp only [Ar.real, NV.val, Int.ofNat_eq_natCast, Int.toNat_natCast])); first | done | omega | decide | exact inR64 (by omega) (by omega) | (refine ⟨?_, ?_⟩ <;> first | omega | decide | exact inR64 (by omega) (by omega))))
  · (try cbv) <;> (repeat' (first | exact trivial | exact rfl | apply And.intro | exact fun _ => rfl | (intro _ hle; first | refine chunk_le hA rfl hle rfl ?_ | refine cat_le hA ?_ | refine upd_le hA ?_ | (try cbv))))
  cbv
  refine CS.le hA (c4) [(0, 0), (1, 1), (2, 2)] rfl rfl rfl ?_ ?_ ?_
  · (try cbv) <;> (repeat' (first | exact trivial | exact rfl | apply And.intro | exact fun _ => rfl | (intro _ hle; first | refine chunk_le hA rfl hle rfl ?_ | refine cat_le hA ?_ | refine upd_le hA ?_ | (try cbv)))) <;> (try (subst hA; (try simp only [natCast_eq] at *); (try (simp only [Ar.real, NV.val, Int.ofNat_eq_natCast, Int.toNat_natCast])); first | done | omega | decide | exact inR64 (by omega) (by omega) | (refine ⟨?_, ?_⟩ <;> first | omega | decide | exact inR64 (by omega) (by omega))))
  · (try cbv) <;> (repeat' (first | exact trivial | exact rfl | apply And.intro | exact fun _ => rfl | (intro _ hle; first | refine chunk_le hA rfl hle rfl ?_ | refine cat_le hA ?_ | refine upd_le hA ?_ | (try cbv))))
  cbv
  refine DS.runK hA hT (by rw [hP]; exact P_mixed) 12 rfl ?_
  cbv
  refine CD.pass hA (c2') [(0, 0), (1, 1), (2, 2)] [] rfl ⟨rfl, rfl, rfl, rfl, ?_, ?_⟩ rfl (.inl rfl) ?_
  · (try cbv) <;> (repeat' (first | exact trivial | exact rfl | apply And.intro | exact fun _ => rfl | (intro _ hle; first | refine chunk_le hA rfl hle rfl ?_ | refine cat_le hA ?_ | refine upd_le hA ?_ | (try cbv)))) <;> (try (subst hA; (try simp only [natCast_eq] at *); (try (simp only [Ar.real, NV.val, Int.ofNat_eq_natCast, Int.toNat_natCast])); first | done | omega | decide | exact inR64 (by omega) (by omega) | (refine ⟨?_, ?_⟩ <;> first | omega | decide | exact inR64 (by omega) (by omega))))
  · (try cbv) <;> (repeat' (first | exact trivial | exact rfl | apply And.intro | exact fun _ => rfl | (intro _ hle; first | refine chunk_le hA rfl hle rfl ?_ | refine cat_le hA ?_ | refine upd_le hA ?_ | (try cbv))))
  cbv
  refine CD.pass hA (c5) [(0, 0), (1, 1), (2, 2)] [] rfl ⟨rfl, rfl, rfl, rfl, ?_, ?_⟩ rfl (.inl rfl) ?_
  · (try cbv) <;> (repeat' (first | exact trivial | exact rfl | apply And.intro | exact fun _ => rfl | (intro _ hle; first | refine chunk_le hA rfl hle rfl ?_ | refine cat_le hA ?_ | refine upd_le hA ?_ | (try cbv)))) <;> (try (subst hA; (try simp only [natCast_eq] at *); (try (simp only [Ar.real, NV.val, Int.ofNat_eq_natCast, Int.toNat_natCast])); first | done | omega | decide | exact inR64 (by omega) (by omega) | (refine ⟨?_, ?_⟩ <;> first | omega | decide | exact inR64 (by omega) (by omega))))
  · (try cbv) <;> (repeat' (first | exact trivial | exact rfl | apply And.intro | exact fun _ => rfl | (intro _ hle; first | refine chunk_le hA rfl hle rfl ?_ | refine cat_le hA ?_ | refine upd_le hA ?_ | (try cbv))))
  cbv
  refine DF.fin (by kernel_rfl) (by kernel_rfl) ?_
  cbv
  refine CS.le hA (c6) [(0, 0), (1, 1), (2, 2)] rfl rfl rfl ?_ ?_ ?_
  · (try cbv) <;> (repeat' (first | exact trivial | exact rfl | apply And.intro | exact fun _ => rfl | (intro _ hle; first | refine chunk_le hA rfl hle rfl ?_ | refine cat_le hA ?_ | refine upd_le hA ?_ | (try cbv)))) <;> (try (subst hA; (try simp only [natCast_eq] at *); (try (simp only [Ar.real, NV.val, Int.ofNat_eq_natCast, Int.toNat_natCast])); first | done | omega | decide | exact inR64 (by omega) (by omega) | (refine ⟨?_, ?_⟩ <;> first | omega | decide | exact inR64 (by omega) (by omega))))
  · (try cbv) <;> (repeat' (first | exact trivial | exact rfl | apply And.intro | exact fun _ => rfl | (intro _ hle; first | refine chunk_le hA rfl hle rfl ?_ | refine cat_le hA ?_ | refine upd_le hA ?_ | (try cbv))))
  cbv
  refine DS.runK hA hT (by rw [hP]; exact P_mixed) 1 rfl ?_
  cbv
  refine DF.fin (by kernel_rfl) (by kernel_rfl) ?_
  cbv
  refine Fin.le hA 3 [] (.tup [.lit .i64 0, .lit .i64 6]) (DHd N d2) 3 rfl rfl rfl ?_ ?_ (by rw [← hK]; exact ⟨rfl, rfl, rfl⟩)
  · (try cbv) <;> (repeat' (first | exact trivial | exact rfl | apply And.intro | exact fun _ => rfl | (intro _ hle; first | refine chunk_le hA rfl hle rfl ?_ | refine cat_le hA ?_ | refine upd_le hA ?_ | (try cbv))))
  · (try cbv) <;> (repeat' (first | exact trivial | exact rfl | apply And.intro | exact fun _ => rfl | (intro _ hle; first | refine chunk_le hA rfl hle rfl ?_ | refine cat_le hA ?_ | refine upd_le hA ?_ | (try cbv))))

theorem lay_write (hP : P = Tryd.prog) (hfr : ∀ i, fr i = ((four i).toNat : Int)) (hN : N = 64 * s) (hs : 4 ≤ s ∧ s ≤ 4096) (hh : h = (s - 2) / 2) (hg : gen ≤ 1099511627777) (hfi : fi = 2 + gen % 2 * h) (hen : en = fi + h) (hb : ∀ i, i < nb → 0 ≤ b i ∧ b i ≤ 255) (hn : n = nb + 4) (hn6 : n ≤ 65536) (hnh : needN n ≤ h) (hf : ∀ i, i < n → f i = sealF nb b i) (hes : en ≤ s) (ha1 : a1 = fi + needN n) (ok : DkOk s d) (hk : putK d n = needN n) (hd1 : d1 = putD d fi n f) (hw : wipeD d1 a1 en = (some m, d2)) (o1 : ¬ offD d1) (k1 : 0 ≤ d1.ca ∧ d1.ca ≤ 9223372036854775807) (o2 : ¬ offD d2) (ok2 : DkOk s d2) (hd3 : d3 = flushD d2) (hhd : hd = headB gen) (o3 : offD d3) :
    FnTr P (Gf fr) 57 [.ptr 0 0, .int .i64 (gen : Int), By nb b] (DHd N d) 3 (Gives (.tup [.lit .i64 0, .lit .i64 6]) (DHd N d3) 3) := by
  have c1 := first_fn (P := P) (G := Gf fr) (S := d.S) (L := d.L) (ar := d.ar) (ca := d.ca) hP hN hs hh hg hfi
  have c2 := end_fn (P := P) (G := Gf fr) (S := d.S) (L := d.L) (ar := d.ar) (ca := d.ca) hP hN hs hh hg hfi hen
  have c3 := seal2_fn (P := P) hP hfr hb (by omega) hn hf
  have c2' := end_fn (P := P) (G := Gf fr) (S := d1.S) (L := d1.L) (ar := d1.ar) (ca := d1.ca) hP hN hs hh hg hfi hen
  have c4 := put_all (P := P) (G := Gf fr) (f := f) hP hN hs.2 ok ⟨by omega, hes⟩ hn6 hk hd1 (at' := (a1 : Int)) (by rw [ha1])
  have c5 := wipe_all (P := P) (G := Gf fr) hP hN hs.2 k1 ⟨by omega, hes⟩ o1 hw
  have c6 := flush_all (P := P) (G := Gf fr) hP hN ⟨by omega, hs.2⟩ ok2 o2 hd3
  have c7 := head_fn (P := P) (G := Gf fr) (g := gen) (f := hd) hP hg (fun i _ => by rw [hhd])
  have c8 := write_off (P := P) (G := Gf fr) (N := N) (n := 64) (S := d3.S) (L := d3.L) (f := hd) (i := ((gen % 2 : Nat) : Int)) hP o3
  clear hfr hh hfi hen hb hn hn6 hnh hf hes ha1 ok hN hs hk hd1 hw o1 k1 o2 ok2 hd3 hhd o3
  have hT : T.Ok P := hP ▸ T_ok
  refine FnTr.introD (fn := Tryd.f57) (fg := Tryd.f86) (g := 86) (by rw [hP]; rfl) rfl rfl (by rw [hP]; rfl) rfl rfl rfl rfl rfl rfl rfl rfl rfl hT ?_
  generalize hA : Ar.real = A
  generalize hK : Gives _ _ _ = K
  cbv
  refine CS.le hA (c1) [(0, 0), (1, 1), (2, 2)] rfl rfl rfl ?_ ?_ ?_
  · (try cbv) <;> (repeat' (first | exact trivial | exact rfl | apply And.intro | exact fun _ => rfl | (intro _ hle; first | refine chunk_le hA rfl hle rfl ?_ | refine cat_le hA ?_ | refine upd_le hA ?_ | (try cbv)))) <;> (try (subst hA; (try simp only [natCast_eq] at *); (try (simp only [Ar.real, NV.val, Int.ofNat_eq_natCast, Int.toNat_natCast])); first | done | omega | decide | exact inR64 (by omega) (by omega) | (refine ⟨?_, ?_⟩ <;> first | omega | decide | exact inR64 (by omega) (by omega))))
  · (try cbv) <;> (repeat' (first | exact trivial | exact rfl | apply And.intro | exact fun _ => rfl | (intro _ hle; first | refine chunk_le hA rfl hle rfl ?_ | refine cat_le hA ?_ | refine upd_le hA ?_ | (try cbv))))
  cbv
  refine CS.le hA (c2) [(0, 0), (1, 1), (2, 2)] rfl rfl rfl ?_ ?_ ?_
  · (try cbv) <;> (repeat' (first | exact trivial | exact rfl | apply And.intro | exact fun _ => rfl | (intro _ hle; first | refine chunk_le hA rfl hle rfl ?_ | refine cat_le hA ?_ | refine upd_le hA ?_ | (try cbv)))) <;> (try (subst hA; (try simp only [natCast_eq] at *); (try (simp only [Ar.real, NV.val, Int.ofNat_eq_natCast, Int.toNat_natCast])); first | done | omega | decide | exact inR64 (by omega) (by omega) | (refine ⟨?_, ?_⟩ <;> first | omega | decide | exact inR64 (by omega) (by omega))))
  · (try cbv) <;> (repeat' (first | exact trivial | exact rfl | apply And.intro | exact fun _ => rfl | (intro _ hle; first | refine chunk_le hA rfl hle rfl ?_ | refine cat_le hA ?_ | refine upd_le hA ?_ | (try cbv))))
  cbv
  refine CS.le hA (c3) [] rfl rfl rfl ?_ ?_ ?_
  · (try cbv) <;> (repeat' (first | exact trivial | exact rfl | apply And.intro | exact fun _ => rfl | (intro _ hle; first | refine chunk_le hA rfl hle rfl ?_ | refine cat_le hA ?_ | refine upd_le hA ?_ | (try cbv)))) <;> (try (subst hA; (try simp only [natCast_eq] at *); (try (simp only [Ar.real, NV.val, Int.ofNat_eq_natCast, Int.toNat_natCast])); first | done | omega | decide | exact inR64 (by omega) (by omega) | (refine ⟨?_, ?_⟩ <;> first | omega | decide | exact inR64 (by omega) (by omega))))
  · (try cbv) <;> (repeat' (first | exact trivial | exact rfl | apply And.intro | exact fun _ => rfl | (intro _ hle; first | refine chunk_le hA rfl hle rfl ?_ | refine cat_le hA ?_ | refine upd_le hA ?_ | (try cbv))))
  cbv
  refine CS.le hA (c4) [(0, 0), (1, 1), (2, 2)] rfl rfl rfl ?_ ?_ ?_
  · (try cbv) <;> (repeat' (first | exact trivial | exact rfl | apply And.intro | exact fun _ => rfl | (intro _ hle; first | refine chunk_le hA rfl hle rfl ?_ | refine cat_le hA ?_ | refine upd_le hA ?_ | (try cbv)))) <;> (try (subst hA; (try simp only [natCast_eq] at *); (try (simp only [Ar.real, NV.val, Int.ofNat_eq_natCast, Int.toNat_natCast])); first | done | omega | decide | exact inR64 (by omega) (by omega) | (refine ⟨?_, ?_⟩ <;> first | omega | decide | exact inR64 (by omega) (by omega))))
  · (try cbv) <;> (repeat' (first | exact trivial | exact rfl | apply And.intro | exact fun _ => rfl | (intro _ hle; first | refine chunk_le hA rfl hle rfl ?_ | refine cat_le hA ?_ | refine upd_le hA ?_ | (try cbv))))
  cbv
  refine DS.runK hA hT (by rw [hP]; exact P_mixed) 12 rfl ?_
  cbv
  refine CD.pass hA (c2') [(0, 0), (1, 1), (2, 2)] [] rfl ⟨rfl, rfl, rfl, rfl, ?_, ?_⟩ rfl (.inl rfl) ?_
  · (try cbv) <;> (repeat' (first | exact trivial | exact rfl | apply And.intro | exact fun _ => rfl | (intro _ hle; first | refine chunk_le hA rfl hle rfl ?_ | refine cat_le hA ?_ | refine upd_le hA ?_ | (try cbv)))) <;> (try (subst hA; (try simp only [natCast_eq] at *); (try (simp only [Ar.real, NV.val, Int.ofNat_eq_natCast, Int.toNat_natCast])); first | done | omega | decide | exact inR64 (by omega) (by omega) | (refine ⟨?_, ?_⟩ <;> first | omega | decide | exact inR64 (by omega) (by omega))))
  · (try cbv) <;> (repeat' (first | exact trivial | exact rfl | apply And.intro | exact fun _ => rfl | (intro _ hle; first | refine chunk_le hA rfl hle rfl ?_ | refine cat_le hA ?_ | refine upd_le hA ?_ | (try cbv))))
  cbv
  refine CD.pass hA (c5) [(0, 0), (1, 1), (2, 2)] [] rfl ⟨rfl, rfl, rfl, rfl, ?_, ?_⟩ rfl (.inl rfl) ?_
  · (try cbv) <;> (repeat' (first | exact trivial | exact rfl | apply And.intro | exact fun _ => rfl | (intro _ hle; first | refine chunk_le hA rfl hle rfl ?_ | refine cat_le hA ?_ | refine upd_le hA ?_ | (try cbv)))) <;> (try (subst hA; (try simp only [natCast_eq] at *); (try (simp only [Ar.real, NV.val, Int.ofNat_eq_natCast, Int.toNat_natCast])); first | done | omega | decide | exact inR64 (by omega) (by omega) | (refine ⟨?_, ?_⟩ <;> first | omega | decide | exact inR64 (by omega) (by omega))))
  · (try cbv) <;> (repeat' (first | exact trivial | exact rfl | apply And.intro | exact fun _ => rfl | (intro _ hle; first | refine chunk_le hA rfl hle rfl ?_ | refine cat_le hA ?_ | refine upd_le hA ?_ | (try cbv))))
  cbv
  refine DF.fin (by kernel_rfl) (by kernel_rfl) ?_
  cbv
  refine CS.le hA (c6) [(0, 0), (1, 1), (2, 2)] rfl rfl rfl ?_ ?_ ?_
  · (try cbv) <;> (repeat' (first | exact trivial | exact rfl | apply And.intro | exact fun _ => rfl | (intro _ hle; first | refine chunk_le hA rfl hle rfl ?_ | refine cat_le hA ?_ | refine upd_le hA ?_ | (try cbv)))) <;> (try (subst hA; (try simp only [natCast_eq] at *); (try (simp only [Ar.real, NV.val, Int.ofNat_eq_natCast, Int.toNat_natCast])); first | done | omega | decide | exact inR64 (by omega) (by omega) | (refine ⟨?_, ?_⟩ <;> first | omega | decide | exact inR64 (by omega) (by omega))))
  · (try cbv) <;> (repeat' (first | exact trivial | exact rfl | apply And.intro | exact fun _ => rfl | (intro _ hle; first | refine chunk_le hA rfl hle rfl ?_ | refine cat_le hA ?_ | refine upd_le hA ?_ | (try cbv))))
  cbv
  have kr : A.rem (Int.ofNat gen) 2 = ((gen % 2 : Nat) : Int) := by subst hA; rfl
  refine ⟨(by (subst hA; (try simp only [natCast_eq] at *); (try (simp only [Ar.real, NV.val, Int.ofNat_eq_natCast, Int.toNat_natCast])); first | done | omega | decide | exact inR64 (by omega) (by omega) | (refine ⟨?_, ?_⟩ <;> first | omega | decide | exact inR64 (by omega) (by omega)))), ?_⟩
  refine CS.le hA (c7) [] rfl rfl rfl ?_ ?_ ?_
  · (try cbv) <;> (repeat' (first | exact trivial | exact rfl | apply And.intro | exact fun _ => rfl | (intro _ hle; first | refine chunk_le hA rfl hle rfl ?_ | refine cat_le hA ?_ | refine upd_le hA ?_ | (try cbv)))) <;> (try (subst hA; (try simp only [natCast_eq] at *); (try (simp only [Ar.real, NV.val, Int.ofNat_eq_natCast, Int.toNat_natCast])); first | done | omega | decide | exact inR64 (by omega) (by omega) | (refine ⟨?_, ?_⟩ <;> first | omega | decide | exact inR64 (by omega) (by omega))))
  · (try cbv) <;> (repeat' (first | exact trivial | exact rfl | apply And.intro | exact fun _ => rfl | (intro _ hle; first | refine chunk_le hA rfl hle rfl ?_ | refine cat_le hA ?_ | refine upd_le hA ?_ | (try cbv))))
  cbv
  refine CS.le hA c8 [(0, 0), (1, 1), (2, 2)] rfl rfl rfl ?_ ?_ ?_
  · (try cbv) <;> (repeat' (first | exact trivial | exact rfl | apply And.intro | exact fun _ => rfl | (intro _ hle; first | refine chunk_le hA rfl hle rfl ?_ | refine cat_le hA ?_ | refine upd_le hA ?_ | (try cbv))))
    all_goals first | exact kr | (subst hA; rfl)
  · (try cbv) <;> (repeat' (first | exact trivial | exact rfl | apply And.intro | exact fun _ => rfl | (intro _ hle; first | refine chunk_le hA rfl hle rfl ?_ | refine cat_le hA ?_ | refine upd_le hA ?_ | (try cbv))))
  cbv
  refine DS.runK hA hT (by rw [hP]; exact P_mixed) 1 rfl ?_
  cbv
  refine DF.fin (by kernel_rfl) (by kernel_rfl) ?_
  cbv
  refine Fin.le hA 3 [] (.tup [.lit .i64 0, .lit .i64 6]) (DHd N d3) 3 rfl rfl rfl ?_ ?_ (by rw [← hK]; exact ⟨rfl, rfl, rfl⟩)
  · (try cbv) <;> (repeat' (first | exact trivial | exact rfl | apply And.intro | exact fun _ => rfl | (intro _ hle; first | refine chunk_le hA rfl hle rfl ?_ | refine cat_le hA ?_ | refine upd_le hA ?_ | (try cbv))))
  · (try cbv) <;> (repeat' (first | exact trivial | exact rfl | apply And.intro | exact fun _ => rfl | (intro _ hle; first | refine chunk_le hA rfl hle rfl ?_ | refine cat_le hA ?_ | refine upd_le hA ?_ | (try cbv))))

theorem lay_again (hP : P = Tryd.prog) (hfr : ∀ i, fr i = ((four i).toNat : Int)) (hN : N = 64 * s) (hs : 4 ≤ s ∧ s ≤ 4096) (hh : h = (s - 2) / 2) (hg : gen ≤ 1099511627777) (hfi : fi = 2 + gen % 2 * h) (hen : en = fi + h) (hb : ∀ i, i < nb → 0 ≤ b i ∧ b i ≤ 255) (hn : n = nb + 4) (hn6 : n ≤ 65536) (hnh : needN n ≤ h) (hf : ∀ i, i < n → f i = sealF nb b i) (hes : en ≤ s) (ha1 : a1 = fi + needN n) (ok : DkOk s d) (hk : putK d n = needN n) (hd1 : d1 = putD d fi n f) (hw : wipeD d1 a1 en = (some m, d2)) (o1 : ¬ offD d1) (k1 : 0 ≤ d1.ca ∧ d1.ca ≤ 9223372036854775807) (o2 : ¬ offD d2) (ok2 : DkOk s d2) (hd3 : d3 = flushD d2) (hhd : hd = headB gen) (o3 : ¬ offD d3) (ok3 : DkOk s d3) (hd4 : d4 = writeD d3 (gen % 2) hd) (o4 : offD d4) :
    FnTr P (Gf fr) 57 [.ptr 0 0, .int .i64 (gen : Int), By nb b] (DHd N d) 3 (Gives (.tup [.lit .i64 0, .lit .i64 6]) (DHd N d4) 3) := by
  have c1 := first_fn (P := P) (G := Gf fr) (S := d.S) (L := d.L) (ar := d.ar) (ca := d.ca) hP hN hs hh hg hfi
  have c2 := end_fn (P := P) (G := Gf fr) (S := d.S) (L := d.L) (ar := d.ar) (ca := d.ca) hP hN hs hh hg hfi hen
  have c3 := seal2_fn (P := P) hP hfr hb (by omega) hn hf
  have c2' := end_fn (P := P) (G := Gf fr) (S := d1.S) (L := d1.L) (ar := d1.ar) (ca := d1.ca) hP hN hs hh hg hfi hen
  have c4 := put_all (P := P) (G := Gf fr) (f := f) hP hN hs.2 ok ⟨by omega, hes⟩ hn6 hk hd1 (at' := (a1 : Int)) (by rw [ha1])
  have c5 := wipe_all (P := P) (G := Gf fr) hP hN hs.2 k1 ⟨by omega, hes⟩ o1 hw
  have c6 := flush_all (P := P) (G := Gf fr) hP hN ⟨by omega, hs.2⟩ ok2 o2 hd3
  have c7 := head_fn (P := P) (G := Gf fr) (g := gen) (f := hd) hP hg (fun i _ => by rw [hhd])
  have c8 := write_all (P := P) (G := Gf fr) (f := hd) hP hN hs.2 ok3 o3 (i := gen % 2) (by omega) hd4
  have c9 := flush_off (P := P) (G := Gf fr) (N := N) (S := d4.S) (L := d4.L) hP o4
  clear hfr hh hfi hen hb hn hn6 hnh hf hes ha1 ok hN hs hk hd1 hw o1 k1 o2 ok2 hd3 hhd o3 ok3 hd4 o4
  have hT : T.Ok P := hP ▸ T_ok
  refine FnTr.introD (fn := Tryd.f57) (fg := Tryd.f86) (g := 86) (by rw [hP]; rfl) rfl rfl (by rw [hP]; rfl) rfl rfl rfl rfl rfl rfl rfl rfl rfl hT ?_
  generalize hA : Ar.real = A
  generalize hK : Gives _ _ _ = K
  cbv
  refine CS.le hA (c1) [(0, 0), (1, 1), (2, 2)] rfl rfl rfl ?_ ?_ ?_
  · (try cbv) <;> (repeat' (first | exact trivial | exact rfl | apply And.intro | exact fun _ => rfl | (intro _ hle; first | refine chunk_le hA rfl hle rfl ?_ | refine cat_le hA ?_ | refine upd_le hA ?_ | (try cbv)))) <;> (try (subst hA; (try simp only [natCast_eq] at *); (try (simp only [Ar.real, NV.val, Int.ofNat_eq_natCast, Int.toNat_natCast])); first | done | omega | decide | exact inR64 (by omega) (by omega) | (refine ⟨?_, ?_⟩ <;> first | omega | decide | exact inR64 (by omega) (by omega))))
  · (try cbv) <;> (repeat' (first | exact trivial | exact rfl | apply And.intro | exact fun _ => rfl | (intro _ hle; first | refine chunk_le hA rfl hle rfl ?_ | refine cat_le hA ?_ | refine upd_le hA ?_ | (try cbv))))
  cbv
  refine CS.le hA (c2) [(0, 0), (1, 1), (2, 2)] rfl rfl rfl ?_ ?_ ?_
  · (try cbv) <;> (repeat' (first | exact trivial | exact rfl | apply And.intro | exact fun _ => rfl | (intro _ hle; first | refine chunk_le hA rfl hle rfl ?_ | refine cat_le hA ?_ | refine upd_le hA ?_ | (try cbv)))) <;> (try (subst hA; (try simp only [natCast_eq] at *); (try (simp only [Ar.real, NV.val, Int.ofNat_eq_natCast, Int.toNat_natCast])); first | done | omega | decide | exact inR64 (by omega) (by omega) | (refine ⟨?_, ?_⟩ <;> first | omega | decide | exact inR64 (by omega) (by omega))))
  · (try cbv) <;> (repeat' (first | exact trivial | exact rfl | apply And.intro | exact fun _ => rfl | (intro _ hle; first | refine chunk_le hA rfl hle rfl ?_ | refine cat_le hA ?_ | refine upd_le hA ?_ | (try cbv))))
  cbv
  refine CS.le hA (c3) [] rfl rfl rfl ?_ ?_ ?_
  · (try cbv) <;> (repeat' (first | exact trivial | exact rfl | apply And.intro | exact fun _ => rfl | (intro _ hle; first | refine chunk_le hA rfl hle rfl ?_ | refine cat_le hA ?_ | refine upd_le hA ?_ | (try cbv)))) <;> (try (subst hA; (try simp only [natCast_eq] at *); (try (simp only [Ar.real, NV.val, Int.ofNat_eq_natCast, Int.toNat_natCast])); first | done | omega | decide | exact inR64 (by omega) (by omega) | (refine ⟨?_, ?_⟩ <;> first | omega | decide | exact inR64 (by omega) (by omega))))
  · (try cbv) <;> (repeat' (first | exact trivial | exact rfl | apply And.intro | exact fun _ => rfl | (intro _ hle; first | refine chunk_le hA rfl hle rfl ?_ | refine cat_le hA ?_ | refine upd_le hA ?_ | (try cbv))))
  cbv
  refine CS.le hA (c4) [(0, 0), (1, 1), (2, 2)] rfl rfl rfl ?_ ?_ ?_
  · (try cbv) <;> (repeat' (first | exact trivial | exact rfl | apply And.intro | exact fun _ => rfl | (intro _ hle; first | refine chunk_le hA rfl hle rfl ?_ | refine cat_le hA ?_ | refine upd_le hA ?_ | (try cbv)))) <;> (try (subst hA; (try simp only [natCast_eq] at *); (try (simp only [Ar.real, NV.val, Int.ofNat_eq_natCast, Int.toNat_natCast])); first | done | omega | decide | exact inR64 (by omega) (by omega) | (refine ⟨?_, ?_⟩ <;> first | omega | decide | exact inR64 (by omega) (by omega))))
  · (try cbv) <;> (repeat' (first | exact trivial | exact rfl | apply And.intro | exact fun _ => rfl | (intro _ hle; first | refine chunk_le hA rfl hle rfl ?_ | refine cat_le hA ?_ | refine upd_le hA ?_ | (try cbv))))
  cbv
  refine DS.runK hA hT (by rw [hP]; exact P_mixed) 12 rfl ?_
  cbv
  refine CD.pass hA (c2') [(0, 0), (1, 1), (2, 2)] [] rfl ⟨rfl, rfl, rfl, rfl, ?_, ?_⟩ rfl (.inl rfl) ?_
  · (try cbv) <;> (repeat' (first | exact trivial | exact rfl | apply And.intro | exact fun _ => rfl | (intro _ hle; first | refine chunk_le hA rfl hle rfl ?_ | refine cat_le hA ?_ | refine upd_le hA ?_ | (try cbv)))) <;> (try (subst hA; (try simp only [natCast_eq] at *); (try (simp only [Ar.real, NV.val, Int.ofNat_eq_natCast, Int.toNat_natCast])); first | done | omega | decide | exact inR64 (by omega) (by omega) | (refine ⟨?_, ?_⟩ <;> first | omega | decide | exact inR64 (by omega) (by omega))))
  · (try cbv) <;> (repeat' (first | exact trivial | exact rfl | apply And.intro | exact fun _ => rfl | (intro _ hle; first | refine chunk_le hA rfl hle rfl ?_ | refine cat_le hA ?_ | refine upd_le hA ?_ | (try cbv))))
  cbv
  refine CD.pass hA (c5) [(0, 0), (1, 1), (2, 2)] [] rfl ⟨rfl, rfl, rfl, rfl, ?_, ?_⟩ rfl (.inl rfl) ?_
  · (try cbv) <;> (repeat' (first | exact trivial | exact rfl | apply And.intro | exact fun _ => rfl | (intro _ hle; first | refine chunk_le hA rfl hle rfl ?_ | refine cat_le hA ?_ | refine upd_le hA ?_ | (try cbv)))) <;> (try (subst hA; (try simp only [natCast_eq] at *); (try (simp only [Ar.real, NV.val, Int.ofNat_eq_natCast, Int.toNat_natCast])); first | done | omega | decide | exact inR64 (by omega) (by omega) | (refine ⟨?_, ?_⟩ <;> first | omega | decide | exact inR64 (by omega) (by omega))))
  · (try cbv) <;> (repeat' (first | exact trivial | exact rfl | apply And.intro | exact fun _ => rfl | (intro _ hle; first | refine chunk_le hA rfl hle rfl ?_ | refine cat_le hA ?_ | refine upd_le hA ?_ | (try cbv))))
  cbv
  refine DF.fin (by kernel_rfl) (by kernel_rfl) ?_
  cbv
  refine CS.le hA (c6) [(0, 0), (1, 1), (2, 2)] rfl rfl rfl ?_ ?_ ?_
  · (try cbv) <;> (repeat' (first | exact trivial | exact rfl | apply And.intro | exact fun _ => rfl | (intro _ hle; first | refine chunk_le hA rfl hle rfl ?_ | refine cat_le hA ?_ | refine upd_le hA ?_ | (try cbv)))) <;> (try (subst hA; (try simp only [natCast_eq] at *); (try (simp only [Ar.real, NV.val, Int.ofNat_eq_natCast, Int.toNat_natCast])); first | done | omega | decide | exact inR64 (by omega) (by omega) | (refine ⟨?_, ?_⟩ <;> first | omega | decide | exact inR64 (by omega) (by omega))))
  · (try cbv) <;> (repeat' (first | exact trivial | exact rfl | apply And.intro | exact fun _ => rfl | (intro _ hle; first | refine chunk_le hA rfl hle rfl ?_ | refine cat_le hA ?_ | refine upd_le hA ?_ | (try cbv))))
  cbv
  have kr : A.rem (Int.ofNat gen) 2 = ((gen % 2 : Nat) : Int) := by subst hA; rfl
  refine ⟨(by (subst hA; (try simp only [natCast_eq] at *); (try (simp only [Ar.real, NV.val, Int.ofNat_eq_natCast, Int.toNat_natCast])); first | done | omega | decide | exact inR64 (by omega) (by omega) | (refine ⟨?_, ?_⟩ <;> first | omega | decide | exact inR64 (by omega) (by omega)))), ?_⟩
  refine CS.le hA (c7) [] rfl rfl rfl ?_ ?_ ?_
  · (try cbv) <;> (repeat' (first | exact trivial | exact rfl | apply And.intro | exact fun _ => rfl | (intro _ hle; first | refine chunk_le hA rfl hle rfl ?_ | refine cat_le hA ?_ | refine upd_le hA ?_ | (try cbv)))) <;> (try (subst hA; (try simp only [natCast_eq] at *); (try (simp only [Ar.real, NV.val, Int.ofNat_eq_natCast, Int.toNat_natCast])); first | done | omega | decide | exact inR64 (by omega) (by omega) | (refine ⟨?_, ?_⟩ <;> first | omega | decide | exact inR64 (by omega) (by omega))))
  · (try cbv) <;> (repeat' (first | exact trivial | exact rfl | apply And.intro | exact fun _ => rfl | (intro _ hle; first | refine chunk_le hA rfl hle rfl ?_ | refine cat_le hA ?_ | refine upd_le hA ?_ | (try cbv))))
  cbv
  refine CS.le hA c8 [(0, 0), (1, 1), (2, 2)] rfl rfl rfl ?_ ?_ ?_
  · (try cbv) <;> (repeat' (first | exact trivial | exact rfl | apply And.intro | exact fun _ => rfl | (intro _ hle; first | refine chunk_le hA rfl hle rfl ?_ | refine cat_le hA ?_ | refine upd_le hA ?_ | (try cbv))))
    all_goals first | exact kr | (subst hA; rfl)
  · (try cbv) <;> (repeat' (first | exact trivial | exact rfl | apply And.intro | exact fun _ => rfl | (intro _ hle; first | refine chunk_le hA rfl hle rfl ?_ | refine cat_le hA ?_ | refine upd_le hA ?_ | (try cbv))))
  cbv
  refine DS.runK hA hT (by rw [hP]; exact P_mixed) 12 rfl ?_
  cbv
  refine CD.pass hA (c9) [(0, 0), (1, 1), (2, 2)] [] rfl ⟨rfl, rfl, rfl, rfl, ?_, ?_⟩ rfl (.inl rfl) ?_
  · (try cbv) <;> (repeat' (first | exact trivial | exact rfl | apply And.intro | exact fun _ => rfl | (intro _ hle; first | refine chunk_le hA rfl hle rfl ?_ | refine cat_le hA ?_ | refine upd_le hA ?_ | (try cbv)))) <;> (try (subst hA; (try simp only [natCast_eq] at *); (try (simp only [Ar.real, NV.val, Int.ofNat_eq_natCast, Int.toNat_natCast])); first | done | omega | decide | exact inR64 (by omega) (by omega) | (refine ⟨?_, ?_⟩ <;> first | omega | decide | exact inR64 (by omega) (by omega))))
  · (try cbv) <;> (repeat' (first | exact trivial | exact rfl | apply And.intro | exact fun _ => rfl | (intro _ hle; first | refine chunk_le hA rfl hle rfl ?_ | refine cat_le hA ?_ | refine upd_le hA ?_ | (try cbv))))
  cbv
  refine DF.fin (by kernel_rfl) (by kernel_rfl) ?_
  cbv
  refine Fin.le hA 3 [] (.tup [.lit .i64 0, .lit .i64 6]) (DHd N d4) 3 rfl rfl rfl ?_ ?_ (by rw [← hK]; exact ⟨rfl, rfl, rfl⟩)
  · (try cbv) <;> (repeat' (first | exact trivial | exact rfl | apply And.intro | exact fun _ => rfl | (intro _ hle; first | refine chunk_le hA rfl hle rfl ?_ | refine cat_le hA ?_ | refine upd_le hA ?_ | (try cbv))))
  · (try cbv) <;> (repeat' (first | exact trivial | exact rfl | apply And.intro | exact fun _ => rfl | (intro _ hle; first | refine chunk_le hA rfl hle rfl ?_ | refine cat_le hA ?_ | refine upd_le hA ?_ | (try cbv))))

theorem lay_ok (hP : P = Tryd.prog) (hfr : ∀ i, fr i = ((four i).toNat : Int)) (hN : N = 64 * s) (hs : 4 ≤ s ∧ s ≤ 4096) (hh : h = (s - 2) / 2) (hg : gen ≤ 1099511627777) (hfi : fi = 2 + gen % 2 * h) (hen : en = fi + h) (hb : ∀ i, i < nb → 0 ≤ b i ∧ b i ≤ 255) (hn : n = nb + 4) (hn6 : n ≤ 65536) (hnh : needN n ≤ h) (hf : ∀ i, i < n → f i = sealF nb b i) (hes : en ≤ s) (ha1 : a1 = fi + needN n) (ok : DkOk s d) (hk : putK d n = needN n) (hd1 : d1 = putD d fi n f) (hw : wipeD d1 a1 en = (some m, d2)) (o1 : ¬ offD d1) (k1 : 0 ≤ d1.ca ∧ d1.ca ≤ 9223372036854775807) (o2 : ¬ offD d2) (ok2 : DkOk s d2) (hd3 : d3 = flushD d2) (hhd : hd = headB gen) (o3 : ¬ offD d3) (ok3 : DkOk s d3) (hd4 : d4 = writeD d3 (gen % 2) hd) (o4 : ¬ offD d4) (ok4 : DkOk s d4) (hd5 : d5 = flushD d4) :
    FnTr P (Gf fr) 57 [.ptr 0 0, .int .i64 (gen : Int), By nb b] (DHd N d) 3 (Gives (.tup [.int .i64 (a1 : Int), .lit .i64 0]) (DHd N d5) 3) := by
  have c1 := first_fn (P := P) (G := Gf fr) (S := d.S) (L := d.L) (ar := d.ar) (ca := d.ca) hP hN hs hh hg hfi
  have c2 := end_fn (P := P) (G := Gf fr) (S := d.S) (L := d.L) (ar := d.ar) (ca := d.ca) hP hN hs hh hg hfi hen
  have c3 := seal2_fn (P := P) hP hfr hb (by omega) hn hf
  have c2' := end_fn (P := P) (G := Gf fr) (S := d1.S) (L := d1.L) (ar := d1.ar) (ca := d1.ca) hP hN hs hh hg hfi hen
  have c4 := put_all (P := P) (G := Gf fr) (f := f) hP hN hs.2 ok ⟨by omega, hes⟩ hn6 hk hd1 (at' := (a1 : Int)) (by rw [ha1])
  have c5 := wipe_all (P := P) (G := Gf fr) hP hN hs.2 k1 ⟨by omega, hes⟩ o1 hw
  have c6 := flush_all (P := P) (G := Gf fr) hP hN ⟨by omega, hs.2⟩ ok2 o2 hd3
  have c7 := head_fn (P := P) (G := Gf fr) (g := gen) (f := hd) hP hg (fun i _ => by rw [hhd])
  have c8 := write_all (P := P) (G := Gf fr) (f := hd) hP hN hs.2 ok3 o3 (i := gen % 2) (by omega) hd4
  have c9 := flush_all (P := P) (G := Gf fr) hP hN ⟨by omega, hs.2⟩ ok4 o4 hd5
  clear hfr hh hfi hen hb hn hn6 hnh hf hes ha1 ok hN hs hk hd1 hw o1 k1 o2 ok2 hd3 hhd o3 ok3 hd4 o4 ok4 hd5
  have hT : T.Ok P := hP ▸ T_ok
  refine FnTr.introD (fn := Tryd.f57) (fg := Tryd.f86) (g := 86) (by rw [hP]; rfl) rfl rfl (by rw [hP]; rfl) rfl rfl rfl rfl rfl rfl rfl rfl rfl hT ?_
  generalize hA : Ar.real = A
  generalize hK : Gives _ _ _ = K
  cbv
  refine CS.le hA (c1) [(0, 0), (1, 1), (2, 2)] rfl rfl rfl ?_ ?_ ?_
  · (try cbv) <;> (repeat' (first | exact trivial | exact rfl | apply And.intro | exact fun _ => rfl | (intro _ hle; first | refine chunk_le hA rfl hle rfl ?_ | refine cat_le hA ?_ | refine upd_le hA ?_ | (try cbv)))) <;> (try (subst hA; (try simp only [natCast_eq] at *); (try (simp only [Ar.real, NV.val, Int.ofNat_eq_natCast, Int.toNat_natCast])); first | done | omega | decide | exact inR64 (by omega) (by omega) | (refine ⟨?_, ?_⟩ <;> first | omega | decide | exact inR64 (by omega) (by omega))))
  · (try cbv) <;> (repeat' (first | exact trivial | exact rfl | apply And.intro | exact fun _ => rfl | (intro _ hle; first | refine chunk_le hA rfl hle rfl ?_ | refine cat_le hA ?_ | refine upd_le hA ?_ | (try cbv))))
  cbv
  refine CS.le hA (c2) [(0, 0), (1, 1), (2, 2)] rfl rfl rfl ?_ ?_ ?_
  · (try cbv) <;> (repeat' (first | exact trivial | exact rfl | apply And.intro | exact fun _ => rfl | (intro _ hle; first | refine chunk_le hA rfl hle rfl ?_ | refine cat_le hA ?_ | refine upd_le hA ?_ | (try cbv)))) <;> (try (subst hA; (try simp only [natCast_eq] at *); (try (simp only [Ar.real, NV.val, Int.ofNat_eq_natCast, Int.toNat_natCast])); first | done | omega | decide | exact inR64 (by omega) (by omega) | (refine ⟨?_, ?_⟩ <;> first | omega | decide | exact inR64 (by omega) (by omega))))
  · (try cbv) <;> (repeat' (first | exact trivial | exact rfl | apply And.intro | exact fun _ => rfl | (intro _ hle; first | refine chunk_le hA rfl hle rfl ?_ | refine cat_le hA ?_ | refine upd_le hA ?_ | (try cbv))))
  cbv
  refine CS.le hA (c3) [] rfl rfl rfl ?_ ?_ ?_
  · (try cbv) <;> (repeat' (first | exact trivial | exact rfl | apply And.intro | exact fun _ => rfl | (intro _ hle; first | refine chunk_le hA rfl hle rfl ?_ | refine cat_le hA ?_ | refine upd_le hA ?_ | (try cbv)))) <;> (try (subst hA; (try simp only [natCast_eq] at *); (try (simp only [Ar.real, NV.val, Int.ofNat_eq_natCast, Int.toNat_natCast])); first | done | omega | decide | exact inR64 (by omega) (by omega) | (refine ⟨?_, ?_⟩ <;> first | omega | decide | exact inR64 (by omega) (by omega))))
  · (try cbv) <;> (repeat' (first | exact trivial | exact rfl | apply And.intro | exact fun _ => rfl | (intro _ hle; first | refine chunk_le hA rfl hle rfl ?_ | refine cat_le hA ?_ | refine upd_le hA ?_ | (try cbv))))
  cbv
  refine CS.le hA (c4) [(0, 0), (1, 1), (2, 2)] rfl rfl rfl ?_ ?_ ?_
  · (try cbv) <;> (repeat' (first | exact trivial | exact rfl | apply And.intro | exact fun _ => rfl | (intro _ hle; first | refine chunk_le hA rfl hle rfl ?_ | refine cat_le hA ?_ | refine upd_le hA ?_ | (try cbv)))) <;> (try (subst hA; (try simp only [natCast_eq] at *); (try (simp only [Ar.real, NV.val, Int.ofNat_eq_natCast, Int.toNat_natCast])); first | done | omega | decide | exact inR64 (by omega) (by omega) | (refine ⟨?_, ?_⟩ <;> first | omega | decide | exact inR64 (by omega) (by omega))))
  · (try cbv) <;> (repeat' (first | exact trivial | exact rfl | apply And.intro | exact fun _ => rfl | (intro _ hle; first | refine chunk_le hA rfl hle rfl ?_ | refine cat_le hA ?_ | refine upd_le hA ?_ | (try cbv))))
  cbv
  refine DS.runK hA hT (by rw [hP]; exact P_mixed) 12 rfl ?_
  cbv
  refine CD.pass hA (c2') [(0, 0), (1, 1), (2, 2)] [] rfl ⟨rfl, rfl, rfl, rfl, ?_, ?_⟩ rfl (.inl rfl) ?_
  · (try cbv) <;> (repeat' (first | exact trivial | exact rfl | apply And.intro | exact fun _ => rfl | (intro _ hle; first | refine chunk_le hA rfl hle rfl ?_ | refine cat_le hA ?_ | refine upd_le hA ?_ | (try cbv)))) <;> (try (subst hA; (try simp only [natCast_eq] at *); (try (simp only [Ar.real, NV.val, Int.ofNat_eq_natCast, Int.toNat_natCast])); first | done | omega | decide | exact inR64 (by omega) (by omega) | (refine ⟨?_, ?_⟩ <;> first | omega | decide | exact inR64 (by omega) (by omega))))
  · (try cbv) <;> (repeat' (first | exact trivial | exact rfl | apply And.intro | exact fun _ => rfl | (intro _ hle; first | refine chunk_le hA rfl hle rfl ?_ | refine cat_le hA ?_ | refine upd_le hA ?_ | (try cbv))))
  cbv
  refine CD.pass hA (c5) [(0, 0), (1, 1), (2, 2)] [] rfl ⟨rfl, rfl, rfl, rfl, ?_, ?_⟩ rfl (.inl rfl) ?_
  · (try cbv) <;> (repeat' (first | exact trivial | exact rfl | apply And.intro | exact fun _ => rfl | (intro _ hle; first | refine chunk_le hA rfl hle rfl ?_ | refine cat_le hA ?_ | refine upd_le hA ?_ | (try cbv)))) <;> (try (subst hA; (try simp only [natCast_eq] at *); (try (simp only [Ar.real, NV.val, Int.ofNat_eq_natCast, Int.toNat_natCast])); first | done | omega | decide | exact inR64 (by omega) (by omega) | (refine ⟨?_, ?_⟩ <;> first | omega | decide | exact inR64 (by omega) (by omega))))
  · (try cbv) <;> (repeat' (first | exact trivial | exact rfl | apply And.intro | exact fun _ => rfl | (intro _ hle; first | refine chunk_le hA rfl hle rfl ?_ | refine cat_le hA ?_ | refine upd_le hA ?_ | (try cbv))))
  cbv
  refine DF.fin (by kernel_rfl) (by kernel_rfl) ?_
  cbv
  refine CS.le hA (c6) [(0, 0), (1, 1), (2, 2)] rfl rfl rfl ?_ ?_ ?_
  · (try cbv) <;> (repeat' (first | exact trivial | exact rfl | apply And.intro | exact fun _ => rfl | (intro _ hle; first | refine chunk_le hA rfl hle rfl ?_ | refine cat_le hA ?_ | refine upd_le hA ?_ | (try cbv)))) <;> (try (subst hA; (try simp only [natCast_eq] at *); (try (simp only [Ar.real, NV.val, Int.ofNat_eq_natCast, Int.toNat_natCast])); first | done | omega | decide | exact inR64 (by omega) (by omega) | (refine ⟨?_, ?_⟩ <;> first | omega | decide | exact inR64 (by omega) (by omega))))
  · (try cbv) <;> (repeat' (first | exact trivial | exact rfl | apply And.intro | exact fun _ => rfl | (intro _ hle; first | refine chunk_le hA rfl hle rfl ?_ | refine cat_le hA ?_ | refine upd_le hA ?_ | (try cbv))))
  cbv
  have kr : A.rem (Int.ofNat gen) 2 = ((gen % 2 : Nat) : Int) := by subst hA; rfl
  refine ⟨(by (subst hA; (try simp only [natCast_eq] at *); (try (simp only [Ar.real, NV.val, Int.ofNat_eq_natCast, Int.toNat_natCast])); first | done | omega | decide | exact inR64 (by omega) (by omega) | (refine ⟨?_, ?_⟩ <;> first | omega | decide | exact inR64 (by omega) (by omega)))), ?_⟩
  refine CS.le hA (c7) [] rfl rfl rfl ?_ ?_ ?_
  · (try cbv) <;> (repeat' (first | exact trivial | exact rfl | apply And.intro | exact fun _ => rfl | (intro _ hle; first | refine chunk_le hA rfl hle rfl ?_ | refine cat_le hA ?_ | refine upd_le hA ?_ | (try cbv)))) <;> (try (subst hA; (try simp only [natCast_eq] at *); (try (simp only [Ar.real, NV.val, Int.ofNat_eq_natCast, Int.toNat_natCast])); first | done | omega | decide | exact inR64 (by omega) (by omega) | (refine ⟨?_, ?_⟩ <;> first | omega | decide | exact inR64 (by omega) (by omega))))
  · (try cbv) <;> (repeat' (first | exact trivial | exact rfl | apply And.intro | exact fun _ => rfl | (intro _ hle; first | refine chunk_le hA rfl hle rfl ?_ | refine cat_le hA ?_ | refine upd_le hA ?_ | (try cbv))))
  cbv
  refine CS.le hA c8 [(0, 0), (1, 1), (2, 2)] rfl rfl rfl ?_ ?_ ?_
  · (try cbv) <;> (repeat' (first | exact trivial | exact rfl | apply And.intro | exact fun _ => rfl | (intro _ hle; first | refine chunk_le hA rfl hle rfl ?_ | refine cat_le hA ?_ | refine upd_le hA ?_ | (try cbv))))
    all_goals first | exact kr | (subst hA; rfl)
  · (try cbv) <;> (repeat' (first | exact trivial | exact rfl | apply And.intro | exact fun _ => rfl | (intro _ hle; first | refine chunk_le hA rfl hle rfl ?_ | refine cat_le hA ?_ | refine upd_le hA ?_ | (try cbv))))
  cbv
  refine DS.runK hA hT (by rw [hP]; exact P_mixed) 12 rfl ?_
  cbv
  refine CD.pass hA (c9) [(0, 0), (1, 1), (2, 2)] [] rfl ⟨rfl, rfl, rfl, rfl, ?_, ?_⟩ rfl (.inl rfl) ?_
  · (try cbv) <;> (repeat' (first | exact trivial | exact rfl | apply And.intro | exact fun _ => rfl | (intro _ hle; first | refine chunk_le hA rfl hle rfl ?_ | refine cat_le hA ?_ | refine upd_le hA ?_ | (try cbv)))) <;> (try (subst hA; (try simp only [natCast_eq] at *); (try (simp only [Ar.real, NV.val, Int.ofNat_eq_natCast, Int.toNat_natCast])); first | done | omega | decide | exact inR64 (by omega) (by omega) | (refine ⟨?_, ?_⟩ <;> first | omega | decide | exact inR64 (by omega) (by omega))))
  · (try cbv) <;> (repeat' (first | exact trivial | exact rfl | apply And.intro | exact fun _ => rfl | (intro _ hle; first | refine chunk_le hA rfl hle rfl ?_ | refine cat_le hA ?_ | refine upd_le hA ?_ | (try cbv))))
  cbv
  refine DF.fin (by kernel_rfl) (by kernel_rfl) ?_
  cbv
  refine Fin.le hA 3 [] (.tup [.int .i64 (a1 : Int), .lit .i64 0]) (DHd N d5) 3 rfl rfl rfl ?_ ?_ (by rw [← hK]; exact ⟨rfl, rfl, rfl⟩)
  · (try cbv) <;> (repeat' (first | exact trivial | exact rfl | apply And.intro | exact fun _ => rfl | (intro _ hle; first | refine chunk_le hA rfl hle rfl ?_ | refine cat_le hA ?_ | refine upd_le hA ?_ | (try cbv))))
  · (try cbv) <;> (repeat' (first | exact trivial | exact rfl | apply And.intro | exact fun _ => rfl | (intro _ hle; first | refine chunk_le hA rfl hle rfl ?_ | refine cat_le hA ?_ | refine upd_le hA ?_ | (try cbv))))

end
end Go.Proofs.YtnjjgipblimbfaaDoor.Dsk
namespace Go.Proofs.YtnjjgipblimbfaaDoor.Dsk
open Go.Eng
open Go.DskLaw (q64 secV isB needN pcs wipeP)
open Go.WalLaw
open Go.CrcLaw (four)
set_option maxRecDepth 100000
set_option maxHeartbeats 1000000
/-- Where a generation's region lies. -/
structure Reg (s h gen fi en : Nat) : Prop where
  hs : 4 ≤ s ∧ s ≤ 4096
  hh : h = (s - 2) / 2
  hg : gen ≤ 1099511627777
  hfi : fi = 2 + gen % 2 * h
  hen : en = fi + h
theorem Reg.le {s h gen fi en : Nat} (r : Reg s h gen fi en) : 2 ≤ fi ∧ fi ≤ en ∧ en ≤ s := by
  have h1 := r.hs
  have h2 := r.hh
  have h3 := r.hfi
  have h4 := r.hen
  have : gen % 2 = 0 ∨ gen % 2 = 1 := by omega
  rcases this with e | e <;> rw [e] at h3 <;> omega
theorem lay_fn {P : Program} {fr : Nat → Int} {N s h gen fi en nb n : Nat} {b : Nat → Int} {d d' : Dk} {at' e : Int} (hP : P = Tryd.prog) (hfr : ∀ i, fr i = ((four i).toNat : Int)) (hN : N = 64 * s) (hr : Reg s h gen fi en) (hb : ∀ i, i < nb → 0 ≤ b i ∧ b i ≤ 255) (hn : n = nb + 4) (hn6 : n ≤ 65536) (hnh : needN n ≤ h) (ok : DkOk s d) (hl : LayIs d gen fi en n (sealF nb b) d' at' e) :
    (e = 6 ∧ at' = 0 ∧ FnTr P (Gf fr) 57 [.ptr 0 0, .int .i64 (gen : Int), By nb b] (DHd N d) 3 (Gives (.tup [.lit .i64 0, .lit .i64 6]) (DHd N d') 3)) ∨
    (e = 0 ∧ at' = ((fi + needN n : Nat) : Int) ∧ FnTr P (Gf fr) 57 [.ptr 0 0, .int .i64 (gen : Int), By nb b] (DHd N d) 3 (Gives (.tup [.int .i64 ((fi + needN n : Nat) : Int), .lit .i64 0]) (DHd N d') 3)) := by
  obtain ⟨hs, hh, hg, hfi, hen⟩ := hr
  have hes := (Reg.le ⟨hs, hh, hg, hfi, hen⟩).2.2
  have hF : ∀ i, i < n → sealF nb b i = sealF nb b i := fun _ _ => rfl
  have okp : DkOk s (putD d fi n (sealF nb b)) := ok.put (by omega) (fun i _ => sealF_range hb i)
  have hi2 : gen % 2 < s := by omega
  cases hl with
  | put hk => exact .inl ⟨rfl, rfl, lay_put hP hfr hN hs hh hg hfi hen hb hn hn6 hnh hF hes rfl ok hk rfl⟩
  | wipe0 hk o1 => exact .inl ⟨rfl, rfl, lay_wipe0 hP hfr hN hs hh hg hfi hen hb hn hn6 hnh hF hes rfl ok hk rfl o1⟩
  | wipe hk o1 hw => exact .inl ⟨rfl, rfl, lay_wipe hP hfr hN hs hh hg hfi hen hb hn hn6 hnh hF hes rfl ok hk rfl hw o1 okp.hca⟩
  | flush hk o1 hw o2 => exact .inl ⟨rfl, rfl, lay_flush hP hfr hN hs hh hg hfi hen hb hn hn6 hnh hF hes rfl ok hk rfl hw o1 okp.hca o2⟩
  | write hk o1 hw o2 o3 => exact .inl ⟨rfl, rfl, lay_write hP hfr hN hs hh hg hfi hen hb hn hn6 hnh hF hes rfl ok hk rfl hw o1 okp.hca o2 (okp.wipe ⟨by omega, hes⟩ hw) rfl rfl o3⟩
  | again hk o1 hw o2 o3 o4 =>
    have ok2 := okp.wipe ⟨by omega, hes⟩ hw
    exact .inl ⟨rfl, rfl, lay_again hP hfr hN hs hh hg hfi hen hb hn hn6 hnh hF hes rfl ok hk rfl hw o1 okp.hca o2 ok2 rfl rfl o3 (ok2.flush o2) rfl o4⟩
  | ok hk o1 hw o2 o3 o4 =>
    have ok2 := okp.wipe ⟨by omega, hes⟩ hw
    exact .inr ⟨rfl, rfl, lay_ok hP hfr hN hs hh hg hfi hen hb hn hn6 hnh hF hes rfl ok hk rfl hw o1 okp.hca o2 ok2 rfl rfl o3 (ok2.flush o2) rfl o4 ((ok2.flush o2).write o3 hi2 (fun x _ => headB_range gen x)) rfl⟩
end Go.Proofs.YtnjjgipblimbfaaDoor.Dsk
namespace Go.Proofs.YtnjjgipblimbfaaDoor.Dsk
open Go.Eng
open Go.DskLaw (q64 secV isB needN pcs wipeP)
open Go.WalLaw
open Go.CrcLaw (four)
set_option maxRecDepth 100000
set_option maxHeartbeats 1000000
abbrev LgC (gen at' bn : Nat) (b : Nat → Int) (o : NV) (c su : Nat) (dead : Bool) : List SV := [.ptr 0 0, .int .i64 (gen : Int), .int .i64 (at' : Int), By bn b, .sl 4 1 o (.s c), .int .i64 (su : Int), .bs dead]
abbrev LgR (cn : Nat) (nl : Nat → Nat) (nf : Nat → Nat → Int) : Blk := .row 22 1 (.s cn) (fun e => [.ro 1 (.s (nl e.val)) (fun x => [.int .u8 (nf e.val x.val)])])
abbrev LgH (N : Nat) (d : Dk) (gen at' bn : Nat) (b : Nat → Int) (o : NV) (c su : Nat) (dead : Bool) (cn : Nat) (nl : Nat → Nat) (nf : Nat → Nat → Int) : Hl :=
  (3, .cells 94 (LgC gen at' bn b o c su dead)) :: (4, LgR cn nl nf) :: DHd N d

section
variable {P : Program} {fr : Nat → Int} {N s h gen g1 fi en nb n at1 : Nat} {b : Nat → Int} {d d' : Dk}
theorem begin_ok (hP : P = Tryd.prog) (hN : N = 64 * s) (hs : 4 ≤ s ∧ s ≤ 4096) (hh : h = (s - 2) / 2) (hn : nb ≤ 1000000) (hf : ¬ (65536 < nb + 4 ∨ h < needN (nb + 4)))
    (cN : FnTr P (Gf fr) 56 [.ptr 0 0] (DHd N d) 3 (Gives (.tup [.int .i64 (gen : Int), .lit .i64 0]) (DHd N d) 3)) (hg : gen < 1099511627776) (hg1 : g1 = gen + 1)
    (cL : FnTr P (Gf fr) 57 [.ptr 0 0, .int .i64 (g1 : Int), By nb b] (DHd N d) 3 (Gives (.tup [.int .i64 (at1 : Int), .lit .i64 0]) (DHd N d') 3)) (nl : Nat → Nat) (nf : Nat → Nat → Int) :
    FnTr P (Gf fr) 23 [.ptr 0 0, By nb b] (DHd N d) 3 (Gives (.tup [.ptr 3 0, .lit .i64 0]) (LgH N d' g1 at1 nb b (.l 0) 0 0 false 0 nl nf) 9000) := by
  have c1 := wasked_ok (P := P) (G := Gf fr) (S := d.S) (L := d.L) (ar := d.ar) (ca := d.ca) hP hN hs
  have c2 := full_fn (P := P) (G := Gf fr) (S := d.S) (f := b) (L := d.L) (ar := d.ar) (ca := d.ca) (r := false) hP hN hs hh hn rfl ⟨fun h => (by cases h), fun h => absurd h hf⟩
  have c3 := _root_.Go.Proofs.YtnjjgipblimbfaaDoor.clone_fn (P := P) (G := Gf fr) (n := nb) (f := b) hP (by omega)
  clear hf
  have hT : T.Ok P := hP ▸ T_ok
  refine FnTr.intro (fn := Tryd.f23) (c := bodyOf Tryd.f23) (by rw [hP]; rfl) rfl rfl hT ?_
  generalize hA : Ar.real = A
  generalize hK : Gives _ _ _ = K
  cbv
  have k1 : A.gt (A.add (gen : Int) 1) 1099511627776 = false := by clear c1 c2 c3 cN cL; subst hA; simp [Ar.real]; omega
  refine CS.le hA (c1) [(0, 0), (1, 1), (2, 2)] rfl rfl rfl ?_ ?_ ?_
  · (try cbv) <;> (repeat' (first | exact trivial | exact rfl | apply And.intro | exact fun _ => rfl | (intro _ hle; first | refine chunk_le hA rfl hle rfl ?_ | refine cat_le hA ?_ | refine upd_le hA ?_ | (try cbv)))) <;> (try (subst hA; (try simp only [natCast_eq] at *); (try (simp only [Ar.real, NV.val, Int.ofNat_eq_natCast, Int.toNat_natCast])); first | done | omega | decide | exact inR64 (by omega) (by omega) | (refine ⟨?_, ?_⟩ <;> first | omega | decide | exact inR64 (by omega) (by omega))))
  · (try cbv) <;> (repeat' (first | exact trivial | exact rfl | apply And.intro | exact fun _ => rfl | (intro _ hle; first | refine chunk_le hA rfl hle rfl ?_ | refine cat_le hA ?_ | refine upd_le hA ?_ | (try cbv))))
  cbv
  refine CS.leR hA (c2) (.bl false) [(0, 0), (1, 1), (2, 2)] rfl rfl rfl ?_ ?_ ?_ ?_
  · (try cbv) <;> (repeat' (first | exact trivial | exact rfl | apply And.intro | exact fun _ => rfl | (intro _ hle; first | refine chunk_le hA rfl hle rfl ?_ | refine cat_le hA ?_ | refine upd_le hA ?_ | (try cbv)))) <;> (try (subst hA; (try simp only [natCast_eq] at *); (try (simp only [Ar.real, NV.val, Int.ofNat_eq_natCast, Int.toNat_natCast])); first | done | omega | decide | exact inR64 (by omega) (by omega) | (refine ⟨?_, ?_⟩ <;> first | omega | decide | exact inR64 (by omega) (by omega))))
  · (try cbv) <;> (repeat' (first | exact trivial | exact rfl | apply And.intro | exact fun _ => rfl | (intro _ hle; first | refine chunk_le hA rfl hle rfl ?_ | refine cat_le hA ?_ | refine upd_le hA ?_ | (try cbv)))) <;> (try (subst hA; (try simp only [natCast_eq] at *); (try (simp only [Ar.real, NV.val, Int.ofNat_eq_natCast, Int.toNat_natCast])); first | done | omega | decide | exact inR64 (by omega) (by omega) | (refine ⟨?_, ?_⟩ <;> first | omega | decide | exact inR64 (by omega) (by omega))))
  · (try cbv) <;> (repeat' (first | exact trivial | exact rfl | apply And.intro | exact fun _ => rfl | (intro _ hle; first | refine chunk_le hA rfl hle rfl ?_ | refine cat_le hA ?_ | refine upd_le hA ?_ | (try cbv))))
  cbv
  refine CS.le hA (cN) [(0, 0), (1, 1), (2, 2)] rfl rfl rfl ?_ ?_ ?_
  · (try cbv) <;> (repeat' (first | exact trivial | exact rfl | apply And.intro | exact fun _ => rfl | (intro _ hle; first | refine chunk_le hA rfl hle rfl ?_ | refine cat_le hA ?_ | refine upd_le hA ?_ | (try cbv)))) <;> (try (subst hA; (try simp only [natCast_eq] at *); (try (simp only [Ar.real, NV.val, Int.ofNat_eq_natCast, Int.toNat_natCast])); first | done | omega | decide | exact inR64 (by omega) (by omega) | (refine ⟨?_, ?_⟩ <;> first | omega | decide | exact inR64 (by omega) (by omega))))
  · (try cbv) <;> (repeat' (first | exact trivial | exact rfl | apply And.intro | exact fun _ => rfl | (intro _ hle; first | refine chunk_le hA rfl hle rfl ?_ | refine cat_le hA ?_ | refine upd_le hA ?_ | (try cbv))))
  cbv
  refine ⟨(by (subst hA; (try simp only [natCast_eq] at *); (try (simp only [Ar.real, NV.val, Int.ofNat_eq_natCast, Int.toNat_natCast])); first | done | omega | decide | exact inR64 (by omega) (by omega) | (refine ⟨?_, ?_⟩ <;> first | omega | decide | exact inR64 (by omega) (by omega)))), ?_⟩
  first | refine testR k1 rfl ?_ | refine testL k1 rfl ?_
  cbv
  refine ⟨(by (subst hA; (try simp only [natCast_eq] at *); (try (simp only [Ar.real, NV.val, Int.ofNat_eq_natCast, Int.toNat_natCast])); first | done | omega | decide | exact inR64 (by omega) (by omega) | (refine ⟨?_, ?_⟩ <;> first | omega | decide | exact inR64 (by omega) (by omega)))), ?_⟩
  refine CS.le hA (cL) [(0, 0), (1, 1), (2, 2)] rfl rfl rfl ?_ ?_ ?_
  · (try cbv) <;> (repeat' (first | exact trivial | exact rfl | apply And.intro | exact fun _ => rfl | (intro _ hle; first | refine chunk_le hA rfl hle rfl ?_ | refine cat_le hA ?_ | refine upd_le hA ?_ | (try cbv)))) <;> (try (subst hA; (try simp only [natCast_eq] at *); (try (simp only [Ar.real, NV.val, Int.ofNat_eq_natCast, Int.toNat_natCast])); first | done | omega | decide | exact inR64 (by omega) (by omega) | (refine ⟨?_, ?_⟩ <;> first | omega | decide | exact inR64 (by omega) (by omega))))
  · (try cbv) <;> (repeat' (first | exact trivial | exact rfl | apply And.intro | exact fun _ => rfl | (intro _ hle; first | refine chunk_le hA rfl hle rfl ?_ | refine cat_le hA ?_ | refine upd_le hA ?_ | (try cbv))))
  cbv
  refine ⟨(by (subst hA; (try simp only [natCast_eq] at *); (try (simp only [Ar.real, NV.val, Int.ofNat_eq_natCast, Int.toNat_natCast])); first | done | omega | decide | exact inR64 (by omega) (by omega) | (refine ⟨?_, ?_⟩ <;> first | omega | decide | exact inR64 (by omega) (by omega)))), ?_⟩
  refine CS.le hA (c3) [] rfl rfl rfl ?_ ?_ ?_
  · (try cbv) <;> (repeat' (first | exact trivial | exact rfl | apply And.intro | exact fun _ => rfl | (intro _ hle; first | refine chunk_le hA rfl hle rfl ?_ | refine cat_le hA ?_ | refine upd_le hA ?_ | (try cbv)))) <;> (try (subst hA; (try simp only [natCast_eq] at *); (try (simp only [Ar.real, NV.val, Int.ofNat_eq_natCast, Int.toNat_natCast])); first | done | omega | decide | exact inR64 (by omega) (by omega) | (refine ⟨?_, ?_⟩ <;> first | omega | decide | exact inR64 (by omega) (by omega))))
  · (try cbv) <;> (repeat' (first | exact trivial | exact rfl | apply And.intro | exact fun _ => rfl | (intro _ hle; first | refine chunk_le hA rfl hle rfl ?_ | refine cat_le hA ?_ | refine upd_le hA ?_ | (try cbv))))
  cbv
  refine Fin.leG hA 3 [(61, 3)] [(4, LgR 0 nl nf)] (.tup [.ptr 3 0, .lit .i64 0]) (LgH N d' g1 at1 nb b (.l 0) 0 0 false 0 nl nf) 9000 rfl rfl rfl ?_ ?_ ?_ (by rw [← hK]; exact ⟨rfl, rfl, rfl⟩)
  · (try cbv) <;> (repeat' (first | exact trivial | exact rfl | apply And.intro | exact fun _ => rfl | (intro _ hle; first | refine chunk_le hA rfl hle rfl ?_ | refine cat_le hA ?_ | refine upd_le hA ?_ | (try cbv))))
  · (try cbv) <;> (repeat' (first | exact trivial | exact rfl | apply And.intro | exact fun _ => rfl | (intro _ hle; first | refine chunk_le hA rfl hle rfl ?_ | refine cat_le hA ?_ | refine upd_le hA ?_ | (try cbv))))
  · (try cbv) <;> (repeat' (first | exact trivial | exact rfl | apply And.intro | exact fun _ => rfl | (intro _ hle; first | refine chunk_le hA rfl hle rfl ?_ | refine cat_le hA ?_ | refine upd_le hA ?_ | (try cbv))))
    clear k1
    (subst hA; (try simp only [natCast_eq] at *); (try (simp only [Ar.real, NV.val, Int.ofNat_eq_natCast, Int.toNat_natCast])); first | done | omega | decide | exact inR64 (by omega) (by omega) | (refine ⟨?_, ?_⟩ <;> first | omega | decide | exact inR64 (by omega) (by omega)))
end
end Go.Proofs.YtnjjgipblimbfaaDoor.Dsk
namespace Go.Proofs.YtnjjgipblimbfaaDoor.Dsk
open Go.Eng
open Go.DskLaw (q64 secV isB needN pcs wipeP)
open Go.WalLaw
set_option maxRecDepth 100000
set_option maxHeartbeats 1000000
section
variable {P : Program} {G : Gl} {N s h gen at1 nb c su cn : Nat} {o : NV} {b : Nat → Int} {d : Dk} {dead : Bool} {nl : Nat → Nat} {nf : Nat → Nat → Int}
theorem alive_ok (hP : P = Tryd.prog) (hd : dead = false) :
    FnTr P G 59 [.ptr 3 0] (LgH N d gen at1 nb b o c su dead cn nl nf) 5 (Gives (.lit .i64 0) (LgH N d gen at1 nb b o c su dead cn nl nf) 5) := by
  have hT : T.Ok P := hP ▸ T_ok
  refine FnTr.intro (fn := Tryd.f59) (c := bodyOf Tryd.f59) (by rw [hP]; rfl) rfl rfl hT ?_
  generalize hA : Ar.real = A
  generalize hK : Gives _ _ _ = K
  cbv
  first | refine testR hd rfl ?_ | refine testL hd rfl ?_
  cbv
  refine Fin.le hA 5 [] (.lit .i64 0) (LgH N d gen at1 nb b o c su dead cn nl nf) 5 rfl rfl rfl ?_ ?_ (by rw [← hK]; exact ⟨rfl, rfl, rfl⟩)
  · (try cbv) <;> (repeat' (first | exact trivial | exact rfl | apply And.intro | exact fun _ => rfl | (intro _ hle; first | refine chunk_le hA rfl hle rfl ?_ | refine cat_le hA ?_ | refine upd_le hA ?_ | (try cbv))))
  · (try cbv) <;> (repeat' (first | exact trivial | exact rfl | apply And.intro | exact fun _ => rfl | (intro _ hle; first | refine chunk_le hA rfl hle rfl ?_ | refine cat_le hA ?_ | refine upd_le hA ?_ | (try cbv))))
theorem told_fn (hP : P = Tryd.prog) (hd : dead = false) :
    FnTr P G 62 [.ptr 3 0, .int .i64 6] (LgH N d gen at1 nb b o c su dead cn nl nf) 5 (Gives (.lit .i64 6) (LgH N d gen at1 nb b o c su true cn nl nf) 5) := by
  have hT : T.Ok P := hP ▸ T_ok
  refine FnTr.intro (fn := Tryd.f62) (c := bodyOf Tryd.f62) (by rw [hP]; rfl) rfl rfl hT ?_
  generalize hA : Ar.real = A
  generalize hK : Gives _ _ _ = K
  cbv
  first | refine testR hd rfl ?_ | refine testL hd rfl ?_
  cbv
  refine Fin.le hA 5 [] (.lit .i64 6) (LgH N d gen at1 nb b o c su true cn nl nf) 5 rfl rfl rfl ?_ ?_ (by rw [← hK]; exact ⟨rfl, rfl, rfl⟩)
  · (try cbv) <;> (repeat' (first | exact trivial | exact rfl | apply And.intro | exact fun _ => rfl | (intro _ hle; first | refine chunk_le hA rfl hle rfl ?_ | refine cat_le hA ?_ | refine upd_le hA ?_ | (try cbv))))
  · (try cbv) <;> (repeat' (first | exact trivial | exact rfl | apply And.intro | exact fun _ => rfl | (intro _ hle; first | refine chunk_le hA rfl hle rfl ?_ | refine cat_le hA ?_ | refine upd_le hA ?_ | (try cbv))))
    all_goals (subst hA; rfl)
theorem generation_fn (hP : P = Tryd.prog) :
    FnTr P G 50 [.ptr 3 0] (LgH N d gen at1 nb b o c su dead cn nl nf) 5 (Gives (.int .i64 (gen : Int)) (LgH N d gen at1 nb b o c su dead cn nl nf) 5) := by
  have hT : T.Ok P := hP ▸ T_ok
  refine FnTr.intro (fn := Tryd.f50) (c := bodyOf Tryd.f50) (by rw [hP]; rfl) rfl rfl hT ?_
  generalize hA : Ar.real = A
  generalize hK : Gives _ _ _ = K
  cbv
  refine Fin.le hA 5 [] (.int .i64 (gen : Int)) (LgH N d gen at1 nb b o c su dead cn nl nf) 5 rfl rfl rfl ?_ ?_ (by rw [← hK]; exact ⟨rfl, rfl, rfl⟩)
  · (try cbv) <;> (repeat' (first | exact trivial | exact rfl | apply And.intro | exact fun _ => rfl | (intro _ hle; first | refine chunk_le hA rfl hle rfl ?_ | refine cat_le hA ?_ | refine upd_le hA ?_ | (try cbv))))
  · (try cbv) <;> (repeat' (first | exact trivial | exact rfl | apply And.intro | exact fun _ => rfl | (intro _ hle; first | refine chunk_le hA rfl hle rfl ?_ | refine cat_le hA ?_ | refine upd_le hA ?_ | (try cbv))))
theorem sureof_fn (hP : P = Tryd.prog) :
    FnTr P G 52 [.ptr 3 0] (LgH N d gen at1 nb b o c su dead cn nl nf) 5 (Gives (.int .i64 (su : Int)) (LgH N d gen at1 nb b o c su dead cn nl nf) 5) := by
  have hT : T.Ok P := hP ▸ T_ok
  refine FnTr.intro (fn := Tryd.f52) (c := bodyOf Tryd.f52) (by rw [hP]; rfl) rfl rfl hT ?_
  generalize hA : Ar.real = A
  generalize hK : Gives _ _ _ = K
  cbv
  refine Fin.le hA 5 [] (.int .i64 (su : Int)) (LgH N d gen at1 nb b o c su dead cn nl nf) 5 rfl rfl rfl ?_ ?_ (by rw [← hK]; exact ⟨rfl, rfl, rfl⟩)
  · (try cbv) <;> (repeat' (first | exact trivial | exact rfl | apply And.intro | exact fun _ => rfl | (intro _ hle; first | refine chunk_le hA rfl hle rfl ?_ | refine cat_le hA ?_ | refine upd_le hA ?_ | (try cbv))))
  · (try cbv) <;> (repeat' (first | exact trivial | exact rfl | apply And.intro | exact fun _ => rfl | (intro _ hle; first | refine chunk_le hA rfl hle rfl ?_ | refine cat_le hA ?_ | refine upd_le hA ?_ | (try cbv))))
theorem base_fn (hP : P = Tryd.prog) (hn : nb ≤ 1000000) :
    FnTr P G 33 [.ptr 3 0] (LgH N d gen at1 nb b o c su dead cn nl nf) 5 (Gives (By nb b) (LgH N d gen at1 nb b o c su dead cn nl nf) 100) := by
  have c3 := _root_.Go.Proofs.YtnjjgipblimbfaaDoor.clone_fn (P := P) (G := G) (n := nb) (f := b) hP (by omega)
  have hT : T.Ok P := hP ▸ T_ok
  refine FnTr.intro (fn := Tryd.f33) (c := bodyOf Tryd.f33) (by rw [hP]; rfl) rfl rfl hT ?_
  generalize hA : Ar.real = A
  generalize hK : Gives _ _ _ = K
  cbv
  refine CS.le hA (c3) [] rfl rfl rfl ?_ ?_ ?_
  · (try cbv) <;> (repeat' (first | exact trivial | exact rfl | apply And.intro | exact fun _ => rfl | (intro _ hle; first | refine chunk_le hA rfl hle rfl ?_ | refine cat_le hA ?_ | refine upd_le hA ?_ | (try cbv)))) <;> (try (subst hA; (try simp only [natCast_eq] at *); (try (simp only [Ar.real, NV.val, Int.ofNat_eq_natCast, Int.toNat_natCast])); first | done | omega | decide | exact inR64 (by omega) (by omega) | (refine ⟨?_, ?_⟩ <;> first | omega | decide | exact inR64 (by omega) (by omega))))
  · (try cbv) <;> (repeat' (first | exact trivial | exact rfl | apply And.intro | exact fun _ => rfl | (intro _ hle; first | refine chunk_le hA rfl hle rfl ?_ | refine cat_le hA ?_ | refine upd_le hA ?_ | (try cbv))))
  cbv
  refine Fin.le hA 5 [] (By nb b) (LgH N d gen at1 nb b o c su dead cn nl nf) 100 rfl rfl rfl ?_ ?_ (by rw [← hK]; exact ⟨rfl, rfl, rfl⟩)
  · (try cbv) <;> (repeat' (first | exact trivial | exact rfl | apply And.intro | exact fun _ => rfl | (intro _ hle; first | refine chunk_le hA rfl hle rfl ?_ | refine cat_le hA ?_ | refine upd_le hA ?_ | (try cbv))))
  · (try cbv) <;> (repeat' (first | exact trivial | exact rfl | apply And.intro | exact fun _ => rfl | (intro _ hle; first | refine chunk_le hA rfl hle rfl ?_ | refine cat_le hA ?_ | refine upd_le hA ?_ | (try cbv))))
theorem room_fn (hP : P = Tryd.prog) {fi en : Nat} (hN : N = 64 * s) (hr : Reg s h gen fi en) (ha : at1 ≤ en) :
    FnTr P G 51 [.ptr 3 0] (LgH N d gen at1 nb b o c su dead cn nl nf) 5 (Gives (.int .i64 ((en - at1 : Nat) : Int)) (LgH N d gen at1 nb b o c su dead cn nl nf) 100) := by
  have c1 := end_fn (P := P) (G := G) (S := d.S) (L := d.L) (ar := d.ar) (ca := d.ca) hP hN hr.hs hr.hh hr.hg hr.hfi hr.hen
  have hle := hr.le
  have hs := hr.hs
  obtain ⟨x, hx⟩ : ∃ x, x = en - at1 := ⟨_, rfl⟩
  rw [← hx]
  clear hr hN
  have hT : T.Ok P := hP ▸ T_ok
  refine FnTr.intro (fn := Tryd.f51) (c := bodyOf Tryd.f51) (by rw [hP]; rfl) rfl rfl hT ?_
  generalize hA : Ar.real = A
  generalize hK : Gives _ _ _ = K
  cbv
  refine DS.runK hA hT (by rw [hP]; exact P_mixed) 12 rfl ?_
  cbv
  refine CD.pass hA (c1) [(0, 0), (1, 1), (2, 2)] [] rfl ⟨rfl, rfl, rfl, rfl, ?_, ?_⟩ rfl (.inl rfl) ?_
  · (try cbv) <;> (repeat' (first | exact trivial | exact rfl | apply And.intro | exact fun _ => rfl | (intro _ hle; first | refine chunk_le hA rfl hle rfl ?_ | refine cat_le hA ?_ | refine upd_le hA ?_ | (try cbv)))) <;> (try (subst hA; (try simp only [natCast_eq] at *); (try (simp only [Ar.real, NV.val, Int.ofNat_eq_natCast, Int.toNat_natCast])); first | done | omega | decide | exact inR64 (by omega) (by omega) | (refine ⟨?_, ?_⟩ <;> first | omega | decide | exact inR64 (by omega) (by omega))))
  · (try cbv) <;> (repeat' (first | exact trivial | exact rfl | apply And.intro | exact fun _ => rfl | (intro _ hle; first | refine chunk_le hA rfl hle rfl ?_ | refine cat_le hA ?_ | refine upd_le hA ?_ | (try cbv))))
  cbv
  refine ⟨(by (subst hA; (try simp only [natCast_eq] at *); (try (simp only [Ar.real, NV.val, Int.ofNat_eq_natCast, Int.toNat_natCast])); first | done | omega | decide | exact inR64 (by omega) (by omega) | (refine ⟨?_, ?_⟩ <;> first | omega | decide | exact inR64 (by omega) (by omega)))), ?_⟩
  refine DF.fin (by kernel_rfl) (by kernel_rfl) ?_
  cbv
  refine Fin.le hA 5 [] (.int .i64 (x : Int)) (LgH N d gen at1 nb b o c su dead cn nl nf) 100 rfl rfl rfl ?_ ?_ (by rw [← hK]; exact ⟨rfl, rfl, rfl⟩)
  · (try cbv) <;> (repeat' (first | exact trivial | exact rfl | apply And.intro | exact fun _ => rfl | (intro _ hle; first | refine chunk_le hA rfl hle rfl ?_ | refine cat_le hA ?_ | refine upd_le hA ?_ | (try cbv))))
    (subst hA; (try simp only [natCast_eq] at *); (try (simp only [Ar.real, NV.val, Int.ofNat_eq_natCast, Int.toNat_natCast])); first | done | omega | decide | exact inR64 (by omega) (by omega) | (refine ⟨?_, ?_⟩ <;> first | omega | decide | exact inR64 (by omega) (by omega)))
  · (try cbv) <;> (repeat' (first | exact trivial | exact rfl | apply And.intro | exact fun _ => rfl | (intro _ hle; first | refine chunk_le hA rfl hle rfl ?_ | refine cat_le hA ?_ | refine upd_le hA ?_ | (try cbv))))
theorem fits_fn (hP : P = Tryd.prog) {fi en : Nat} (hN : N = 64 * s) (hr : Reg s h gen fi en) (ha : at1 ≤ en) {n : Int} {nn m : Nat} {r : Bool} (hn : nn = n.toNat) (hf : nn ≤ 65532) (hm : m = needN (nn + 4)) (hrr : r = true ↔ m ≤ en - at1) :
    FnTr P G 53 [.ptr 3 0, .int .i64 n] (LgH N d gen at1 nb b o c su dead cn nl nf) 5 (Gives (.bs r) (LgH N d gen at1 nb b o c su dead cn nl nf) 200) := by
  have c1 := room_fn (P := P) (G := G) (nb := nb) (b := b) (o := o) (c := c) (su := su) (cn := cn) (d := d) (dead := dead) (nl := nl) (nf := nf) hP hN hr ha
  have c2 := need_fn (P := P) (G := G) (n := (nn : Int) + 4) (m := m) hP (by omega) (by rw [hm]; congr 1)
  obtain ⟨x, hx⟩ : ∃ x, x = en - at1 := ⟨_, rfl⟩
  rw [← hx] at c1 hrr
  clear hr hN hx hm
  have hT : T.Ok P := hP ▸ T_ok
  refine FnTr.intro (fn := Tryd.f53) (c := bodyOf Tryd.f53) (by rw [hP]; rfl) rfl rfl hT ?_
  generalize hA : Ar.real = A
  generalize hK : Gives _ _ _ = K
  cbv
  have k1 : A.le (A.max n 0) 65532 = true := by clear c1 c2 hrr; subst hA; simp only [Ar.real]; split <;> simp <;> omega
  have k2 : A.add (A.max n 0) 4 = (nn : Int) + 4 := by clear c1 c2 hrr; subst hA; simp only [Ar.real]; split <;> omega
  first | refine testR k1 rfl ?_ | refine testL k1 rfl ?_
  cbv
  refine ⟨by (show A.inR .i64 (A.add (A.max n 0) 4)); rw [k2]; clear c1 c2 hrr; (subst hA; (try simp only [natCast_eq] at *); (try (simp only [Ar.real, NV.val, Int.ofNat_eq_natCast, Int.toNat_natCast])); first | done | omega | decide | exact inR64 (by omega) (by omega) | (refine ⟨?_, ?_⟩ <;> first | omega | decide | exact inR64 (by omega) (by omega))), ?_⟩
  refine CS.le hA c2 [] rfl rfl rfl ?_ ?_ ?_
  · (try cbv) <;> (repeat' (first | exact trivial | exact rfl | apply And.intro | exact fun _ => rfl | (intro _ hle; first | refine chunk_le hA rfl hle rfl ?_ | refine cat_le hA ?_ | refine upd_le hA ?_ | (try cbv))))
    all_goals exact k2
  · (try cbv) <;> (repeat' (first | exact trivial | exact rfl | apply And.intro | exact fun _ => rfl | (intro _ hle; first | refine chunk_le hA rfl hle rfl ?_ | refine cat_le hA ?_ | refine upd_le hA ?_ | (try cbv))))
  cbv
  refine CS.le hA (c1) [(0, 0), (1, 1), (2, 2), (3, 3), (4, 4)] rfl rfl rfl ?_ ?_ ?_
  · (try cbv) <;> (repeat' (first | exact trivial | exact rfl | apply And.intro | exact fun _ => rfl | (intro _ hle; first | refine chunk_le hA rfl hle rfl ?_ | refine cat_le hA ?_ | refine upd_le hA ?_ | (try cbv)))) <;> (try (subst hA; (try simp only [natCast_eq] at *); (try (simp only [Ar.real, NV.val, Int.ofNat_eq_natCast, Int.toNat_natCast])); first | done | omega | decide | exact inR64 (by omega) (by omega) | (refine ⟨?_, ?_⟩ <;> first | omega | decide | exact inR64 (by omega) (by omega))))
  · (try cbv) <;> (repeat' (first | exact trivial | exact rfl | apply And.intro | exact fun _ => rfl | (intro _ hle; first | refine chunk_le hA rfl hle rfl ?_ | refine cat_le hA ?_ | refine upd_le hA ?_ | (try cbv))))
  cbv
  refine Fin.le hA 5 [] (.bs r) (LgH N d gen at1 nb b o c su dead cn nl nf) 200 rfl rfl rfl ?_ ?_ (by rw [← hK]; exact ⟨rfl, rfl, rfl⟩)
  · (try cbv) <;> (repeat' (first | exact trivial | exact rfl | apply And.intro | exact fun _ => rfl | (intro _ hle; first | refine chunk_le hA rfl hle rfl ?_ | refine cat_le hA ?_ | refine upd_le hA ?_ | (try cbv))))
    subst hA
    rw [Bool.eq_iff_iff, hrr]
    simp [Ar.real]
  · (try cbv) <;> (repeat' (first | exact trivial | exact rfl | apply And.intro | exact fun _ => rfl | (intro _ hle; first | refine chunk_le hA rfl hle rfl ?_ | refine cat_le hA ?_ | refine upd_le hA ?_ | (try cbv))))
theorem sync_ok {d1 : Dk} (hP : P = Tryd.prog) (hd : dead = false) (hN : N = 64 * s) (hs : 1 ≤ s ∧ s ≤ 4096) (ok : DkOk s d) (ho : ¬ offD d) (h1 : d1 = flushD d) :
    FnTr P G 28 [.ptr 3 0] (LgH N d gen at1 nb b o c su dead cn nl nf) 5 (Gives (.lit .i64 0) (LgH N d1 gen at1 nb b o c c dead cn nl nf) 100) := by
  have c1 := alive_ok (P := P) (G := G) (N := N) (gen := gen) (at1 := at1) (nb := nb) (b := b) (o := o) (c := c) (su := su) (cn := cn) (d := d) (nl := nl) (nf := nf) hP hd
  have c2 := flush_all (P := P) (G := G) hP hN hs ok ho h1
  clear ho h1 ok
  have hT : T.Ok P := hP ▸ T_ok
  refine FnTr.intro (fn := Tryd.f28) (c := bodyOf Tryd.f28) (by rw [hP]; rfl) rfl rfl hT ?_
  generalize hA : Ar.real = A
  generalize hK : Gives _ _ _ = K
  cbv
  refine CS.le hA (c1) [(0, 0), (1, 1), (2, 2), (3, 3), (4, 4)] rfl rfl rfl ?_ ?_ ?_
  · (try cbv) <;> (repeat' (first | exact trivial | exact rfl | apply And.intro | exact fun _ => rfl | (intro _ hle; first | refine chunk_le hA rfl hle rfl ?_ | refine cat_le hA ?_ | refine upd_le hA ?_ | (try cbv)))) <;> (try (subst hA; (try simp only [natCast_eq] at *); (try (simp only [Ar.real, NV.val, Int.ofNat_eq_natCast, Int.toNat_natCast])); first | done | omega | decide | exact inR64 (by omega) (by omega) | (refine ⟨?_, ?_⟩ <;> first | omega | decide | exact inR64 (by omega) (by omega))))
  · (try cbv) <;> (repeat' (first | exact trivial | exact rfl | apply And.intro | exact fun _ => rfl | (intro _ hle; first | refine chunk_le hA rfl hle rfl ?_ | refine cat_le hA ?_ | refine upd_le hA ?_ | (try cbv))))
  cbv
  refine CS.le hA (c2) [(0, 0), (1, 1), (2, 2)] rfl rfl rfl ?_ ?_ ?_
  · (try cbv) <;> (repeat' (first | exact trivial | exact rfl | apply And.intro | exact fun _ => rfl | (intro _ hle; first | refine chunk_le hA rfl hle rfl ?_ | refine cat_le hA ?_ | refine upd_le hA ?_ | (try cbv)))) <;> (try (subst hA; (try simp only [natCast_eq] at *); (try (simp only [Ar.real, NV.val, Int.ofNat_eq_natCast, Int.toNat_natCast])); first | done | omega | decide | exact inR64 (by omega) (by omega) | (refine ⟨?_, ?_⟩ <;> first | omega | decide | exact inR64 (by omega) (by omega))))
  · (try cbv) <;> (repeat' (first | exact trivial | exact rfl | apply And.intro | exact fun _ => rfl | (intro _ hle; first | refine chunk_le hA rfl hle rfl ?_ | refine cat_le hA ?_ | refine upd_le hA ?_ | (try cbv))))
  cbv
  refine Fin.le hA 5 [] (.lit .i64 0) (LgH N d1 gen at1 nb b o c c dead cn nl nf) 100 rfl rfl rfl ?_ ?_ (by rw [← hK]; exact ⟨rfl, rfl, rfl⟩)
  · (try cbv) <;> (repeat' (first | exact trivial | exact rfl | apply And.intro | exact fun _ => rfl | (intro _ hle; first | refine chunk_le hA rfl hle rfl ?_ | refine cat_le hA ?_ | refine upd_le hA ?_ | (try cbv))))
  · (try cbv) <;> (repeat' (first | exact trivial | exact rfl | apply And.intro | exact fun _ => rfl | (intro _ hle; first | refine chunk_le hA rfl hle rfl ?_ | refine cat_le hA ?_ | refine upd_le hA ?_ | (try cbv))))
    subst hA; rfl
end
end Go.Proofs.YtnjjgipblimbfaaDoor.Dsk
namespace Go.Proofs.YtnjjgipblimbfaaDoor.Dsk
open Go.Eng
open Go.DskLaw (q64 secV isB needN pcs wipeP)
open Go.WalLaw
set_option maxRecDepth 100000
set_option maxHeartbeats 1000000
/-- Notes, as data. -/
abbrev NtS (c : Nat) (nl : Nat → Nat) (nf : Nat → Nat → Int) : SV := .ro 1 (.s c) (fun e => [.ro 1 (.s (nl e.val)) (fun x => [.int .u8 (nf e.val x.val)])])
section
variable {P : Program} {G : Gl} {N s h gen at1 nb c su cn : Nat} {o : NV} {b : Nat → Int} {d : Dk} {dead : Bool} {nl ml : Nat → Nat} {nf mf : Nat → Nat → Int}
theorem notes_own (hP : P = Tryd.prog) (ho : o = .l 0 ∨ ∃ k, o = .s k) (hc : cn = o.val + c) (hcl : c ≤ 1000000) (hl : ∀ i, i < c → ml i = nl (o.val + i) ∧ ml i ≤ 1000000) (hf : ∀ i, i < c → ∀ x, mf i x = nf (o.val + i) x) :
    FnTr P G 35 [.ptr 3 0] (LgH N d gen at1 nb b o c su dead cn nl nf) 5 (Gives (.sl 5 1 (.l 0) (.s c)) ((5, LgR c ml mf) :: LgH N d gen at1 nb b o c su dead cn nl nf) 6) := by
  have c1 : ∀ i, i < c → FnTr P G 47 [By (ml i) (mf i)] [] 0 (Gives (By (ml i) (mf i)) [] 1) := fun i hi => _root_.Go.Proofs.YtnjjgipblimbfaaDoor.clone_fn (P := P) (G := G) (n := ml i) (f := mf i) hP (by have := (hl i hi).2; omega)
  obtain ⟨ov, hov⟩ : ∃ ov, ov = o.val := ⟨_, rfl⟩
  rw [← hov] at hc hl hf
  rcases ho with rfl | ⟨k, rfl⟩
  · have hov : ov = 0 := hov
    have hT : T.Ok P := hP ▸ T_ok
    refine FnTr.intro (fn := Tryd.f35) (c := bodyOf Tryd.f35) (by rw [hP]; rfl) rfl rfl hT ?_
    generalize hA : Ar.real = A
    generalize hK : Gives _ _ _ = K
    cbv
    refine LS.ghost 22 1 (.l 0) (fun _ => [.nils]) rfl ?_
    refine LS.le hT hA 5 (fun (i : Nat) => [(13, .int .i64 (i : Int)), (3, .sl 5 1 (.l 0) (.s i))]) (fun i => (5, LgR i ml mf) :: LgH N d gen at1 nb b (.l 0) c su dead cn nl nf) (fun i => i ≤ c) (fun i => c - i) 0 [(15, 5)] rfl rfl ?_ ?_ ?_
    · (try cbv) <;> (repeat' (first | exact trivial | exact rfl | apply And.intro | exact fun _ => rfl | (intro _ hle; first | refine chunk_le hA rfl hle rfl ?_ | refine cat_le hA ?_ | refine upd_le hA ?_ | refine int_le ?_ | skip)))
      all_goals (exfalso; subst hA; exact absurd (ltNV_real.1 hle) (Nat.not_lt_zero _))
    · exact Nat.zero_le _
    · intro R hR i hi
      cbv
      refine ⟨fun q1 => ?_, fun q1 => ?_⟩
      · have hic : i < c := by clear hR c1 hl hf; subst hA; simp [Ar.real] at q1; omega
        have c1 := c1 i hic
        have hl := (hl i hic).1
        have hf := hf i hic
        have kv : (A.nat (Int.ofNat i)) = ov + i := by clear hR c1 hf; rw [hov]; subst hA; show i = 0 + i; omega
        have kl : A.leN (A.addN (A.nat (Int.ofNat i)) 1) cn := by rw [kv]; clear hR c1 hf hl; subst hA; (show ov + i + 1 ≤ cn); omega
        have hpush : ∀ e, ltNV A e (.s (A.addN i 1)) → leL (leSV A 4) (catG A 1 (.s i) (fun e => [.ro 1 (.s (ml e.val)) (fun x => [.int .u8 (mf e.val x.val)])]) (fun x => chunkS A 1 [.ro 1 (.s (ml i)) (fun x => [.int .u8 (mf i x.val)])] (addNV A (.l 0) x)) e) [.ro 1 (.s (ml e.val)) (fun x => [.int .u8 (mf e.val x.val)])] := fun e he => by
          have he : e.val < i + 1 := by subst hA; exact ltNV_real.1 he
          exact rows_push (len := ml) (len' := ml) (g := mf) (g' := mf) (h := mf i) hA (by omega) (by split; rfl; rw [show e.val = i by omega]) (fun j _ => by split; rfl; rw [show e.val = i by omega])
        cbv
        refine ⟨(by (subst hA; (try simp only [natCast_eq] at *); (try (simp only [Ar.real, NV.val, Int.ofNat_eq_natCast, Int.toNat_natCast])); first | done | omega | decide | exact inR64 (by omega) (by omega) | (refine ⟨?_, ?_⟩ <;> first | omega | decide | exact inR64 (by omega) (by omega)))), kl, ?_⟩
        refine CS.le hA c1 [] rfl rfl rfl ?_ ?_ ?_
        · clear hR
          (try cbv) <;> (repeat' (first | exact trivial | exact rfl | apply And.intro | exact fun _ => rfl | (intro _ hle; first | refine chunk_le hA rfl hle rfl ?_ | refine cat_le hA ?_ | refine upd_le hA ?_ | (try cbv))))
          all_goals first | (show nl (A.nat (Int.ofNat i)) = _; rw [kv]; exact hl.symm) | (show nf (A.nat (Int.ofNat i)) _ = _; rw [kv]; exact (hf _).symm)
        · clear hR
          (try cbv) <;> (repeat' (first | exact trivial | exact rfl | apply And.intro | exact fun _ => rfl | (intro _ hle; first | refine chunk_le hA rfl hle rfl ?_ | refine cat_le hA ?_ | refine upd_le hA ?_ | (try cbv))))
        cbv
        clear kv kl c1 hl hf
        refine ⟨⟨(by (subst hA; (try simp only [natCast_eq] at *); (try (simp only [Ar.real, NV.val, Int.ofNat_eq_natCast, Int.toNat_natCast])); first | done | omega | decide | exact inR64 (by omega) (by omega) | (refine ⟨?_, ?_⟩ <;> first | omega | decide | exact inR64 (by omega) (by omega)))), (by (subst hA; (try simp only [natCast_eq] at *); (try (simp only [Ar.real, NV.val, Int.ofNat_eq_natCast, Int.toNat_natCast])); first | done | omega | decide | exact inR64 (by omega) (by omega) | (refine ⟨?_, ?_⟩ <;> first | omega | decide | exact inR64 (by omega) (by omega)))), (by (subst hA; (try simp only [natCast_eq] at *); (try (simp only [Ar.real, NV.val, Int.ofNat_eq_natCast, Int.toNat_natCast])); first | done | omega | decide | exact inR64 (by omega) (by omega) | (refine ⟨?_, ?_⟩ <;> first | omega | decide | exact inR64 (by omega) (by omega))))⟩, (by (subst hA; (try simp only [natCast_eq] at *); (try (simp only [Ar.real, NV.val, Int.ofNat_eq_natCast, Int.toNat_natCast])); first | done | omega | decide | exact inR64 (by omega) (by omega) | (refine ⟨?_, ?_⟩ <;> first | omega | decide | exact inR64 (by omega) (by omega)))), hR _ _ ⟨i + 1, 5, [(14, 5)], rfl, rfl, ?_, hic, (by show c - (i + 1) < c - i; omega)⟩⟩
        clear hR
        (try cbv) <;> (repeat' (first | exact trivial | exact rfl | apply And.intro | exact fun _ => rfl | (intro _ hle; first | exact hpush _ hle | refine chunk_le hA rfl hle rfl ?_ | refine cat_le hA ?_ | refine upd_le hA ?_ | refine int_le ?_ | skip)))
        all_goals (subst hA; (try simp only [natCast_eq] at *); (try (simp only [Ar.real, NV.val, Int.ofNat_eq_natCast, Int.toNat_natCast])); first | done | omega | decide | exact inR64 (by omega) (by omega) | (refine ⟨?_, ?_⟩ <;> first | omega | decide | exact inR64 (by omega) (by omega)))
      · have hic : i = c := by clear hR c1 hl hf; subst hA; simp [Ar.real] at q1; omega
        subst hic
        clear hR c1 hl hf
        cbv
        refine Fin.le hA 5 [(5, 5)] (.sl 5 1 (.l 0) (.s i)) ((5, LgR i ml mf) :: LgH N d gen at1 nb b (.l 0) i su dead cn nl nf) 6 rfl rfl rfl ?_ ?_ (by rw [← hK]; exact ⟨rfl, rfl, rfl⟩)
        · (try cbv) <;> (repeat' (first | exact trivial | exact rfl | apply And.intro | exact fun _ => rfl | (intro _ hle; first | refine chunk_le hA rfl hle rfl ?_ | refine cat_le hA ?_ | refine upd_le hA ?_ | refine int_le ?_ | skip)))
        · (try cbv) <;> (repeat' (first | exact trivial | exact rfl | apply And.intro | exact fun _ => rfl | (intro _ hle; first | refine chunk_le hA rfl hle rfl ?_ | refine cat_le hA ?_ | refine upd_le hA ?_ | refine int_le ?_ | skip)))
  · have hov : ov = k := hov
    have hT : T.Ok P := hP ▸ T_ok
    refine FnTr.intro (fn := Tryd.f35) (c := bodyOf Tryd.f35) (by rw [hP]; rfl) rfl rfl hT ?_
    generalize hA : Ar.real = A
    generalize hK : Gives _ _ _ = K
    cbv
    refine LS.ghost 22 1 (.l 0) (fun _ => [.nils]) rfl ?_
    refine LS.le hT hA 5 (fun (i : Nat) => [(13, .int .i64 (i : Int)), (3, .sl 5 1 (.l 0) (.s i))]) (fun i => (5, LgR i ml mf) :: LgH N d gen at1 nb b (.s k) c su dead cn nl nf) (fun i => i ≤ c) (fun i => c - i) 0 [(15, 5)] rfl rfl ?_ ?_ ?_
    · (try cbv) <;> (repeat' (first | exact trivial | exact rfl | apply And.intro | exact fun _ => rfl | (intro _ hle; first | refine chunk_le hA rfl hle rfl ?_ | refine cat_le hA ?_ | refine upd_le hA ?_ | refine int_le ?_ | skip)))
      all_goals (exfalso; subst hA; exact absurd (ltNV_real.1 hle) (Nat.not_lt_zero _))
    · exact Nat.zero_le _
    · intro R hR i hi
      cbv
      refine ⟨fun q1 => ?_, fun q1 => ?_⟩
      · have hic : i < c := by clear hR c1 hl hf; subst hA; simp [Ar.real] at q1; omega
        have c1 := c1 i hic
        have hl := (hl i hic).1
        have hf := hf i hic
        have kv : (A.addN k (A.nat (Int.ofNat i))) = ov + i := by clear hR c1 hf; rw [hov]; subst hA; rfl
        have kl : A.leN (A.addN (A.addN k (A.nat (Int.ofNat i))) 1) cn := by rw [kv]; clear hR c1 hf hl; subst hA; (show ov + i + 1 ≤ cn); omega
        have hpush : ∀ e, ltNV A e (.s (A.addN i 1)) → leL (leSV A 4) (catG A 1 (.s i) (fun e => [.ro 1 (.s (ml e.val)) (fun x => [.int .u8 (mf e.val x.val)])]) (fun x => chunkS A 1 [.ro 1 (.s (ml i)) (fun x => [.int .u8 (mf i x.val)])] (addNV A (.l 0) x)) e) [.ro 1 (.s (ml e.val)) (fun x => [.int .u8 (mf e.val x.val)])] := fun e he => by
          have he : e.val < i + 1 := by subst hA; exact ltNV_real.1 he
          exact rows_push (len := ml) (len' := ml) (g := mf) (g' := mf) (h := mf i) hA (by omega) (by split; rfl; rw [show e.val = i by omega]) (fun j _ => by split; rfl; rw [show e.val = i by omega])
        cbv
        refine ⟨(by (subst hA; (try simp only [natCast_eq] at *); (try (simp only [Ar.real, NV.val, Int.ofNat_eq_natCast, Int.toNat_natCast])); first | done | omega | decide | exact inR64 (by omega) (by omega) | (refine ⟨?_, ?_⟩ <;> first | omega | decide | exact inR64 (by omega) (by omega)))), kl, ?_⟩
        refine CS.le hA c1 [] rfl rfl rfl ?_ ?_ ?_
        · clear hR
          (try cbv) <;> (repeat' (first | exact trivial | exact rfl | apply And.intro | exact fun _ => rfl | (intro _ hle; first | refine chunk_le hA rfl hle rfl ?_ | refine cat_le hA ?_ | refine upd_le hA ?_ | (try cbv))))
          all_goals first | (show nl (A.addN k (A.nat (Int.ofNat i))) = _; rw [kv]; exact hl.symm) | (show nf (A.addN k (A.nat (Int.ofNat i))) _ = _; rw [kv]; exact (hf _).symm)
        · clear hR
          (try cbv) <;> (repeat' (first | exact trivial | exact rfl | apply And.intro | exact fun _ => rfl | (intro _ hle; first | refine chunk_le hA rfl hle rfl ?_ | refine cat_le hA ?_ | refine upd_le hA ?_ | (try cbv))))
        cbv
        clear kv kl c1 hl hf
        refine ⟨⟨(by (subst hA; (try simp only [natCast_eq] at *); (try (simp only [Ar.real, NV.val, Int.ofNat_eq_natCast, Int.toNat_natCast])); first | done | omega | decide | exact inR64 (by omega) (by omega) | (refine ⟨?_, ?_⟩ <;> first | omega | decide | exact inR64 (by omega) (by omega)))), (by (subst hA; (try simp only [natCast_eq] at *); (try (simp only [Ar.real, NV.val, Int.ofNat_eq_natCast, Int.toNat_natCast])); first | done | omega | decide | exact inR64 (by omega) (by omega) | (refine ⟨?_, ?_⟩ <;> first | omega | decide | exact inR64 (by omega) (by omega)))), (by (subst hA; (try simp only [natCast_eq] at *); (try (simp only [Ar.real, NV.val, Int.ofNat_eq_natCast, Int.toNat_natCast])); first | done | omega | decide | exact inR64 (by omega) (by omega) | (refine ⟨?_, ?_⟩ <;> first | omega | decide | exact inR64 (by omega) (by omega))))⟩, (by (subst hA; (try simp only [natCast_eq] at *); (try (simp only [Ar.real, NV.val, Int.ofNat_eq_natCast, Int.toNat_natCast])); first | done | omega | decide | exact inR64 (by omega) (by omega) | (refine ⟨?_, ?_⟩ <;> first | omega | decide | exact inR64 (by omega) (by omega)))), hR _ _ ⟨i + 1, 5, [(14, 5)], rfl, rfl, ?_, hic, (by show c - (i + 1) < c - i; omega)⟩⟩
        clear hR
        (try cbv) <;> (repeat' (first | exact trivial | exact rfl | apply And.intro | exact fun _ => rfl | (intro _ hle; first | exact hpush _ hle | refine chunk_le hA rfl hle rfl ?_ | refine cat_le hA ?_ | refine upd_le hA ?_ | refine int_le ?_ | skip)))
        all_goals (subst hA; (try simp only [natCast_eq] at *); (try (simp only [Ar.real, NV.val, Int.ofNat_eq_natCast, Int.toNat_natCast])); first | done | omega | decide | exact inR64 (by omega) (by omega) | (refine ⟨?_, ?_⟩ <;> first | omega | decide | exact inR64 (by omega) (by omega)))
      · have hic : i = c := by clear hR c1 hl hf; subst hA; simp [Ar.real] at q1; omega
        subst hic
        clear hR c1 hl hf
        cbv
        refine Fin.le hA 5 [(5, 5)] (.sl 5 1 (.l 0) (.s i)) ((5, LgR i ml mf) :: LgH N d gen at1 nb b (.s k) i su dead cn nl nf) 6 rfl rfl rfl ?_ ?_ (by rw [← hK]; exact ⟨rfl, rfl, rfl⟩)
        · (try cbv) <;> (repeat' (first | exact trivial | exact rfl | apply And.intro | exact fun _ => rfl | (intro _ hle; first | refine chunk_le hA rfl hle rfl ?_ | refine cat_le hA ?_ | refine upd_le hA ?_ | refine int_le ?_ | skip)))
        · (try cbv) <;> (repeat' (first | exact trivial | exact rfl | apply And.intro | exact fun _ => rfl | (intro _ hle; first | refine chunk_le hA rfl hle rfl ?_ | refine cat_le hA ?_ | refine upd_le hA ?_ | refine int_le ?_ | skip)))
theorem notes_fn (hP : P = Tryd.prog) (ho : o = .l 0 ∨ ∃ k, o = .s k) (hc : cn = o.val + c) (hcl : c ≤ 1000000) (hl : ∀ i, i < c → ml i = nl (o.val + i) ∧ ml i ≤ 1000000) (hf : ∀ i, i < c → ∀ x, mf i x = nf (o.val + i) x) :
    FnTr P G 35 [.ptr 3 0] (LgH N d gen at1 nb b o c su dead cn nl nf) 5 (Gives (NtS c ml mf) (LgH N d gen at1 nb b o c su dead cn nl nf) 6) := by
  have h1 := notes_own (P := P) (G := G) (N := N) (gen := gen) (at1 := at1) (nb := nb) (b := b) (su := su) (d := d) (dead := dead) hP ho hc hcl hl hf
  generalize hA : Ar.real = A
  refine FnTr.dat hA h1 _ _ ?_
  (try cbv) <;> (repeat' (first | exact trivial | exact rfl | apply And.intro | exact fun _ => rfl | (intro _ hle; first | refine chunk_le hA rfl hle rfl ?_ | refine cat_le hA ?_ | refine upd_le hA ?_ | refine int_le ?_ | skip)))
  all_goals (subst hA; (try simp only [natCast_eq] at *); (try (simp only [Ar.real, NV.val, Int.ofNat_eq_natCast, Int.toNat_natCast])); first | done | omega | decide | exact inR64 (by omega) (by omega) | (refine ⟨?_, ?_⟩ <;> first | omega | decide | exact inR64 (by omega) (by omega)))
end
end Go.Proofs.YtnjjgipblimbfaaDoor.Dsk
namespace Go.Proofs.YtnjjgipblimbfaaDoor.Dsk
open Go.Eng
open Go.DskLaw (q64 secV isB needN pcs wipeP)
open Go.WalLaw
open Go.CrcLaw (four)
set_option maxRecDepth 100000
set_option maxHeartbeats 1000000
/-- A log whose notes lie in another row. -/
abbrev LgQ (q : Nat) (N : Nat) (d : Dk) (gen at' bn : Nat) (b : Nat → Int) (o : NV) (c su : Nat) (dead : Bool) (cn : Nat) (nl : Nat → Nat) (nf : Nat → Nat → Int) : Hl :=
  (3, .cells 94 [.ptr 0 0, .int .i64 (gen : Int), .int .i64 (at' : Int), By bn b, .sl q 1 o (.s c), .int .i64 (su : Int), .bs dead]) :: (q, LgR cn nl nf) :: DHd N d
section
variable {P : Program} {fr : Nat → Int} {N s h gen fi en at1 at2 nb c su cn n m k : Nat} {b f : Nat → Int} {o : NV} {d d1 : Dk} {dead : Bool} {nl ml : Nat → Nat} {nf mf : Nat → Nat → Int}
theorem append_full {G : Gl} (hP : P = Tryd.prog) (hd : dead = false)
    (cF : FnTr P G 53 [.ptr 3 0, .int .i64 (n : Int)] (LgH N d gen at1 nb b o c su dead cn nl nf) 5 (Gives (.bs false) (LgH N d gen at1 nb b o c su dead cn nl nf) 200)) :
    FnTr P G 26 [.ptr 3 0, By n f] (LgH N d gen at1 nb b o c su dead cn nl nf) 5 (Gives (.lit .i64 2) (LgH N d gen at1 nb b o c su dead cn nl nf) 3000) := by
  have c1 := alive_ok (P := P) (G := G) (N := N) (gen := gen) (at1 := at1) (nb := nb) (b := b) (o := o) (c := c) (su := su) (cn := cn) (d := d) (nl := nl) (nf := nf) hP hd
  have hT : T.Ok P := hP ▸ T_ok
  refine FnTr.intro (fn := Tryd.f26) (c := bodyOf Tryd.f26) (by rw [hP]; rfl) rfl rfl hT ?_
  generalize hA : Ar.real = A
  generalize hK : Gives _ _ _ = K
  cbv
  refine CS.le hA (c1) [(0, 0), (1, 1), (2, 2), (3, 3), (4, 4)] rfl rfl rfl ?_ ?_ ?_
  · (try cbv) <;> (repeat' (first | exact trivial | exact rfl | apply And.intro | exact fun _ => rfl | (intro _ hle; first | refine chunk_le hA rfl hle rfl ?_ | refine cat_le hA ?_ | refine upd_le hA ?_ | (try cbv)))) <;> (try (subst hA; (try simp only [natCast_eq] at *); (try (simp only [Ar.real, NV.val, Int.ofNat_eq_natCast, Int.toNat_natCast])); first | done | omega | decide | exact inR64 (by omega) (by omega) | (refine ⟨?_, ?_⟩ <;> first | omega | decide | exact inR64 (by omega) (by omega))))
  · (try cbv) <;> (repeat' (first | exact trivial | exact rfl | apply And.intro | exact fun _ => rfl | (intro _ hle; first | refine chunk_le hA rfl hle rfl ?_ | refine cat_le hA ?_ | refine upd_le hA ?_ | (try cbv))))
  cbv
  refine CS.leR hA (cF) (.bl false) [(0, 0), (1, 1), (2, 2), (3, 3), (4, 4)] rfl rfl rfl ?_ ?_ ?_ ?_
  · (try cbv) <;> (repeat' (first | exact trivial | exact rfl | apply And.intro | exact fun _ => rfl | (intro _ hle; first | refine chunk_le hA rfl hle rfl ?_ | refine cat_le hA ?_ | refine upd_le hA ?_ | (try cbv)))) <;> (try (subst hA; (try simp only [natCast_eq] at *); (try (simp only [Ar.real, NV.val, Int.ofNat_eq_natCast, Int.toNat_natCast])); first | done | omega | decide | exact inR64 (by omega) (by omega) | (refine ⟨?_, ?_⟩ <;> first | omega | decide | exact inR64 (by omega) (by omega))))
  · (try cbv) <;> (repeat' (first | exact trivial | exact rfl | apply And.intro | exact fun _ => rfl | (intro _ hle; first | refine chunk_le hA rfl hle rfl ?_ | refine cat_le hA ?_ | refine upd_le hA ?_ | (try cbv)))) <;> (try (subst hA; (try simp only [natCast_eq] at *); (try (simp only [Ar.real, NV.val, Int.ofNat_eq_natCast, Int.toNat_natCast])); first | done | omega | decide | exact inR64 (by omega) (by omega) | (refine ⟨?_, ?_⟩ <;> first | omega | decide | exact inR64 (by omega) (by omega))))
  · (try cbv) <;> (repeat' (first | exact trivial | exact rfl | apply And.intro | exact fun _ => rfl | (intro _ hle; first | refine chunk_le hA rfl hle rfl ?_ | refine cat_le hA ?_ | refine upd_le hA ?_ | (try cbv))))
  cbv
  refine Fin.le hA 5 [] (.lit .i64 2) (LgH N d gen at1 nb b o c su dead cn nl nf) 3000 rfl rfl rfl ?_ ?_ (by rw [← hK]; exact ⟨rfl, rfl, rfl⟩)
  · (try cbv) <;> (repeat' (first | exact trivial | exact rfl | apply And.intro | exact fun _ => rfl | (intro _ hle; first | refine chunk_le hA rfl hle rfl ?_ | refine cat_le hA ?_ | refine upd_le hA ?_ | (try cbv))))
  · (try cbv) <;> (repeat' (first | exact trivial | exact rfl | apply And.intro | exact fun _ => rfl | (intro _ hle; first | refine chunk_le hA rfl hle rfl ?_ | refine cat_le hA ?_ | refine upd_le hA ?_ | (try cbv))))
theorem append_part (hP : P = Tryd.prog) (hfr : ∀ i, fr i = ((four i).toNat : Int)) (hd : dead = false) (hN : N = 64 * s) (hr : Reg s h gen fi en) (hb : ∀ i, i < n → 0 ≤ f i ∧ f i ≤ 255) (hn6 : n + 4 ≤ 65536) (hm : m = n + 4) (hg : ∀ i, i < m → mf 0 i = sealF n f i) (ok : DkOk s d) (hfit : at1 + needN m ≤ en) (hk : putK d m < needN m) (h1 : d1 = putD d at1 m (mf 0))
    (cF : FnTr P (Gf fr) 53 [.ptr 3 0, .int .i64 (n : Int)] (LgH N d gen at1 nb b o c su dead cn nl nf) 5 (Gives (.bs true) (LgH N d gen at1 nb b o c su dead cn nl nf) 200)) :
    FnTr P (Gf fr) 26 [.ptr 3 0, By n f] (LgH N d gen at1 nb b o c su dead cn nl nf) 5 (Gives (.lit .i64 6) (LgH N d1 gen at1 nb b o c su true cn nl nf) 3000) := by
  have c1 := alive_ok (P := P) (G := Gf fr) (N := N) (gen := gen) (at1 := at1) (nb := nb) (b := b) (o := o) (c := c) (su := su) (cn := cn) (d := d) (nl := nl) (nf := nf) hP hd
  have c2 := end_fn (P := P) (G := Gf fr) (S := d.S) (L := d.L) (ar := d.ar) (ca := d.ca) hP hN hr.hs hr.hh hr.hg hr.hfi hr.hen
  have c3 := seal2_fn (P := P) hP hfr hb (by omega) hm hg
  have c4 := put_part (P := P) (G := Gf fr) (f := mf 0) hP hN hr.hs.2 ok ⟨hfit, hr.le.2.2⟩ (by omega) hk h1
  have c5 := told_fn (P := P) (G := Gf fr) (N := N) (gen := gen) (at1 := at1) (nb := nb) (b := b) (o := o) (c := c) (su := su) (cn := cn) (d := d1) (nl := nl) (nf := nf) hP hd
  clear hfr hr hb hn6 hm hg ok hfit hk h1 hN
  have hT : T.Ok P := hP ▸ T_ok
  refine FnTr.intro (fn := Tryd.f26) (c := bodyOf Tryd.f26) (by rw [hP]; rfl) rfl rfl hT ?_
  generalize hA : Ar.real = A
  generalize hK : Gives _ _ _ = K
  cbv
  refine CS.le hA (c1) [(0, 0), (1, 1), (2, 2), (3, 3), (4, 4)] rfl rfl rfl ?_ ?_ ?_
  · (try cbv) <;> (repeat' (first | exact trivial | exact rfl | apply And.intro | exact fun _ => rfl | (intro _ hle; first | refine chunk_le hA rfl hle rfl ?_ | refine cat_le hA ?_ | refine upd_le hA ?_ | (try cbv)))) <;> (try (subst hA; (try simp only [natCast_eq] at *); (try (simp only [Ar.real, NV.val, Int.ofNat_eq_natCast, Int.toNat_natCast])); first | done | omega | decide | exact inR64 (by omega) (by omega) | (refine ⟨?_, ?_⟩ <;> first | omega | decide | exact inR64 (by omega) (by omega))))
  · (try cbv) <;> (repeat' (first | exact trivial | exact rfl | apply And.intro | exact fun _ => rfl | (intro _ hle; first | refine chunk_le hA rfl hle rfl ?_ | refine cat_le hA ?_ | refine upd_le hA ?_ | (try cbv))))
  cbv
  refine CS.leR hA (cF) (.bl true) [(0, 0), (1, 1), (2, 2), (3, 3), (4, 4)] rfl rfl rfl ?_ ?_ ?_ ?_
  · (try cbv) <;> (repeat' (first | exact trivial | exact rfl | apply And.intro | exact fun _ => rfl | (intro _ hle; first | refine chunk_le hA rfl hle rfl ?_ | refine cat_le hA ?_ | refine upd_le hA ?_ | (try cbv)))) <;> (try (subst hA; (try simp only [natCast_eq] at *); (try (simp only [Ar.real, NV.val, Int.ofNat_eq_natCast, Int.toNat_natCast])); first | done | omega | decide | exact inR64 (by omega) (by omega) | (refine ⟨?_, ?_⟩ <;> first | omega | decide | exact inR64 (by omega) (by omega))))
  · (try cbv) <;> (repeat' (first | exact trivial | exact rfl | apply And.intro | exact fun _ => rfl | (intro _ hle; first | refine chunk_le hA rfl hle rfl ?_ | refine cat_le hA ?_ | refine upd_le hA ?_ | (try cbv)))) <;> (try (subst hA; (try simp only [natCast_eq] at *); (try (simp only [Ar.real, NV.val, Int.ofNat_eq_natCast, Int.toNat_natCast])); first | done | omega | decide | exact inR64 (by omega) (by omega) | (refine ⟨?_, ?_⟩ <;> first | omega | decide | exact inR64 (by omega) (by omega))))
  · (try cbv) <;> (repeat' (first | exact trivial | exact rfl | apply And.intro | exact fun _ => rfl | (intro _ hle; first | refine chunk_le hA rfl hle rfl ?_ | refine cat_le hA ?_ | refine upd_le hA ?_ | (try cbv))))
  cbv
  refine DS.runK hA hT (by rw [hP]; exact P_mixed) 30 rfl ?_
  cbv
  refine CD.pass hA (c2) [(0, 0), (1, 1), (2, 2)] [] rfl ⟨rfl, rfl, rfl, rfl, ?_, ?_⟩ rfl (.inl rfl) ?_
  · (try cbv) <;> (repeat' (first | exact trivial | exact rfl | apply And.intro | exact fun _ => rfl | (intro _ hle; first | refine chunk_le hA rfl hle rfl ?_ | refine cat_le hA ?_ | refine upd_le hA ?_ | (try cbv)))) <;> (try (subst hA; (try simp only [natCast_eq] at *); (try (simp only [Ar.real, NV.val, Int.ofNat_eq_natCast, Int.toNat_natCast])); first | done | omega | decide | exact inR64 (by omega) (by omega) | (refine ⟨?_, ?_⟩ <;> first | omega | decide | exact inR64 (by omega) (by omega))))
  · (try cbv) <;> (repeat' (first | exact trivial | exact rfl | apply And.intro | exact fun _ => rfl | (intro _ hle; first | refine chunk_le hA rfl hle rfl ?_ | refine cat_le hA ?_ | refine upd_le hA ?_ | (try cbv))))
  cbv
  refine CD.pass hA (c3) [] [] rfl ⟨rfl, rfl, rfl, rfl, ?_, ?_⟩ rfl (.inl rfl) ?_
  · (try cbv) <;> (repeat' (first | exact trivial | exact rfl | apply And.intro | exact fun _ => rfl | (intro _ hle; first | refine chunk_le hA rfl hle rfl ?_ | refine cat_le hA ?_ | refine upd_le hA ?_ | (try cbv)))) <;> (try (subst hA; (try simp only [natCast_eq] at *); (try (simp only [Ar.real, NV.val, Int.ofNat_eq_natCast, Int.toNat_natCast])); first | done | omega | decide | exact inR64 (by omega) (by omega) | (refine ⟨?_, ?_⟩ <;> first | omega | decide | exact inR64 (by omega) (by omega))))
  · (try cbv) <;> (repeat' (first | exact trivial | exact rfl | apply And.intro | exact fun _ => rfl | (intro _ hle; first | refine chunk_le hA rfl hle rfl ?_ | refine cat_le hA ?_ | refine upd_le hA ?_ | (try cbv))))
  cbv
  refine CD.pass hA (c4) [(0, 0), (1, 1), (2, 2)] [] rfl ⟨rfl, rfl, rfl, rfl, ?_, ?_⟩ rfl (.inl rfl) ?_
  · (try cbv) <;> (repeat' (first | exact trivial | exact rfl | apply And.intro | exact fun _ => rfl | (intro _ hle; first | refine chunk_le hA rfl hle rfl ?_ | refine cat_le hA ?_ | refine upd_le hA ?_ | (try cbv)))) <;> (try (subst hA; (try simp only [natCast_eq] at *); (try (simp only [Ar.real, NV.val, Int.ofNat_eq_natCast, Int.toNat_natCast])); first | done | omega | decide | exact inR64 (by omega) (by omega) | (refine ⟨?_, ?_⟩ <;> first | omega | decide | exact inR64 (by omega) (by omega))))
  · (try cbv) <;> (repeat' (first | exact trivial | exact rfl | apply And.intro | exact fun _ => rfl | (intro _ hle; first | refine chunk_le hA rfl hle rfl ?_ | refine cat_le hA ?_ | refine upd_le hA ?_ | (try cbv))))
  cbv
  refine DF.fin (by kernel_rfl) (by kernel_rfl) ?_
  cbv
  refine CS.le hA (c5) [(0, 0), (1, 1), (2, 2), (3, 3), (4, 4)] rfl rfl rfl ?_ ?_ ?_
  · (try cbv) <;> (repeat' (first | exact trivial | exact rfl | apply And.intro | exact fun _ => rfl | (intro _ hle; first | refine chunk_le hA rfl hle rfl ?_ | refine cat_le hA ?_ | refine upd_le hA ?_ | (try cbv)))) <;> (try (subst hA; (try simp only [natCast_eq] at *); (try (simp only [Ar.real, NV.val, Int.ofNat_eq_natCast, Int.toNat_natCast])); first | done | omega | decide | exact inR64 (by omega) (by omega) | (refine ⟨?_, ?_⟩ <;> first | omega | decide | exact inR64 (by omega) (by omega))))
  · (try cbv) <;> (repeat' (first | exact trivial | exact rfl | apply And.intro | exact fun _ => rfl | (intro _ hle; first | refine chunk_le hA rfl hle rfl ?_ | refine cat_le hA ?_ | refine upd_le hA ?_ | (try cbv))))
  cbv
  refine Fin.le hA 5 [] (.lit .i64 6) (LgH N d1 gen at1 nb b o c su true cn nl nf) 3000 rfl rfl rfl ?_ ?_ (by rw [← hK]; exact ⟨rfl, rfl, rfl⟩)
  · (try cbv) <;> (repeat' (first | exact trivial | exact rfl | apply And.intro | exact fun _ => rfl | (intro _ hle; first | refine chunk_le hA rfl hle rfl ?_ | refine cat_le hA ?_ | refine upd_le hA ?_ | (try cbv))))
  · (try cbv) <;> (repeat' (first | exact trivial | exact rfl | apply And.intro | exact fun _ => rfl | (intro _ hle; first | refine chunk_le hA rfl hle rfl ?_ | refine cat_le hA ?_ | refine upd_le hA ?_ | (try cbv))))
theorem append_ok (hP : P = Tryd.prog) (hfr : ∀ i, fr i = ((four i).toNat : Int)) (hd : dead = false) (hN : N = 64 * s) (hr : Reg s h gen fi en) (hb : ∀ i, i < n → 0 ≤ f i ∧ f i ≤ 255) (hn6 : n + 4 ≤ 65536) (hm : m = n + 4) (hg : ∀ i, i < m → b i = b i) {g : Nat → Int} (hgg : ∀ i, i < m → g i = sealF n f i) (ok : DkOk s d) (hfit : at1 + needN m ≤ en) (hk : putK d m = needN m) (h1 : d1 = putD d at1 m g) (ha : at2 = at1 + needN m) (hcl : c ≤ 1000000) {c2 : Nat} (hc2 : c2 = c + 1)
    (hl : ∀ i, ml i = if i < c then nl i else n) (hf : ∀ i x, mf i x = if i < c then nf i x else f x)
    (cF : FnTr P (Gf fr) 53 [.ptr 3 0, .int .i64 (n : Int)] (LgH N d gen at1 nb b (.l 0) c su dead c nl nf) 5 (Gives (.bs true) (LgH N d gen at1 nb b (.l 0) c su dead c nl nf) 200)) :
    FnTr P (Gf fr) 26 [.ptr 3 0, By n f] (LgH N d gen at1 nb b (.l 0) c su dead c nl nf) 5 (Gives (.lit .i64 0) (LgQ 5 N d1 gen at2 nb b (.l 0) c2 su dead c2 ml mf) 3000) := by
  have c1 := alive_ok (P := P) (G := Gf fr) (N := N) (gen := gen) (at1 := at1) (nb := nb) (b := b) (o := .l 0) (c := c) (su := su) (cn := c) (d := d) (nl := nl) (nf := nf) hP hd
  have e2 := end_fn (P := P) (G := Gf fr) (S := d.S) (L := d.L) (ar := d.ar) (ca := d.ca) hP hN hr.hs hr.hh hr.hg hr.hfi hr.hen
  have c3 := seal2_fn (P := P) hP hfr hb (by omega) hm hgg
  have c4 := put_all (P := P) (G := Gf fr) (f := g) (at' := (at2 : Int)) hP hN hr.hs.2 ok ⟨hfit, hr.le.2.2⟩ (by omega) hk h1 (by rw [ha])
  have c5 := _root_.Go.Proofs.YtnjjgipblimbfaaDoor.clone_fn (P := P) (G := Gf fr) (n := n) (f := f) hP (by omega)
  have hpush : ∀ {A : Ar}, Ar.real = A → ∀ e, ltNV A e (.s (A.addN c 1)) → leL (leSV A 4) (catG A 1 (.s c) (fun e => [.ro 1 (.s (nl e.val)) (fun x => [.int .u8 (nf e.val x.val)])]) (fun x => chunkS A 1 [.ro 1 (.s n) (fun x => [.int .u8 (f x.val)])] (addNV A (.l 0) x)) e) [.ro 1 (.s (ml e.val)) (fun x => [.int .u8 (mf e.val x.val)])] := fun {A} hA e he => by
    have he : e.val < c + 1 := by subst hA; exact ltNV_real.1 he
    exact rows_push (len := nl) (len' := ml) (g := nf) (g' := mf) (h := f) hA (by omega) (hl _) (fun j _ => hf _ j)
  clear hfr hr hb hm hgg ok hfit hk h1 hN hl hf
  have hT : T.Ok P := hP ▸ T_ok
  refine FnTr.intro (fn := Tryd.f26) (c := bodyOf Tryd.f26) (by rw [hP]; rfl) rfl rfl hT ?_
  generalize hA : Ar.real = A
  generalize hK : Gives _ _ _ = K
  cbv
  have hpush := hpush hA
  refine CS.le hA (c1) [(0, 0), (1, 1), (2, 2), (3, 3), (4, 4)] rfl rfl rfl ?_ ?_ ?_
  · (try cbv) <;> (repeat' (first | exact trivial | exact rfl | apply And.intro | exact fun _ => rfl | (intro _ hle; first | refine chunk_le hA rfl hle rfl ?_ | refine cat_le hA ?_ | refine upd_le hA ?_ | (try cbv)))) <;> (try (subst hA; (try simp only [natCast_eq] at *); (try (simp only [Ar.real, NV.val, Int.ofNat_eq_natCast, Int.toNat_natCast])); first | done | omega | decide | exact inR64 (by omega) (by omega) | (refine ⟨?_, ?_⟩ <;> first | omega | decide | exact inR64 (by omega) (by omega))))
  · (try cbv) <;> (repeat' (first | exact trivial | exact rfl | apply And.intro | exact fun _ => rfl | (intro _ hle; first | refine chunk_le hA rfl hle rfl ?_ | refine cat_le hA ?_ | refine upd_le hA ?_ | (try cbv))))
  cbv
  refine CS.leR hA (cF) (.bl true) [(0, 0), (1, 1), (2, 2), (3, 3), (4, 4)] rfl rfl rfl ?_ ?_ ?_ ?_
  · (try cbv) <;> (repeat' (first | exact trivial | exact rfl | apply And.intro | exact fun _ => rfl | (intro _ hle; first | refine chunk_le hA rfl hle rfl ?_ | refine cat_le hA ?_ | refine upd_le hA ?_ | (try cbv)))) <;> (try (subst hA; (try simp only [natCast_eq] at *); (try (simp only [Ar.real, NV.val, Int.ofNat_eq_natCast, Int.toNat_natCast])); first | done | omega | decide | exact inR64 (by omega) (by omega) | (refine ⟨?_, ?_⟩ <;> first | omega | decide | exact inR64 (by omega) (by omega))))
  · (try cbv) <;> (repeat' (first | exact trivial | exact rfl | apply And.intro | exact fun _ => rfl | (intro _ hle; first | refine chunk_le hA rfl hle rfl ?_ | refine cat_le hA ?_ | refine upd_le hA ?_ | (try cbv)))) <;> (try (subst hA; (try simp only [natCast_eq] at *); (try (simp only [Ar.real, NV.val, Int.ofNat_eq_natCast, Int.toNat_natCast])); first | done | omega | decide | exact inR64 (by omega) (by omega) | (refine ⟨?_, ?_⟩ <;> first | omega | decide | exact inR64 (by omega) (by omega))))
  · (try cbv) <;> (repeat' (first | exact trivial | exact rfl | apply And.intro | exact fun _ => rfl | (intro _ hle; first | refine chunk_le hA rfl hle rfl ?_ | refine cat_le hA ?_ | refine upd_le hA ?_ | (try cbv))))
  cbv
  refine DS.runK hA hT (by rw [hP]; exact P_mixed) 30 rfl ?_
  cbv
  refine CD.pass hA (e2) [(0, 0), (1, 1), (2, 2)] [] rfl ⟨rfl, rfl, rfl, rfl, ?_, ?_⟩ rfl (.inl rfl) ?_
  · (try cbv) <;> (repeat' (first | exact trivial | exact rfl | apply And.intro | exact fun _ => rfl | (intro _ hle; first | refine chunk_le hA rfl hle rfl ?_ | refine cat_le hA ?_ | refine upd_le hA ?_ | (try cbv)))) <;> (try (subst hA; (try simp only [natCast_eq] at *); (try (simp only [Ar.real, NV.val, Int.ofNat_eq_natCast, Int.toNat_natCast])); first | done | omega | decide | exact inR64 (by omega) (by omega) | (refine ⟨?_, ?_⟩ <;> first | omega | decide | exact inR64 (by omega) (by omega))))
  · (try cbv) <;> (repeat' (first | exact trivial | exact rfl | apply And.intro | exact fun _ => rfl | (intro _ hle; first | refine chunk_le hA rfl hle rfl ?_ | refine cat_le hA ?_ | refine upd_le hA ?_ | (try cbv))))
  cbv
  refine CD.pass hA (c3) [] [] rfl ⟨rfl, rfl, rfl, rfl, ?_, ?_⟩ rfl (.inl rfl) ?_
  · (try cbv) <;> (repeat' (first | exact trivial | exact rfl | apply And.intro | exact fun _ => rfl | (intro _ hle; first | refine chunk_le hA rfl hle rfl ?_ | refine cat_le hA ?_ | refine upd_le hA ?_ | (try cbv)))) <;> (try (subst hA; (try simp only [natCast_eq] at *); (try (simp only [Ar.real, NV.val, Int.ofNat_eq_natCast, Int.toNat_natCast])); first | done | omega | decide | exact inR64 (by omega) (by omega) | (refine ⟨?_, ?_⟩ <;> first | omega | decide | exact inR64 (by omega) (by omega))))
  · (try cbv) <;> (repeat' (first | exact trivial | exact rfl | apply And.intro | exact fun _ => rfl | (intro _ hle; first | refine chunk_le hA rfl hle rfl ?_ | refine cat_le hA ?_ | refine upd_le hA ?_ | (try cbv))))
  cbv
  refine CD.pass hA (c4) [(0, 0), (1, 1), (2, 2)] [] rfl ⟨rfl, rfl, rfl, rfl, ?_, ?_⟩ rfl (.inl rfl) ?_
  · (try cbv) <;> (repeat' (first | exact trivial | exact rfl | apply And.intro | exact fun _ => rfl | (intro _ hle; first | refine chunk_le hA rfl hle rfl ?_ | refine cat_le hA ?_ | refine upd_le hA ?_ | (try cbv)))) <;> (try (subst hA; (try simp only [natCast_eq] at *); (try (simp only [Ar.real, NV.val, Int.ofNat_eq_natCast, Int.toNat_natCast])); first | done | omega | decide | exact inR64 (by omega) (by omega) | (refine ⟨?_, ?_⟩ <;> first | omega | decide | exact inR64 (by omega) (by omega))))
  · (try cbv) <;> (repeat' (first | exact trivial | exact rfl | apply And.intro | exact fun _ => rfl | (intro _ hle; first | refine chunk_le hA rfl hle rfl ?_ | refine cat_le hA ?_ | refine upd_le hA ?_ | (try cbv))))
  cbv
  refine DF.fin (by kernel_rfl) (by kernel_rfl) ?_
  cbv
  refine DS.runK hA hT (by rw [hP]; exact P_mixed) 30 rfl ?_
  cbv
  refine CD.pass hA (c5) [] [] rfl ⟨rfl, rfl, rfl, rfl, ?_, ?_⟩ rfl (.inl rfl) ?_
  · (try cbv) <;> (repeat' (first | exact trivial | exact rfl | apply And.intro | exact fun _ => rfl | (intro _ hle; first | refine chunk_le hA rfl hle rfl ?_ | refine cat_le hA ?_ | refine upd_le hA ?_ | (try cbv)))) <;> (try (subst hA; (try simp only [natCast_eq] at *); (try (simp only [Ar.real, NV.val, Int.ofNat_eq_natCast, Int.toNat_natCast])); first | done | omega | decide | exact inR64 (by omega) (by omega) | (refine ⟨?_, ?_⟩ <;> first | omega | decide | exact inR64 (by omega) (by omega))))
  · (try cbv) <;> (repeat' (first | exact trivial | exact rfl | apply And.intro | exact fun _ => rfl | (intro _ hle; first | refine chunk_le hA rfl hle rfl ?_ | refine cat_le hA ?_ | refine upd_le hA ?_ | (try cbv))))
  cbv
  refine ⟨⟨(by (subst hA; (try simp only [natCast_eq] at *); (try (simp only [Ar.real, NV.val, Int.ofNat_eq_natCast, Int.toNat_natCast])); first | done | omega | decide | exact inR64 (by omega) (by omega) | (refine ⟨?_, ?_⟩ <;> first | omega | decide | exact inR64 (by omega) (by omega)))), (by (subst hA; (try simp only [natCast_eq] at *); (try (simp only [Ar.real, NV.val, Int.ofNat_eq_natCast, Int.toNat_natCast])); first | done | omega | decide | exact inR64 (by omega) (by omega) | (refine ⟨?_, ?_⟩ <;> first | omega | decide | exact inR64 (by omega) (by omega)))), (by (subst hA; (try simp only [natCast_eq] at *); (try (simp only [Ar.real, NV.val, Int.ofNat_eq_natCast, Int.toNat_natCast])); first | done | omega | decide | exact inR64 (by omega) (by omega) | (refine ⟨?_, ?_⟩ <;> first | omega | decide | exact inR64 (by omega) (by omega))))⟩, ?_⟩
  refine DF.fin (by kernel_rfl) (by kernel_rfl) ?_
  cbv
  refine Fin.le hA 5 [(1216, 5)] (.lit .i64 0) (LgQ 5 N d1 gen at2 nb b (.l 0) c2 su dead c2 ml mf) 3000 rfl rfl rfl ?_ ?_ (by rw [← hK]; exact ⟨rfl, rfl, rfl⟩)
  · (try cbv) <;> (repeat' (first | exact trivial | exact rfl | apply And.intro | exact fun _ => rfl | (intro _ hle; first | refine chunk_le hA rfl hle rfl ?_ | refine cat_le hA ?_ | refine upd_le hA ?_ | (try cbv))))
  · clear c1 e2 c3 c4 c5 cF
    (try cbv) <;> (repeat' (first | exact trivial | exact rfl | apply And.intro | exact fun _ => rfl | (intro _ hle; first | exact hpush _ hle | refine chunk_le hA rfl hle rfl ?_ | refine cat_le hA ?_ | refine upd_le hA ?_ | refine int_le ?_ | skip)))
    all_goals (subst hc2; subst hA; rfl)
end
end Go.Proofs.YtnjjgipblimbfaaDoor.Dsk
namespace Go.Proofs.YtnjjgipblimbfaaDoor.Dsk
open Go.Eng
open Go.DskLaw (q64 secV isB needN pcs wipeP)
open Go.WalLaw
open Go.CrcLaw (four)
set_option maxRecDepth 100000
set_option maxHeartbeats 1000000
section
variable {P : Program} {fr : Nat → Int} {N s h gen g1 at1 at2 nb c su cn n : Nat} {b f : Nat → Int} {o : NV} {d d1 : Dk} {dead : Bool} {nl ml : Nat → Nat} {nf mf : Nat → Nat → Int}
theorem switch_ok (hP : P = Tryd.prog) (hd : dead = false) (hN : N = 64 * s) (hs : 4 ≤ s ∧ s ≤ 4096) (hh : h = (s - 2) / 2) (hn : n ≤ 1000000) (hf : ¬ (65536 < n + 4 ∨ h < needN (n + 4))) (hg : gen < 1099511627776) (hg1 : g1 = gen + 1)
    (cL : FnTr P (Gf fr) 57 [.ptr 0 0, .int .i64 (g1 : Int), By n f] (DHd N d) 3 (Gives (.tup [.int .i64 (at2 : Int), .lit .i64 0]) (DHd N d1) 3)) :
    FnTr P (Gf fr) 38 [.ptr 3 0, By n f] (LgH N d gen at1 nb b o c su dead cn nl nf) 5 (Gives (.lit .i64 0) (LgQ 5 N d1 g1 at2 n f (.l 0) 0 0 false 0 ml mf) 5000) := by
  have c1 := alive_ok (P := P) (G := Gf fr) (N := N) (gen := gen) (at1 := at1) (nb := nb) (b := b) (o := o) (c := c) (su := su) (cn := cn) (d := d) (nl := nl) (nf := nf) hP hd
  have c2 := full_fn (P := P) (G := Gf fr) (S := d.S) (f := f) (L := d.L) (ar := d.ar) (ca := d.ca) (r := false) hP hN hs hh hn rfl ⟨fun h => (by cases h), fun h => absurd h hf⟩
  have c5 := _root_.Go.Proofs.YtnjjgipblimbfaaDoor.clone_fn (P := P) (G := Gf fr) (n := n) (f := f) hP (by omega)
  clear hf
  have hT : T.Ok P := hP ▸ T_ok
  refine FnTr.intro (fn := Tryd.f38) (c := bodyOf Tryd.f38) (by rw [hP]; rfl) rfl rfl hT ?_
  generalize hA : Ar.real = A
  generalize hK : Gives _ _ _ = K
  cbv
  have k1 : A.gt (A.add (gen : Int) 1) 1099511627776 = false := by clear c1 c2 c5 cL; subst hA; simp [Ar.real]; omega
  refine CS.le hA (c1) [(0, 0), (1, 1), (2, 2), (3, 3), (4, 4)] rfl rfl rfl ?_ ?_ ?_
  · (try cbv) <;> (repeat' (first | exact trivial | exact rfl | apply And.intro | exact fun _ => rfl | (intro _ hle; first | refine chunk_le hA rfl hle rfl ?_ | refine cat_le hA ?_ | refine upd_le hA ?_ | (try cbv)))) <;> (try (subst hA; (try simp only [natCast_eq] at *); (try (simp only [Ar.real, NV.val, Int.ofNat_eq_natCast, Int.toNat_natCast])); first | done | omega | decide | exact inR64 (by omega) (by omega) | (refine ⟨?_, ?_⟩ <;> first | omega | decide | exact inR64 (by omega) (by omega))))
  · (try cbv) <;> (repeat' (first | exact trivial | exact rfl | apply And.intro | exact fun _ => rfl | (intro _ hle; first | refine chunk_le hA rfl hle rfl ?_ | refine cat_le hA ?_ | refine upd_le hA ?_ | (try cbv))))
  cbv
  refine CS.leR hA (c2) (.bl false) [(0, 0), (1, 1), (2, 2)] rfl rfl rfl ?_ ?_ ?_ ?_
  · (try cbv) <;> (repeat' (first | exact trivial | exact rfl | apply And.intro | exact fun _ => rfl | (intro _ hle; first | refine chunk_le hA rfl hle rfl ?_ | refine cat_le hA ?_ | refine upd_le hA ?_ | (try cbv)))) <;> (try (subst hA; (try simp only [natCast_eq] at *); (try (simp only [Ar.real, NV.val, Int.ofNat_eq_natCast, Int.toNat_natCast])); first | done | omega | decide | exact inR64 (by omega) (by omega) | (refine ⟨?_, ?_⟩ <;> first | omega | decide | exact inR64 (by omega) (by omega))))
  · (try cbv) <;> (repeat' (first | exact trivial | exact rfl | apply And.intro | exact fun _ => rfl | (intro _ hle; first | refine chunk_le hA rfl hle rfl ?_ | refine cat_le hA ?_ | refine upd_le hA ?_ | (try cbv)))) <;> (try (subst hA; (try simp only [natCast_eq] at *); (try (simp only [Ar.real, NV.val, Int.ofNat_eq_natCast, Int.toNat_natCast])); first | done | omega | decide | exact inR64 (by omega) (by omega) | (refine ⟨?_, ?_⟩ <;> first | omega | decide | exact inR64 (by omega) (by omega))))
  · (try cbv) <;> (repeat' (first | exact trivial | exact rfl | apply And.intro | exact fun _ => rfl | (intro _ hle; first | refine chunk_le hA rfl hle rfl ?_ | refine cat_le hA ?_ | refine upd_le hA ?_ | (try cbv))))
  cbv
  refine ⟨(by (subst hA; (try simp only [natCast_eq] at *); (try (simp only [Ar.real, NV.val, Int.ofNat_eq_natCast, Int.toNat_natCast])); first | done | omega | decide | exact inR64 (by omega) (by omega) | (refine ⟨?_, ?_⟩ <;> first | omega | decide | exact inR64 (by omega) (by omega)))), ?_⟩
  first | refine testR k1 rfl ?_ | refine testL k1 rfl ?_
  cbv
  refine DS.runK hA hT (by rw [hP]; exact P_mixed) 30 rfl ?_
  cbv
  refine ⟨(by (subst hA; (try simp only [natCast_eq] at *); (try (simp only [Ar.real, NV.val, Int.ofNat_eq_natCast, Int.toNat_natCast])); first | done | omega | decide | exact inR64 (by omega) (by omega) | (refine ⟨?_, ?_⟩ <;> first | omega | decide | exact inR64 (by omega) (by omega)))), ?_⟩
  refine CD.pass hA (cL) [(0, 0), (1, 1), (2, 2)] [] rfl ⟨rfl, rfl, rfl, rfl, ?_, ?_⟩ rfl (.inl rfl) ?_
  · (try cbv) <;> (repeat' (first | exact trivial | exact rfl | apply And.intro | exact fun _ => rfl | (intro _ hle; first | refine chunk_le hA rfl hle rfl ?_ | refine cat_le hA ?_ | refine upd_le hA ?_ | (try cbv)))) <;> (try (subst hA; (try simp only [natCast_eq] at *); (try (simp only [Ar.real, NV.val, Int.ofNat_eq_natCast, Int.toNat_natCast])); first | done | omega | decide | exact inR64 (by omega) (by omega) | (refine ⟨?_, ?_⟩ <;> first | omega | decide | exact inR64 (by omega) (by omega))))
  · (try cbv) <;> (repeat' (first | exact trivial | exact rfl | apply And.intro | exact fun _ => rfl | (intro _ hle; first | refine chunk_le hA rfl hle rfl ?_ | refine cat_le hA ?_ | refine upd_le hA ?_ | (try cbv))))
  cbv
  refine DF.fin (by kernel_rfl) (by kernel_rfl) ?_
  cbv
  refine DS.runK hA hT (by rw [hP]; exact P_mixed) 30 rfl ?_
  cbv
  refine ⟨(by (subst hA; (try simp only [natCast_eq] at *); (try (simp only [Ar.real, NV.val, Int.ofNat_eq_natCast, Int.toNat_natCast])); first | done | omega | decide | exact inR64 (by omega) (by omega) | (refine ⟨?_, ?_⟩ <;> first | omega | decide | exact inR64 (by omega) (by omega)))), ?_⟩
  refine CD.pass hA (c5) [] [] rfl ⟨rfl, rfl, rfl, rfl, ?_, ?_⟩ rfl (.inl rfl) ?_
  · (try cbv) <;> (repeat' (first | exact trivial | exact rfl | apply And.intro | exact fun _ => rfl | (intro _ hle; first | refine chunk_le hA rfl hle rfl ?_ | refine cat_le hA ?_ | refine upd_le hA ?_ | (try cbv)))) <;> (try (subst hA; (try simp only [natCast_eq] at *); (try (simp only [Ar.real, NV.val, Int.ofNat_eq_natCast, Int.toNat_natCast])); first | done | omega | decide | exact inR64 (by omega) (by omega) | (refine ⟨?_, ?_⟩ <;> first | omega | decide | exact inR64 (by omega) (by omega))))
  · (try cbv) <;> (repeat' (first | exact trivial | exact rfl | apply And.intro | exact fun _ => rfl | (intro _ hle; first | refine chunk_le hA rfl hle rfl ?_ | refine cat_le hA ?_ | refine upd_le hA ?_ | (try cbv))))
  cbv
  refine DF.fin (by kernel_rfl) (by kernel_rfl) ?_
  cbv
  refine Fin.leG hA 5 [] [(5, LgR 0 ml mf)] (.lit .i64 0) (LgQ 5 N d1 g1 at2 n f (.l 0) 0 0 false 0 ml mf) 5000 rfl rfl rfl ?_ ?_ ?_ (by rw [← hK]; exact ⟨rfl, rfl, rfl⟩)
  · (try cbv) <;> (repeat' (first | exact trivial | exact rfl | apply And.intro | exact fun _ => rfl | (intro _ hle; first | refine chunk_le hA rfl hle rfl ?_ | refine cat_le hA ?_ | refine upd_le hA ?_ | (try cbv))))
  · (try cbv) <;> (repeat' (first | exact trivial | exact rfl | apply And.intro | exact fun _ => rfl | (intro _ hle; first | refine chunk_le hA rfl hle rfl ?_ | refine cat_le hA ?_ | refine upd_le hA ?_ | (try cbv))))
  · (try cbv) <;> (repeat' (first | exact trivial | exact rfl | apply And.intro | exact fun _ => rfl | (intro _ hle; first | refine chunk_le hA rfl hle rfl ?_ | refine cat_le hA ?_ | refine upd_le hA ?_ | (try cbv))))
    clear k1
    (subst hA; (try simp only [natCast_eq] at *); (try (simp only [Ar.real, NV.val, Int.ofNat_eq_natCast, Int.toNat_natCast])); first | done | omega | decide | exact inR64 (by omega) (by omega) | (refine ⟨?_, ?_⟩ <;> first | omega | decide | exact inR64 (by omega) (by omega)))
end
end Go.Proofs.YtnjjgipblimbfaaDoor.Dsk
namespace Go.WalLaw
open Go.DskLaw
/-- Sealed bytes that are right. -/
def OpenOk (n : Nat) (f : Nat → Int) : Prop := 4 ≤ n ∧ ∀ i, i < n → sealF (n - 4) f i = f i
open Classical in
/-- The opened records of a region, behind c others. -/
noncomputable def recP (V : Nat → Nat → Int) (fin : Nat) : Nat → Nat → Nat → (Nat → Nat × (Nat → Int)) → Nat × (Nat → Nat × (Nat → Int)) × Nat
  | 0, x, c, g => (c, g, x)
  | k + 1, x, c, g => match getP V x fin (fin - x) x 0 (fun _ => 0) with
    | none => (c, g, x)
    | some (n, f, next) => if OpenOk n f then recP V fin k next (c + 1) (fun i => if i < c then g i else (n - 4, f)) else (c, g, x)
section
variable {V : Nat → Nat → Int} {fin k x c n next : Nat} {g : Nat → Nat × (Nat → Int)} {f : Nat → Int}
theorem recP_none (h : getP V x fin (fin - x) x 0 (fun _ => 0) = none) : recP V fin (k + 1) x c g = (c, g, x) := by
  conv => lhs; unfold recP
  rw [h]
theorem recP_bad (h : getP V x fin (fin - x) x 0 (fun _ => 0) = some (n, f, next)) (ho : ¬ OpenOk n f) : recP V fin (k + 1) x c g = (c, g, x) := by
  conv => lhs; unfold recP
  rw [h]
  exact if_neg ho
theorem recP_some (h : getP V x fin (fin - x) x 0 (fun _ => 0) = some (n, f, next)) (ho : OpenOk n f) : recP V fin (k + 1) x c g = recP V fin k next (c + 1) (fun i => if i < c then g i else (n - 4, f)) := by
  conv => lhs; unfold recP
  rw [h]
  exact if_pos ho
end
theorem raw_congr {g g' : Nat → BitVec 32} (r : BitVec 32) : ∀ n, (∀ i, i < n → g i = g' i) → CrcLaw.raw g r n = CrcLaw.raw g' r n := by
  intro n
  induction n with
  | zero => intro _; rfl
  | succ n ih =>
    intro h
    show CrcLaw.step (CrcLaw.raw g r n) (g n) = CrcLaw.step (CrcLaw.raw g' r n) (g' n)
    rw [ih (fun i hi => h i (by omega)), h n (by omega)]
theorem more_congr {g g' : Nat → BitVec 32} {s : BitVec 32} {n : Nat} (h : ∀ i, i < n → g i = g' i) : CrcLaw.more g s n = CrcLaw.more g' s n := by
  unfold CrcLaw.more
  rw [raw_congr _ n h]
theorem open_iff {n : Nat} {f : Nat → Int} (h4 : 4 ≤ n) : (∀ i, i < n → CrcLaw.sealB (cutF n f) (CrcLaw.more (bvF n f) 0#32 (n - 4)) (n - 4) i = cutF n f i) ↔ ∀ i, i < n → sealF (n - 4) f i = f i := by
  have e1 : CrcLaw.more (bvF n f) 0#32 (n - 4) = CrcLaw.more (bvF (n - 4) f) 0#32 (n - 4) := more_congr (fun i hi => by
    unfold bvF cutF
    rw [if_pos (by omega), if_pos hi])
  have e2 : ∀ i, i < n → CrcLaw.sealB (cutF n f) (CrcLaw.more (bvF n f) 0#32 (n - 4)) (n - 4) i = sealF (n - 4) f i := fun i hi => by
    rw [e1]
    unfold sealF CrcLaw.sealB
    by_cases q : i < n - 4
    · rw [if_pos q, if_pos q]; unfold cutF; rw [if_pos hi, if_pos q]
    · rw [if_neg q, if_neg q]
  have e3 : ∀ i, i < n → cutF n f i = f i := fun i hi => by unfold cutF; rw [if_pos hi]
  exact ⟨fun h i hi => by rw [← e2 i hi, h i hi, e3 i hi], fun h i hi => by rw [e2 i hi, h i hi, e3 i hi]⟩
end Go.WalLaw
namespace Go.Proofs.YtnjjgipblimbfaaDoor.Dsk
open Go.Eng
open Go.DskLaw (q64 secV isB needN pcs getP)
open Go.WalLaw
open Go.CrcLaw (four)
set_option maxRecDepth 100000
set_option maxHeartbeats 1000000
section
variable {P : Program} {fr : Nat → Int} {n m : Nat} {f : Nat → Int}
theorem open2_fn (hP : P = Tryd.prog) (hfr : ∀ i, fr i = ((four i).toNat : Int)) (hb : ∀ i, i < n → 0 ≤ f i ∧ f i ≤ 255) (hn : n ≤ 1000000000) (ho : OpenOk n f) (hm : m = n - 4) :
    FnTr P (Gf fr) 11 [By n f] [] 0 (Gives (.tup [By m f, .lit .i64 0]) [] 1) := by
  have h := open_fn hP hfr (gi := cutF n f) (g := bvF n f) (m := m) (er := 0) (bvF_nat hb) (fun i _ => bvF_lt hb i) hn (.inr (.inl ⟨ho.1, (open_iff ho.1).2 ho.2, hm, rfl⟩))
  obtain ⟨c, hc⟩ : ∃ c : Nat → Int, c = cutF n f := ⟨_, rfl⟩
  have hcb : ∀ i, i < n → f i = c i := fun i hi => by rw [hc]; unfold cutF; rw [if_pos hi]
  have hcb2 : ∀ i, i < m → c i = f i := fun i hi => (hcb i (by omega)).symm
  rw [← hc] at h
  clear ho hb hc
  generalize hA : Ar.real = A
  refine FnTr.as hA h ?_ ?_ ?_ rfl
  · (try cbv) <;> (repeat' (first | exact trivial | exact rfl | apply And.intro | exact fun _ => rfl | (intro _ hle; first | refine chunk_le hA rfl hle rfl ?_ | refine cat_le hA ?_ | refine upd_le hA ?_ | (try cbv))))
    all_goals (refine hcb _ ?_; subst hA; exact ltNV_real.1 (by assumption))
  · (try cbv) <;> (repeat' (first | exact trivial | exact rfl | apply And.intro | exact fun _ => rfl | (intro _ hle; first | refine chunk_le hA rfl hle rfl ?_ | refine cat_le hA ?_ | refine upd_le hA ?_ | (try cbv))))
    all_goals (refine hcb2 _ ?_; subst hA; exact ltNV_real.1 (by assumption))
  · (try cbv) <;> (repeat' (first | exact trivial | exact rfl | apply And.intro | exact fun _ => rfl | (intro _ hle; first | refine chunk_le hA rfl hle rfl ?_ | refine cat_le hA ?_ | refine upd_le hA ?_ | (try cbv))))
theorem open2_bad (hP : P = Tryd.prog) (hfr : ∀ i, fr i = ((four i).toNat : Int)) (hb : ∀ i, i < n → 0 ≤ f i ∧ f i ≤ 255) (hn : n ≤ 1000000000) (ho : ¬ OpenOk n f) :
    ∃ er : Int, er ≠ 0 ∧ FnTr P (Gf fr) 11 [By n f] [] 0 (Gives (.tup [By 0 f, .int .i64 er]) [] 1) := by
  have key : ∃ er : Int, er ≠ 0 ∧ FnTr P (Gf fr) 11 [By n (cutF n f)] [] 0 (Gives (.tup [By 0 (cutF n f), .int .i64 er]) [] 1) := by
    by_cases h4 : n < 4
    · exact ⟨210, by decide, open_fn hP hfr (gi := cutF n f) (g := bvF n f) (m := 0) (er := 210) (bvF_nat hb) (fun i _ => bvF_lt hb i) hn (.inl ⟨h4, rfl, rfl⟩)⟩
    · exact ⟨240, by decide, open_fn hP hfr (gi := cutF n f) (g := bvF n f) (m := 0) (er := 240) (bvF_nat hb) (fun i _ => bvF_lt hb i) hn (.inr (.inr ⟨by omega, fun h => ho ⟨by omega, (open_iff (by omega)).1 h⟩, rfl, rfl⟩))⟩
  obtain ⟨er, he, h⟩ := key
  refine ⟨er, he, ?_⟩
  obtain ⟨c, hc⟩ : ∃ c : Nat → Int, c = cutF n f := ⟨_, rfl⟩
  have hcb : ∀ i, i < n → f i = c i := fun i hi => by rw [hc]; unfold cutF; rw [if_pos hi]
  rw [← hc] at h
  clear ho hb hc
  generalize hA : Ar.real = A
  refine FnTr.as hA h ?_ ?_ ?_ rfl
  · (try cbv) <;> (repeat' (first | exact trivial | exact rfl | apply And.intro | exact fun _ => rfl | (intro _ hle; first | refine chunk_le hA rfl hle rfl ?_ | refine cat_le hA ?_ | refine upd_le hA ?_ | (try cbv))))
    all_goals (refine hcb _ ?_; subst hA; exact ltNV_real.1 (by assumption))
  · (try cbv) <;> (repeat' (first | exact trivial | exact rfl | apply And.intro | exact fun _ => rfl | (intro _ hle; first | refine chunk_le hA rfl hle rfl ?_ | refine cat_le hA ?_ | refine upd_le hA ?_ | (try cbv))))
    all_goals (exfalso; subst hA; exact absurd (ltNV_real.1 (by assumption)) (Nat.not_lt_zero _))
  · (try cbv) <;> (repeat' (first | exact trivial | exact rfl | apply And.intro | exact fun _ => rfl | (intro _ hle; first | refine chunk_le hA rfl hle rfl ?_ | refine cat_le hA ?_ | refine upd_le hA ?_ | (try cbv))))
theorem records_own {N s h gen fi en c0 last : Nat} {d : Dk} {V : Nat → Nat → Int} {g0 gs : Nat → Nat × (Nat → Int)} (hP : P = Tryd.prog) (hfr : ∀ i, fr i = ((four i).toNat : Int)) (hN : N = 64 * s) (hr : Reg s h gen fi en) (ho : ¬ offD d) (hV : ∀ i, i < s → V i = secV d.S d.L i ∧ isB (V i)) (hR0 : recP V en (en - fi + 1) fi 0 g0 = (c0, gs, last)) :
    FnTr P (Gf fr) 67 [.ptr 0 0, .int .i64 (gen : Int)] (DHd N d) 3 (Gives (.tup [.sl 3 1 (.l 0) (.s c0), .int .i64 (last : Int)]) ((3, LgR c0 (fun i => (gs i).1) (fun i => (gs i).2)) :: DHd N d) 4) := by
  have b1 := first_fn (P := P) (G := Gf fr) (S := d.S) (L := d.L) (ar := d.ar) (ca := d.ca) hP hN hr.hs hr.hh hr.hg hr.hfi
  have b2 := end_fn (P := P) (G := Gf fr) (S := d.S) (L := d.L) (ar := d.ar) (ca := d.ca) hP hN hr.hs hr.hh hr.hg hr.hfi hr.hen
  have hreg := hr.le
  have hs := hr.hs
  have c1 : ∀ x, x ≤ en → getP V x en (en - x) x 0 (fun _ => 0) = none → FnTr P (Gf fr) 91 [.ptr 0 0, .int .i64 (x : Int), .int .i64 (en : Int)] (DHd N d) 3 (Gives (.tup [.nils, .lit .i64 0, .lit .i64 4]) (DHd N d) 3) := fun x hx e => get_none hP hN hs.2 ⟨hx, hreg.2.2⟩ ho hV e
  have c2 : ∀ x n next f, x ≤ en → getP V x en (en - x) x 0 (fun _ => 0) = some (n, f, next) → FnTr P (Gf fr) 91 [.ptr 0 0, .int .i64 (x : Int), .int .i64 (en : Int)] (DHd N d) 3 (Gives (.tup [By n f, .int .i64 (next : Int), .lit .i64 0]) (DHd N d) 4) := fun x n next f hx e => get_fn hP hN hs.2 ⟨hx, hreg.2.2⟩ ho hV e
  have c3 : ∀ x n next f, x ≤ en → getP V x en (en - x) x 0 (fun _ => 0) = some (n, f, next) → (OpenOk n f → FnTr P (Gf fr) 11 [By n f] [] 0 (Gives (.tup [By (n - 4) f, .lit .i64 0]) [] 1)) ∧ (¬ OpenOk n f → ∃ er : Int, er ≠ 0 ∧ FnTr P (Gf fr) 11 [By n f] [] 0 (Gives (.tup [By 0 f, .int .i64 er]) [] 1)) := fun x n next f hx e => by
    have hn := (DskLaw.getP_next _ e).2.2
    have hb := DskLaw.getP_isB (fun i hi => (hV i (by omega)).2) _ _ _ _ _ _ _ (fun i hi => by omega) e
    exact ⟨fun q => open2_fn hP hfr hb (by omega) q rfl, fun q => open2_bad hP hfr hb (by omega) q⟩
  clear hV hr hfr ho hN
  have hT : T.Ok P := hP ▸ T_ok
  refine FnTr.intro (fn := Tryd.f67) (c := bodyOf Tryd.f67) (by rw [hP]; rfl) rfl rfl hT ?_
  generalize hA : Ar.real = A
  generalize hK : Gives _ _ _ = K
  cbv
  refine CS.le hA (b1) [(0, 0), (1, 1), (2, 2)] rfl rfl rfl ?_ ?_ ?_
  · (try cbv) <;> (repeat' (first | exact trivial | exact rfl | apply And.intro | exact fun _ => rfl | (intro _ hle; first | refine chunk_le hA rfl hle rfl ?_ | refine cat_le hA ?_ | refine upd_le hA ?_ | (try cbv)))) <;> (try (subst hA; (try simp only [natCast_eq] at *); (try (simp only [Ar.real, NV.val, Int.ofNat_eq_natCast, Int.toNat_natCast])); first | done | omega | decide | exact inR64 (by omega) (by omega) | (refine ⟨?_, ?_⟩ <;> first | omega | decide | exact inR64 (by omega) (by omega))))
  · (try cbv) <;> (repeat' (first | exact trivial | exact rfl | apply And.intro | exact fun _ => rfl | (intro _ hle; first | refine chunk_le hA rfl hle rfl ?_ | refine cat_le hA ?_ | refine upd_le hA ?_ | (try cbv))))
  cbv
  refine LS.ghost 22 1 (.l 0) (fun _ => [.nils]) rfl ?_
  refine LS.le3 hT hA 3 (fun (x : Nat) (c : Nat) (_ : Nat → Nat × (Nat → Int)) => [(6, .int .i64 (x : Int)), (7, .sl 3 1 (.l 0) (.s c))]) (fun _ c g => (3, LgR c (fun i => (g i).1) (fun i => (g i).2)) :: DHd N d) (fun x c g => x ≤ en ∧ c ≤ x ∧ ∃ k, en - x < k ∧ recP V en k x c g = (c0, gs, last)) (fun x _ _ => en - x) fi 0 g0 [(12, 3)] rfl rfl ?_ ?_ ?_
  · (try cbv) <;> (repeat' (first | exact trivial | exact rfl | apply And.intro | exact fun _ => rfl | (intro _ hle; first | refine chunk_le hA rfl hle rfl ?_ | refine cat_le hA ?_ | refine upd_le hA ?_ | refine int_le ?_ | skip)))
    all_goals (exfalso; subst hA; exact absurd (ltNV_real.1 (by assumption)) (Nat.not_lt_zero _))
  · exact ⟨hreg.2.1, Nat.zero_le _, _, Nat.lt_succ_self _, hR0⟩
  · intro R hR x c g hx
    obtain ⟨hxf, hcx, k, hk, hsc⟩ := hx
    cbv
    refine CS.le hA (b2) [(0, 0), (1, 1), (2, 2)] rfl rfl rfl ?_ ?_ ?_
    · (try cbv) <;> (repeat' (first | exact trivial | exact rfl | apply And.intro | exact fun _ => rfl | (intro _ hle; first | refine chunk_le hA rfl hle rfl ?_ | refine cat_le hA ?_ | refine upd_le hA ?_ | (try cbv)))) <;> (try (subst hA; (try simp only [natCast_eq] at *); (try (simp only [Ar.real, NV.val, Int.ofNat_eq_natCast, Int.toNat_natCast])); first | done | omega | decide | exact inR64 (by omega) (by omega) | (refine ⟨?_, ?_⟩ <;> first | omega | decide | exact inR64 (by omega) (by omega))))
    · (try cbv) <;> (repeat' (first | exact trivial | exact rfl | apply And.intro | exact fun _ => rfl | (intro _ hle; first | refine chunk_le hA rfl hle rfl ?_ | refine cat_le hA ?_ | refine upd_le hA ?_ | (try cbv))))
    cbv
    cases hg : getP V x en (en - x) x 0 (fun _ => 0) with
    | none =>
      obtain ⟨k', rfl⟩ : ∃ k', k = k' + 1 := ⟨k - 1, by omega⟩
      rw [recP_none hg] at hsc
      obtain ⟨rfl, rfl, rfl⟩ : c = c0 ∧ g = gs ∧ x = last := by cases hsc; exact ⟨rfl, rfl, rfl⟩
      have a1 := c1 x hxf hg
      clear c1 c2 c3 hR
      refine CS.le hA (a1) [(0, 0), (1, 1), (2, 2)] rfl rfl rfl ?_ ?_ ?_
      · (try cbv) <;> (repeat' (first | exact trivial | exact rfl | apply And.intro | exact fun _ => rfl | (intro _ hle; first | refine chunk_le hA rfl hle rfl ?_ | refine cat_le hA ?_ | refine upd_le hA ?_ | (try cbv)))) <;> (try (subst hA; (try simp only [natCast_eq] at *); (try (simp only [Ar.real, NV.val, Int.ofNat_eq_natCast, Int.toNat_natCast])); first | done | omega | decide | exact inR64 (by omega) (by omega) | (refine ⟨?_, ?_⟩ <;> first | omega | decide | exact inR64 (by omega) (by omega))))
      · (try cbv) <;> (repeat' (first | exact trivial | exact rfl | apply And.intro | exact fun _ => rfl | (intro _ hle; first | refine chunk_le hA rfl hle rfl ?_ | refine cat_le hA ?_ | refine upd_le hA ?_ | (try cbv))))
      cbv
      refine Fin.le hA 3 [(3, 3)] (.tup [.sl 3 1 (.l 0) (.s c), .int .i64 (x : Int)]) ((3, LgR c (fun i => (g i).1) (fun i => (g i).2)) :: DHd N d) 4 rfl rfl rfl ?_ ?_ (by rw [← hK]; exact ⟨rfl, rfl, rfl⟩)
      · (try cbv) <;> (repeat' (first | exact trivial | exact rfl | apply And.intro | exact fun _ => rfl | (intro _ hle; first | refine chunk_le hA rfl hle rfl ?_ | refine cat_le hA ?_ | refine upd_le hA ?_ | refine int_le ?_ | skip)))
      · (try cbv) <;> (repeat' (first | exact trivial | exact rfl | apply And.intro | exact fun _ => rfl | (intro _ hle; first | refine chunk_le hA rfl hle rfl ?_ | refine cat_le hA ?_ | refine upd_le hA ?_ | refine int_le ?_ | skip)))
    | some r =>
      obtain ⟨n, f, next⟩ := r
      have hnx := DskLaw.getP_next _ hg
      obtain ⟨k', rfl⟩ : ∃ k', k = k' + 1 := ⟨k - 1, by omega⟩
      have a2 := c2 x n next f hxf hg
      have a3 := c3 x n next f hxf hg
      clear c1 c2 c3
      by_cases hok : ¬ OpenOk n f
      · rw [recP_bad hg hok] at hsc
        obtain ⟨rfl, rfl, rfl⟩ : c = c0 ∧ g = gs ∧ x = last := by cases hsc; exact ⟨rfl, rfl, rfl⟩
        obtain ⟨er, her, a4⟩ := a3.2 hok
        have k1 : A.ne er 0 = true := by clear hR a3 a2 a4; subst hA; simp [Ar.real]; exact her
        clear hR a3
        refine CS.le hA (a2) [(0, 0), (1, 1), (2, 2)] rfl rfl rfl ?_ ?_ ?_
        · (try cbv) <;> (repeat' (first | exact trivial | exact rfl | apply And.intro | exact fun _ => rfl | (intro _ hle; first | refine chunk_le hA rfl hle rfl ?_ | refine cat_le hA ?_ | refine upd_le hA ?_ | (try cbv)))) <;> (try (subst hA; (try simp only [natCast_eq] at *); (try (simp only [Ar.real, NV.val, Int.ofNat_eq_natCast, Int.toNat_natCast])); first | done | omega | decide | exact inR64 (by omega) (by omega) | (refine ⟨?_, ?_⟩ <;> first | omega | decide | exact inR64 (by omega) (by omega))))
        · (try cbv) <;> (repeat' (first | exact trivial | exact rfl | apply And.intro | exact fun _ => rfl | (intro _ hle; first | refine chunk_le hA rfl hle rfl ?_ | refine cat_le hA ?_ | refine upd_le hA ?_ | (try cbv))))
        cbv
        refine CS.le hA (a4) [] rfl rfl rfl ?_ ?_ ?_
        · (try cbv) <;> (repeat' (first | exact trivial | exact rfl | apply And.intro | exact fun _ => rfl | (intro _ hle; first | refine chunk_le hA rfl hle rfl ?_ | refine cat_le hA ?_ | refine upd_le hA ?_ | (try cbv)))) <;> (try (subst hA; (try simp only [natCast_eq] at *); (try (simp only [Ar.real, NV.val, Int.ofNat_eq_natCast, Int.toNat_natCast])); first | done | omega | decide | exact inR64 (by omega) (by omega) | (refine ⟨?_, ?_⟩ <;> first | omega | decide | exact inR64 (by omega) (by omega))))
        · (try cbv) <;> (repeat' (first | exact trivial | exact rfl | apply And.intro | exact fun _ => rfl | (intro _ hle; first | refine chunk_le hA rfl hle rfl ?_ | refine cat_le hA ?_ | refine upd_le hA ?_ | (try cbv))))
        cbv
        first | refine testR k1 rfl ?_ | refine testL k1 rfl ?_
        cbv
        refine Fin.le hA 3 [(3, 3)] (.tup [.sl 3 1 (.l 0) (.s c), .int .i64 (x : Int)]) ((3, LgR c (fun i => (g i).1) (fun i => (g i).2)) :: DHd N d) 4 rfl rfl rfl ?_ ?_ (by rw [← hK]; exact ⟨rfl, rfl, rfl⟩)
        · (try cbv) <;> (repeat' (first | exact trivial | exact rfl | apply And.intro | exact fun _ => rfl | (intro _ hle; first | refine chunk_le hA rfl hle rfl ?_ | refine cat_le hA ?_ | refine upd_le hA ?_ | refine int_le ?_ | skip)))
        · (try cbv) <;> (repeat' (first | exact trivial | exact rfl | apply And.intro | exact fun _ => rfl | (intro _ hle; first | refine chunk_le hA rfl hle rfl ?_ | refine cat_le hA ?_ | refine upd_le hA ?_ | refine int_le ?_ | skip)))
      have hok := Classical.not_not.1 hok
      have a4 := a3.1 hok
      rw [recP_some hg hok] at hsc
      clear a3 hok
      obtain ⟨n4, hn4⟩ : ∃ n4, n4 = n - 4 := ⟨_, rfl⟩
      rw [← hn4] at a4 hsc
      obtain ⟨g', hg'⟩ : ∃ g' : Nat → Nat × (Nat → Int), g' = fun i => if i < c then g i else (n4, f) := ⟨_, rfl⟩
      rw [← hg'] at hsc
      refine CS.le hA (a2) [(0, 0), (1, 1), (2, 2)] rfl rfl rfl ?_ ?_ ?_
      · (try cbv) <;> (repeat' (first | exact trivial | exact rfl | apply And.intro | exact fun _ => rfl | (intro _ hle; first | refine chunk_le hA rfl hle rfl ?_ | refine cat_le hA ?_ | refine upd_le hA ?_ | (try cbv)))) <;> (try (subst hA; (try simp only [natCast_eq] at *); (try (simp only [Ar.real, NV.val, Int.ofNat_eq_natCast, Int.toNat_natCast])); first | done | omega | decide | exact inR64 (by omega) (by omega) | (refine ⟨?_, ?_⟩ <;> first | omega | decide | exact inR64 (by omega) (by omega))))
      · (try cbv) <;> (repeat' (first | exact trivial | exact rfl | apply And.intro | exact fun _ => rfl | (intro _ hle; first | refine chunk_le hA rfl hle rfl ?_ | refine cat_le hA ?_ | refine upd_le hA ?_ | (try cbv))))
      cbv
      refine CS.le hA (a4) [] rfl rfl rfl ?_ ?_ ?_
      · (try cbv) <;> (repeat' (first | exact trivial | exact rfl | apply And.intro | exact fun _ => rfl | (intro _ hle; first | refine chunk_le hA rfl hle rfl ?_ | refine cat_le hA ?_ | refine upd_le hA ?_ | (try cbv)))) <;> (try (subst hA; (try simp only [natCast_eq] at *); (try (simp only [Ar.real, NV.val, Int.ofNat_eq_natCast, Int.toNat_natCast])); first | done | omega | decide | exact inR64 (by omega) (by omega) | (refine ⟨?_, ?_⟩ <;> first | omega | decide | exact inR64 (by omega) (by omega))))
      · (try cbv) <;> (repeat' (first | exact trivial | exact rfl | apply And.intro | exact fun _ => rfl | (intro _ hle; first | refine chunk_le hA rfl hle rfl ?_ | refine cat_le hA ?_ | refine upd_le hA ?_ | (try cbv))))
      cbv
      have hpush : ∀ e, ltNV A e (.s (A.addN c 1)) → leL (leSV A 4) (catG A 1 (.s c) (fun e => [.ro 1 (.s ((fun i => (g i).1) e.val)) (fun x => [.int .u8 ((fun i => (g i).2) e.val x.val)])]) (fun x => chunkS A 1 [.ro 1 (.s n4) (fun x => [.int .u8 (f x.val)])] (addNV A (.l 0) x)) e) [.ro 1 (.s ((fun i => (g' i).1) e.val)) (fun x => [.int .u8 ((fun i => (g' i).2) e.val x.val)])] := fun e he => by
        have he : e.val < c + 1 := by subst hA; exact ltNV_real.1 he
        have hlen : (g' e.val).1 = if e.val < c then (g e.val).1 else n4 := by
          rw [hg']; simp only []
          by_cases q : e.val < c
          · rw [if_pos q, if_pos q]
          · rw [if_neg q, if_neg q]
        have hrow : ∀ j, j < (g' e.val).1 → (g' e.val).2 j = if e.val < c then (g e.val).2 j else f j := fun j _ => by
          rw [hg']; simp only []
          by_cases q : e.val < c
          · rw [if_pos q, if_pos q]
          · rw [if_neg q, if_neg q]
        exact rows_push (len := fun i => (g i).1) (len' := fun i => (g' i).1) (g := fun i => (g i).2) (g' := fun i => (g' i).2) (h := f) hA (by omega) hlen hrow
      refine ⟨⟨(by (subst hA; (try simp only [natCast_eq] at *); (try (simp only [Ar.real, NV.val, Int.ofNat_eq_natCast, Int.toNat_natCast])); first | done | omega | decide | exact inR64 (by omega) (by omega) | (refine ⟨?_, ?_⟩ <;> first | omega | decide | exact inR64 (by omega) (by omega)))), (by (subst hA; (try simp only [natCast_eq] at *); (try (simp only [Ar.real, NV.val, Int.ofNat_eq_natCast, Int.toNat_natCast])); first | done | omega | decide | exact inR64 (by omega) (by omega) | (refine ⟨?_, ?_⟩ <;> first | omega | decide | exact inR64 (by omega) (by omega)))), (by (subst hA; (try simp only [natCast_eq] at *); (try (simp only [Ar.real, NV.val, Int.ofNat_eq_natCast, Int.toNat_natCast])); first | done | omega | decide | exact inR64 (by omega) (by omega) | (refine ⟨?_, ?_⟩ <;> first | omega | decide | exact inR64 (by omega) (by omega))))⟩, hR _ _ _ _ ⟨next, c + 1, g', 3, [(36, 3)], rfl, rfl, ?_, ⟨hnx.2.1, by omega, k', by omega, hsc⟩, (by show en - next < en - x; omega)⟩⟩
      clear hR
      (try cbv) <;> (repeat' (first | exact trivial | exact rfl | apply And.intro | exact fun _ => rfl | (intro _ hle; first | exact hpush _ hle | refine chunk_le hA rfl hle rfl ?_ | refine cat_le hA ?_ | refine upd_le hA ?_ | refine int_le ?_ | skip)))
      all_goals (subst hA; (try simp only [natCast_eq] at *); (try (simp only [Ar.real, NV.val, Int.ofNat_eq_natCast, Int.toNat_natCast])); first | done | omega | decide | exact inR64 (by omega) (by omega) | (refine ⟨?_, ?_⟩ <;> first | omega | decide | exact inR64 (by omega) (by omega)))
end
end Go.Proofs.YtnjjgipblimbfaaDoor.Dsk
namespace Go.Proofs.YtnjjgipblimbfaaDoor.Dsk
open Go.Eng
open Go.DskLaw (q64 secV isB needN pcs getP)
open Go.WalLaw
open Go.CrcLaw (four)
set_option maxRecDepth 100000
set_option maxHeartbeats 1000000
section
variable {P : Program} {fr : Nat → Int} {N s h gen fi en c last : Nat} {d d1 d2 : Dk} {gs : Nat → Nat × (Nat → Int)}
theorem open_off {G : Gl} (hP : P = Tryd.prog) (hN : N = 64 * s) (hs : 4 ≤ s ∧ s ≤ 4096) (ho : offD d) :
    FnTr P G 32 [.ptr 0 0] (DHd N d) 3 (Gives (.tup [.nilp, .lit .i64 6]) (DHd N d) 3) := by
  have c1 := wasked_ok (P := P) (G := G) (S := d.S) (L := d.L) (ar := d.ar) (ca := d.ca) hP hN hs
  have c3 := newest_off (P := P) (G := G) (N := N) (S := d.S) (L := d.L) hP ho
  have hT : T.Ok P := hP ▸ T_ok
  refine FnTr.intro (fn := Tryd.f32) (c := bodyOf Tryd.f32) (by rw [hP]; rfl) rfl rfl hT ?_
  generalize hA : Ar.real = A
  generalize hK : Gives _ _ _ = K
  cbv
  refine CS.le hA (c1) [(0, 0), (1, 1), (2, 2)] rfl rfl rfl ?_ ?_ ?_
  · (try cbv) <;> (repeat' (first | exact trivial | exact rfl | apply And.intro | exact fun _ => rfl | (intro _ hle; first | refine chunk_le hA rfl hle rfl ?_ | refine cat_le hA ?_ | refine upd_le hA ?_ | (try cbv)))) <;> (try (subst hA; (try simp only [natCast_eq] at *); (try (simp only [Ar.real, NV.val, Int.ofNat_eq_natCast, Int.toNat_natCast])); first | done | omega | decide | exact inR64 (by omega) (by omega) | (refine ⟨?_, ?_⟩ <;> first | omega | decide | exact inR64 (by omega) (by omega))))
  · (try cbv) <;> (repeat' (first | exact trivial | exact rfl | apply And.intro | exact fun _ => rfl | (intro _ hle; first | refine chunk_le hA rfl hle rfl ?_ | refine cat_le hA ?_ | refine upd_le hA ?_ | (try cbv))))
  cbv
  refine CS.le hA (c3) [(0, 0), (1, 1), (2, 2)] rfl rfl rfl ?_ ?_ ?_
  · (try cbv) <;> (repeat' (first | exact trivial | exact rfl | apply And.intro | exact fun _ => rfl | (intro _ hle; first | refine chunk_le hA rfl hle rfl ?_ | refine cat_le hA ?_ | refine upd_le hA ?_ | (try cbv)))) <;> (try (subst hA; (try simp only [natCast_eq] at *); (try (simp only [Ar.real, NV.val, Int.ofNat_eq_natCast, Int.toNat_natCast])); first | done | omega | decide | exact inR64 (by omega) (by omega) | (refine ⟨?_, ?_⟩ <;> first | omega | decide | exact inR64 (by omega) (by omega))))
  · (try cbv) <;> (repeat' (first | exact trivial | exact rfl | apply And.intro | exact fun _ => rfl | (intro _ hle; first | refine chunk_le hA rfl hle rfl ?_ | refine cat_le hA ?_ | refine upd_le hA ?_ | (try cbv))))
  cbv
  refine Fin.le hA 3 [] (.tup [.nilp, .lit .i64 6]) (DHd N d) 3 rfl rfl rfl ?_ ?_ (by rw [← hK]; exact ⟨rfl, rfl, rfl⟩)
  · (try cbv) <;> (repeat' (first | exact trivial | exact rfl | apply And.intro | exact fun _ => rfl | (intro _ hle; first | refine chunk_le hA rfl hle rfl ?_ | refine cat_le hA ?_ | refine upd_le hA ?_ | (try cbv))))
  · (try cbv) <;> (repeat' (first | exact trivial | exact rfl | apply And.intro | exact fun _ => rfl | (intro _ hle; first | refine chunk_le hA rfl hle rfl ?_ | refine cat_le hA ?_ | refine upd_le hA ?_ | (try cbv))))
theorem open_none {G : Gl} (hP : P = Tryd.prog) (hN : N = 64 * s) (hs : 4 ≤ s ∧ s ≤ 4096) (hg : gen = 0)
    (cN : FnTr P G 56 [.ptr 0 0] (DHd N d) 3 (Gives (.tup [.int .i64 (gen : Int), .lit .i64 0]) (DHd N d) 3)) :
    FnTr P G 32 [.ptr 0 0] (DHd N d) 3 (Gives (.tup [.nilp, .lit .i64 4]) (DHd N d) 3) := by
  have c1 := wasked_ok (P := P) (G := G) (S := d.S) (L := d.L) (ar := d.ar) (ca := d.ca) hP hN hs
  have hT : T.Ok P := hP ▸ T_ok
  refine FnTr.intro (fn := Tryd.f32) (c := bodyOf Tryd.f32) (by rw [hP]; rfl) rfl rfl hT ?_
  generalize hA : Ar.real = A
  generalize hK : Gives _ _ _ = K
  cbv
  have k1 : A.eq (gen : Int) 0 = true := by clear c1 cN; subst hA; simp [Ar.real]; omega
  refine CS.le hA (c1) [(0, 0), (1, 1), (2, 2)] rfl rfl rfl ?_ ?_ ?_
  · (try cbv) <;> (repeat' (first | exact trivial | exact rfl | apply And.intro | exact fun _ => rfl | (intro _ hle; first | refine chunk_le hA rfl hle rfl ?_ | refine cat_le hA ?_ | refine upd_le hA ?_ | (try cbv)))) <;> (try (subst hA; (try simp only [natCast_eq] at *); (try (simp only [Ar.real, NV.val, Int.ofNat_eq_natCast, Int.toNat_natCast])); first | done | omega | decide | exact inR64 (by omega) (by omega) | (refine ⟨?_, ?_⟩ <;> first | omega | decide | exact inR64 (by omega) (by omega))))
  · (try cbv) <;> (repeat' (first | exact trivial | exact rfl | apply And.intro | exact fun _ => rfl | (intro _ hle; first | refine chunk_le hA rfl hle rfl ?_ | refine cat_le hA ?_ | refine upd_le hA ?_ | (try cbv))))
  cbv
  refine CS.le hA (cN) [(0, 0), (1, 1), (2, 2)] rfl rfl rfl ?_ ?_ ?_
  · (try cbv) <;> (repeat' (first | exact trivial | exact rfl | apply And.intro | exact fun _ => rfl | (intro _ hle; first | refine chunk_le hA rfl hle rfl ?_ | refine cat_le hA ?_ | refine upd_le hA ?_ | (try cbv)))) <;> (try (subst hA; (try simp only [natCast_eq] at *); (try (simp only [Ar.real, NV.val, Int.ofNat_eq_natCast, Int.toNat_natCast])); first | done | omega | decide | exact inR64 (by omega) (by omega) | (refine ⟨?_, ?_⟩ <;> first | omega | decide | exact inR64 (by omega) (by omega))))
  · (try cbv) <;> (repeat' (first | exact trivial | exact rfl | apply And.intro | exact fun _ => rfl | (intro _ hle; first | refine chunk_le hA rfl hle rfl ?_ | refine cat_le hA ?_ | refine upd_le hA ?_ | (try cbv))))
  cbv
  first | refine testR k1 rfl ?_ | refine testL k1 rfl ?_
  cbv
  refine Fin.le hA 3 [] (.tup [.nilp, .lit .i64 4]) (DHd N d) 3 rfl rfl rfl ?_ ?_ (by rw [← hK]; exact ⟨rfl, rfl, rfl⟩)
  · (try cbv) <;> (repeat' (first | exact trivial | exact rfl | apply And.intro | exact fun _ => rfl | (intro _ hle; first | refine chunk_le hA rfl hle rfl ?_ | refine cat_le hA ?_ | refine upd_le hA ?_ | (try cbv))))
  · (try cbv) <;> (repeat' (first | exact trivial | exact rfl | apply And.intro | exact fun _ => rfl | (intro _ hle; first | refine chunk_le hA rfl hle rfl ?_ | refine cat_le hA ?_ | refine upd_le hA ?_ | (try cbv))))
theorem open_log {G : Gl} (hP : P = Tryd.prog) (hN : N = 64 * s) (hs : 4 ≤ s ∧ s ≤ 4096) (hg : 0 < gen) (hc : c = 0)
    (cN : FnTr P G 56 [.ptr 0 0] (DHd N d) 3 (Gives (.tup [.int .i64 (gen : Int), .lit .i64 0]) (DHd N d) 3))
    (cR : FnTr P G 67 [.ptr 0 0, .int .i64 (gen : Int)] (DHd N d) 3 (Gives (.tup [.sl 3 1 (.l 0) (.s c), .int .i64 (last : Int)]) ((3, LgR c (fun i => (gs i).1) (fun i => (gs i).2)) :: DHd N d) 4)) :
    FnTr P G 32 [.ptr 0 0] (DHd N d) 3 (Gives (.tup [.nilp, .lit .i64 270]) (DHd N d) 3) := by
  have c1 := wasked_ok (P := P) (G := G) (S := d.S) (L := d.L) (ar := d.ar) (ca := d.ca) hP hN hs
  have hT : T.Ok P := hP ▸ T_ok
  refine FnTr.intro (fn := Tryd.f32) (c := bodyOf Tryd.f32) (by rw [hP]; rfl) rfl rfl hT ?_
  generalize hA : Ar.real = A
  generalize hK : Gives _ _ _ = K
  cbv
  have k1 : A.eq (gen : Int) 0 = false := by clear c1 cN cR; subst hA; simp [Ar.real]; omega
  have k2 : A.eq (A.i2 c) 0 = true := by clear c1 cN cR; subst hA; simp [Ar.real]; omega
  refine CS.le hA (c1) [(0, 0), (1, 1), (2, 2)] rfl rfl rfl ?_ ?_ ?_
  · (try cbv) <;> (repeat' (first | exact trivial | exact rfl | apply And.intro | exact fun _ => rfl | (intro _ hle; first | refine chunk_le hA rfl hle rfl ?_ | refine cat_le hA ?_ | refine upd_le hA ?_ | (try cbv)))) <;> (try (subst hA; (try simp only [natCast_eq] at *); (try (simp only [Ar.real, NV.val, Int.ofNat_eq_natCast, Int.toNat_natCast])); first | done | omega | decide | exact inR64 (by omega) (by omega) | (refine ⟨?_, ?_⟩ <;> first | omega | decide | exact inR64 (by omega) (by omega))))
  · (try cbv) <;> (repeat' (first | exact trivial | exact rfl | apply And.intro | exact fun _ => rfl | (intro _ hle; first | refine chunk_le hA rfl hle rfl ?_ | refine cat_le hA ?_ | refine upd_le hA ?_ | (try cbv))))
  cbv
  refine CS.le hA (cN) [(0, 0), (1, 1), (2, 2)] rfl rfl rfl ?_ ?_ ?_
  · (try cbv) <;> (repeat' (first | exact trivial | exact rfl | apply And.intro | exact fun _ => rfl | (intro _ hle; first | refine chunk_le hA rfl hle rfl ?_ | refine cat_le hA ?_ | refine upd_le hA ?_ | (try cbv)))) <;> (try (subst hA; (try simp only [natCast_eq] at *); (try (simp only [Ar.real, NV.val, Int.ofNat_eq_natCast, Int.toNat_natCast])); first | done | omega | decide | exact inR64 (by omega) (by omega) | (refine ⟨?_, ?_⟩ <;> first | omega | decide | exact inR64 (by omega) (by omega))))
  · (try cbv) <;> (repeat' (first | exact trivial | exact rfl | apply And.intro | exact fun _ => rfl | (intro _ hle; first | refine chunk_le hA rfl hle rfl ?_ | refine cat_le hA ?_ | refine upd_le hA ?_ | (try cbv))))
  cbv
  first | refine testR k1 rfl ?_ | refine testL k1 rfl ?_
  cbv
  refine CS.le hA (cR) [(0, 0), (1, 1), (2, 2)] rfl rfl rfl ?_ ?_ ?_
  · (try cbv) <;> (repeat' (first | exact trivial | exact rfl | apply And.intro | exact fun _ => rfl | (intro _ hle; first | refine chunk_le hA rfl hle rfl ?_ | refine cat_le hA ?_ | refine upd_le hA ?_ | (try cbv)))) <;> (try (subst hA; (try simp only [natCast_eq] at *); (try (simp only [Ar.real, NV.val, Int.ofNat_eq_natCast, Int.toNat_natCast])); first | done | omega | decide | exact inR64 (by omega) (by omega) | (refine ⟨?_, ?_⟩ <;> first | omega | decide | exact inR64 (by omega) (by omega))))
  · (try cbv) <;> (repeat' (first | exact trivial | exact rfl | apply And.intro | exact fun _ => rfl | (intro _ hle; first | refine chunk_le hA rfl hle rfl ?_ | refine cat_le hA ?_ | refine upd_le hA ?_ | (try cbv))))
  cbv
  first | refine testR k2 rfl ?_ | refine testL k2 rfl ?_
  cbv
  refine Fin.le hA 3 [] (.tup [.nilp, .lit .i64 270]) (DHd N d) 3 rfl rfl rfl ?_ ?_ (by rw [← hK]; exact ⟨rfl, rfl, rfl⟩)
  · (try cbv) <;> (repeat' (first | exact trivial | exact rfl | apply And.intro | exact fun _ => rfl | (intro _ hle; first | refine chunk_le hA rfl hle rfl ?_ | refine cat_le hA ?_ | refine upd_le hA ?_ | (try cbv))))
  · (try cbv) <;> (repeat' (first | exact trivial | exact rfl | apply And.intro | exact fun _ => rfl | (intro _ hle; first | refine chunk_le hA rfl hle rfl ?_ | refine cat_le hA ?_ | refine upd_le hA ?_ | (try cbv))))
theorem open_part {G : Gl} (hP : P = Tryd.prog) (hN : N = 64 * s) (hr : Reg s h gen fi en) (hg : 0 < gen) (hc : 0 < c) (ok : DkOk s d) (ho : ¬ offD d) (hl : last ≤ en) (hw : wipeD d last en = (none, d1))
    (cN : FnTr P G 56 [.ptr 0 0] (DHd N d) 3 (Gives (.tup [.int .i64 (gen : Int), .lit .i64 0]) (DHd N d) 3))
    (cR : FnTr P G 67 [.ptr 0 0, .int .i64 (gen : Int)] (DHd N d) 3 (Gives (.tup [.sl 3 1 (.l 0) (.s c), .int .i64 (last : Int)]) ((3, LgR c (fun i => (gs i).1) (fun i => (gs i).2)) :: DHd N d) 4)) :
    FnTr P G 32 [.ptr 0 0] (DHd N d) 3 (Gives (.tup [.nilp, .lit .i64 6]) (DHd N d1) 3) := by
  have c1 := wasked_ok (P := P) (G := G) (S := d.S) (L := d.L) (ar := d.ar) (ca := d.ca) hP hN hr.hs
  have c2 := end_fn (P := P) (G := G) (S := d.S) (L := d.L) (ar := d.ar) (ca := d.ca) hP hN hr.hs hr.hh hr.hg hr.hfi hr.hen
  have c3 := wipe_part (P := P) (G := G) hP hN hr.hs.2 ok.hca ⟨hl, hr.le.2.2⟩ ho hw
  clear hr ok ho hw hN
  have hT : T.Ok P := hP ▸ T_ok
  refine FnTr.intro (fn := Tryd.f32) (c := bodyOf Tryd.f32) (by rw [hP]; rfl) rfl rfl hT ?_
  generalize hA : Ar.real = A
  generalize hK : Gives _ _ _ = K
  cbv
  have k1 : A.eq (gen : Int) 0 = false := by clear c1 cN cR c2 c3; subst hA; simp [Ar.real]; omega
  have k2 : A.eq (A.i2 c) 0 = false := by clear c1 cN cR c2 c3; subst hA; simp [Ar.real]; omega
  refine CS.le hA (c1) [(0, 0), (1, 1), (2, 2)] rfl rfl rfl ?_ ?_ ?_
  · (try cbv) <;> (repeat' (first | exact trivial | exact rfl | apply And.intro | exact fun _ => rfl | (intro _ hle; first | refine chunk_le hA rfl hle rfl ?_ | refine cat_le hA ?_ | refine upd_le hA ?_ | (try cbv)))) <;> (try (subst hA; (try simp only [natCast_eq] at *); (try (simp only [Ar.real, NV.val, Int.ofNat_eq_natCast, Int.toNat_natCast])); first | done | omega | decide | exact inR64 (by omega) (by omega) | (refine ⟨?_, ?_⟩ <;> first | omega | decide | exact inR64 (by omega) (by omega))))
  · (try cbv) <;> (repeat' (first | exact trivial | exact rfl | apply And.intro | exact fun _ => rfl | (intro _ hle; first | refine chunk_le hA rfl hle rfl ?_ | refine cat_le hA ?_ | refine upd_le hA ?_ | (try cbv))))
  cbv
  refine CS.le hA (cN) [(0, 0), (1, 1), (2, 2)] rfl rfl rfl ?_ ?_ ?_
  · (try cbv) <;> (repeat' (first | exact trivial | exact rfl | apply And.intro | exact fun _ => rfl | (intro _ hle; first | refine chunk_le hA rfl hle rfl ?_ | refine cat_le hA ?_ | refine upd_le hA ?_ | (try cbv)))) <;> (try (subst hA; (try simp only [natCast_eq] at *); (try (simp only [Ar.real, NV.val, Int.ofNat_eq_natCast, Int.toNat_natCast])); first | done | omega | decide | exact inR64 (by omega) (by omega) | (refine ⟨?_, ?_⟩ <;> first | omega | decide | exact inR64 (by omega) (by omega))))
  · (try cbv) <;> (repeat' (first | exact trivial | exact rfl | apply And.intro | exact fun _ => rfl | (intro _ hle; first | refine chunk_le hA rfl hle rfl ?_ | refine cat_le hA ?_ | refine upd_le hA ?_ | (try cbv))))
  cbv
  first | refine testR k1 rfl ?_ | refine testL k1 rfl ?_
  cbv
  refine CS.le hA (cR) [(0, 0), (1, 1), (2, 2)] rfl rfl rfl ?_ ?_ ?_
  · (try cbv) <;> (repeat' (first | exact trivial | exact rfl | apply And.intro | exact fun _ => rfl | (intro _ hle; first | refine chunk_le hA rfl hle rfl ?_ | refine cat_le hA ?_ | refine upd_le hA ?_ | (try cbv)))) <;> (try (subst hA; (try simp only [natCast_eq] at *); (try (simp only [Ar.real, NV.val, Int.ofNat_eq_natCast, Int.toNat_natCast])); first | done | omega | decide | exact inR64 (by omega) (by omega) | (refine ⟨?_, ?_⟩ <;> first | omega | decide | exact inR64 (by omega) (by omega))))
  · (try cbv) <;> (repeat' (first | exact trivial | exact rfl | apply And.intro | exact fun _ => rfl | (intro _ hle; first | refine chunk_le hA rfl hle rfl ?_ | refine cat_le hA ?_ | refine upd_le hA ?_ | (try cbv))))
  cbv
  first | refine testR k2 rfl ?_ | refine testL k2 rfl ?_
  cbv
  refine CS.le hA (c2) [(0, 0), (1, 1), (2, 2)] rfl rfl rfl ?_ ?_ ?_
  · (try cbv) <;> (repeat' (first | exact trivial | exact rfl | apply And.intro | exact fun _ => rfl | (intro _ hle; first | refine chunk_le hA rfl hle rfl ?_ | refine cat_le hA ?_ | refine upd_le hA ?_ | (try cbv)))) <;> (try (subst hA; (try simp only [natCast_eq] at *); (try (simp only [Ar.real, NV.val, Int.ofNat_eq_natCast, Int.toNat_natCast])); first | done | omega | decide | exact inR64 (by omega) (by omega) | (refine ⟨?_, ?_⟩ <;> first | omega | decide | exact inR64 (by omega) (by omega))))
  · (try cbv) <;> (repeat' (first | exact trivial | exact rfl | apply And.intro | exact fun _ => rfl | (intro _ hle; first | refine chunk_le hA rfl hle rfl ?_ | refine cat_le hA ?_ | refine upd_le hA ?_ | (try cbv))))
  cbv
  refine CS.le hA (c3) [(0, 0), (1, 1), (2, 2)] rfl rfl rfl ?_ ?_ ?_
  · (try cbv) <;> (repeat' (first | exact trivial | exact rfl | apply And.intro | exact fun _ => rfl | (intro _ hle; first | refine chunk_le hA rfl hle rfl ?_ | refine cat_le hA ?_ | refine upd_le hA ?_ | (try cbv)))) <;> (try (subst hA; (try simp only [natCast_eq] at *); (try (simp only [Ar.real, NV.val, Int.ofNat_eq_natCast, Int.toNat_natCast])); first | done | omega | decide | exact inR64 (by omega) (by omega) | (refine ⟨?_, ?_⟩ <;> first | omega | decide | exact inR64 (by omega) (by omega))))
  · (try cbv) <;> (repeat' (first | exact trivial | exact rfl | apply And.intro | exact fun _ => rfl | (intro _ hle; first | refine chunk_le hA rfl hle rfl ?_ | refine cat_le hA ?_ | refine upd_le hA ?_ | (try cbv))))
  cbv
  refine Fin.le hA 3 [] (.tup [.nilp, .lit .i64 6]) (DHd N d1) 3 rfl rfl rfl ?_ ?_ (by rw [← hK]; exact ⟨rfl, rfl, rfl⟩)
  · (try cbv) <;> (repeat' (first | exact trivial | exact rfl | apply And.intro | exact fun _ => rfl | (intro _ hle; first | refine chunk_le hA rfl hle rfl ?_ | refine cat_le hA ?_ | refine upd_le hA ?_ | (try cbv))))
  · (try cbv) <;> (repeat' (first | exact trivial | exact rfl | apply And.intro | exact fun _ => rfl | (intro _ hle; first | refine chunk_le hA rfl hle rfl ?_ | refine cat_le hA ?_ | refine upd_le hA ?_ | (try cbv))))
theorem open_ok0 {G : Gl} {m cc : Nat} (hP : P = Tryd.prog) (hN : N = 64 * s) (hr : Reg s h gen fi en) (hg : 0 < gen) (hc : c = cc + 1) (hcl : c ≤ 1000000) (ok : DkOk s d) (ho : ¬ offD d) (hl : last ≤ en) (hm : m = 0) (hw : wipeD d last en = (some m, d1))
    (cN : FnTr P G 56 [.ptr 0 0] (DHd N d) 3 (Gives (.tup [.int .i64 (gen : Int), .lit .i64 0]) (DHd N d) 3))
    (cR : FnTr P G 67 [.ptr 0 0, .int .i64 (gen : Int)] (DHd N d) 3 (Gives (.tup [.sl 3 1 (.l 0) (.s c), .int .i64 (last : Int)]) ((3, LgR c (fun i => (gs i).1) (fun i => (gs i).2)) :: DHd N d) 4)) :
    FnTr P G 32 [.ptr 0 0] (DHd N d) 3 (Gives (.tup [.ptr 3 0, .lit .i64 0]) (LgH N d1 gen last (gs 0).1 (gs 0).2 (.s 1) cc cc false c (fun i => (gs i).1) (fun i => (gs i).2)) 100) := by
  have c1 := wasked_ok (P := P) (G := G) (S := d.S) (L := d.L) (ar := d.ar) (ca := d.ca) hP hN hr.hs
  have c2 := end_fn (P := P) (G := G) (S := d.S) (L := d.L) (ar := d.ar) (ca := d.ca) hP hN hr.hs hr.hh hr.hg hr.hfi hr.hen
  have c3 := wipe_all (P := P) (G := G) hP hN hr.hs.2 ok.hca ⟨hl, hr.le.2.2⟩ ho hw
  clear hr ok ho hw hN
  have hT : T.Ok P := hP ▸ T_ok
  refine FnTr.intro (fn := Tryd.f32) (c := bodyOf Tryd.f32) (by rw [hP]; rfl) rfl rfl hT ?_
  generalize hA : Ar.real = A
  generalize hK : Gives _ _ _ = K
  cbv
  have k1 : A.eq (gen : Int) 0 = false := by clear c1 cN cR c2 c3; subst hA; simp [Ar.real]; omega
  have k2 : A.eq (A.i2 c) 0 = false := by clear c1 cN cR c2 c3; subst hA; simp [Ar.real]; omega
  have k3 : A.gt (m : Int) 0 = false := by clear c1 cN cR c2 c3; subst hA; simp [Ar.real]; omega
  refine CS.le hA (c1) [(0, 0), (1, 1), (2, 2)] rfl rfl rfl ?_ ?_ ?_
  · (try cbv) <;> (repeat' (first | exact trivial | exact rfl | apply And.intro | exact fun _ => rfl | (intro _ hle; first | refine chunk_le hA rfl hle rfl ?_ | refine cat_le hA ?_ | refine upd_le hA ?_ | (try cbv)))) <;> (try (subst hA; (try simp only [natCast_eq] at *); (try (simp only [Ar.real, NV.val, Int.ofNat_eq_natCast, Int.toNat_natCast])); first | done | omega | decide | exact inR64 (by omega) (by omega) | (refine ⟨?_, ?_⟩ <;> first | omega | decide | exact inR64 (by omega) (by omega))))
  · (try cbv) <;> (repeat' (first | exact trivial | exact rfl | apply And.intro | exact fun _ => rfl | (intro _ hle; first | refine chunk_le hA rfl hle rfl ?_ | refine cat_le hA ?_ | refine upd_le hA ?_ | (try cbv))))
  cbv
  refine CS.le hA (cN) [(0, 0), (1, 1), (2, 2)] rfl rfl rfl ?_ ?_ ?_
  · (try cbv) <;> (repeat' (first | exact trivial | exact rfl | apply And.intro | exact fun _ => rfl | (intro _ hle; first | refine chunk_le hA rfl hle rfl ?_ | refine cat_le hA ?_ | refine upd_le hA ?_ | (try cbv)))) <;> (try (subst hA; (try simp only [natCast_eq] at *); (try (simp only [Ar.real, NV.val, Int.ofNat_eq_natCast, Int.toNat_natCast])); first | done | omega | decide | exact inR64 (by omega) (by omega) | (refine ⟨?_, ?_⟩ <;> first | omega | decide | exact inR64 (by omega) (by omega))))
  · (try cbv) <;> (repeat' (first | exact trivial | exact rfl | apply And.intro | exact fun _ => rfl | (intro _ hle; first | refine chunk_le hA rfl hle rfl ?_ | refine cat_le hA ?_ | refine upd_le hA ?_ | (try cbv))))
  cbv
  first | refine testR k1 rfl ?_ | refine testL k1 rfl ?_
  cbv
  refine CS.le hA (cR) [(0, 0), (1, 1), (2, 2)] rfl rfl rfl ?_ ?_ ?_
  · (try cbv) <;> (repeat' (first | exact trivial | exact rfl | apply And.intro | exact fun _ => rfl | (intro _ hle; first | refine chunk_le hA rfl hle rfl ?_ | refine cat_le hA ?_ | refine upd_le hA ?_ | (try cbv)))) <;> (try (subst hA; (try simp only [natCast_eq] at *); (try (simp only [Ar.real, NV.val, Int.ofNat_eq_natCast, Int.toNat_natCast])); first | done | omega | decide | exact inR64 (by omega) (by omega) | (refine ⟨?_, ?_⟩ <;> first | omega | decide | exact inR64 (by omega) (by omega))))
  · (try cbv) <;> (repeat' (first | exact trivial | exact rfl | apply And.intro | exact fun _ => rfl | (intro _ hle; first | refine chunk_le hA rfl hle rfl ?_ | refine cat_le hA ?_ | refine upd_le hA ?_ | (try cbv))))
  cbv
  first | refine testR k2 rfl ?_ | refine testL k2 rfl ?_
  cbv
  refine CS.le hA (c2) [(0, 0), (1, 1), (2, 2)] rfl rfl rfl ?_ ?_ ?_
  · (try cbv) <;> (repeat' (first | exact trivial | exact rfl | apply And.intro | exact fun _ => rfl | (intro _ hle; first | refine chunk_le hA rfl hle rfl ?_ | refine cat_le hA ?_ | refine upd_le hA ?_ | (try cbv)))) <;> (try (subst hA; (try simp only [natCast_eq] at *); (try (simp only [Ar.real, NV.val, Int.ofNat_eq_natCast, Int.toNat_natCast])); first | done | omega | decide | exact inR64 (by omega) (by omega) | (refine ⟨?_, ?_⟩ <;> first | omega | decide | exact inR64 (by omega) (by omega))))
  · (try cbv) <;> (repeat' (first | exact trivial | exact rfl | apply And.intro | exact fun _ => rfl | (intro _ hle; first | refine chunk_le hA rfl hle rfl ?_ | refine cat_le hA ?_ | refine upd_le hA ?_ | (try cbv))))
  cbv
  refine CS.le hA (c3) [(0, 0), (1, 1), (2, 2)] rfl rfl rfl ?_ ?_ ?_
  · (try cbv) <;> (repeat' (first | exact trivial | exact rfl | apply And.intro | exact fun _ => rfl | (intro _ hle; first | refine chunk_le hA rfl hle rfl ?_ | refine cat_le hA ?_ | refine upd_le hA ?_ | (try cbv)))) <;> (try (subst hA; (try simp only [natCast_eq] at *); (try (simp only [Ar.real, NV.val, Int.ofNat_eq_natCast, Int.toNat_natCast])); first | done | omega | decide | exact inR64 (by omega) (by omega) | (refine ⟨?_, ?_⟩ <;> first | omega | decide | exact inR64 (by omega) (by omega))))
  · (try cbv) <;> (repeat' (first | exact trivial | exact rfl | apply And.intro | exact fun _ => rfl | (intro _ hle; first | refine chunk_le hA rfl hle rfl ?_ | refine cat_le hA ?_ | refine upd_le hA ?_ | (try cbv))))
  cbv
  first | refine testR k3 rfl ?_ | refine testL k3 rfl ?_
  cbv
  refine DS.runK hA hT (by rw [hP]; exact P_mixed) 30 rfl ?_
  cbv
  refine ⟨(by (subst hA; (try simp only [natCast_eq] at *); (try (simp only [Ar.real, NV.val, Int.ofNat_eq_natCast, Int.toNat_natCast])); first | done | omega | decide | exact inR64 (by omega) (by omega) | (refine ⟨?_, ?_⟩ <;> first | omega | decide | exact inR64 (by omega) (by omega)))), (by (subst hA; (try simp only [natCast_eq] at *); (try (simp only [Ar.real, NV.val, Int.ofNat_eq_natCast, Int.toNat_natCast])); first | done | omega | decide | exact inR64 (by omega) (by omega) | (refine ⟨?_, ?_⟩ <;> first | omega | decide | exact inR64 (by omega) (by omega)))), ⟨(by (subst hA; (try simp only [natCast_eq] at *); (try (simp only [Ar.real, NV.val, Int.ofNat_eq_natCast, Int.toNat_natCast])); first | done | omega | decide | exact inR64 (by omega) (by omega) | (refine ⟨?_, ?_⟩ <;> first | omega | decide | exact inR64 (by omega) (by omega)))), (by (subst hA; (try simp only [natCast_eq] at *); (try (simp only [Ar.real, NV.val, Int.ofNat_eq_natCast, Int.toNat_natCast])); first | done | omega | decide | exact inR64 (by omega) (by omega) | (refine ⟨?_, ?_⟩ <;> first | omega | decide | exact inR64 (by omega) (by omega)))), (by (subst hA; (try simp only [natCast_eq] at *); (try (simp only [Ar.real, NV.val, Int.ofNat_eq_natCast, Int.toNat_natCast])); first | done | omega | decide | exact inR64 (by omega) (by omega) | (refine ⟨?_, ?_⟩ <;> first | omega | decide | exact inR64 (by omega) (by omega))))⟩, (by (subst hA; (try simp only [natCast_eq] at *); (try (simp only [Ar.real, NV.val, Int.ofNat_eq_natCast, Int.toNat_natCast])); first | done | omega | decide | exact inR64 (by omega) (by omega) | (refine ⟨?_, ?_⟩ <;> first | omega | decide | exact inR64 (by omega) (by omega)))), ?_⟩
  refine DF.fin (by kernel_rfl) (by kernel_rfl) ?_
  cbv
  refine Fin.le hA 3 [(424, 3), (32, 4)] (.tup [.ptr 3 0, .lit .i64 0]) (LgH N d1 gen last (gs 0).1 (gs 0).2 (.s 1) cc cc false c (fun i => (gs i).1) (fun i => (gs i).2)) 100 rfl rfl rfl ?_ ?_ (by rw [← hK]; exact ⟨rfl, rfl, rfl⟩)
  · (try cbv) <;> (repeat' (first | exact trivial | exact rfl | apply And.intro | exact fun _ => rfl | (intro _ hle; first | refine chunk_le hA rfl hle rfl ?_ | refine cat_le hA ?_ | refine upd_le hA ?_ | refine int_le ?_ | skip)))
  · (try cbv) <;> (repeat' (first | exact trivial | exact rfl | apply And.intro | exact fun _ => rfl | (intro _ hle; first | refine chunk_le hA rfl hle rfl ?_ | refine cat_le hA ?_ | refine upd_le hA ?_ | refine int_le ?_ | skip)))
    all_goals (clear k1 k2 k3 c1 c2 c3 cN cR)
    all_goals first | (subst hc; subst hA; rfl) | (subst hA; (try simp only [natCast_eq] at *); (try (simp only [Ar.real, NV.val, Int.ofNat_eq_natCast, Int.toNat_natCast])); first | done | omega | decide | exact inR64 (by omega) (by omega) | (refine ⟨?_, ?_⟩ <;> first | omega | decide | exact inR64 (by omega) (by omega))) | trace_state
theorem open_okF {G : Gl} {m cc : Nat} (hP : P = Tryd.prog) (hN : N = 64 * s) (hr : Reg s h gen fi en) (hg : 0 < gen) (hc : c = cc + 1) (hcl : c ≤ 1000000) (ok : DkOk s d) (ho : ¬ offD d) (hl : last ≤ en) (hm : 0 < m) (ok1 : DkOk s d1) (o1 : ¬ offD d1) (hd2 : d2 = flushD d1) (hw : wipeD d last en = (some m, d1))
    (cN : FnTr P G 56 [.ptr 0 0] (DHd N d) 3 (Gives (.tup [.int .i64 (gen : Int), .lit .i64 0]) (DHd N d) 3))
    (cR : FnTr P G 67 [.ptr 0 0, .int .i64 (gen : Int)] (DHd N d) 3 (Gives (.tup [.sl 3 1 (.l 0) (.s c), .int .i64 (last : Int)]) ((3, LgR c (fun i => (gs i).1) (fun i => (gs i).2)) :: DHd N d) 4)) :
    FnTr P G 32 [.ptr 0 0] (DHd N d) 3 (Gives (.tup [.ptr 3 0, .lit .i64 0]) (LgH N d2 gen last (gs 0).1 (gs 0).2 (.s 1) cc cc false c (fun i => (gs i).1) (fun i => (gs i).2)) 100) := by
  have c1 := wasked_ok (P := P) (G := G) (S := d.S) (L := d.L) (ar := d.ar) (ca := d.ca) hP hN hr.hs
  have c2 := end_fn (P := P) (G := G) (S := d.S) (L := d.L) (ar := d.ar) (ca := d.ca) hP hN hr.hs hr.hh hr.hg hr.hfi hr.hen
  have c3 := wipe_all (P := P) (G := G) hP hN hr.hs.2 ok.hca ⟨hl, hr.le.2.2⟩ ho hw
  have c4 := flush_all (P := P) (G := G) hP hN ⟨by have := hr.hs; omega, hr.hs.2⟩ ok1 o1 hd2
  clear hr ok ho hw hN ok1 o1 hd2
  have hT : T.Ok P := hP ▸ T_ok
  refine FnTr.intro (fn := Tryd.f32) (c := bodyOf Tryd.f32) (by rw [hP]; rfl) rfl rfl hT ?_
  generalize hA : Ar.real = A
  generalize hK : Gives _ _ _ = K
  cbv
  have k1 : A.eq (gen : Int) 0 = false := by clear c1 cN cR c2 c3 c4; subst hA; simp [Ar.real]; omega
  have k2 : A.eq (A.i2 c) 0 = false := by clear c1 cN cR c2 c3 c4; subst hA; simp [Ar.real]; omega
  have k3 : A.gt (m : Int) 0 = true := by clear c1 cN cR c2 c3 c4; subst hA; simp [Ar.real]; omega
  refine CS.le hA (c1) [(0, 0), (1, 1), (2, 2)] rfl rfl rfl ?_ ?_ ?_
  · (try cbv) <;> (repeat' (first | exact trivial | exact rfl | apply And.intro | exact fun _ => rfl | (intro _ hle; first | refine chunk_le hA rfl hle rfl ?_ | refine cat_le hA ?_ | refine upd_le hA ?_ | (try cbv)))) <;> (try (subst hA; (try simp only [natCast_eq] at *); (try (simp only [Ar.real, NV.val, Int.ofNat_eq_natCast, Int.toNat_natCast])); first | done | omega | decide | exact inR64 (by omega) (by omega) | (refine ⟨?_, ?_⟩ <;> first | omega | decide | exact inR64 (by omega) (by omega))))
  · (try cbv) <;> (repeat' (first | exact trivial | exact rfl | apply And.intro | exact fun _ => rfl | (intro _ hle; first | refine chunk_le hA rfl hle rfl ?_ | refine cat_le hA ?_ | refine upd_le hA ?_ | (try cbv))))
  cbv
  refine CS.le hA (cN) [(0, 0), (1, 1), (2, 2)] rfl rfl rfl ?_ ?_ ?_
  · (try cbv) <;> (repeat' (first | exact trivial | exact rfl | apply And.intro | exact fun _ => rfl | (intro _ hle; first | refine chunk_le hA rfl hle rfl ?_ | refine cat_le hA ?_ | refine upd_le hA ?_ | (try cbv)))) <;> (try (subst hA; (try simp only [natCast_eq] at *); (try (simp only [Ar.real, NV.val, Int.ofNat_eq_natCast, Int.toNat_natCast])); first | done | omega | decide | exact inR64 (by omega) (by omega) | (refine ⟨?_, ?_⟩ <;> first | omega | decide | exact inR64 (by omega) (by omega))))
  · (try cbv) <;> (repeat' (first | exact trivial | exact rfl | apply And.intro | exact fun _ => rfl | (intro _ hle; first | refine chunk_le hA rfl hle rfl ?_ | refine cat_le hA ?_ | refine upd_le hA ?_ | (try cbv))))
  cbv
  first | refine testR k1 rfl ?_ | refine testL k1 rfl ?_
  cbv
  refine CS.le hA (cR) [(0, 0), (1, 1), (2, 2)] rfl rfl rfl ?_ ?_ ?_
  · (try cbv) <;> (repeat' (first | exact trivial | exact rfl | apply And.intro | exact fun _ => rfl | (intro _ hle; first | refine chunk_le hA rfl hle rfl ?_ | refine cat_le hA ?_ | refine upd_le hA ?_ | (try cbv)))) <;> (try (subst hA; (try simp only [natCast_eq] at *); (try (simp only [Ar.real, NV.val, Int.ofNat_eq_natCast, Int.toNat_natCast])); first | done | omega | decide | exact inR64 (by omega) (by omega) | (refine ⟨?_, ?_⟩ <;> first | omega | decide | exact inR64 (by omega) (by omega))))
  · (try cbv) <;> (repeat' (first | exact trivial | exact rfl | apply And.intro | exact fun _ => rfl | (intro _ hle; first | refine chunk_le hA rfl hle rfl ?_ | refine cat_le hA ?_ | refine upd_le hA ?_ | (try cbv))))
  cbv
  first | refine testR k2 rfl ?_ | refine testL k2 rfl ?_
  cbv
  refine CS.le hA (c2) [(0, 0), (1, 1), (2, 2)] rfl rfl rfl ?_ ?_ ?_
  · (try cbv) <;> (repeat' (first | exact trivial | exact rfl | apply And.intro | exact fun _ => rfl | (intro _ hle; first | refine chunk_le hA rfl hle rfl ?_ | refine cat_le hA ?_ | refine upd_le hA ?_ | (try cbv)))) <;> (try (subst hA; (try simp only [natCast_eq] at *); (try (simp only [Ar.real, NV.val, Int.ofNat_eq_natCast, Int.toNat_natCast])); first | done | omega | decide | exact inR64 (by omega) (by omega) | (refine ⟨?_, ?_⟩ <;> first | omega | decide | exact inR64 (by omega) (by omega))))
  · (try cbv) <;> (repeat' (first | exact trivial | exact rfl | apply And.intro | exact fun _ => rfl | (intro _ hle; first | refine chunk_le hA rfl hle rfl ?_ | refine cat_le hA ?_ | refine upd_le hA ?_ | (try cbv))))
  cbv
  refine CS.le hA (c3) [(0, 0), (1, 1), (2, 2)] rfl rfl rfl ?_ ?_ ?_
  · (try cbv) <;> (repeat' (first | exact trivial | exact rfl | apply And.intro | exact fun _ => rfl | (intro _ hle; first | refine chunk_le hA rfl hle rfl ?_ | refine cat_le hA ?_ | refine upd_le hA ?_ | (try cbv)))) <;> (try (subst hA; (try simp only [natCast_eq] at *); (try (simp only [Ar.real, NV.val, Int.ofNat_eq_natCast, Int.toNat_natCast])); first | done | omega | decide | exact inR64 (by omega) (by omega) | (refine ⟨?_, ?_⟩ <;> first | omega | decide | exact inR64 (by omega) (by omega))))
  · (try cbv) <;> (repeat' (first | exact trivial | exact rfl | apply And.intro | exact fun _ => rfl | (intro _ hle; first | refine chunk_le hA rfl hle rfl ?_ | refine cat_le hA ?_ | refine upd_le hA ?_ | (try cbv))))
  cbv
  first | refine testR k3 rfl ?_ | refine testL k3 rfl ?_
  cbv
  refine CS.le hA (c4) [(0, 0), (1, 1), (2, 2)] rfl rfl rfl ?_ ?_ ?_
  · (try cbv) <;> (repeat' (first | exact trivial | exact rfl | apply And.intro | exact fun _ => rfl | (intro _ hle; first | refine chunk_le hA rfl hle rfl ?_ | refine cat_le hA ?_ | refine upd_le hA ?_ | (try cbv)))) <;> (try (subst hA; (try simp only [natCast_eq] at *); (try (simp only [Ar.real, NV.val, Int.ofNat_eq_natCast, Int.toNat_natCast])); first | done | omega | decide | exact inR64 (by omega) (by omega) | (refine ⟨?_, ?_⟩ <;> first | omega | decide | exact inR64 (by omega) (by omega))))
  · (try cbv) <;> (repeat' (first | exact trivial | exact rfl | apply And.intro | exact fun _ => rfl | (intro _ hle; first | refine chunk_le hA rfl hle rfl ?_ | refine cat_le hA ?_ | refine upd_le hA ?_ | (try cbv))))
  cbv
  refine DS.runK hA hT (by rw [hP]; exact P_mixed) 30 rfl ?_
  cbv
  refine ⟨(by (subst hA; (try simp only [natCast_eq] at *); (try (simp only [Ar.real, NV.val, Int.ofNat_eq_natCast, Int.toNat_natCast])); first | done | omega | decide | exact inR64 (by omega) (by omega) | (refine ⟨?_, ?_⟩ <;> first | omega | decide | exact inR64 (by omega) (by omega)))), (by (subst hA; (try simp only [natCast_eq] at *); (try (simp only [Ar.real, NV.val, Int.ofNat_eq_natCast, Int.toNat_natCast])); first | done | omega | decide | exact inR64 (by omega) (by omega) | (refine ⟨?_, ?_⟩ <;> first | omega | decide | exact inR64 (by omega) (by omega)))), ⟨(by (subst hA; (try simp only [natCast_eq] at *); (try (simp only [Ar.real, NV.val, Int.ofNat_eq_natCast, Int.toNat_natCast])); first | done | omega | decide | exact inR64 (by omega) (by omega) | (refine ⟨?_, ?_⟩ <;> first | omega | decide | exact inR64 (by omega) (by omega)))), (by (subst hA; (try simp only [natCast_eq] at *); (try (simp only [Ar.real, NV.val, Int.ofNat_eq_natCast, Int.toNat_natCast])); first | done | omega | decide | exact inR64 (by omega) (by omega) | (refine ⟨?_, ?_⟩ <;> first | omega | decide | exact inR64 (by omega) (by omega)))), (by (subst hA; (try simp only [natCast_eq] at *); (try (simp only [Ar.real, NV.val, Int.ofNat_eq_natCast, Int.toNat_natCast])); first | done | omega | decide | exact inR64 (by omega) (by omega) | (refine ⟨?_, ?_⟩ <;> first | omega | decide | exact inR64 (by omega) (by omega))))⟩, (by (subst hA; (try simp only [natCast_eq] at *); (try (simp only [Ar.real, NV.val, Int.ofNat_eq_natCast, Int.toNat_natCast])); first | done | omega | decide | exact inR64 (by omega) (by omega) | (refine ⟨?_, ?_⟩ <;> first | omega | decide | exact inR64 (by omega) (by omega)))), ?_⟩
  refine DF.fin (by kernel_rfl) (by kernel_rfl) ?_
  cbv
  refine Fin.le hA 3 [(429, 3), (32, 4)] (.tup [.ptr 3 0, .lit .i64 0]) (LgH N d2 gen last (gs 0).1 (gs 0).2 (.s 1) cc cc false c (fun i => (gs i).1) (fun i => (gs i).2)) 100 rfl rfl rfl ?_ ?_ (by rw [← hK]; exact ⟨rfl, rfl, rfl⟩)
  · (try cbv) <;> (repeat' (first | exact trivial | exact rfl | apply And.intro | exact fun _ => rfl | (intro _ hle; first | refine chunk_le hA rfl hle rfl ?_ | refine cat_le hA ?_ | refine upd_le hA ?_ | refine int_le ?_ | skip)))
  · (try cbv) <;> (repeat' (first | exact trivial | exact rfl | apply And.intro | exact fun _ => rfl | (intro _ hle; first | refine chunk_le hA rfl hle rfl ?_ | refine cat_le hA ?_ | refine upd_le hA ?_ | refine int_le ?_ | skip)))
    all_goals (clear k1 k2 k3 c1 c2 c3 c4 cN cR)
    all_goals first | (subst hc; subst hA; rfl) | (subst hA; (try simp only [natCast_eq] at *); (try (simp only [Ar.real, NV.val, Int.ofNat_eq_natCast, Int.toNat_natCast])); first | done | omega | decide | exact inR64 (by omega) (by omega) | (refine ⟨?_, ?_⟩ <;> first | omega | decide | exact inR64 (by omega) (by omega))) | trace_state
theorem open_offF {G : Gl} {m cc : Nat} (hP : P = Tryd.prog) (hN : N = 64 * s) (hr : Reg s h gen fi en) (hg : 0 < gen) (hc : c = cc + 1) (hcl : c ≤ 1000000) (ok : DkOk s d) (ho : ¬ offD d) (hl : last ≤ en) (hm : 0 < m) (ok1 : DkOk s d1) (o1 : offD d1) (hw : wipeD d last en = (some m, d1))
    (cN : FnTr P G 56 [.ptr 0 0] (DHd N d) 3 (Gives (.tup [.int .i64 (gen : Int), .lit .i64 0]) (DHd N d) 3))
    (cR : FnTr P G 67 [.ptr 0 0, .int .i64 (gen : Int)] (DHd N d) 3 (Gives (.tup [.sl 3 1 (.l 0) (.s c), .int .i64 (last : Int)]) ((3, LgR c (fun i => (gs i).1) (fun i => (gs i).2)) :: DHd N d) 4)) :
    FnTr P G 32 [.ptr 0 0] (DHd N d) 3 (Gives (.tup [.nilp, .lit .i64 6]) (DHd N d1) 3) := by
  have c1 := wasked_ok (P := P) (G := G) (S := d.S) (L := d.L) (ar := d.ar) (ca := d.ca) hP hN hr.hs
  have c2 := end_fn (P := P) (G := G) (S := d.S) (L := d.L) (ar := d.ar) (ca := d.ca) hP hN hr.hs hr.hh hr.hg hr.hfi hr.hen
  have c3 := wipe_all (P := P) (G := G) hP hN hr.hs.2 ok.hca ⟨hl, hr.le.2.2⟩ ho hw
  have c4 := flush_off (P := P) (G := G) (N := N) (S := d1.S) (L := d1.L) hP o1
  clear hr ok ho hw hN ok1 o1
  have hT : T.Ok P := hP ▸ T_ok
  refine FnTr.intro (fn := Tryd.f32) (c := bodyOf Tryd.f32) (by rw [hP]; rfl) rfl rfl hT ?_
  generalize hA : Ar.real = A
  generalize hK : Gives _ _ _ = K
  cbv
  have k1 : A.eq (gen : Int) 0 = false := by clear c1 cN cR c2 c3 c4; subst hA; simp [Ar.real]; omega
  have k2 : A.eq (A.i2 c) 0 = false := by clear c1 cN cR c2 c3 c4; subst hA; simp [Ar.real]; omega
  have k3 : A.gt (m : Int) 0 = true := by clear c1 cN cR c2 c3 c4; subst hA; simp [Ar.real]; omega
  refine CS.le hA (c1) [(0, 0), (1, 1), (2, 2)] rfl rfl rfl ?_ ?_ ?_
  · (try cbv) <;> (repeat' (first | exact trivial | exact rfl | apply And.intro | exact fun _ => rfl | (intro _ hle; first | refine chunk_le hA rfl hle rfl ?_ | refine cat_le hA ?_ | refine upd_le hA ?_ | (try cbv)))) <;> (try (subst hA; (try simp only [natCast_eq] at *); (try (simp only [Ar.real, NV.val, Int.ofNat_eq_natCast, Int.toNat_natCast])); first | done | omega | decide | exact inR64 (by omega) (by omega) | (refine ⟨?_, ?_⟩ <;> first | omega | decide | exact inR64 (by omega) (by omega))))
  · (try cbv) <;> (repeat' (first | exact trivial | exact rfl | apply And.intro | exact fun _ => rfl | (intro _ hle; first | refine chunk_le hA rfl hle rfl ?_ | refine cat_le hA ?_ | refine upd_le hA ?_ | (try cbv))))
  cbv
  refine CS.le hA (cN) [(0, 0), (1, 1), (2, 2)] rfl rfl rfl ?_ ?_ ?_
  · (try cbv) <;> (repeat' (first | exact trivial | exact rfl | apply And.intro | exact fun _ => rfl | (intro _ hle; first | refine chunk_le hA rfl hle rfl ?_ | refine cat_le hA ?_ | refine upd_le hA ?_ | (try cbv)))) <;> (try (subst hA; (try simp only [natCast_eq] at *); (try (simp only [Ar.real, NV.val, Int.ofNat_eq_natCast, Int.toNat_natCast])); first | done | omega | decide | exact inR64 (by omega) (by omega) | (refine ⟨?_, ?_⟩ <;> first | omega | decide | exact inR64 (by omega) (by omega))))
  · (try cbv) <;> (repeat' (first | exact trivial | exact rfl | apply And.intro | exact fun _ => rfl | (intro _ hle; first | refine chunk_le hA rfl hle rfl ?_ | refine cat_le hA ?_ | refine upd_le hA ?_ | (try cbv))))
  cbv
  first | refine testR k1 rfl ?_ | refine testL k1 rfl ?_
  cbv
  refine CS.le hA (cR) [(0, 0), (1, 1), (2, 2)] rfl rfl rfl ?_ ?_ ?_
  · (try cbv) <;> (repeat' (first | exact trivial | exact rfl | apply And.intro | exact fun _ => rfl | (intro _ hle; first | refine chunk_le hA rfl hle rfl ?_ | refine cat_le hA ?_ | refine upd_le hA ?_ | (try cbv)))) <;> (try (subst hA; (try simp only [natCast_eq] at *); (try (simp only [Ar.real, NV.val, Int.ofNat_eq_natCast, Int.toNat_natCast])); first | done | omega | decide | exact inR64 (by omega) (by omega) | (refine ⟨?_, ?_⟩ <;> first | omega | decide | exact inR64 (by omega) (by omega))))
  · (try cbv) <;> (repeat' (first | exact trivial | exact rfl | apply And.intro | exact fun _ => rfl | (intro _ hle; first | refine chunk_le hA rfl hle rfl ?_ | refine cat_le hA ?_ | refine upd_le hA ?_ | (try cbv))))
  cbv
  first | refine testR k2 rfl ?_ | refine testL k2 rfl ?_
  cbv
  refine CS.le hA (c2) [(0, 0), (1, 1), (2, 2)] rfl rfl rfl ?_ ?_ ?_
  · (try cbv) <;> (repeat' (first | exact trivial | exact rfl | apply And.intro | exact fun _ => rfl | (intro _ hle; first | refine chunk_le hA rfl hle rfl ?_ | refine cat_le hA ?_ | refine upd_le hA ?_ | (try cbv)))) <;> (try (subst hA; (try simp only [natCast_eq] at *); (try (simp only [Ar.real, NV.val, Int.ofNat_eq_natCast, Int.toNat_natCast])); first | done | omega | decide | exact inR64 (by omega) (by omega) | (refine ⟨?_, ?_⟩ <;> first | omega | decide | exact inR64 (by omega) (by omega))))
  · (try cbv) <;> (repeat' (first | exact trivial | exact rfl | apply And.intro | exact fun _ => rfl | (intro _ hle; first | refine chunk_le hA rfl hle rfl ?_ | refine cat_le hA ?_ | refine upd_le hA ?_ | (try cbv))))
  cbv
  refine CS.le hA (c3) [(0, 0), (1, 1), (2, 2)] rfl rfl rfl ?_ ?_ ?_
  · (try cbv) <;> (repeat' (first | exact trivial | exact rfl | apply And.intro | exact fun _ => rfl | (intro _ hle; first | refine chunk_le hA rfl hle rfl ?_ | refine cat_le hA ?_ | refine upd_le hA ?_ | (try cbv)))) <;> (try (subst hA; (try simp only [natCast_eq] at *); (try (simp only [Ar.real, NV.val, Int.ofNat_eq_natCast, Int.toNat_natCast])); first | done | omega | decide | exact inR64 (by omega) (by omega) | (refine ⟨?_, ?_⟩ <;> first | omega | decide | exact inR64 (by omega) (by omega))))
  · (try cbv) <;> (repeat' (first | exact trivial | exact rfl | apply And.intro | exact fun _ => rfl | (intro _ hle; first | refine chunk_le hA rfl hle rfl ?_ | refine cat_le hA ?_ | refine upd_le hA ?_ | (try cbv))))
  cbv
  first | refine testR k3 rfl ?_ | refine testL k3 rfl ?_
  cbv
  refine CS.le hA (c4) [(0, 0), (1, 1), (2, 2)] rfl rfl rfl ?_ ?_ ?_
  · (try cbv) <;> (repeat' (first | exact trivial | exact rfl | apply And.intro | exact fun _ => rfl | (intro _ hle; first | refine chunk_le hA rfl hle rfl ?_ | refine cat_le hA ?_ | refine upd_le hA ?_ | (try cbv)))) <;> (try (subst hA; (try simp only [natCast_eq] at *); (try (simp only [Ar.real, NV.val, Int.ofNat_eq_natCast, Int.toNat_natCast])); first | done | omega | decide | exact inR64 (by omega) (by omega) | (refine ⟨?_, ?_⟩ <;> first | omega | decide | exact inR64 (by omega) (by omega))))
  · (try cbv) <;> (repeat' (first | exact trivial | exact rfl | apply And.intro | exact fun _ => rfl | (intro _ hle; first | refine chunk_le hA rfl hle rfl ?_ | refine cat_le hA ?_ | refine upd_le hA ?_ | (try cbv))))
  cbv
  refine Fin.le hA 3 [] (.tup [.nilp, .lit .i64 6]) (DHd N d1) 3 rfl rfl rfl ?_ ?_ (by rw [← hK]; exact ⟨rfl, rfl, rfl⟩)
  · (try cbv) <;> (repeat' (first | exact trivial | exact rfl | apply And.intro | exact fun _ => rfl | (intro _ hle; first | refine chunk_le hA rfl hle rfl ?_ | refine cat_le hA ?_ | refine upd_le hA ?_ | (try cbv))))
  · (try cbv) <;> (repeat' (first | exact trivial | exact rfl | apply And.intro | exact fun _ => rfl | (intro _ hle; first | refine chunk_le hA rfl hle rfl ?_ | refine cat_le hA ?_ | refine upd_le hA ?_ | (try cbv))))
end
end Go.Proofs.YtnjjgipblimbfaaDoor.Dsk
namespace Go.Proofs.YtnjjgipblimbfaaDoor.Dsk
open Go.Eng
set_option maxRecDepth 100000
set_option maxHeartbeats 1000000
theorem alive_nil {P : Program} {G : Gl} (hP : P = Tryd.prog) : FnTr P G 59 [.nilp] [] 0 (Gives (.lit .i64 7) [] 0) := by
  have hT : T.Ok P := hP ▸ T_ok
  refine FnTr.intro (fn := Tryd.f59) (c := bodyOf Tryd.f59) (by rw [hP]; rfl) rfl rfl hT ?_
  generalize hA : Ar.real = A
  generalize hK : Gives _ _ _ = K
  cbv
  refine Fin.le hA 0 [] (.lit .i64 7) ([]) 0 rfl rfl rfl ?_ ?_ (by rw [← hK]; exact ⟨rfl, rfl, rfl⟩)
  · (try cbv) <;> (repeat' (first | exact trivial | exact rfl | apply And.intro | exact fun _ => rfl | (intro _ hle; first | refine chunk_le hA rfl hle rfl ?_ | refine cat_le hA ?_ | refine upd_le hA ?_ | (try cbv))))
  · (try cbv) <;> (repeat' (first | exact trivial | exact rfl | apply And.intro | exact fun _ => rfl | (intro _ hle; first | refine chunk_le hA rfl hle rfl ?_ | refine cat_le hA ?_ | refine upd_le hA ?_ | (try cbv))))
theorem sync_nil {P : Program} {G : Gl} (hP : P = Tryd.prog) : FnTr P G 28 [.nilp] [] 0 (Gives (.lit .i64 7) [] 0) := by
  have c1 := alive_nil (P := P) (G := G) hP
  have hT : T.Ok P := hP ▸ T_ok
  refine FnTr.intro (fn := Tryd.f28) (c := bodyOf Tryd.f28) (by rw [hP]; rfl) rfl rfl hT ?_
  generalize hA : Ar.real = A
  generalize hK : Gives _ _ _ = K
  cbv
  refine CS.le hA (c1) [] rfl rfl rfl ?_ ?_ ?_
  · (try cbv) <;> (repeat' (first | exact trivial | exact rfl | apply And.intro | exact fun _ => rfl | (intro _ hle; first | refine chunk_le hA rfl hle rfl ?_ | refine cat_le hA ?_ | refine upd_le hA ?_ | (try cbv)))) <;> (try (subst hA; (try simp only [natCast_eq] at *); (try (simp only [Ar.real, NV.val, Int.ofNat_eq_natCast, Int.toNat_natCast])); first | done | omega | decide | exact inR64 (by omega) (by omega) | (refine ⟨?_, ?_⟩ <;> first | omega | decide | exact inR64 (by omega) (by omega))))
  · (try cbv) <;> (repeat' (first | exact trivial | exact rfl | apply And.intro | exact fun _ => rfl | (intro _ hle; first | refine chunk_le hA rfl hle rfl ?_ | refine cat_le hA ?_ | refine upd_le hA ?_ | (try cbv))))
  cbv
  refine Fin.le hA 0 [] (.lit .i64 7) ([]) 0 rfl rfl rfl ?_ ?_ (by rw [← hK]; exact ⟨rfl, rfl, rfl⟩)
  · (try cbv) <;> (repeat' (first | exact trivial | exact rfl | apply And.intro | exact fun _ => rfl | (intro _ hle; first | refine chunk_le hA rfl hle rfl ?_ | refine cat_le hA ?_ | refine upd_le hA ?_ | (try cbv))))
  · (try cbv) <;> (repeat' (first | exact trivial | exact rfl | apply And.intro | exact fun _ => rfl | (intro _ hle; first | refine chunk_le hA rfl hle rfl ?_ | refine cat_le hA ?_ | refine upd_le hA ?_ | (try cbv))))
end Go.Proofs.YtnjjgipblimbfaaDoor.Dsk
namespace Go.WalLaw
open Go.DskLaw
/-- Sealed bytes are opened. -/
theorem openOk_seal {n : Nat} {b f : Nat → Int} (hf : ∀ i, i < n + 4 → f i = sealF n b i) : OpenOk (n + 4) f := by
  refine ⟨by omega, fun i hi => ?_⟩
  rw [hf i hi, show n + 4 - 4 = n by omega]
  have hb : ∀ j, j < n → f j = b j := fun j hj => by
    rw [hf j (by omega)]
    unfold sealF CrcLaw.sealB cutF
    rw [if_pos hj, if_pos hj]
  have e1 : CrcLaw.more (bvF n f) 0#32 n = CrcLaw.more (bvF n b) 0#32 n := more_congr (fun j hj => by
    unfold bvF cutF
    rw [if_pos hj, if_pos hj, hb j hj])
  unfold sealF
  rw [e1]
  unfold CrcLaw.sealB
  by_cases q : i < n
  · rw [if_pos q, if_pos q]; unfold cutF; rw [if_pos q, if_pos q, hb i q]
  · rw [if_neg q, if_neg q]
theorem sealF_front {n i : Nat} {b : Nat → Int} (h : i < n) : sealF n b i = b i := by
  unfold sealF CrcLaw.sealB cutF
  rw [if_pos h, if_pos h]

/-- Records, one behind the other. -/
def RecsV (V : Nat → Nat → Int) (fi : Nat) (nl : Nat → Nat) (nf : Nat → Nat → Int) (K : Nat) : Prop :=
  ∀ i, i < K → ∀ j, j < needN (nl i + 4) → ∀ x, x < 64 → V (atN fi (fun i => nl i + 4) i + j) x = pcs (nl i + 4) (sealF (nl i) (nf i)) j x
def Same (K : Nat) (g : Nat → Nat × (Nat → Int)) (nl : Nat → Nat) (nf : Nat → Nat → Int) : Prop := ∀ j, j < K → (g j).1 = nl j ∧ ∀ x, x < nl j → (g j).2 x = nf j x

theorem recP_recs {V : Nat → Nat → Int} {fi en K : Nat} {nl : Nat → Nat} {nf : Nat → Nat → Int} (hen : atN fi (fun i => nl i + 4) K ≤ en) (hl : ∀ i, i < K → nl i + 4 ≤ 65536) (hV : RecsV V fi nl nf K)
    (hstop : getP V (atN fi (fun i => nl i + 4) K) en (en - atN fi (fun i => nl i + 4) K) (atN fi (fun i => nl i + 4) K) 0 (fun _ => 0) = none) :
    ∀ (k i : Nat) (g : Nat → Nat × (Nat → Int)), i ≤ K → K - i < k → Same i g nl nf → ∃ gs, recP V en k (atN fi (fun i => nl i + 4) i) i g = (K, gs, atN fi (fun i => nl i + 4) K) ∧ Same K gs nl nf := by
  intro k
  induction k with
  | zero => intro i g _ h; omega
  | succ k ih =>
    intro i g hi hk hg
    by_cases q : i = K
    · subst q
      exact ⟨g, recP_none hstop, hg⟩
    · have hiK : i < K := by omega
      have hle : atN fi (fun i => nl i + 4) (i + 1) ≤ en := Nat.le_trans (atN_mono (by omega)) hen
      have hst : atN fi (fun i => nl i + 4) (i + 1) = atN fi (fun i => nl i + 4) i + needN (nl i + 4) := rfl
      obtain ⟨f', h1, h2⟩ := getP_whole (V := V) (first := atN fi (fun i => nl i + 4) i) (fin := en) (n := nl i + 4) (r := sealF (nl i) (nf i)) (by omega) (hl i hiK) (hV i hiK) (needN (nl i + 4) - 1) 0 (fun _ => 0) (by have := need1 (nl i + 4); omega) (fun j hj _ => by omega)
      have h1 : getP V (atN fi (fun i => nl i + 4) i) en (en - atN fi (fun i => nl i + 4) i) (atN fi (fun i => nl i + 4) i) 0 (fun _ => 0) = some (nl i + 4, f', atN fi (fun i => nl i + 4) i + needN (nl i + 4)) := h1
      rw [recP_some h1 (openOk_seal h2)]
      refine ih (i + 1) _ (by omega) (by omega) ?_
      intro j hj
      by_cases q2 : j < i
      · simp only [if_pos q2]; exact hg j q2
      · obtain rfl : j = i := by omega
        simp only [if_neg q2]
        exact ⟨by omega, fun x hx => by rw [h2 x (by omega), sealF_front hx]⟩
end Go.WalLaw
namespace Go.WalLaw
open Go.DskLaw
/-! ### Heads -/
theorem genN_congr {v w : Nat → Int} : ∀ j, (∀ i, i < j → v i = w i) → genN v j = genN w j := by
  intro j
  induction j with
  | zero => intro _; rfl
  | succ j ih =>
    intro h
    unfold genN
    rw [ih (fun i hi => h i (by omega)), h j (by omega)]
theorem genN_headB {n : Nat} (hn : n < 256 ^ 8) : ∀ j, j ≤ 8 → genN (headB n) j = n / 256 ^ (8 - j) := by
  intro j
  induction j with
  | zero => intro _; show 0 = _; rw [Nat.div_eq_of_lt hn]
  | succ j ih =>
    intro hj
    unfold genN
    rw [ih (by omega)]
    have e1 : headB n j = ((n / 256 ^ (7 - j) % 256 : Nat) : Int) := by unfold headB; rw [if_pos (by omega)]
    rw [e1, Int.toNat_natCast, show 8 - j = (7 - j) + 1 by omega, show 8 - (j + 1) = 7 - j by omega, Nat.pow_succ, ← Nat.div_div_eq_div_mul]
    omega
theorem genN_all {n : Nat} (hn : n < 256 ^ 8) : genN (headB n) 8 = n := by
  rw [genN_headB hn 8 (by omega)]
  show n / 1 = n
  exact Nat.div_one n
theorem headB_zero (x : Nat) : headB 0 x = 0 := by
  unfold headB
  split
  · simp
  · split
    · simp
    · rfl
theorem genIs_headB {g sec : Nat} {v : Nat → Int} (hg : g ≤ 1099511627776) (hv : ∀ x, x < 64 → v x = headB g x) (hs : g % 2 = sec ∨ g = 0) : GenIs v sec g := by
  have e : genN v 8 = g := by rw [genN_congr 8 (fun i hi => hv i (by omega)), genN_all (by omega)]
  rcases Nat.eq_zero_or_pos g with rfl | h
  · exact .inr ⟨fun q => by have := q.1; omega, rfl⟩
  · exact .inl ⟨⟨by omega, by omega, by omega, by rw [e]; exact hv⟩, e.symm⟩
theorem genIs_congr {v w : Nat → Int} {sec g : Nat} (h : ∀ x, x < 64 → v x = w x) (hg : GenIs v sec g) : GenIs w sec g := by
  have e : genN v 8 = genN w 8 := genN_congr 8 (fun i hi => h i (by omega))
  have k : GenOk v sec ↔ GenOk w sec := by
    unfold GenOk
    rw [e]
    exact ⟨fun q => ⟨q.1, q.2.1, q.2.2.1, fun i hi => by rw [← h i hi]; exact q.2.2.2 i hi⟩, fun q => ⟨q.1, q.2.1, q.2.2.1, fun i hi => by rw [h i hi]; exact q.2.2.2 i hi⟩⟩
  rcases hg with ⟨a, b⟩ | ⟨a, b⟩
  · exact .inl ⟨k.1 a, by rw [← e]; exact b⟩
  · exact .inr ⟨fun q => a (k.2 q), b⟩
/-! ### Wiping -/
theorem wipeP_fr {V : Nat → Nat → Int} {ar : Bool} : ∀ (k x n : Nat) (L : Int → Option (Nat → Int)) (ca : Int) (t : Int), (wipeP V ar k x n L ca).2.1 t = L t ∨ ((x : Int) ≤ t ∧ t < ((x + k : Nat) : Int) ∧ (wipeP V ar k x n L ca).2.1 t = some (fun _ => 0)) := by
  intro k
  induction k with
  | zero => intro x n L ca t; exact .inl rfl
  | succ k ih =>
    intro x n L ca t
    by_cases ho : ar = true ∧ ca = 0
    · rw [wipeP_off ho]; exact .inl rfl
    · by_cases hb : ∀ i, i < 64 → V x i = 0
      · rw [wipeP_blank ho hb]
        rcases ih (x + 1) n L ca t with h | ⟨h1, h2, h3⟩
        · exact .inl h
        · exact .inr ⟨by omega, by omega, h3⟩
      · rw [wipeP_full ho hb]
        rcases ih (x + 1) (n + 1) (fun i => if i = (x : Int) then some (fun _ => 0) else L i) (if ar then ca - 1 else ca) t with h | ⟨h1, h2, h3⟩
        · by_cases q : t = (x : Int)
          · refine .inr ⟨by omega, by omega, ?_⟩
            rw [h]; exact if_pos q
          · left
            rw [h]; exact if_neg q
        · exact .inr ⟨by omega, by omega, h3⟩
theorem wipeP_done {V : Nat → Nat → Int} {ar : Bool} : ∀ (k x n : Nat) (L : Int → Option (Nat → Int)) (ca : Int) (m : Nat), (wipeP V ar k x n L ca).1 = some m → ∀ t : Nat, x ≤ t → t < x + k → (wipeP V ar k x n L ca).2.1 t = some (fun _ => 0) ∨ ((wipeP V ar k x n L ca).2.1 t = L t ∧ ∀ i, i < 64 → V t i = 0) := by
  intro k
  induction k with
  | zero => intro x n L ca m _ t h1 h2; omega
  | succ k ih =>
    intro x n L ca m hm t h1 h2
    by_cases ho : ar = true ∧ ca = 0
    · rw [wipeP_off ho] at hm; cases hm
    · by_cases hb : ∀ i, i < 64 → V x i = 0
      · rw [wipeP_blank ho hb] at hm ⊢
        by_cases q : t = x
        · rw [q]
          rcases wipeP_fr (V := V) (ar := ar) k (x + 1) n L ca (x : Int) with h | ⟨h3, h4, h5⟩
          · exact .inr ⟨h, hb⟩
          · omega
        · exact ih (x + 1) n L ca m hm t (by omega) (by omega)
      · rw [wipeP_full ho hb] at hm ⊢
        by_cases q : t = x
        · rw [q]
          rcases wipeP_fr (V := V) (ar := ar) k (x + 1) (n + 1) (fun i => if i = (x : Int) then some (fun _ => 0) else L i) (if ar then ca - 1 else ca) (x : Int) with h | ⟨h3, h4, h5⟩
          · left; rw [h]; exact if_pos rfl
          · exact .inl h5
        · rcases ih (x + 1) (n + 1) (fun i => if i = (x : Int) then some (fun _ => 0) else L i) (if ar then ca - 1 else ca) m hm t (by omega) (by omega) with h | ⟨h3, h4⟩
          · exact .inl h
          · exact .inr ⟨by rw [h3]; exact if_neg (by omega), h4⟩
theorem wipeP_run {V : Nat → Nat → Int} : ∀ (k x n : Nat) (L : Int → Option (Nat → Int)) (ca : Int), ∃ m, (wipeP V false k x n L ca).1 = some m := by
  intro k
  induction k with
  | zero => intro x n L ca; exact ⟨n, rfl⟩
  | succ k ih =>
    intro x n L ca
    have ho : ¬ (false = true ∧ ca = 0) := fun h => by cases h.1
    by_cases hb : ∀ i, i < 64 → V x i = 0
    · rw [wipeP_blank ho hb]; exact ih _ _ _ _
    · rw [wipeP_full ho hb]; exact ih _ _ _ _
theorem wipeD_fr {d d' : Dk} {a b : Nat} {on : Option Nat} (hw : wipeD d a b = (on, d')) (t : Int) : d'.L t = d.L t ∨ ((a : Int) ≤ t ∧ t < (b : Int) ∧ d'.L t = some (fun _ => 0)) := by
  obtain ⟨_, e2⟩ := Prod.mk.inj hw
  subst e2
  rcases wipeP_fr (V := fun i => secV d.S d.L i) (ar := d.ar) (b - a) a 0 d.L d.ca t with h | ⟨h1, h2, h3⟩
  · exact .inl h
  · exact .inr ⟨h1, by omega, h3⟩
theorem wipeD_S {d d' : Dk} {a b : Nat} {on : Option Nat} (hw : wipeD d a b = (on, d')) : d'.S = d.S ∧ d'.ar = d.ar := by
  obtain ⟨_, e2⟩ := Prod.mk.inj hw
  subst e2
  exact ⟨rfl, rfl⟩
theorem wipeD_done {d d' : Dk} {a b m : Nat} (hw : wipeD d a b = (some m, d')) (t : Nat) (h1 : a ≤ t) (h2 : t < b) (x : Nat) (hx : x < 64) : secV d'.S d'.L t x = 0 := by
  obtain ⟨e1, e2⟩ := Prod.mk.inj hw
  subst e2
  rcases wipeP_done (V := fun i => secV d.S d.L i) (ar := d.ar) (b - a) a 0 d.L d.ca m e1 t h1 (by omega) with h | ⟨h3, h4⟩
  · rw [secV_some' h]
  · have h4 : secV d.S d.L t x = 0 := h4 x hx
    cases e : d.L (t : Int) with
    | none => rw [secV_none' (h3.trans e)]; rw [secV_none' e] at h4; exact h4
    | some g => rw [secV_some' (h3.trans e)]; rw [secV_some' e] at h4; exact h4
theorem wipeD_run {d : Dk} {a b : Nat} (h : d.ar = false) : ∃ m d', wipeD d a b = (some m, d') := by
  obtain ⟨m, hm⟩ := wipeP_run (V := fun i => secV d.S d.L i) (b - a) a 0 d.L d.ca
  refine ⟨m, (wipeD d a b).2, Prod.ext ?_ rfl⟩
  show (wipeP (fun i => secV d.S d.L i) d.ar (b - a) a 0 d.L d.ca).1 = some m
  rw [h]
  exact hm

/-! ### What lies in a region -/
abbrev stN (fi : Nat) (nl : Nat → Nat) (i : Nat) : Nat := atN fi (fun i => nl i + 4) i
abbrev recB (nl : Nat → Nat) (nf : Nat → Nat → Int) (i j x : Nat) : Int := pcs (nl i + 4) (sealF (nl i) (nf i)) j x
theorem stN_succ (fi : Nat) (nl : Nat → Nat) (i : Nat) : stN fi nl (i + 1) = stN fi nl i + needN (nl i + 4) := rfl
theorem stN_mono {fi : Nat} {nl : Nat → Nat} {i j : Nat} (h : i ≤ j) : stN fi nl i ≤ stN fi nl j := atN_mono h
theorem stN_congr {fi c : Nat} {nl nl' : Nat → Nat} (h : ∀ i, i < c → nl' i = nl i) : ∀ i, i ≤ c → stN fi nl' i = stN fi nl i := by
  intro i
  induction i with
  | zero => intro _; rfl
  | succ i ih => intro hi; rw [stN_succ, stN_succ, ih (by omega), h i (by omega)]
theorem stN_in {fi c i j : Nat} {nl : Nat → Nat} (hi : i < c) (hj : j < needN (nl i + 4)) : fi ≤ stN fi nl i + j ∧ stN fi nl i + j < stN fi nl c := by
  have h1 : stN fi nl (i + 1) ≤ stN fi nl c := stN_mono (by omega)
  have h2 : stN fi nl 0 ≤ stN fi nl i := stN_mono (by omega)
  have h3 : stN fi nl 0 = fi := rfl
  rw [stN_succ] at h1
  omega

/-- A log's region: su records are sure, what waits are the pieces up to w, of c records. -/
structure LogI (d : Dk) (fi en su w c : Nat) (nl : Nat → Nat) (nf : Nat → Nat → Int) : Prop where
  hsu : 1 ≤ su ∧ su ≤ c
  hw : stN fi nl su ≤ w ∧ w ≤ stN fi nl c
  hen : stN fi nl c ≤ en
  hlen : ∀ i, i < c → nl i + 4 ≤ 65536
  recs : ∀ i, i < su → ∀ j, j < needN (nl i + 4) → ∀ x, x < 64 → d.S (64 * (stN fi nl i + j) + x) = recB nl nf i j x
  blank : ∀ t, stN fi nl su ≤ t → t < en → ∀ x, x < 64 → d.S (64 * t + x) = 0
  lin : ∀ i, i < c → ∀ j, j < needN (nl i + 4) → stN fi nl su ≤ stN fi nl i + j → stN fi nl i + j < w → ∃ g, d.L ((stN fi nl i + j : Nat) : Int) = some g ∧ ∀ x, x < 64 → g x = recB nl nf i j x
  lout : ∀ t : Nat, fi ≤ t → t < en → (t < stN fi nl su ∨ w ≤ t) → d.L (t : Int) = none
/-- The heads. -/
structure HdI (d : Dk) (g : Nat) : Prop where
  cur : ∀ x, x < 64 → d.S (64 * (g % 2) + x) = headB g x
  old : ∀ x, x < 64 → d.S (64 * ((g + 1) % 2) + x) = headB (g - 1) x
  l0 : d.L 0 = none
  l1 : d.L 1 = none
/-- A disk whose log is that of some records: nothing waits but zeros behind them. -/
structure ImgD (d : Dk) (g fi en K : Nat) (nl : Nat → Nat) (nf : Nat → Nat → Int) : Prop where
  heads : ∃ g0 g1, GenIs (fun x => d.S (64 * 0 + x)) 0 g0 ∧ GenIs (fun x => d.S (64 * 1 + x)) 1 g1 ∧ g = max g0 g1
  hK : 1 ≤ K ∧ stN fi nl K ≤ en
  hlen : ∀ i, i < K → nl i + 4 ≤ 65536
  recs : ∀ i, i < K → ∀ j, j < needN (nl i + 4) → ∀ x, x < 64 → d.S (64 * (stN fi nl i + j) + x) = recB nl nf i j x
  stop : ∃ j0, (∀ j, j < j0 → d.S (64 * (stN fi nl K + j) + 63) = 0 ∨ d.S (64 * (stN fi nl K + j) + 63) = 1) ∧ (stN fi nl K + j0 < en → d.S (64 * (stN fi nl K + j0) + 63) = 0)
  lz : ∀ k g, d.L k = some g → ∃ t : Nat, k = (t : Int) ∧ stN fi nl K ≤ t ∧ t < en ∧ ∀ x, x < 64 → g x = 0

/-- A crash. -/
def crashD (d : Dk) (ks kb : Nat → Int) (n : Nat) : Dk := ⟨(crashP d.S d.L ks kb n).1, fun _ => none, false, 0⟩
theorem crashD_S {s : Nat} {d : Dk} {ks kb : Nat → Int} {n : Nat} (ok : DkOk s d) (t x : Nat) (hx : x < 64) : (crashD d ks kb n).S (64 * t + x) = secC d.S d.L ks kb n t x := (crashP_eq (fun k g h => (ok.key k g h).1) n).2 t x hx
theorem secC_none {S : Nat → Int} {L : Int → Option (Nat → Int)} {ks kb : Nat → Int} {n t : Nat} (h : L (t : Int) = none) (x : Nat) : secC S L ks kb n t x = S (64 * t + x) := by unfold secC; rw [h]
theorem secC_some {S : Nat → Int} {L : Int → Option (Nat → Int)} {ks kb : Nat → Int} {n t : Nat} {g : Nat → Int} (h : L (t : Int) = some g) : ∃ k, k ≤ 64 ∧ ∀ x, secC S L ks kb n t x = if x < k then g x else S (64 * t + x) := by
  refine ⟨(keptB ks kb (t : Int) n).getD 0, ?_, fun x => ?_⟩
  · cases e : keptB ks kb (t : Int) n with
    | none => exact Nat.zero_le _
    | some b => exact keptB_le e
  · unfold secC; rw [h]
theorem DkOk.crash {s : Nat} {d : Dk} {ks kb : Nat → Int} {n : Nat} (ok : DkOk s d) : DkOk s (crashD d ks kb n) where
  hca := ⟨Int.le_refl 0, (by decide : (0 : Int) ≤ 9223372036854775807)⟩
  key := fun k g e => by cases e
  sb := fun x hx => by
    rw [show x = 64 * (x / 64) + x % 64 by omega, crashD_S ok (x / 64) (x % 64) (by omega)]
    cases e : d.L ((x / 64 : Nat) : Int) with
    | none => rw [secC_none e]; exact ok.sb _ (by omega)
    | some g =>
      obtain ⟨k, _, hk⟩ := secC_some (S := d.S) (ks := ks) (kb := kb) (n := n) e
      rw [hk]
      split
      · exact ok.lb _ g e _ (by omega)
      · exact ok.sb _ (by omega)
  lb := fun k g e => by cases e

/-- The marks stop the records. -/
theorem usedP_mark1 {v : Nat → Int} (h : v 63 = 1) : usedP v = none ∨ usedP v = some (62, true) := by
  by_cases q : padOk v
  · by_cases q2 : (v 62).toNat = 62
    · exact .inr (usedP_on q h q2)
    · exact .inl (usedP_none2 q h q2)
  · exact .inl (usedP_none1 q)
theorem getP_marks {V : Nat → Nat → Int} {first fin j0 : Nat} (h1 : ∀ j, j < j0 → first + j < fin → V (first + j) 63 = 0 ∨ V (first + j) 63 = 1) (h2 : first + j0 < fin → V (first + j0) 63 = 0) :
    ∀ (k j n : Nat) (f : Nat → Int), k + j = j0 → getP V first fin (fin - (first + j)) (first + j) n f = none := by
  intro k
  induction k with
  | zero =>
    intro j n f hk
    obtain rfl : j = j0 := by omega
    by_cases q : fin ≤ first + j
    · exact getP_stop q _
    · exact getP_none (by omega) (usedP_zero (h2 (by omega)))
  | succ k ih =>
    intro j n f hk
    by_cases q : fin ≤ first + j
    · exact getP_stop q _
    · rcases h1 j (by omega) (by omega) with e | e
      · exact getP_none (by omega) (usedP_zero e)
      · rcases usedP_mark1 e with u | u
        · exact getP_none (by omega) u
        · by_cases l : 65536 < n + 62
          · exact getP_long (by omega) u l
          · rw [getP_on (by omega) u l]
            exact ih (j + 1) _ _ (by omega)
theorem secV_eq {S : Nat → Int} {L : Int → Option (Nat → Int)} (h : ∀ k, L k = none) (t x : Nat) : secV S L t x = S (64 * t + x) := secV_none' (h _) x

/-- What is read of such a disk. -/
theorem ImgD.read {d : Dk} {g fi en K : Nat} {nl : Nat → Nat} {nf : Nat → Nat → Int} (h : ImgD d g fi en K nl nf) (hL : ∀ k, d.L k = none) (g0 : Nat → Nat × (Nat → Int)) :
    ∃ gs, recP (fun t => secV d.S d.L t) en (en - fi + 1) fi 0 g0 = (K, gs, stN fi nl K) ∧ Same K gs nl nf := by
  refine recP_recs (nl := nl) (nf := nf) h.hK.2 h.hlen ?_ ?_ (en - fi + 1) 0 g0 (by omega) ?_ (fun j hj => by omega)
  · intro i hi j hj x hx
    show secV d.S d.L _ x = _
    rw [secV_eq hL]
    exact h.recs i hi j hj x hx
  · obtain ⟨j0, h1, h2⟩ := h.stop
    refine getP_marks (V := fun t => secV d.S d.L t) (first := stN fi nl K) (j0 := j0) (fun j hj _ => ?_) (fun hq => ?_) j0 0 0 _ (by omega)
    · show secV d.S d.L _ 63 = 0 ∨ secV d.S d.L _ 63 = 1
      rw [secV_eq hL]
      exact h1 j hj
    · show secV d.S d.L _ 63 = 0
      rw [secV_eq hL]
      exact h2 hq
  · have h1 := h.hK.2
    have h2 : fi + K ≤ stN fi nl K := le_atN fi (fun i => nl i + 4) K
    show K - 0 < en - fi + 1
    omega
theorem ImgD.gens {d : Dk} {g fi en K : Nat} {nl : Nat → Nat} {nf : Nat → Nat → Int} (h : ImgD d g fi en K nl nf) (hL : ∀ k, d.L k = none) :
    ∃ g0 g1, GenIs (secV d.S d.L 0) 0 g0 ∧ GenIs (secV d.S d.L 1) 1 g1 ∧ g = max g0 g1 := by
  obtain ⟨g0, g1, h0, h1, e⟩ := h.heads
  exact ⟨g0, g1, genIs_congr (fun x _ => (secV_eq hL 0 x).symm) h0, genIs_congr (fun x _ => (secV_eq hL 1 x).symm) h1, e⟩
theorem ImgD.wipe {d d' : Dk} {g fi en K : Nat} {nl : Nat → Nat} {nf : Nat → Nat → Int} {on : Option Nat} (h : ImgD d g fi en K nl nf) (hw : wipeD d (stN fi nl K) en = (on, d')) : ImgD d' g fi en K nl nf := by
  have e1 := (wipeD_S hw).1
  refine ⟨by rw [e1]; exact h.heads, h.hK, h.hlen, by rw [e1]; exact h.recs, by rw [e1]; exact h.stop, fun k g e => ?_⟩
  rcases wipeD_fr hw k with q | ⟨q1, q2, q3⟩
  · exact h.lz k g (by rw [← q]; exact e)
  · rw [q3] at e
    cases e
    exact ⟨k.toNat, by omega, by omega, by omega, fun _ _ => rfl⟩
theorem flushD_S (d : Dk) (t x : Nat) (hx : x < 64) : (flushD d).S (64 * t + x) = secV d.S d.L t x := by
  show secV d.S d.L ((64 * t + x) / 64) ((64 * t + x) % 64) = _
  rw [show (64 * t + x) / 64 = t by omega, show (64 * t + x) % 64 = x by omega]
theorem ImgD.flush {d : Dk} {g fi en K : Nat} {nl : Nat → Nat} {nf : Nat → Nat → Int} (h : ImgD d g fi en K nl nf) (hf : 2 ≤ fi) : ImgD (flushD d) g fi en K nl nf := by
  have hst : fi ≤ stN fi nl K := stN_mono (fi := fi) (nl := nl) (i := 0) (by omega)
  have lo : ∀ t x, t < stN fi nl K → x < 64 → (flushD d).S (64 * t + x) = d.S (64 * t + x) := fun t x ht hx => by
    rw [flushD_S d t x hx]
    refine secV_none' ?_ x
    cases e : d.L (t : Int) with
    | none => rfl
    | some g =>
      obtain ⟨t', e1, e2, _⟩ := h.lz _ g e
      omega
  have hi : ∀ t, (flushD d).S (64 * t + 63) = d.S (64 * t + 63) ∨ (flushD d).S (64 * t + 63) = 0 := fun t => by
    rw [flushD_S d t 63 (by omega)]
    cases e : d.L (t : Int) with
    | none => exact .inl (secV_none' e 63)
    | some g =>
      obtain ⟨_, _, _, _, hz⟩ := h.lz _ g e
      rw [secV_some' e]
      exact .inr (hz 63 (by omega))
  refine ⟨?_, h.hK, h.hlen, ?_, ?_, fun k g e => by cases e⟩
  · obtain ⟨g0, g1, h0, h1, e⟩ := h.heads
    exact ⟨g0, g1, genIs_congr (fun x hx => (lo 0 x (by omega) hx).symm) h0, genIs_congr (fun x hx => (lo 1 x (by omega) hx).symm) h1, e⟩
  · intro i hi j hj x hx
    rw [lo _ x (stN_in hi hj).2 hx]
    exact h.recs i hi j hj x hx
  · obtain ⟨j0, h1, h2⟩ := h.stop
    refine ⟨j0, fun j hj => ?_, fun hq => ?_⟩
    · rcases hi (stN fi nl K + j) with e | e
      · rw [e]; exact h1 j hj
      · exact .inl e
    · rcases hi (stN fi nl K + j0) with e | e
      · rw [e]; exact h2 hq
      · exact e
end Go.WalLaw
