/-
  Records on sectors: the record at a place.
-/
import Derived.Test.YtnjjgipblimbfaaDskF5
set_option linter.unusedVariables false
set_option linter.unusedSimpArgs false
namespace Go.Proofs.Ytnjjgipblimbfaa.Dsk
open Go.Eng
open Go.DskLaw (q64 secV needN pcs padOk isB usedP getP usedP_none1 usedP_on usedP_none2 usedP_end usedP_none3 getP_stop getP_none getP_long getP_empty getP_on getP_end)
set_option maxRecDepth 100000
set_option maxHeartbeats 4000000
set_option linter.unusedVariables false

theorem get_nil {P : Program} {G : Gl} (hP : P = Try.prog) {a b : Int} : FnTr P G 36 [.nilp, .int .i64 a, .int .i64 b] [] 0 (Gives (.tup [.nils, .lit .i64 0, .lit .i64 7]) [] 0) := by
  have c1 := sasked_nil (P := P) (G := G) (a := a) (b := b) hP
  have hT : T.Ok P := hP ▸ T_ok
  refine FnTr.intro (fn := Try.f36) (c := bodyOf Try.f36) (by rw [hP]; rfl) rfl rfl hT ?_
  generalize hA : Ar.real = A
  generalize hK : Gives _ _ _ = K
  cbv
  refine CS.le hA (c1) [] rfl rfl rfl ?_ ?_ ?_
  · (try cbv) <;> (repeat' (first | exact trivial | exact rfl | apply And.intro | exact fun _ => rfl | (intro _ hle; first | refine chunk_le hA rfl hle rfl ?_ | refine cat_le hA ?_ | refine upd_le hA ?_ | (try cbv)))) <;> (try (subst hA; (try simp only [natCast_eq] at *); (try (simp only [Ar.real, NV.val, Int.ofNat_eq_natCast, Int.toNat_natCast])); first | done | omega | decide | exact inR64 (by omega) (by omega) | (refine ⟨?_, ?_⟩ <;> first | omega | decide | exact inR64 (by omega) (by omega))))
  · (try cbv) <;> (repeat' (first | exact trivial | exact rfl | apply And.intro | exact fun _ => rfl | (intro _ hle; first | refine chunk_le hA rfl hle rfl ?_ | refine cat_le hA ?_ | refine upd_le hA ?_ | (try cbv))))
  cbv
  refine Fin.le hA 0 [] (.tup [.nils, .lit .i64 0, .lit .i64 7]) ([]) 0 rfl rfl rfl ?_ ?_ (by rw [← hK]; exact ⟨rfl, rfl, rfl⟩)
  · (try cbv) <;> (repeat' (first | exact trivial | exact rfl | apply And.intro | exact fun _ => rfl | (intro _ hle; first | refine chunk_le hA rfl hle rfl ?_ | refine cat_le hA ?_ | refine upd_le hA ?_ | (try cbv))))
  · (try cbv) <;> (repeat' (first | exact trivial | exact rfl | apply And.intro | exact fun _ => rfl | (intro _ hle; first | refine chunk_le hA rfl hle rfl ?_ | refine cat_le hA ?_ | refine upd_le hA ?_ | (try cbv))))
theorem get_arg {P : Program} {G : Gl} (hP : P = Try.prog) {N s : Nat} {S : Nat → Int} {L : Int → Option (Nat → Int)} {ar : Bool} {ca a b : Int} (hN : N = 64 * s) (hs : s ≤ 4096) (h : a < 0 ∨ b < a ∨ (s : Int) < b) :
    FnTr P G 36 [.ptr 0 0, .int .i64 a, .int .i64 b] (DH N S L ar ca) 3 (Gives (.tup [.nils, .lit .i64 0, .lit .i64 1]) (DH N S L ar ca) 3) := by
  have c1 := sasked_arg (P := P) (G := G) (S := S) (L := L) (ar := ar) (ca := ca) hP hN hs h
  have hT : T.Ok P := hP ▸ T_ok
  refine FnTr.intro (fn := Try.f36) (c := bodyOf Try.f36) (by rw [hP]; rfl) rfl rfl hT ?_
  generalize hA : Ar.real = A
  generalize hK : Gives _ _ _ = K
  cbv
  refine CS.le hA (c1) [(0, 0), (1, 1), (2, 2)] rfl rfl rfl ?_ ?_ ?_
  · (try cbv) <;> (repeat' (first | exact trivial | exact rfl | apply And.intro | exact fun _ => rfl | (intro _ hle; first | refine chunk_le hA rfl hle rfl ?_ | refine cat_le hA ?_ | refine upd_le hA ?_ | (try cbv)))) <;> (try (subst hA; (try simp only [natCast_eq] at *); (try (simp only [Ar.real, NV.val, Int.ofNat_eq_natCast, Int.toNat_natCast])); first | done | omega | decide | exact inR64 (by omega) (by omega) | (refine ⟨?_, ?_⟩ <;> first | omega | decide | exact inR64 (by omega) (by omega))))
  · (try cbv) <;> (repeat' (first | exact trivial | exact rfl | apply And.intro | exact fun _ => rfl | (intro _ hle; first | refine chunk_le hA rfl hle rfl ?_ | refine cat_le hA ?_ | refine upd_le hA ?_ | (try cbv))))
  cbv
  refine Fin.le hA 3 [] (.tup [.nils, .lit .i64 0, .lit .i64 1]) (DH N S L ar ca) 3 rfl rfl rfl ?_ ?_ (by rw [← hK]; exact ⟨rfl, rfl, rfl⟩)
  · (try cbv) <;> (repeat' (first | exact trivial | exact rfl | apply And.intro | exact fun _ => rfl | (intro _ hle; first | refine chunk_le hA rfl hle rfl ?_ | refine cat_le hA ?_ | refine upd_le hA ?_ | (try cbv))))
  · (try cbv) <;> (repeat' (first | exact trivial | exact rfl | apply And.intro | exact fun _ => rfl | (intro _ hle; first | refine chunk_le hA rfl hle rfl ?_ | refine cat_le hA ?_ | refine upd_le hA ?_ | (try cbv))))
theorem get_off {P : Program} {G : Gl} (hP : P = Try.prog) {N s : Nat} {S : Nat → Int} {L : Int → Option (Nat → Int)} {ar : Bool} {ca a b : Int} (hN : N = 64 * s) (hs : s ≤ 4096) (h : 0 ≤ a ∧ a ≤ b ∧ b ≤ (s : Int)) (ho : ar = true ∧ ca = 0) :
    FnTr P G 36 [.ptr 0 0, .int .i64 a, .int .i64 b] (DH N S L ar ca) 3 (Gives (.tup [.nils, .lit .i64 0, .lit .i64 6]) (DH N S L ar ca) 3) := by
  have c1 := sasked_ok (P := P) (G := G) (S := S) (L := L) (ar := ar) (ca := ca) hP hN hs h
  have c2 := off_fn (P := P) (G := G) (N := N) (S := S) (L := L) (ar := ar) (r := true) (ca := ca) hP ⟨fun _ => ho, fun _ => rfl⟩
  have hT : T.Ok P := hP ▸ T_ok
  refine FnTr.intro (fn := Try.f36) (c := bodyOf Try.f36) (by rw [hP]; rfl) rfl rfl hT ?_
  generalize hA : Ar.real = A
  generalize hK : Gives _ _ _ = K
  cbv
  refine CS.le hA (c1) [(0, 0), (1, 1), (2, 2)] rfl rfl rfl ?_ ?_ ?_
  · (try cbv) <;> (repeat' (first | exact trivial | exact rfl | apply And.intro | exact fun _ => rfl | (intro _ hle; first | refine chunk_le hA rfl hle rfl ?_ | refine cat_le hA ?_ | refine upd_le hA ?_ | (try cbv)))) <;> (try (subst hA; (try simp only [natCast_eq] at *); (try (simp only [Ar.real, NV.val, Int.ofNat_eq_natCast, Int.toNat_natCast])); first | done | omega | decide | exact inR64 (by omega) (by omega) | (refine ⟨?_, ?_⟩ <;> first | omega | decide | exact inR64 (by omega) (by omega))))
  · (try cbv) <;> (repeat' (first | exact trivial | exact rfl | apply And.intro | exact fun _ => rfl | (intro _ hle; first | refine chunk_le hA rfl hle rfl ?_ | refine cat_le hA ?_ | refine upd_le hA ?_ | (try cbv))))
  cbv
  refine CS.leR hA (c2) (.bl true) [(0, 0), (1, 1), (2, 2)] rfl rfl rfl ?_ ?_ ?_ ?_
  · (try cbv) <;> (repeat' (first | exact trivial | exact rfl | apply And.intro | exact fun _ => rfl | (intro _ hle; first | refine chunk_le hA rfl hle rfl ?_ | refine cat_le hA ?_ | refine upd_le hA ?_ | (try cbv)))) <;> (try (subst hA; (try simp only [natCast_eq] at *); (try (simp only [Ar.real, NV.val, Int.ofNat_eq_natCast, Int.toNat_natCast])); first | done | omega | decide | exact inR64 (by omega) (by omega) | (refine ⟨?_, ?_⟩ <;> first | omega | decide | exact inR64 (by omega) (by omega))))
  · (try cbv) <;> (repeat' (first | exact trivial | exact rfl | apply And.intro | exact fun _ => rfl | (intro _ hle; first | refine chunk_le hA rfl hle rfl ?_ | refine cat_le hA ?_ | refine upd_le hA ?_ | (try cbv)))) <;> (try (subst hA; (try simp only [natCast_eq] at *); (try (simp only [Ar.real, NV.val, Int.ofNat_eq_natCast, Int.toNat_natCast])); first | done | omega | decide | exact inR64 (by omega) (by omega) | (refine ⟨?_, ?_⟩ <;> first | omega | decide | exact inR64 (by omega) (by omega))))
  · (try cbv) <;> (repeat' (first | exact trivial | exact rfl | apply And.intro | exact fun _ => rfl | (intro _ hle; first | refine chunk_le hA rfl hle rfl ?_ | refine cat_le hA ?_ | refine upd_le hA ?_ | (try cbv))))
  cbv
  refine Fin.le hA 3 [] (.tup [.nils, .lit .i64 0, .lit .i64 6]) (DH N S L ar ca) 3 rfl rfl rfl ?_ ?_ (by rw [← hK]; exact ⟨rfl, rfl, rfl⟩)
  · (try cbv) <;> (repeat' (first | exact trivial | exact rfl | apply And.intro | exact fun _ => rfl | (intro _ hle; first | refine chunk_le hA rfl hle rfl ?_ | refine cat_le hA ?_ | refine upd_le hA ?_ | (try cbv))))
  · (try cbv) <;> (repeat' (first | exact trivial | exact rfl | apply And.intro | exact fun _ => rfl | (intro _ hle; first | refine chunk_le hA rfl hle rfl ?_ | refine cat_le hA ?_ | refine upd_le hA ?_ | (try cbv))))

theorem get_own {P : Program} {G : Gl} {K : SV → Hl → Nat → Prop} (hP : P = Try.prog) {N s first fin : Nat} {S f0 : Nat → Int} {L : Int → Option (Nat → Int)} {ar : Bool} {ca : Int} {V : Nat → Nat → Int} {R0 : Option (Nat × (Nat → Int) × Nat)} (hN : N = 64 * s) (hs : s ≤ 4096)
    (h : first ≤ fin ∧ fin ≤ s) (ho : ¬ (ar = true ∧ ca = 0)) (hV : ∀ i, i < s → V i = secV S L i ∧ isB (V i)) (hR0 : getP V first fin (fin - first) first 0 f0 = R0)
    (hK1 : ∀ n f next, R0 = some (n, f, next) → K (.tup [.sl 3 1 (.l 0) (.s n), .int .i64 (next : Int), .lit .i64 0]) ((3, .row 5 1 (.s n) (fun e => [.int .u8 (f e.val)])) :: DH N S L ar ca) 4)
    (hK0 : R0 = none → K (.tup [.nils, .lit .i64 0, .lit .i64 4]) (DH N S L ar ca) 3) :
    FnTr P G 36 [.ptr 0 0, .int .i64 (first : Int), .int .i64 (fin : Int)] (DH N S L ar ca) 3 K := by
  have c1 := sasked_ok (P := P) (G := G) (S := S) (L := L) (ar := ar) (ca := ca) (a := (first : Int)) (b := (fin : Int)) hP hN hs (by omega)
  have c2 := off_fn (P := P) (G := G) (N := N) (S := S) (L := L) (ar := ar) (r := false) (ca := ca) hP ⟨fun q => (by cases q), fun q => absurd q ho⟩
  have c3 : ∀ i, i < s → FnTr P G 51 [.ptr 0 0, .int .i64 (i : Int)] (DH N S L ar ca) 3 (Gives (.tup [.ro 1 (.l 64) (fun e => [.int .u8 (V i e.val)]), .lit .i64 0]) (DH N S L ar ca) 4) := fun i hi => read_fn hP ho hN hs hi (hV i hi).1
  obtain ⟨m64, h64⟩ : ∃ m, m = 64 := ⟨_, rfl⟩
  have hB : ∀ i, i < s → isB (V i) := fun i hi => (hV i hi).2
  clear hV
  have hT : T.Ok P := hP ▸ T_ok
  refine FnTr.intro (fn := Try.f36) (c := bodyOf Try.f36) (by rw [hP]; rfl) rfl rfl hT ?_
  generalize hA : Ar.real = A
  cbv
  refine CS.le hA (c1) [(0, 0), (1, 1), (2, 2)] rfl rfl rfl ?_ ?_ ?_
  · (try cbv) <;> (repeat' (first | exact trivial | exact rfl | apply And.intro | exact fun _ => rfl | (intro _ hle; first | refine chunk_le hA rfl hle rfl ?_ | refine cat_le hA ?_ | refine upd_le hA ?_ | (try cbv)))) <;> (try (subst hA; (try simp only [natCast_eq] at *); (try (simp only [Ar.real, NV.val, Int.ofNat_eq_natCast, Int.toNat_natCast])); first | done | omega | decide | exact inR64 (by omega) (by omega) | (refine ⟨?_, ?_⟩ <;> first | omega | decide | exact inR64 (by omega) (by omega))))
  · (try cbv) <;> (repeat' (first | exact trivial | exact rfl | apply And.intro | exact fun _ => rfl | (intro _ hle; first | refine chunk_le hA rfl hle rfl ?_ | refine cat_le hA ?_ | refine upd_le hA ?_ | (try cbv))))
  cbv
  refine CS.leR hA (c2) (.bl false) [(0, 0), (1, 1), (2, 2)] rfl rfl rfl ?_ ?_ ?_ ?_
  · (try cbv) <;> (repeat' (first | exact trivial | exact rfl | apply And.intro | exact fun _ => rfl | (intro _ hle; first | refine chunk_le hA rfl hle rfl ?_ | refine cat_le hA ?_ | refine upd_le hA ?_ | (try cbv)))) <;> (try (subst hA; (try simp only [natCast_eq] at *); (try (simp only [Ar.real, NV.val, Int.ofNat_eq_natCast, Int.toNat_natCast])); first | done | omega | decide | exact inR64 (by omega) (by omega) | (refine ⟨?_, ?_⟩ <;> first | omega | decide | exact inR64 (by omega) (by omega))))
  · (try cbv) <;> (repeat' (first | exact trivial | exact rfl | apply And.intro | exact fun _ => rfl | (intro _ hle; first | refine chunk_le hA rfl hle rfl ?_ | refine cat_le hA ?_ | refine upd_le hA ?_ | (try cbv)))) <;> (try (subst hA; (try simp only [natCast_eq] at *); (try (simp only [Ar.real, NV.val, Int.ofNat_eq_natCast, Int.toNat_natCast])); first | done | omega | decide | exact inR64 (by omega) (by omega) | (refine ⟨?_, ?_⟩ <;> first | omega | decide | exact inR64 (by omega) (by omega))))
  · (try cbv) <;> (repeat' (first | exact trivial | exact rfl | apply And.intro | exact fun _ => rfl | (intro _ hle; first | refine chunk_le hA rfl hle rfl ?_ | refine cat_le hA ?_ | refine upd_le hA ?_ | (try cbv))))
  cbv
  clear c1 c2
  refine LS.ghost 5 1 (.l 0) (fun _ => [.int .u8 0]) rfl ?_
  refine LS.le3 hT hA 3 (fun (x : Nat) (n : Nat) (_ : Nat → Int) => [(10, .sl 3 1 (.l 0) (.s n)), (11, .int .i64 (x : Int))]) (fun _ n f => (3, .row 5 1 (.s n) (fun e => [.int .u8 (f e.val)])) :: DH N S L ar ca) (fun x n f => first ≤ x ∧ x ≤ fin ∧ n ≤ 65536 ∧ getP V first fin (fin - x) x n f = R0) (fun x _ _ => fin - x) first 0 f0 [(22, 3)] rfl rfl ?_ ?_ ?_
  · (try cbv) <;> (repeat' (first | exact trivial | exact rfl | apply And.intro | exact fun _ => rfl | (intro _ hle; first | refine chunk_le hA rfl hle rfl ?_ | refine cat_le hA ?_ | refine upd_le hA ?_ | refine int_le ?_ | skip)))
    all_goals (exfalso; subst hA; exact absurd (ltNV_real.1 hle) (Nat.not_lt_zero _))
  · exact ⟨Nat.le_refl _, h.1, by omega, hR0⟩
  · intro R hR x n f hx
    cbv
    refine ⟨fun h1 => ?_, fun h1 => ?_⟩
    · have hxf : x < fin := by clear c3 hK1 hK0 hB hR0 hx hR; subst hA; simpa [Ar.real] using h1
      have c := c3 x (by omega)
      have hb := hB x (by omega)
      clear c3
      cbv
      refine CS.le hA (c) [(0, 0), (1, 1), (2, 2)] rfl rfl rfl ?_ ?_ ?_
      · (try cbv) <;> (repeat' (first | exact trivial | exact rfl | apply And.intro | exact fun _ => rfl | (intro _ hle; first | refine chunk_le hA rfl hle rfl ?_ | refine cat_le hA ?_ | refine upd_le hA ?_ | (try cbv)))) <;> (try (subst hA; (try simp only [natCast_eq] at *); (try (simp only [Ar.real, NV.val, Int.ofNat_eq_natCast, Int.toNat_natCast])); first | done | omega | decide | exact inR64 (by omega) (by omega) | (refine ⟨?_, ?_⟩ <;> first | omega | decide | exact inR64 (by omega) (by omega))))
      · (try cbv) <;> (repeat' (first | exact trivial | exact rfl | apply And.intro | exact fun _ => rfl | (intro _ hle; first | refine chunk_le hA rfl hle rfl ?_ | refine cat_le hA ?_ | refine upd_le hA ?_ | (try cbv))))
      cbv
      by_cases hp : padOk (V x)
      · obtain ⟨m, hm⟩ : ∃ m, m = (V x 62).toNat := ⟨_, rfl⟩
        obtain ⟨nm, hnm⟩ : ∃ q, q = n + m := ⟨_, rfl⟩
        have hm62 : m ≤ 62 := by have := hp.1; omega
        obtain ⟨f', hf'⟩ : ∃ f' : Nat → Int, f' = fun i => if i < n then f i else V x (i - n) := ⟨_, rfl⟩
        have hfe : ∀ i, f' i = if i < n then f i else V x (i - n) := fun i => by rw [hf']
        by_cases e1 : V x 63 = 1
        · by_cases e2 : m = 62
          · have hu := usedP_on hp e1 (by omega)
            refine CS.leR hA (used_on (r := true) hP h64 hb hp hm e1 ⟨fun _ => e2, fun _ => rfl⟩) (.tup [By m (V x), .bl true, .bl true]) [] rfl rfl rfl ?_ ?_ ?_ ?_
            · (try cbv) <;> (repeat' (first | exact trivial | exact rfl | apply And.intro | exact fun _ => rfl | (intro _ hle; first | refine chunk_le hA rfl hle rfl ?_ | refine cat_le hA ?_ | refine upd_le hA ?_ | (try cbv))))
              all_goals (subst hA; (try simp only [natCast_eq] at *); (try (simp only [Ar.real, NV.val, Int.ofNat_eq_natCast, Int.toNat_natCast])); first | done | omega | decide | exact inR64 (by omega) (by omega) | (refine ⟨?_, ?_⟩ <;> first | omega | decide | exact inR64 (by omega) (by omega)))
            · (try cbv) <;> (repeat' (first | exact trivial | exact rfl | apply And.intro | exact fun _ => rfl | (intro _ hle; first | refine chunk_le hA rfl hle rfl ?_ | refine cat_le hA ?_ | refine upd_le hA ?_ | (try cbv))))
            · (try cbv) <;> (repeat' (first | exact trivial | exact rfl | apply And.intro | exact fun _ => rfl | (intro _ hle; first | refine chunk_le hA rfl hle rfl ?_ | refine cat_le hA ?_ | refine upd_le hA ?_ | (try cbv))))
            cbv
            refine ⟨(by (subst hA; (try simp only [natCast_eq] at *); (try (simp only [Ar.real, NV.val, Int.ofNat_eq_natCast, Int.toNat_natCast])); first | done | omega | decide | exact inR64 (by omega) (by omega) | (refine ⟨?_, ?_⟩ <;> first | omega | decide | exact inR64 (by omega) (by omega)))), ?_⟩
            by_cases e3 : 65536 < n + m
            · have hr0 : R0 = none := hx.2.2.2.symm.trans (getP_long hxf hu (by omega))
              have k1 : A.gt (A.i2 (A.addN n m)) 65536 = true := by subst hA; simp [Ar.real]; omega
              first | refine testR k1 rfl ?_ | refine testL k1 rfl ?_
              cbv
              refine Fin.le hA 3 [] (.tup [.nils, .lit .i64 0, .lit .i64 4]) (DH N S L ar ca) 3 rfl rfl rfl ?_ ?_ (hK0 hr0)
              · (try cbv) <;> (repeat' (first | exact trivial | exact rfl | apply And.intro | exact fun _ => rfl | (intro _ hle; first | refine chunk_le hA rfl hle rfl ?_ | refine cat_le hA ?_ | refine upd_le hA ?_ | (try cbv))))
              · (try cbv) <;> (repeat' (first | exact trivial | exact rfl | apply And.intro | exact fun _ => rfl | (intro _ hle; first | refine chunk_le hA rfl hle rfl ?_ | refine cat_le hA ?_ | refine upd_le hA ?_ | (try cbv))))
            · have hr1 := hx.2.2.2.symm.trans (getP_on hxf hu (by omega))
              rw [← e2, ← hf', ← hnm] at hr1
              have k1 : A.gt (A.i2 (A.addN n m)) 65536 = false := by subst hA; simp [Ar.real]; omega
              first | refine testR k1 rfl ?_ | refine testL k1 rfl ?_
              cbv
              refine ⟨(by (subst hA; (try simp only [natCast_eq] at *); (try (simp only [Ar.real, NV.val, Int.ofNat_eq_natCast, Int.toNat_natCast])); first | done | omega | decide | exact inR64 (by omega) (by omega) | (refine ⟨?_, ?_⟩ <;> first | omega | decide | exact inR64 (by omega) (by omega)))), hR _ _ _ _ ⟨x + 1, nm, f', 3, [(30, 3)], rfl, rfl, ?_, ⟨by omega, by omega, by omega, hr1.symm⟩, (by show fin - (x + 1) < fin - x; omega)⟩⟩
              clear hR
              (try cbv) <;> (repeat' (first | exact trivial | exact rfl | apply And.intro | exact fun _ => rfl | (intro _ hle; first | refine chunk_le hA rfl hle rfl ?_ | refine cat_le hA ?_ | refine upd_le hA ?_ | refine int_le ?_ | skip)))
              all_goals first | exact hfe _ | (subst hA; (try simp only [natCast_eq] at *); (try (simp only [Ar.real, NV.val, Int.ofNat_eq_natCast, Int.toNat_natCast])); first | done | omega | decide | exact inR64 (by omega) (by omega) | (refine ⟨?_, ?_⟩ <;> first | omega | decide | exact inR64 (by omega) (by omega)))
          · have hr0 : R0 = none := hx.2.2.2.symm.trans (getP_none hxf (usedP_none2 hp e1 (by omega)))
            refine CS.leR hA (used_on (r := false) hP h64 hb hp hm e1 ⟨fun q => (by cases q), fun q => absurd q e2⟩) (.tup [By m (V x), .bl true, .bl false]) [] rfl rfl rfl ?_ ?_ ?_ ?_
            · (try cbv) <;> (repeat' (first | exact trivial | exact rfl | apply And.intro | exact fun _ => rfl | (intro _ hle; first | refine chunk_le hA rfl hle rfl ?_ | refine cat_le hA ?_ | refine upd_le hA ?_ | (try cbv))))
              all_goals (subst hA; (try simp only [natCast_eq] at *); (try (simp only [Ar.real, NV.val, Int.ofNat_eq_natCast, Int.toNat_natCast])); first | done | omega | decide | exact inR64 (by omega) (by omega) | (refine ⟨?_, ?_⟩ <;> first | omega | decide | exact inR64 (by omega) (by omega)))
            · (try cbv) <;> (repeat' (first | exact trivial | exact rfl | apply And.intro | exact fun _ => rfl | (intro _ hle; first | refine chunk_le hA rfl hle rfl ?_ | refine cat_le hA ?_ | refine upd_le hA ?_ | (try cbv))))
            · (try cbv) <;> (repeat' (first | exact trivial | exact rfl | apply And.intro | exact fun _ => rfl | (intro _ hle; first | refine chunk_le hA rfl hle rfl ?_ | refine cat_le hA ?_ | refine upd_le hA ?_ | (try cbv))))
            cbv
            refine ⟨(by (subst hA; (try simp only [natCast_eq] at *); (try (simp only [Ar.real, NV.val, Int.ofNat_eq_natCast, Int.toNat_natCast])); first | done | omega | decide | exact inR64 (by omega) (by omega) | (refine ⟨?_, ?_⟩ <;> first | omega | decide | exact inR64 (by omega) (by omega)))), ?_⟩
            refine Fin.le hA 3 [] (.tup [.nils, .lit .i64 0, .lit .i64 4]) (DH N S L ar ca) 3 rfl rfl rfl ?_ ?_ (hK0 hr0)
            · (try cbv) <;> (repeat' (first | exact trivial | exact rfl | apply And.intro | exact fun _ => rfl | (intro _ hle; first | refine chunk_le hA rfl hle rfl ?_ | refine cat_le hA ?_ | refine upd_le hA ?_ | (try cbv))))
            · (try cbv) <;> (repeat' (first | exact trivial | exact rfl | apply And.intro | exact fun _ => rfl | (intro _ hle; first | refine chunk_le hA rfl hle rfl ?_ | refine cat_le hA ?_ | refine upd_le hA ?_ | (try cbv))))
        · by_cases e2 : V x 63 = 2
          · have hu := usedP_end hp e1 e2
            rw [← hm] at hu
            refine CS.leR hA (used_end (r := true) hP h64 hb hp hm e1 ⟨fun _ => e2, fun _ => rfl⟩) (.tup [By m (V x), .bl false, .bl true]) [] rfl rfl rfl ?_ ?_ ?_ ?_
            · (try cbv) <;> (repeat' (first | exact trivial | exact rfl | apply And.intro | exact fun _ => rfl | (intro _ hle; first | refine chunk_le hA rfl hle rfl ?_ | refine cat_le hA ?_ | refine upd_le hA ?_ | (try cbv))))
              all_goals (subst hA; (try simp only [natCast_eq] at *); (try (simp only [Ar.real, NV.val, Int.ofNat_eq_natCast, Int.toNat_natCast])); first | done | omega | decide | exact inR64 (by omega) (by omega) | (refine ⟨?_, ?_⟩ <;> first | omega | decide | exact inR64 (by omega) (by omega)))
            · (try cbv) <;> (repeat' (first | exact trivial | exact rfl | apply And.intro | exact fun _ => rfl | (intro _ hle; first | refine chunk_le hA rfl hle rfl ?_ | refine cat_le hA ?_ | refine upd_le hA ?_ | (try cbv))))
            · (try cbv) <;> (repeat' (first | exact trivial | exact rfl | apply And.intro | exact fun _ => rfl | (intro _ hle; first | refine chunk_le hA rfl hle rfl ?_ | refine cat_le hA ?_ | refine upd_le hA ?_ | (try cbv))))
            cbv
            refine ⟨(by (subst hA; (try simp only [natCast_eq] at *); (try (simp only [Ar.real, NV.val, Int.ofNat_eq_natCast, Int.toNat_natCast])); first | done | omega | decide | exact inR64 (by omega) (by omega) | (refine ⟨?_, ?_⟩ <;> first | omega | decide | exact inR64 (by omega) (by omega)))), ?_⟩
            by_cases e3 : 65536 < n + m
            · have hr0 : R0 = none := hx.2.2.2.symm.trans (getP_long hxf hu (by omega))
              have k1 : A.gt (A.i2 (A.addN n m)) 65536 = true := by subst hA; simp [Ar.real]; omega
              first | refine testR k1 rfl ?_ | refine testL k1 rfl ?_
              cbv
              refine Fin.le hA 3 [] (.tup [.nils, .lit .i64 0, .lit .i64 4]) (DH N S L ar ca) 3 rfl rfl rfl ?_ ?_ (hK0 hr0)
              · (try cbv) <;> (repeat' (first | exact trivial | exact rfl | apply And.intro | exact fun _ => rfl | (intro _ hle; first | refine chunk_le hA rfl hle rfl ?_ | refine cat_le hA ?_ | refine upd_le hA ?_ | (try cbv))))
              · (try cbv) <;> (repeat' (first | exact trivial | exact rfl | apply And.intro | exact fun _ => rfl | (intro _ hle; first | refine chunk_le hA rfl hle rfl ?_ | refine cat_le hA ?_ | refine upd_le hA ?_ | (try cbv))))
            · have k1 : A.gt (A.i2 (A.addN n m)) 65536 = false := by subst hA; simp [Ar.real]; omega
              clear hR
              by_cases e4 : m = 0
              · have k2 : A.eq (A.i2 m) 0 = true := by subst hA; simp [Ar.real]; omega
                by_cases e5 : first < x
                · have hr0 : R0 = none := hx.2.2.2.symm.trans (getP_empty hxf hu e4 e5)
                  have k3 : A.gt (Int.ofNat x) (Int.ofNat first) = true := by subst hA; simp [Ar.real]; omega
                  first | refine testR k1 rfl ?_ | refine testL k1 rfl ?_
                  cbv
                  first | refine testR k2 rfl ?_ | refine testL k2 rfl ?_
                  cbv
                  first | refine testR k3 rfl ?_ | refine testL k3 rfl ?_
                  cbv
                  refine Fin.le hA 3 [] (.tup [.nils, .lit .i64 0, .lit .i64 4]) (DH N S L ar ca) 3 rfl rfl rfl ?_ ?_ (hK0 hr0)
                  · (try cbv) <;> (repeat' (first | exact trivial | exact rfl | apply And.intro | exact fun _ => rfl | (intro _ hle; first | refine chunk_le hA rfl hle rfl ?_ | refine cat_le hA ?_ | refine upd_le hA ?_ | (try cbv))))
                  · (try cbv) <;> (repeat' (first | exact trivial | exact rfl | apply And.intro | exact fun _ => rfl | (intro _ hle; first | refine chunk_le hA rfl hle rfl ?_ | refine cat_le hA ?_ | refine upd_le hA ?_ | (try cbv))))
                · have hr1 := hx.2.2.2.symm.trans (getP_end hxf hu (by omega) (by omega))
                  rw [← hf', ← hnm] at hr1
                  have k3 : A.gt (Int.ofNat x) (Int.ofNat first) = false := by subst hA; simp [Ar.real]; omega
                  first | refine testR k1 rfl ?_ | refine testL k1 rfl ?_
                  cbv
                  first | refine testR k2 rfl ?_ | refine testL k2 rfl ?_
                  cbv
                  first | refine testR k3 rfl ?_ | refine testL k3 rfl ?_
                  cbv
                  refine ⟨(by (subst hA; (try simp only [natCast_eq] at *); (try (simp only [Ar.real, NV.val, Int.ofNat_eq_natCast, Int.toNat_natCast])); first | done | omega | decide | exact inR64 (by omega) (by omega) | (refine ⟨?_, ?_⟩ <;> first | omega | decide | exact inR64 (by omega) (by omega)))), ?_⟩
                  refine Fin.le hA 3 [(30, 3)] (.tup [.sl 3 1 (.l 0) (.s nm), .int .i64 ((x + 1 : Nat) : Int), .lit .i64 0]) ((3, .row 5 1 (.s nm) (fun e => [.int .u8 (f' e.val)])) :: DH N S L ar ca) 4 rfl rfl rfl ?_ ?_ (hK1 _ _ _ hr1)
                  · (try cbv) <;> (repeat' (first | exact trivial | exact rfl | apply And.intro | exact fun _ => rfl | (intro _ hle; first | refine chunk_le hA rfl hle rfl ?_ | refine cat_le hA ?_ | refine upd_le hA ?_ | refine int_le ?_ | skip)))
                    all_goals (subst hA; (try simp only [natCast_eq] at *); (try (simp only [Ar.real, NV.val, Int.ofNat_eq_natCast, Int.toNat_natCast])); first | done | omega | decide | exact inR64 (by omega) (by omega) | (refine ⟨?_, ?_⟩ <;> first | omega | decide | exact inR64 (by omega) (by omega)))
                  · (try cbv) <;> (repeat' (first | exact trivial | exact rfl | apply And.intro | exact fun _ => rfl | (intro _ hle; first | refine chunk_le hA rfl hle rfl ?_ | refine cat_le hA ?_ | refine upd_le hA ?_ | refine int_le ?_ | skip)))
                    all_goals first | exact hfe _ | (subst hA; (try simp only [natCast_eq] at *); (try (simp only [Ar.real, NV.val, Int.ofNat_eq_natCast, Int.toNat_natCast])); first | done | omega | decide | exact inR64 (by omega) (by omega) | (refine ⟨?_, ?_⟩ <;> first | omega | decide | exact inR64 (by omega) (by omega)))
              · have hr1 := hx.2.2.2.symm.trans (getP_end hxf hu (by omega) (by omega))
                rw [← hf', ← hnm] at hr1
                have k2 : A.eq (A.i2 m) 0 = false := by subst hA; simp [Ar.real]; omega
                first | refine testR k1 rfl ?_ | refine testL k1 rfl ?_
                cbv
                first | refine testR k2 rfl ?_ | refine testL k2 rfl ?_
                cbv
                refine ⟨(by (subst hA; (try simp only [natCast_eq] at *); (try (simp only [Ar.real, NV.val, Int.ofNat_eq_natCast, Int.toNat_natCast])); first | done | omega | decide | exact inR64 (by omega) (by omega) | (refine ⟨?_, ?_⟩ <;> first | omega | decide | exact inR64 (by omega) (by omega)))), ?_⟩
                refine Fin.le hA 3 [(30, 3)] (.tup [.sl 3 1 (.l 0) (.s nm), .int .i64 ((x + 1 : Nat) : Int), .lit .i64 0]) ((3, .row 5 1 (.s nm) (fun e => [.int .u8 (f' e.val)])) :: DH N S L ar ca) 4 rfl rfl rfl ?_ ?_ (hK1 _ _ _ hr1)
                · (try cbv) <;> (repeat' (first | exact trivial | exact rfl | apply And.intro | exact fun _ => rfl | (intro _ hle; first | refine chunk_le hA rfl hle rfl ?_ | refine cat_le hA ?_ | refine upd_le hA ?_ | refine int_le ?_ | skip)))
                  all_goals (subst hA; (try simp only [natCast_eq] at *); (try (simp only [Ar.real, NV.val, Int.ofNat_eq_natCast, Int.toNat_natCast])); first | done | omega | decide | exact inR64 (by omega) (by omega) | (refine ⟨?_, ?_⟩ <;> first | omega | decide | exact inR64 (by omega) (by omega)))
                · (try cbv) <;> (repeat' (first | exact trivial | exact rfl | apply And.intro | exact fun _ => rfl | (intro _ hle; first | refine chunk_le hA rfl hle rfl ?_ | refine cat_le hA ?_ | refine upd_le hA ?_ | refine int_le ?_ | skip)))
                  all_goals first | exact hfe _ | (subst hA; (try simp only [natCast_eq] at *); (try (simp only [Ar.real, NV.val, Int.ofNat_eq_natCast, Int.toNat_natCast])); first | done | omega | decide | exact inR64 (by omega) (by omega) | (refine ⟨?_, ?_⟩ <;> first | omega | decide | exact inR64 (by omega) (by omega)))
          · have hr0 : R0 = none := hx.2.2.2.symm.trans (getP_none hxf (usedP_none3 hp e1 e2))
            refine CS.leR hA (used_end (r := false) hP h64 hb hp hm e1 ⟨fun q => (by cases q), fun q => absurd q e2⟩) (.tup [By m (V x), .bl false, .bl false]) [] rfl rfl rfl ?_ ?_ ?_ ?_
            · (try cbv) <;> (repeat' (first | exact trivial | exact rfl | apply And.intro | exact fun _ => rfl | (intro _ hle; first | refine chunk_le hA rfl hle rfl ?_ | refine cat_le hA ?_ | refine upd_le hA ?_ | (try cbv))))
              all_goals (subst hA; (try simp only [natCast_eq] at *); (try (simp only [Ar.real, NV.val, Int.ofNat_eq_natCast, Int.toNat_natCast])); first | done | omega | decide | exact inR64 (by omega) (by omega) | (refine ⟨?_, ?_⟩ <;> first | omega | decide | exact inR64 (by omega) (by omega)))
            · (try cbv) <;> (repeat' (first | exact trivial | exact rfl | apply And.intro | exact fun _ => rfl | (intro _ hle; first | refine chunk_le hA rfl hle rfl ?_ | refine cat_le hA ?_ | refine upd_le hA ?_ | (try cbv))))
            · (try cbv) <;> (repeat' (first | exact trivial | exact rfl | apply And.intro | exact fun _ => rfl | (intro _ hle; first | refine chunk_le hA rfl hle rfl ?_ | refine cat_le hA ?_ | refine upd_le hA ?_ | (try cbv))))
            cbv
            refine ⟨(by (subst hA; (try simp only [natCast_eq] at *); (try (simp only [Ar.real, NV.val, Int.ofNat_eq_natCast, Int.toNat_natCast])); first | done | omega | decide | exact inR64 (by omega) (by omega) | (refine ⟨?_, ?_⟩ <;> first | omega | decide | exact inR64 (by omega) (by omega)))), ?_⟩
            refine Fin.le hA 3 [] (.tup [.nils, .lit .i64 0, .lit .i64 4]) (DH N S L ar ca) 3 rfl rfl rfl ?_ ?_ (hK0 hr0)
            · (try cbv) <;> (repeat' (first | exact trivial | exact rfl | apply And.intro | exact fun _ => rfl | (intro _ hle; first | refine chunk_le hA rfl hle rfl ?_ | refine cat_le hA ?_ | refine upd_le hA ?_ | (try cbv))))
            · (try cbv) <;> (repeat' (first | exact trivial | exact rfl | apply And.intro | exact fun _ => rfl | (intro _ hle; first | refine chunk_le hA rfl hle rfl ?_ | refine cat_le hA ?_ | refine upd_le hA ?_ | (try cbv))))
      · have hr0 : R0 = none := hx.2.2.2.symm.trans (getP_none hxf (usedP_none1 hp))
        refine CS.le hA (used_bad hP h64 hb hp) [] rfl rfl rfl ?_ ?_ ?_
        · (try cbv) <;> (repeat' (first | exact trivial | exact rfl | apply And.intro | exact fun _ => rfl | (intro _ hle; first | refine chunk_le hA rfl hle rfl ?_ | refine cat_le hA ?_ | refine upd_le hA ?_ | (try cbv)))) <;> (try (subst hA; (try simp only [natCast_eq] at *); (try (simp only [Ar.real, NV.val, Int.ofNat_eq_natCast, Int.toNat_natCast])); first | done | omega | decide | exact inR64 (by omega) (by omega) | (refine ⟨?_, ?_⟩ <;> first | omega | decide | exact inR64 (by omega) (by omega))))
        · (try cbv) <;> (repeat' (first | exact trivial | exact rfl | apply And.intro | exact fun _ => rfl | (intro _ hle; first | refine chunk_le hA rfl hle rfl ?_ | refine cat_le hA ?_ | refine upd_le hA ?_ | (try cbv))))
        cbv
        refine ⟨(by (subst hA; (try simp only [natCast_eq] at *); (try (simp only [Ar.real, NV.val, Int.ofNat_eq_natCast, Int.toNat_natCast])); first | done | omega | decide | exact inR64 (by omega) (by omega) | (refine ⟨?_, ?_⟩ <;> first | omega | decide | exact inR64 (by omega) (by omega)))), ?_⟩
        refine Fin.le hA 3 [] (.tup [.nils, .lit .i64 0, .lit .i64 4]) (DH N S L ar ca) 3 rfl rfl rfl ?_ ?_ (hK0 hr0)
        · (try cbv) <;> (repeat' (first | exact trivial | exact rfl | apply And.intro | exact fun _ => rfl | (intro _ hle; first | refine chunk_le hA rfl hle rfl ?_ | refine cat_le hA ?_ | refine upd_le hA ?_ | (try cbv))))
        · (try cbv) <;> (repeat' (first | exact trivial | exact rfl | apply And.intro | exact fun _ => rfl | (intro _ hle; first | refine chunk_le hA rfl hle rfl ?_ | refine cat_le hA ?_ | refine upd_le hA ?_ | (try cbv))))
    · have hxf : ¬ x < fin := by clear c3 hK1 hK0 hB hR0 hx hR; subst hA; simpa [Ar.real] using h1
      have hr0 : R0 = none := hx.2.2.2.symm.trans (getP_stop (by omega) _)
      clear c3 hR hK1
      cbv
      refine Fin.le hA 3 [] (.tup [.nils, .lit .i64 0, .lit .i64 4]) (DH N S L ar ca) 3 rfl rfl rfl ?_ ?_ (hK0 hr0)
      · (try cbv) <;> (repeat' (first | exact trivial | exact rfl | apply And.intro | exact fun _ => rfl | (intro _ hle; first | refine chunk_le hA rfl hle rfl ?_ | refine cat_le hA ?_ | refine upd_le hA ?_ | (try cbv))))
      · (try cbv) <;> (repeat' (first | exact trivial | exact rfl | apply And.intro | exact fun _ => rfl | (intro _ hle; first | refine chunk_le hA rfl hle rfl ?_ | refine cat_le hA ?_ | refine upd_le hA ?_ | (try cbv))))
end Go.Proofs.Ytnjjgipblimbfaa.Dsk
