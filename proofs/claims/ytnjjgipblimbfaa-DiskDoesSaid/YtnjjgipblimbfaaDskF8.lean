/-
  Records on sectors: a run is wiped.
-/
import Derived.Test.YtnjjgipblimbfaaDskF7
set_option linter.unusedVariables false
set_option linter.unusedSimpArgs false
namespace Go.Proofs.Ytnjjgipblimbfaa.Dsk
open Go.Eng
open Go.DskLaw (q64 secV needN pcs padOk isB wipeP wipeP_off wipeP_blank wipeP_full secV_upd)
set_option maxRecDepth 100000
set_option maxHeartbeats 4000000
set_option linter.unusedVariables false

theorem wipe_nil {P : Program} {G : Gl} (hP : P = Try.prog) {a b : Int} : FnTr P G 37 [.nilp, .int .i64 a, .int .i64 b] [] 0 (Gives (.tup [.lit .i64 0, .lit .i64 7]) [] 0) := by
  have c1 := sasked_nil (P := P) (G := G) (a := a) (b := b) hP
  have hT : T.Ok P := hP ▸ T_ok
  refine FnTr.intro (fn := Try.f37) (c := bodyOf Try.f37) (by rw [hP]; rfl) rfl rfl hT ?_
  generalize hA : Ar.real = A
  generalize hK : Gives _ _ _ = K
  cbv
  refine CS.le hA (c1) [] rfl rfl rfl ?_ ?_ ?_
  · (try cbv) <;> (repeat' (first | exact trivial | exact rfl | apply And.intro | exact fun _ => rfl | (intro _ hle; first | refine chunk_le hA rfl hle rfl ?_ | refine cat_le hA ?_ | refine upd_le hA ?_ | (try cbv)))) <;> (try (subst hA; (try simp only [natCast_eq] at *); (try (simp only [Ar.real, NV.val, Int.ofNat_eq_natCast, Int.toNat_natCast])); first | done | omega | decide | exact inR64 (by omega) (by omega) | (refine ⟨?_, ?_⟩ <;> first | omega | decide | exact inR64 (by omega) (by omega))))
  · (try cbv) <;> (repeat' (first | exact trivial | exact rfl | apply And.intro | exact fun _ => rfl | (intro _ hle; first | refine chunk_le hA rfl hle rfl ?_ | refine cat_le hA ?_ | refine upd_le hA ?_ | (try cbv))))
  cbv
  refine Fin.le hA 0 [] (.tup [.lit .i64 0, .lit .i64 7]) ([]) 0 rfl rfl rfl ?_ ?_ (by rw [← hK]; exact ⟨rfl, rfl, rfl⟩)
  · (try cbv) <;> (repeat' (first | exact trivial | exact rfl | apply And.intro | exact fun _ => rfl | (intro _ hle; first | refine chunk_le hA rfl hle rfl ?_ | refine cat_le hA ?_ | refine upd_le hA ?_ | (try cbv))))
  · (try cbv) <;> (repeat' (first | exact trivial | exact rfl | apply And.intro | exact fun _ => rfl | (intro _ hle; first | refine chunk_le hA rfl hle rfl ?_ | refine cat_le hA ?_ | refine upd_le hA ?_ | (try cbv))))
theorem wipe_arg {P : Program} {G : Gl} (hP : P = Try.prog) {N s : Nat} {S : Nat → Int} {L : Int → Option (Nat → Int)} {ar : Bool} {ca a b : Int} (hN : N = 64 * s) (hs : s ≤ 4096) (h : a < 0 ∨ b < a ∨ (s : Int) < b) :
    FnTr P G 37 [.ptr 0 0, .int .i64 a, .int .i64 b] (DH N S L ar ca) 3 (Gives (.tup [.lit .i64 0, .lit .i64 1]) (DH N S L ar ca) 3) := by
  have c1 := sasked_arg (P := P) (G := G) (S := S) (L := L) (ar := ar) (ca := ca) hP hN hs h
  have hT : T.Ok P := hP ▸ T_ok
  refine FnTr.intro (fn := Try.f37) (c := bodyOf Try.f37) (by rw [hP]; rfl) rfl rfl hT ?_
  generalize hA : Ar.real = A
  generalize hK : Gives _ _ _ = K
  cbv
  refine CS.le hA (c1) [(0, 0), (1, 1), (2, 2)] rfl rfl rfl ?_ ?_ ?_
  · (try cbv) <;> (repeat' (first | exact trivial | exact rfl | apply And.intro | exact fun _ => rfl | (intro _ hle; first | refine chunk_le hA rfl hle rfl ?_ | refine cat_le hA ?_ | refine upd_le hA ?_ | (try cbv)))) <;> (try (subst hA; (try simp only [natCast_eq] at *); (try (simp only [Ar.real, NV.val, Int.ofNat_eq_natCast, Int.toNat_natCast])); first | done | omega | decide | exact inR64 (by omega) (by omega) | (refine ⟨?_, ?_⟩ <;> first | omega | decide | exact inR64 (by omega) (by omega))))
  · (try cbv) <;> (repeat' (first | exact trivial | exact rfl | apply And.intro | exact fun _ => rfl | (intro _ hle; first | refine chunk_le hA rfl hle rfl ?_ | refine cat_le hA ?_ | refine upd_le hA ?_ | (try cbv))))
  cbv
  refine Fin.le hA 3 [] (.tup [.lit .i64 0, .lit .i64 1]) (DH N S L ar ca) 3 rfl rfl rfl ?_ ?_ (by rw [← hK]; exact ⟨rfl, rfl, rfl⟩)
  · (try cbv) <;> (repeat' (first | exact trivial | exact rfl | apply And.intro | exact fun _ => rfl | (intro _ hle; first | refine chunk_le hA rfl hle rfl ?_ | refine cat_le hA ?_ | refine upd_le hA ?_ | (try cbv))))
  · (try cbv) <;> (repeat' (first | exact trivial | exact rfl | apply And.intro | exact fun _ => rfl | (intro _ hle; first | refine chunk_le hA rfl hle rfl ?_ | refine cat_le hA ?_ | refine upd_le hA ?_ | (try cbv))))
theorem wipe_off {P : Program} {G : Gl} (hP : P = Try.prog) {N s : Nat} {S : Nat → Int} {L : Int → Option (Nat → Int)} {ar : Bool} {ca a b : Int} (hN : N = 64 * s) (hs : s ≤ 4096) (h : 0 ≤ a ∧ a ≤ b ∧ b ≤ (s : Int)) (ho : ar = true ∧ ca = 0) :
    FnTr P G 37 [.ptr 0 0, .int .i64 a, .int .i64 b] (DH N S L ar ca) 3 (Gives (.tup [.lit .i64 0, .lit .i64 6]) (DH N S L ar ca) 3) := by
  have c1 := sasked_ok (P := P) (G := G) (S := S) (L := L) (ar := ar) (ca := ca) hP hN hs h
  have c2 := off_fn (P := P) (G := G) (N := N) (S := S) (L := L) (ar := ar) (r := true) (ca := ca) hP ⟨fun _ => ho, fun _ => rfl⟩
  have hT : T.Ok P := hP ▸ T_ok
  refine FnTr.intro (fn := Try.f37) (c := bodyOf Try.f37) (by rw [hP]; rfl) rfl rfl hT ?_
  generalize hA : Ar.real = A
  generalize hK : Gives _ _ _ = K
  cbv
  refine CS.le hA (c1) [(0, 0), (1, 1), (2, 2)] rfl rfl rfl ?_ ?_ ?_
  · (try cbv) <;> (repeat' (first | exact trivial | exact rfl | apply And.intro | exact fun _ => rfl | (intro _ hle; first | refine chunk_le hA rfl hle rfl ?_ | refine cat_le hA ?_ | refine upd_le hA ?_ | (try cbv)))) <;> (try (subst hA; (try simp only [natCast_eq] at *); (try (simp only [Ar.real, NV.val, Int.ofNat_eq_natCast, Int.toNat_natCast])); first | done | omega | decide | exact inR64 (by omega) (by omega) | (refine ⟨?_, ?_⟩ <;> first | omega | decide | exact inR64 (by omega) (by omega))))
  · (try cbv) <;> (repeat' (first | exact trivial | exact rfl | apply And.intro | exact fun _ => rfl | (intro _ hle; first | refine chunk_le hA rfl hle rfl ?_ | refine cat_le hA ?_ | refine upd_le hA ?_ | (try cbv))))
  cbv
  refine CS.leR hA (c2) (.bl true) [(0, 0), (1, 1), (2, 2)] rfl rfl rfl ?_ ?_ ?_ ?_
  · (try cbv) <;> (repeat' (first | exact trivial | exact rfl | apply And.intro | exact fun _ => rfl | (intro _ hle; first | refine chunk_le hA rfl hle rfl ?_ | refine cat_le hA ?_ | refine upd_le hA ?_ | (try cbv)))) <;> (try (subst hA; (try simp only [natCast_eq] at *); (try (simp only [Ar.real, NV.val, Int.ofNat_eq_natCast, Int.toNat_natCast])); first | done | omega | decide | exact inR64 (by omega) (by omega) | (refine ⟨?_, ?_⟩ <;> first | omega | decide | exact inR64 (by omega) (by omega))))
  · (try cbv) <;> (repeat' (first | exact trivial | exact rfl | apply And.intro | exact fun _ => rfl | (intro _ hle; first | refine chunk_le hA rfl hle rfl ?_ | refine cat_le hA ?_ | refine upd_le hA ?_ | (try cbv)))) <;> (try (subst hA; (try simp only [natCast_eq] at *); (try (simp only [Ar.real, NV.val, Int.ofNat_eq_natCast, Int.toNat_natCast])); first | done | omega | decide | exact inR64 (by omega) (by omega) | (refine ⟨?_, ?_⟩ <;> first | omega | decide | exact inR64 (by omega) (by omega))))
  · (try cbv) <;> (repeat' (first | exact trivial | exact rfl | apply And.intro | exact fun _ => rfl | (intro _ hle; first | refine chunk_le hA rfl hle rfl ?_ | refine cat_le hA ?_ | refine upd_le hA ?_ | (try cbv))))
  cbv
  refine Fin.le hA 3 [] (.tup [.lit .i64 0, .lit .i64 6]) (DH N S L ar ca) 3 rfl rfl rfl ?_ ?_ (by rw [← hK]; exact ⟨rfl, rfl, rfl⟩)
  · (try cbv) <;> (repeat' (first | exact trivial | exact rfl | apply And.intro | exact fun _ => rfl | (intro _ hle; first | refine chunk_le hA rfl hle rfl ?_ | refine cat_le hA ?_ | refine upd_le hA ?_ | (try cbv))))
  · (try cbv) <;> (repeat' (first | exact trivial | exact rfl | apply And.intro | exact fun _ => rfl | (intro _ hle; first | refine chunk_le hA rfl hle rfl ?_ | refine cat_le hA ?_ | refine upd_le hA ?_ | (try cbv))))
theorem wipe_ok {P : Program} {G : Gl} {K : SV → Hl → Nat → Prop} (hP : P = Try.prog) {N s first fin : Nat} {S : Nat → Int} {L L' : Int → Option (Nat → Int)} {ar : Bool} {ca ca' : Int} {V : Nat → Nat → Int} {on : Option Nat} (hN : N = 64 * s) (hs : s ≤ 4096)
    (h : first ≤ fin ∧ fin ≤ s) (ho : ¬ (ar = true ∧ ca = 0)) (hca : 0 ≤ ca ∧ ca ≤ 9223372036854775807) (hV : ∀ i, i < s → V i = secV S L i) (hR0 : wipeP V ar (fin - first) first 0 L ca = (on, L', ca'))
    (hK1 : ∀ n, on = some n → K (.tup [.int .i64 (n : Int), .lit .i64 0]) (DH N S L' ar ca') 3) (hK0 : on = none → K (.tup [.lit .i64 0, .lit .i64 6]) (DH N S L' ar ca') 3) :
    FnTr P G 37 [.ptr 0 0, .int .i64 (first : Int), .int .i64 (fin : Int)] (DH N S L ar ca) 3 K := by
  have c1 := sasked_ok (P := P) (G := G) (S := S) (L := L) (ar := ar) (ca := ca) (a := (first : Int)) (b := (fin : Int)) hP hN hs (by omega)
  have c2 := off_fn (P := P) (G := G) (N := N) (S := S) (L := L) (ar := ar) (r := false) (ca := ca) hP ⟨fun q => (by cases q), fun q => absurd q ho⟩
  have hT : T.Ok P := hP ▸ T_ok
  refine FnTr.intro (fn := Try.f37) (c := bodyOf Try.f37) (by rw [hP]; rfl) rfl rfl hT ?_
  generalize hA : Ar.real = A
  cbv
  refine CS.le hA (c1) [(0, 0), (1, 1), (2, 2)] rfl rfl rfl ?_ ?_ ?_
  · (try cbv) <;> (repeat' (first | exact trivial | exact rfl | apply And.intro | exact fun _ => rfl | (intro _ hle; first | refine chunk_le hA rfl hle rfl ?_ | refine cat_le hA ?_ | refine upd_le hA ?_ | (try cbv)))) <;> (try (subst hA; (try simp only [natCast_eq] at *); (try (simp only [Ar.real, NV.val, Int.ofNat_eq_natCast, Int.toNat_natCast])); first | done | omega | decide | exact inR64 (by omega) (by omega) | (refine ⟨?_, ?_⟩ <;> first | omega | decide | exact inR64 (by omega) (by omega))))
  · (try cbv) <;> (repeat' (first | exact trivial | exact rfl | apply And.intro | exact fun _ => rfl | (intro _ hle; first | refine chunk_le hA rfl hle rfl ?_ | refine cat_le hA ?_ | refine upd_le hA ?_ | (try cbv))))
  cbv
  refine CS.leR hA (c2) (.bl false) [(0, 0), (1, 1), (2, 2)] rfl rfl rfl ?_ ?_ ?_ ?_
  · (try cbv) <;> (repeat' (first | exact trivial | exact rfl | apply And.intro | exact fun _ => rfl | (intro _ hle; first | refine chunk_le hA rfl hle rfl ?_ | refine cat_le hA ?_ | refine upd_le hA ?_ | (try cbv)))) <;> (try (subst hA; (try simp only [natCast_eq] at *); (try (simp only [Ar.real, NV.val, Int.ofNat_eq_natCast, Int.toNat_natCast])); first | done | omega | decide | exact inR64 (by omega) (by omega) | (refine ⟨?_, ?_⟩ <;> first | omega | decide | exact inR64 (by omega) (by omega))))
  · (try cbv) <;> (repeat' (first | exact trivial | exact rfl | apply And.intro | exact fun _ => rfl | (intro _ hle; first | refine chunk_le hA rfl hle rfl ?_ | refine cat_le hA ?_ | refine upd_le hA ?_ | (try cbv)))) <;> (try (subst hA; (try simp only [natCast_eq] at *); (try (simp only [Ar.real, NV.val, Int.ofNat_eq_natCast, Int.toNat_natCast])); first | done | omega | decide | exact inR64 (by omega) (by omega) | (refine ⟨?_, ?_⟩ <;> first | omega | decide | exact inR64 (by omega) (by omega))))
  · (try cbv) <;> (repeat' (first | exact trivial | exact rfl | apply And.intro | exact fun _ => rfl | (intro _ hle; first | refine chunk_le hA rfl hle rfl ?_ | refine cat_le hA ?_ | refine upd_le hA ?_ | (try cbv))))
  cbv
  clear c1 c2
  refine LS.le3 hT hA 3 (fun (x : Nat) (n : Nat) (_ : (Int → Option (Nat → Int)) × Int) => [(10, .int .i64 (x : Int)), (9, .int .i64 (n : Int))]) (fun _ _ Z => DH N S Z.1 ar Z.2) (fun x n Z => x ≤ fin ∧ n ≤ x ∧ wipeP V ar (fin - x) x n Z.1 Z.2 = (on, L', ca') ∧ (0 ≤ Z.2 ∧ Z.2 ≤ 9223372036854775807) ∧ ∀ i, x ≤ i → i < s → V i = secV S Z.1 i) (fun x _ _ => fin - x) first 0 (L, ca) [] rfl rfl ?_ ?_ ?_
  · (try cbv) <;> (repeat' (first | exact trivial | exact rfl | apply And.intro | exact fun _ => rfl | (intro _ hle; first | refine chunk_le hA rfl hle rfl ?_ | refine cat_le hA ?_ | refine upd_le hA ?_ | refine int_le ?_ | skip)))
  · exact ⟨h.1, Nat.zero_le _, hR0, hca, fun i _ hi => hV i hi⟩
  · intro R hR x n Z hx
    obtain ⟨L1, c1⟩ := Z
    obtain ⟨hxf, hnx, hw, hc1, hV1⟩ := hx
    cbv
    refine ⟨fun h1 => ?_, fun h1 => ?_⟩
    · have hxf' : x < fin := by clear hK1 hK0 hw hV hV1 hR hR0; subst hA; simpa [Ar.real] using h1
      obtain ⟨k, hk⟩ : ∃ k, fin - x = k + 1 := ⟨fin - x - 1, by omega⟩
      rw [hk] at hw
      cbv
      by_cases hoff : ar = true ∧ c1 = 0
      · rw [wipeP_off hoff] at hw
        obtain ⟨rfl, rfl, rfl⟩ : none = on ∧ L1 = L' ∧ c1 = ca' := by cases hw; exact ⟨rfl, rfl, rfl⟩
        have a1 := read_off (P := P) (G := G) (N := N) (S := S) (L := L1) (ar := ar) (i := (x : Int)) hP hoff
        clear hR hK1
        refine CS.le hA (a1) [(0, 0), (1, 1), (2, 2)] rfl rfl rfl ?_ ?_ ?_
        · (try cbv) <;> (repeat' (first | exact trivial | exact rfl | apply And.intro | exact fun _ => rfl | (intro _ hle; first | refine chunk_le hA rfl hle rfl ?_ | refine cat_le hA ?_ | refine upd_le hA ?_ | (try cbv)))) <;> (try (subst hA; (try simp only [natCast_eq] at *); (try (simp only [Ar.real, NV.val, Int.ofNat_eq_natCast, Int.toNat_natCast])); first | done | omega | decide | exact inR64 (by omega) (by omega) | (refine ⟨?_, ?_⟩ <;> first | omega | decide | exact inR64 (by omega) (by omega))))
        · (try cbv) <;> (repeat' (first | exact trivial | exact rfl | apply And.intro | exact fun _ => rfl | (intro _ hle; first | refine chunk_le hA rfl hle rfl ?_ | refine cat_le hA ?_ | refine upd_le hA ?_ | (try cbv))))
        cbv
        refine Fin.le hA 3 [] (.tup [.lit .i64 0, .lit .i64 6]) (DH N S L1 ar c1) 3 rfl rfl rfl ?_ ?_ (hK0 rfl)
        · (try cbv) <;> (repeat' (first | exact trivial | exact rfl | apply And.intro | exact fun _ => rfl | (intro _ hle; first | refine chunk_le hA rfl hle rfl ?_ | refine cat_le hA ?_ | refine upd_le hA ?_ | (try cbv))))
        · (try cbv) <;> (repeat' (first | exact trivial | exact rfl | apply And.intro | exact fun _ => rfl | (intro _ hle; first | refine chunk_le hA rfl hle rfl ?_ | refine cat_le hA ?_ | refine upd_le hA ?_ | (try cbv))))
      · have a1 := read_fn (P := P) (G := G) hP hoff hN hs (show x < s by omega) (hV1 x (Nat.le_refl _) (by omega))
        refine CS.le hA (a1) [(0, 0), (1, 1), (2, 2)] rfl rfl rfl ?_ ?_ ?_
        · (try cbv) <;> (repeat' (first | exact trivial | exact rfl | apply And.intro | exact fun _ => rfl | (intro _ hle; first | refine chunk_le hA rfl hle rfl ?_ | refine cat_le hA ?_ | refine upd_le hA ?_ | (try cbv)))) <;> (try (subst hA; (try simp only [natCast_eq] at *); (try (simp only [Ar.real, NV.val, Int.ofNat_eq_natCast, Int.toNat_natCast])); first | done | omega | decide | exact inR64 (by omega) (by omega) | (refine ⟨?_, ?_⟩ <;> first | omega | decide | exact inR64 (by omega) (by omega))))
        · (try cbv) <;> (repeat' (first | exact trivial | exact rfl | apply And.intro | exact fun _ => rfl | (intro _ hle; first | refine chunk_le hA rfl hle rfl ?_ | refine cat_le hA ?_ | refine upd_le hA ?_ | (try cbv))))
        cbv
        obtain ⟨m64, h64⟩ : ∃ m, m = 64 := ⟨_, rfl⟩
        by_cases hb : ∀ i, i < 64 → V x i = 0
        · rw [wipeP_blank hoff hb] at hw
          have a2 := blank_fn (P := P) (G := G) (n := m64) (f := V x) (r := true) hP (by omega) ⟨fun _ i hi => hb i (by omega), fun _ => rfl⟩
          refine CS.leR hA a2 (.bl true) [] rfl rfl rfl ?_ ?_ ?_ ?_
          · (try cbv) <;> (repeat' (first | exact trivial | exact rfl | apply And.intro | exact fun _ => rfl | (intro _ hle; first | refine chunk_le hA rfl hle rfl ?_ | refine cat_le hA ?_ | refine upd_le hA ?_ | (try cbv))))
            all_goals (subst hA; (try simp only [natCast_eq] at *); (try (simp only [Ar.real, NV.val, Int.ofNat_eq_natCast, Int.toNat_natCast])); first | done | omega | decide | exact inR64 (by omega) (by omega) | (refine ⟨?_, ?_⟩ <;> first | omega | decide | exact inR64 (by omega) (by omega)))
          · (try cbv) <;> (repeat' (first | exact trivial | exact rfl | apply And.intro | exact fun _ => rfl | (intro _ hle; first | refine chunk_le hA rfl hle rfl ?_ | refine cat_le hA ?_ | refine upd_le hA ?_ | (try cbv))))
          · (try cbv) <;> (repeat' (first | exact trivial | exact rfl | apply And.intro | exact fun _ => rfl | (intro _ hle; first | refine chunk_le hA rfl hle rfl ?_ | refine cat_le hA ?_ | refine upd_le hA ?_ | (try cbv))))
          cbv
          refine ⟨(by (subst hA; (try simp only [natCast_eq] at *); (try (simp only [Ar.real, NV.val, Int.ofNat_eq_natCast, Int.toNat_natCast])); first | done | omega | decide | exact inR64 (by omega) (by omega) | (refine ⟨?_, ?_⟩ <;> first | omega | decide | exact inR64 (by omega) (by omega)))), hR _ _ _ _ ⟨x + 1, n, (L1, c1), 3, [], rfl, rfl, ?_, ⟨by omega, by omega, by rw [show fin - (x + 1) = k by omega]; exact hw, hc1, fun i h1 h2 => hV1 i (by omega) h2⟩, (by show fin - (x + 1) < fin - x; omega)⟩⟩
          clear hR
          (try cbv) <;> (repeat' (first | exact trivial | exact rfl | apply And.intro | exact fun _ => rfl | (intro _ hle; first | refine chunk_le hA rfl hle rfl ?_ | refine cat_le hA ?_ | refine upd_le hA ?_ | refine int_le ?_ | skip)))
          all_goals (subst hA; (try simp only [natCast_eq] at *); (try (simp only [Ar.real, NV.val, Int.ofNat_eq_natCast, Int.toNat_natCast])); first | done | omega | decide | exact inR64 (by omega) (by omega) | (refine ⟨?_, ?_⟩ <;> first | omega | decide | exact inR64 (by omega) (by omega)))
        · rw [wipeP_full hoff hb] at hw
          obtain ⟨z, hz⟩ : ∃ z : Nat → Int, z = fun _ => 0 := ⟨_, rfl⟩
          obtain ⟨L2, hL2⟩ : ∃ L2 : Int → Option (Nat → Int), L2 = fun i => if i = (x : Int) then some (fun _ => 0) else L1 i := ⟨_, rfl⟩
          obtain ⟨c2, hc2⟩ : ∃ c2 : Int, c2 = if ar then c1 - 1 else c1 := ⟨_, rfl⟩
          rw [← hL2, ← hc2] at hw
          have hc2r : 0 ≤ c2 ∧ c2 ≤ 9223372036854775807 := by
            rw [hc2]
            by_cases q : ar = true
            · rw [if_pos q]; have : c1 ≠ 0 := fun e => hoff ⟨q, e⟩; omega
            · rw [if_neg q]; exact hc1
          have a2 := blank_fn (P := P) (G := G) (n := m64) (f := V x) (r := false) hP (by omega) ⟨fun q => (by cases q), fun q => absurd (fun i hi => q i (by omega)) hb⟩
          have a3 := write_ok (P := P) (G := G) (S := S) (f := z) (L := L1) (L' := L2) hP hoff hN hs (show x < s by omega) h64 (fun k => by rw [hL2, hz]) hc2 hc1
          have hV2 : ∀ i, x + 1 ≤ i → i < s → V i = secV S L2 i := fun i h1 h2 => by rw [hL2, secV_upd (by omega)]; exact hV1 i (by omega) h2
          have hz0 : ∀ i, z i = 0 := fun i => by rw [hz]
          clear hL2 hz hc2
          refine CS.leR hA a2 (.bl false) [] rfl rfl rfl ?_ ?_ ?_ ?_
          · (try cbv) <;> (repeat' (first | exact trivial | exact rfl | apply And.intro | exact fun _ => rfl | (intro _ hle; first | refine chunk_le hA rfl hle rfl ?_ | refine cat_le hA ?_ | refine upd_le hA ?_ | (try cbv))))
            all_goals (subst hA; (try simp only [natCast_eq] at *); (try (simp only [Ar.real, NV.val, Int.ofNat_eq_natCast, Int.toNat_natCast])); first | done | omega | decide | exact inR64 (by omega) (by omega) | (refine ⟨?_, ?_⟩ <;> first | omega | decide | exact inR64 (by omega) (by omega)))
          · (try cbv) <;> (repeat' (first | exact trivial | exact rfl | apply And.intro | exact fun _ => rfl | (intro _ hle; first | refine chunk_le hA rfl hle rfl ?_ | refine cat_le hA ?_ | refine upd_le hA ?_ | (try cbv))))
          · (try cbv) <;> (repeat' (first | exact trivial | exact rfl | apply And.intro | exact fun _ => rfl | (intro _ hle; first | refine chunk_le hA rfl hle rfl ?_ | refine cat_le hA ?_ | refine upd_le hA ?_ | (try cbv))))
          cbv
          refine ⟨⟨(by (subst hA; (try simp only [natCast_eq] at *); (try (simp only [Ar.real, NV.val, Int.ofNat_eq_natCast, Int.toNat_natCast])); first | done | omega | decide | exact inR64 (by omega) (by omega) | (refine ⟨?_, ?_⟩ <;> first | omega | decide | exact inR64 (by omega) (by omega)))), (by (subst hA; (try simp only [natCast_eq] at *); (try (simp only [Ar.real, NV.val, Int.ofNat_eq_natCast, Int.toNat_natCast])); first | done | omega | decide | exact inR64 (by omega) (by omega) | (refine ⟨?_, ?_⟩ <;> first | omega | decide | exact inR64 (by omega) (by omega)))), (by (subst hA; (try simp only [natCast_eq] at *); (try (simp only [Ar.real, NV.val, Int.ofNat_eq_natCast, Int.toNat_natCast])); first | done | omega | decide | exact inR64 (by omega) (by omega) | (refine ⟨?_, ?_⟩ <;> first | omega | decide | exact inR64 (by omega) (by omega)))), (by (subst hA; (try simp only [natCast_eq] at *); (try (simp only [Ar.real, NV.val, Int.ofNat_eq_natCast, Int.toNat_natCast])); first | done | omega | decide | exact inR64 (by omega) (by omega) | (refine ⟨?_, ?_⟩ <;> first | omega | decide | exact inR64 (by omega) (by omega))))⟩, ?_⟩
          refine CS.frzA hA (by (try cbv) <;> (repeat' (first | exact trivial | exact rfl | apply And.intro | exact fun _ => rfl | (intro _ hle; first | refine chunk_le hA rfl hle rfl ?_ | refine cat_le hA ?_ | refine upd_le hA ?_ | (try cbv)))); all_goals (subst hA; (try simp only [natCast_eq] at *); (try (simp only [Ar.real, NV.val, Int.ofNat_eq_natCast, Int.toNat_natCast])); first | done | omega | decide | exact inR64 (by omega) (by omega) | (refine ⟨?_, ?_⟩ <;> first | omega | decide | exact inR64 (by omega) (by omega)))) ?_
          cbv
          refine CS.le hA a3 [(0, 0), (1, 1), (2, 2)] rfl rfl rfl ?_ ?_ ?_
          · (try cbv) <;> (repeat' (first | exact trivial | exact rfl | apply And.intro | exact fun _ => rfl | (intro _ hle; first | refine chunk_le hA rfl hle rfl ?_ | refine cat_le hA ?_ | refine upd_le hA ?_ | refine int_le ?_ | skip)))
            all_goals first | exact (hz0 _).symm | (subst hA; (try simp only [natCast_eq] at *); (try (simp only [Ar.real, NV.val, Int.ofNat_eq_natCast, Int.toNat_natCast])); first | done | omega | decide | exact inR64 (by omega) (by omega) | (refine ⟨?_, ?_⟩ <;> first | omega | decide | exact inR64 (by omega) (by omega)))
          · (try cbv) <;> (repeat' (first | exact trivial | exact rfl | apply And.intro | exact fun _ => rfl | (intro _ hle; first | refine chunk_le hA rfl hle rfl ?_ | refine cat_le hA ?_ | refine upd_le hA ?_ | (try cbv))))
          cbv
          refine ⟨(by (subst hA; (try simp only [natCast_eq] at *); (try (simp only [Ar.real, NV.val, Int.ofNat_eq_natCast, Int.toNat_natCast])); first | done | omega | decide | exact inR64 (by omega) (by omega) | (refine ⟨?_, ?_⟩ <;> first | omega | decide | exact inR64 (by omega) (by omega)))), (by (subst hA; (try simp only [natCast_eq] at *); (try (simp only [Ar.real, NV.val, Int.ofNat_eq_natCast, Int.toNat_natCast])); first | done | omega | decide | exact inR64 (by omega) (by omega) | (refine ⟨?_, ?_⟩ <;> first | omega | decide | exact inR64 (by omega) (by omega)))), hR _ _ _ _ ⟨x + 1, n + 1, (L2, c2), 3, [], rfl, rfl, ?_, ⟨by omega, by omega, by rw [show fin - (x + 1) = k by omega]; exact hw, hc2r, hV2⟩, (by show fin - (x + 1) < fin - x; omega)⟩⟩
          clear hR
          (try cbv) <;> (repeat' (first | exact trivial | exact rfl | apply And.intro | exact fun _ => rfl | (intro _ hle; first | refine chunk_le hA rfl hle rfl ?_ | refine cat_le hA ?_ | refine upd_le hA ?_ | refine int_le ?_ | skip)))
          all_goals (subst hA; (try simp only [natCast_eq] at *); (try (simp only [Ar.real, NV.val, Int.ofNat_eq_natCast, Int.toNat_natCast])); first | done | omega | decide | exact inR64 (by omega) (by omega) | (refine ⟨?_, ?_⟩ <;> first | omega | decide | exact inR64 (by omega) (by omega)))
    · have hxf' : ¬ x < fin := by clear hK1 hK0 hw hV hV1 hR hR0; subst hA; simpa [Ar.real] using h1
      rw [show fin - x = 0 by omega] at hw
      obtain ⟨rfl, rfl, rfl⟩ : some n = on ∧ L1 = L' ∧ c1 = ca' := by cases hw; exact ⟨rfl, rfl, rfl⟩
      clear hR hK0
      cbv
      refine Fin.le hA 3 [] (.tup [.int .i64 (n : Int), .lit .i64 0]) (DH N S L1 ar c1) 3 rfl rfl rfl ?_ ?_ (hK1 n rfl)
      · (try cbv) <;> (repeat' (first | exact trivial | exact rfl | apply And.intro | exact fun _ => rfl | (intro _ hle; first | refine chunk_le hA rfl hle rfl ?_ | refine cat_le hA ?_ | refine upd_le hA ?_ | (try cbv))))
      · (try cbv) <;> (repeat' (first | exact trivial | exact rfl | apply And.intro | exact fun _ => rfl | (intro _ hle; first | refine chunk_le hA rfl hle rfl ?_ | refine cat_le hA ?_ | refine upd_le hA ?_ | (try cbv))))
end Go.Proofs.Ytnjjgipblimbfaa.Dsk
