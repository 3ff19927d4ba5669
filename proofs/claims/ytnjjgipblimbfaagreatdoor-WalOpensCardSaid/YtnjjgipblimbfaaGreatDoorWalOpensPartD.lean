/-
  A verified symbolic executor over the code of the model, and what it shows of this program: part 4 of 7 (LawWalOpens).
-/
import Derived.Test.YtnjjgipblimbfaaGreatDoorWalOpensPartC
import Derived.ProofKit
import Derived.Test.YtnjjgipblimbfaaGreatDoorProg
import Derived.KernelRfl
import Derived.Lib.LaidTab
set_option linter.unusedVariables false
set_option linter.unusedSimpArgs false
namespace Go.Proofs.YtnjjgipblimbfaaGreatDoor.Dsk
open Go.Eng
open Go.DskLaw (q64 secV)
set_option maxRecDepth 100000
set_option maxHeartbeats 4000000
abbrev By (n : Nat) (f : Nat → Int) : SV := .ro 1 (.s n) (fun e => [.int .u8 (f e.val)])
abbrev DH (N : Nat) (S : Nat → Int) (L : Int → Option (Nat → Int)) (ar : Bool) (ca : Int) : Hl :=
  [(0, .cells 58 [.sl 1 1 (.l 0) (.s N), .mp 2, .bs ar, .int .i64 ca]), (1, .row 5 1 (.s N) (fun e => [.int .u8 (S e.val)])), (2, .wm 64 L)]
theorem clone_own {P : Program} {G : Gl} (hP : P = Tryz.prog) {n : Nat} {f : Nat → Int} (hn : n ≤ 1000000) :
    FnTr P G 50 [By n f] [] 0 (Gives (.sl 0 1 (.l 0) (.s n)) [(0, .row 5 1 (.s n) (fun e => [.int .u8 (f e.val)]))] 1) := by
  have hT : T.Ok P := hP ▸ T_ok
  refine FnTr.intro (fn := Tryz.f50) (c := bodyOf Tryz.f50) (by rw [hP]; rfl) rfl rfl hT ?_
  generalize hA : Ar.real = A
  generalize hK : Gives _ _ _ = K
  cbv
  refine ⟨fun h0 => ?_, ?_⟩
  · cbv
    refine Fin.leG hA 0 [] [(0, .row 5 1 (.s n) (fun e => [.int .u8 (f e.val)]))] (.sl 0 1 (.l 0) (.s n)) _ 1 rfl rfl rfl ?_ ?_ ?_ (by rw [← hK]; exact ⟨rfl, rfl, rfl⟩)
    · (try cbv) <;> (repeat' (first | exact trivial | exact rfl | apply And.intro | exact fun _ => rfl | (intro _ hle; first | refine chunk_le hA rfl hle rfl ?_ | refine cat_le hA ?_ | refine upd_le hA ?_ | (try cbv))))
      exact h0
    · (try cbv) <;> (repeat' (first | exact trivial | exact rfl | apply And.intro | exact fun _ => rfl | (intro _ hle; first | refine chunk_le hA rfl hle rfl ?_ | refine cat_le hA ?_ | refine upd_le hA ?_ | (try cbv))))
      exact h0
    · (try cbv) <;> (repeat' (first | exact trivial | exact rfl | apply And.intro | exact fun _ => rfl | (intro _ hle; first | refine chunk_le hA rfl hle rfl ?_ | refine cat_le hA ?_ | refine upd_le hA ?_ | (try cbv))))
  · refine ⟨?_, Fin.le hA 0 [(4, 0)] (.sl 0 1 (.l 0) (.s n)) _ 1 rfl rfl rfl ?_ ?_ (by rw [← hK]; exact ⟨rfl, rfl, rfl⟩)⟩
    · subst hA; simp only [Ar.real, NV.val, zo, zt]
      omega
    iterate 2 ((try cbv) <;> (repeat' (first | exact trivial | exact rfl | apply And.intro | exact fun _ => rfl | (intro _ hle; first | refine chunk_le hA rfl hle rfl ?_ | refine cat_le hA ?_ | refine upd_le hA ?_ | (try cbv)))))
theorem off_fn {P : Program} {G : Gl} (hP : P = Tryz.prog) {N : Nat} {S : Nat → Int} {L : Int → Option (Nat → Int)} {ar r : Bool} {ca : Int} (hr : r = true ↔ ar = true ∧ ca = 0) :
    FnTr P G 62 [.ptr 0 0] (DH N S L ar ca) 3 (Gives (.bs r) (DH N S L ar ca) 3) := by
  have hT : T.Ok P := hP ▸ T_ok
  refine FnTr.intro (fn := Tryz.f62) (c := bodyOf Tryz.f62) (by rw [hP]; rfl) rfl rfl hT ?_
  generalize hA : Ar.real = A
  generalize hK : Gives _ _ _ = K
  cbv
  refine ⟨fun h1 => ?_, fun h1 => ?_⟩
  · cbv
    refine Fin.le hA 3 [] (.bs r) (DH N S L ar ca) 3 rfl rfl rfl ?_ ?_ (by rw [← hK]; exact ⟨rfl, rfl, rfl⟩)
    · (try cbv) <;> (repeat' (first | exact trivial | exact rfl | apply And.intro | exact fun _ => rfl | (intro _ hle; first | refine chunk_le hA rfl hle rfl ?_ | refine cat_le hA ?_ | refine upd_le hA ?_ | (try cbv))))
      subst hA
      subst h1
      simp only [Ar.real]
      rw [Bool.eq_iff_iff, hr]; simp
    · (try cbv) <;> (repeat' (first | exact trivial | exact rfl | apply And.intro | exact fun _ => rfl | (intro _ hle; first | refine chunk_le hA rfl hle rfl ?_ | refine cat_le hA ?_ | refine upd_le hA ?_ | (try cbv))))
  · cbv
    refine Fin.le hA 3 [] (.bs r) (DH N S L ar ca) 3 rfl rfl rfl ?_ ?_ (by rw [← hK]; exact ⟨rfl, rfl, rfl⟩)
    · (try cbv) <;> (repeat' (first | exact trivial | exact rfl | apply And.intro | exact fun _ => rfl | (intro _ hle; first | refine chunk_le hA rfl hle rfl ?_ | refine cat_le hA ?_ | refine upd_le hA ?_ | (try cbv))))
      subst hA
      subst h1
      simp at hr
      simp [hr, Ar.real]
    · (try cbv) <;> (repeat' (first | exact trivial | exact rfl | apply And.intro | exact fun _ => rfl | (intro _ hle; first | refine chunk_le hA rfl hle rfl ?_ | refine cat_le hA ?_ | refine upd_le hA ?_ | (try cbv))))
theorem len_fn {P : Program} {G : Gl} (hP : P = Tryz.prog) {N s : Nat} {S : Nat → Int} {L : Int → Option (Nat → Int)} {ar : Bool} {ca : Int} (hN : N = 64 * s) (hs : s ≤ 4096) :
    FnTr P G 42 [.ptr 0 0] (DH N S L ar ca) 3 (Gives (.int .i64 (s : Int)) (DH N S L ar ca) 3) := by
  have q := q64 s
  rw [← hN] at q
  have hT : T.Ok P := hP ▸ T_ok
  refine FnTr.intro (fn := Tryz.f42) (c := bodyOf Tryz.f42) (by rw [hP]; rfl) rfl rfl hT ?_
  generalize hA : Ar.real = A
  generalize hK : Gives _ _ _ = K
  cbv
  refine ⟨?_, ?_⟩
  · subst hA
    simp only [zn] at *
    simp only [Ar.real, zo, q]
    exact ⟨by decide, inR64 (by omega) (by omega)⟩
  refine Fin.le hA 3 [] (.int .i64 (s : Int)) (DH N S L ar ca) 3 rfl rfl rfl ?_ ?_ (by rw [← hK]; exact ⟨rfl, rfl, rfl⟩)
  · (try cbv) <;> (repeat' (first | exact trivial | exact rfl | apply And.intro | exact fun _ => rfl | (intro _ hle; first | refine chunk_le hA rfl hle rfl ?_ | refine cat_le hA ?_ | refine upd_le hA ?_ | (try cbv))))
    subst hA
    simp only [zn] at *
    simp only [Ar.real, zo, q]
  · (try cbv) <;> (repeat' (first | exact trivial | exact rfl | apply And.intro | exact fun _ => rfl | (intro _ hle; first | refine chunk_le hA rfl hle rfl ?_ | refine cat_le hA ?_ | refine upd_le hA ?_ | (try cbv))))
theorem asked_off {P : Program} {G : Gl} (hP : P = Tryz.prog) {N : Nat} {S : Nat → Int} {L : Int → Option (Nat → Int)} {ar : Bool} {ca i : Int} (h : ar = true ∧ ca = 0) :
    FnTr P G 67 [.ptr 0 0, .int .i64 i] (DH N S L ar ca) 3 (Gives (.lit .i64 6) (DH N S L ar ca) 3) := by
  have c1 := off_fn (P := P) (G := G) (N := N) (S := S) (L := L) (ar := ar) (r := true) (ca := ca) hP ⟨fun _ => h, fun _ => rfl⟩
  have hT : T.Ok P := hP ▸ T_ok
  refine FnTr.intro (fn := Tryz.f67) (c := bodyOf Tryz.f67) (by rw [hP]; rfl) rfl rfl hT ?_
  generalize hA : Ar.real = A
  generalize hK : Gives _ _ _ = K
  cbv
  refine CS.leR hA (c1) (.bl true) [(0, 0), (1, 1), (2, 2)] rfl rfl rfl ?_ ?_ ?_ ?_
  iterate 3 ((try cbv) <;> (repeat' (first | exact trivial | exact rfl | apply And.intro | exact fun _ => rfl | (intro _ hle; first | refine chunk_le hA rfl hle rfl ?_ | refine cat_le hA ?_ | refine upd_le hA ?_ | (try cbv)))) <;> (try (subst hA; (try simp only [zn] at *); (try (simp only [Ar.real, NV.val, zo, zt])); first | done | omega | decide | exact zi | (refine ⟨?_, ?_⟩ <;> first | omega | decide | exact zi))))
  cbv
  refine Fin.le hA 3 [] (.lit .i64 6) (DH N S L ar ca) 3 rfl rfl rfl ?_ ?_ (by rw [← hK]; exact ⟨rfl, rfl, rfl⟩)
  iterate 2 ((try cbv) <;> (repeat' (first | exact trivial | exact rfl | apply And.intro | exact fun _ => rfl | (intro _ hle; first | refine chunk_le hA rfl hle rfl ?_ | refine cat_le hA ?_ | refine upd_le hA ?_ | (try cbv)))))
theorem asked_ok {P : Program} {G : Gl} (hP : P = Tryz.prog) {N s : Nat} {S : Nat → Int} {L : Int → Option (Nat → Int)} {ar : Bool} {ca i : Int} (h : ¬ (ar = true ∧ ca = 0)) (hN : N = 64 * s) (hs : s ≤ 4096) (hi : 0 ≤ i ∧ i < (s : Int)) :
    FnTr P G 67 [.ptr 0 0, .int .i64 i] (DH N S L ar ca) 3 (Gives (.lit .i64 0) (DH N S L ar ca) 3) := by
  have c1 := off_fn (P := P) (G := G) (N := N) (S := S) (L := L) (ar := ar) (r := false) (ca := ca) hP ⟨fun q => (by cases q), fun q => absurd q h⟩
  have c2 := len_fn (P := P) (G := G) (S := S) (L := L) (ar := ar) (ca := ca) hP hN hs
  have hT : T.Ok P := hP ▸ T_ok
  refine FnTr.intro (fn := Tryz.f67) (c := bodyOf Tryz.f67) (by rw [hP]; rfl) rfl rfl hT ?_
  generalize hA : Ar.real = A
  generalize hK : Gives _ _ _ = K
  cbv
  refine CS.leR hA (c1) (.bl false) [(0, 0), (1, 1), (2, 2)] rfl rfl rfl ?_ ?_ ?_ ?_
  iterate 3 ((try cbv) <;> (repeat' (first | exact trivial | exact rfl | apply And.intro | exact fun _ => rfl | (intro _ hle; first | refine chunk_le hA rfl hle rfl ?_ | refine cat_le hA ?_ | refine upd_le hA ?_ | (try cbv)))) <;> (try (subst hA; (try simp only [zn] at *); (try (simp only [Ar.real, NV.val, zo, zt])); first | done | omega | decide | exact zi | (refine ⟨?_, ?_⟩ <;> first | omega | decide | exact zi))))
  cbv
  have k1 : A.lt i 0 = false := by subst hA; simp only [zn] at *; simp [Ar.real]; omega
  repeat' (first | (refine ⟨fun h => absurd (h.symm.trans k1) (by decide), fun _ => ?_⟩; cbv) | (refine ⟨fun _ => ?_, fun h => absurd (h.symm.trans k1) (by decide)⟩; cbv))
  refine CS.le hA (c2) [(0, 0), (1, 1), (2, 2)] rfl rfl rfl ?_ ?_ ?_
  iterate 2 ((try cbv) <;> (repeat' (first | exact trivial | exact rfl | apply And.intro | exact fun _ => rfl | (intro _ hle; first | refine chunk_le hA rfl hle rfl ?_ | refine cat_le hA ?_ | refine upd_le hA ?_ | (try cbv)))) <;> (try (subst hA; (try simp only [zn] at *); (try (simp only [Ar.real, NV.val, zo, zt])); first | done | omega | decide | exact zi | (refine ⟨?_, ?_⟩ <;> first | omega | decide | exact zi))))
  cbv
  have k2 : A.ge i (s : Int) = false := by subst hA; simp only [zn] at *; simp [Ar.real]; omega
  repeat' (first | (refine ⟨fun h => absurd (h.symm.trans k2) (by decide), fun _ => ?_⟩; cbv) | (refine ⟨fun _ => ?_, fun h => absurd (h.symm.trans k2) (by decide)⟩; cbv))
  refine Fin.le hA 3 [] (.lit .i64 0) (DH N S L ar ca) 3 rfl rfl rfl ?_ ?_ (by rw [← hK]; exact ⟨rfl, rfl, rfl⟩)
  iterate 2 ((try cbv) <;> (repeat' (first | exact trivial | exact rfl | apply And.intro | exact fun _ => rfl | (intro _ hle; first | refine chunk_le hA rfl hle rfl ?_ | refine cat_le hA ?_ | refine upd_le hA ?_ | (try cbv)))))
theorem at_fn {P : Program} {G : Gl} (hP : P = Tryz.prog) {N s i o : Nat} {S : Nat → Int} {L : Int → Option (Nat → Int)} {ar : Bool} {ca : Int} (hN : N = 64 * s) (hs : s ≤ 4096) (hi : i < s) (ho : o = 64 * i) :
    FnTr P G 55 [.ptr 0 0, .int .i64 (i : Int)] (DH N S L ar ca) 3 (Gives (.sl 1 1 (.s o) (.l 64)) (DH N S L ar ca) 3) := by
  have hT : T.Ok P := hP ▸ T_ok
  refine FnTr.intro (fn := Tryz.f55) (c := bodyOf Tryz.f55) (by rw [hP]; rfl) rfl rfl hT ?_
  generalize hA : Ar.real = A
  generalize hK : Gives _ _ _ = K
  cbv
  refine ⟨?_, ?_, ?_, ⟨?_, ?_, ?_, ?_⟩, ?_⟩
  iterate 7 (subst hA; (try simp only [zn] at *); (try (simp only [Ar.real, NV.val, zo, zt])); first | done | omega | decide | exact zi | (refine ⟨?_, ?_⟩ <;> first | omega | decide | exact zi))
  refine Fin.le hA 3 [] (.sl 1 1 (.s o) (.l 64)) (DH N S L ar ca) 3 rfl rfl rfl ?_ ?_ (by rw [← hK]; exact ⟨rfl, rfl, rfl⟩)
  · (try cbv) <;> (repeat' (first | exact trivial | exact rfl | apply And.intro | exact fun _ => rfl | (intro _ hle; first | refine chunk_le hA rfl hle rfl ?_ | refine cat_le hA ?_ | refine upd_le hA ?_ | (try cbv))))
    all_goals (subst hA; (try simp only [zn] at *); (try (simp only [Ar.real, NV.val, zo, zt])); first | done | omega | decide | exact zi | (refine ⟨?_, ?_⟩ <;> first | omega | decide | exact zi))
  · (try cbv) <;> (repeat' (first | exact trivial | exact rfl | apply And.intro | exact fun _ => rfl | (intro _ hle; first | refine chunk_le hA rfl hle rfl ?_ | refine cat_le hA ?_ | refine upd_le hA ?_ | (try cbv))))
theorem done_fn {P : Program} {G : Gl} (hP : P = Tryz.prog) {N : Nat} {S : Nat → Int} {L : Int → Option (Nat → Int)} {ar : Bool} {ca ca' : Int} (hc : ca' = if ar then ca - 1 else ca) (h : 0 ≤ ca ∧ ca ≤ 9223372036854775807) :
    FnTr P G 68 [.ptr 0 0] (DH N S L ar ca) 3 (Gives (.tup []) (DH N S L ar ca') 3) := by
  have hT : T.Ok P := hP ▸ T_ok
  refine FnTr.intro (fn := Tryz.f68) (c := bodyOf Tryz.f68) (by rw [hP]; rfl) rfl rfl hT ?_
  generalize hA : Ar.real = A
  generalize hK : Gives _ _ _ = K
  cbv
  refine ⟨fun h1 => ?_, fun h1 => ?_⟩
  · rw [h1, if_pos rfl] at hc
    cbv
    refine ⟨(by (subst hA; (try simp only [zn] at *); (try (simp only [Ar.real, NV.val, zo, zt])); first | done | omega | decide | exact zi | (refine ⟨?_, ?_⟩ <;> first | omega | decide | exact zi))), ?_⟩
    refine Fin.le hA 3 [] (.tup []) (DH N S L ar ca') 3 rfl rfl rfl ?_ ?_ (by rw [← hK]; exact ⟨rfl, rfl, rfl⟩)
    · (try cbv) <;> (repeat' (first | exact trivial | exact rfl | apply And.intro | exact fun _ => rfl | (intro _ hle; first | refine chunk_le hA rfl hle rfl ?_ | refine cat_le hA ?_ | refine upd_le hA ?_ | (try cbv))))
    · (try cbv) <;> (repeat' (first | exact trivial | exact rfl | apply And.intro | exact fun _ => rfl | (intro _ hle; first | refine chunk_le hA rfl hle rfl ?_ | refine cat_le hA ?_ | refine upd_le hA ?_ | (try cbv))))
      all_goals (subst hA; (try simp only [zn] at *); (try (simp only [Ar.real, NV.val, zo, zt])); first | done | omega | decide | exact zi | (refine ⟨?_, ?_⟩ <;> first | omega | decide | exact zi))
  · rw [h1] at hc
    cbv
    refine Fin.le hA 3 [] (.tup []) (DH N S L ar ca') 3 rfl rfl rfl ?_ ?_ (by rw [← hK]; exact ⟨rfl, rfl, rfl⟩)
    · (try cbv) <;> (repeat' (first | exact trivial | exact rfl | apply And.intro | exact fun _ => rfl | (intro _ hle; first | refine chunk_le hA rfl hle rfl ?_ | refine cat_le hA ?_ | refine upd_le hA ?_ | (try cbv))))
    · (try cbv) <;> (repeat' (first | exact trivial | exact rfl | apply And.intro | exact fun _ => rfl | (intro _ hle; first | refine chunk_le hA rfl hle rfl ?_ | refine cat_le hA ?_ | refine upd_le hA ?_ | (try cbv))))
      subst hA
      simpa using hc.symm
theorem last_own {P : Program} {G : Gl} (hP : P = Tryz.prog) {N s i : Nat} {S v : Nat → Int} {L : Int → Option (Nat → Int)} {ar : Bool} {ca : Int} (hN : N = 64 * s) (hs : s ≤ 4096) (hi : i < s) (hv : v = secV S L i) :
    FnTr P G 43 [.ptr 0 0, .int .i64 (i : Int)] (DH N S L ar ca) 3 (Gives (.sl 3 1 (.l 0) (.l 64)) ((3, .row 5 1 (.l 64) (fun e => [.int .u8 (v e.val)])) :: DH N S L ar ca) 4) := by
  obtain ⟨o, ho⟩ : ∃ o, o = 64 * i := ⟨_, rfl⟩
  obtain ⟨w, hw⟩ : ∃ w : Nat → Int, w = fun x => S (64 * i + x) := ⟨_, rfl⟩
  have c1 := at_fn (P := P) (G := G) (S := S) (L := L) (ar := ar) (ca := ca) hP hN hs hi ho
  have hM : MapTy P _ 64 := hP ▸ map_ty
  have hR : ArrTy P _ 64 := hP ▸ arr_ty
  cases hL : L (i : Int) with
  | some g =>
    have hvg : v = g := by rw [hv]; unfold secV; rw [hL]
    subst hvg
    clear hv
    obtain ⟨m, hm⟩ : ∃ m, m = 64 := ⟨_, rfl⟩
    have c2 := clone_own (P := P) (G := G) (n := m) (f := v) hP (by omega)
    have hT : T.Ok P := hP ▸ T_ok
    refine FnTr.intro (fn := Tryz.f43) (c := bodyOf Tryz.f43) (by rw [hP]; rfl) rfl rfl hT ?_
    generalize hA : Ar.real = A
    generalize hK : Gives _ _ _ = K
    cbv
    refine OS.did (lookup_did hM rfl rfl rfl rfl true v (.inl ⟨rfl, hL⟩)) ?_
    cbv
    refine OS.did (sliceArr_did (g := v) (.l 64) hR rfl rfl rfl rfl rfl) ?_
    cbv
    refine CS.le hA (c2) [] rfl rfl rfl ?_ ?_ ?_
    iterate 2 ((try cbv) <;> (repeat' (first | exact trivial | exact rfl | apply And.intro | exact fun _ => rfl | (intro _ hle; first | refine chunk_le hA rfl hle rfl ?_ | refine cat_le hA ?_ | refine upd_le hA ?_ | (try cbv)))) <;> (try (subst hA; (try simp only [zn] at *); (try (simp only [Ar.real, NV.val, zo, zt])); first | done | omega | decide | exact zi | (refine ⟨?_, ?_⟩ <;> first | omega | decide | exact zi))))
    cbv
    refine Fin.le hA 3 [(18, 3)] (.sl 3 1 (.l 0) (.l 64)) ((3, .row 5 1 (.l 64) (fun e => [.int .u8 (v e.val)])) :: DH N S L ar ca) 4 rfl rfl rfl ?_ ?_ (by rw [← hK]; exact ⟨rfl, rfl, rfl⟩)
    · (try cbv) <;> (repeat' (first | exact trivial | exact rfl | apply And.intro | exact fun _ => rfl | (intro _ hle; first | refine chunk_le hA rfl hle rfl ?_ | refine cat_le hA ?_ | refine upd_le hA ?_ | (try cbv))))
      all_goals exact hm
    · (try cbv) <;> (repeat' (first | exact trivial | exact rfl | apply And.intro | exact fun _ => rfl | (intro _ hle; first | refine chunk_le hA rfl hle rfl ?_ | refine cat_le hA ?_ | refine upd_le hA ?_ | (try cbv))))
      all_goals exact hm
  | none =>
    have hvw : v = w := by rw [hv, hw]; unfold secV; rw [hL]
    subst hvw
    clear hv
    obtain ⟨m, hm⟩ : ∃ m, m = 64 := ⟨_, rfl⟩
    have c2 := clone_own (P := P) (G := G) (n := m) (f := v) hP (by omega)
    have hT : T.Ok P := hP ▸ T_ok
    refine FnTr.intro (fn := Tryz.f43) (c := bodyOf Tryz.f43) (by rw [hP]; rfl) rfl rfl hT ?_
    generalize hA : Ar.real = A
    generalize hK : Gives _ _ _ = K
    cbv
    refine OS.did (lookup_did hM rfl rfl rfl rfl false (fun _ => 0) (.inr ⟨rfl, hL, rfl⟩)) ?_
    cbv
    refine CS.le hA (c1) [(0, 0), (1, 1), (2, 2)] rfl rfl rfl ?_ ?_ ?_
    iterate 2 ((try cbv) <;> (repeat' (first | exact trivial | exact rfl | apply And.intro | exact fun _ => rfl | (intro _ hle; first | refine chunk_le hA rfl hle rfl ?_ | refine cat_le hA ?_ | refine upd_le hA ?_ | (try cbv)))) <;> (try (subst hA; (try simp only [zn] at *); (try (simp only [Ar.real, NV.val, zo, zt])); first | done | omega | decide | exact zi | (refine ⟨?_, ?_⟩ <;> first | omega | decide | exact zi))))
    cbv
    refine CS.lend hA c2 [] [1] 1 rfl ⟨rfl, rfl, rfl, rfl, ?_, ?_⟩ rfl (.inr ⟨rfl, (by (try cbv) <;> (repeat' (first | exact trivial | exact rfl | apply And.intro | exact fun _ => rfl | (intro _ hle; first | refine chunk_le hA rfl hle rfl ?_ | refine cat_le hA ?_ | refine upd_le hA ?_ | (try cbv)))))⟩) ?_
    · (try cbv) <;> (repeat' (first | exact trivial | exact rfl | apply And.intro | exact fun _ => rfl | (intro _ hle; first | refine chunk_le hA rfl hle rfl ?_ | refine cat_le hA ?_ | refine upd_le hA ?_ | (try cbv))))
      all_goals first | (subst hA; (try simp only [zn] at *); (try (simp only [Ar.real, NV.val, zo, zt])); first | done | omega | decide | exact zi | (refine ⟨?_, ?_⟩ <;> first | omega | decide | exact zi)) | (subst hA; simp only [Ar.real, ho, hw]; rfl)
    · (try cbv) <;> (repeat' (first | exact trivial | exact rfl | apply And.intro | exact fun _ => rfl | (intro _ hle; first | refine chunk_le hA rfl hle rfl ?_ | refine cat_le hA ?_ | refine upd_le hA ?_ | (try cbv))))
    cbv
    refine Fin.le hA 3 [(22, 3)] (.sl 3 1 (.l 0) (.l 64)) ((3, .row 5 1 (.l 64) (fun e => [.int .u8 (v e.val)])) :: DH N S L ar ca) 4 rfl rfl rfl ?_ ?_ (by rw [← hK]; exact ⟨rfl, rfl, rfl⟩)
    · (try cbv) <;> (repeat' (first | exact trivial | exact rfl | apply And.intro | exact fun _ => rfl | (intro _ hle; first | refine chunk_le hA rfl hle rfl ?_ | refine cat_le hA ?_ | refine upd_le hA ?_ | (try cbv))))
      all_goals exact hm
    · (try cbv) <;> (repeat' (first | exact trivial | exact rfl | apply And.intro | exact fun _ => rfl | (intro _ hle; first | refine chunk_le hA rfl hle rfl ?_ | refine cat_le hA ?_ | refine upd_le hA ?_ | (try cbv))))
      all_goals exact hm
theorem last_fn {P : Program} {G : Gl} (hP : P = Tryz.prog) {N s i : Nat} {S v : Nat → Int} {L : Int → Option (Nat → Int)} {ar : Bool} {ca : Int} (hN : N = 64 * s) (hs : s ≤ 4096) (hi : i < s) (hv : v = secV S L i) :
    FnTr P G 43 [.ptr 0 0, .int .i64 (i : Int)] (DH N S L ar ca) 3 (Gives (.ro 1 (.l 64) (fun e => [.int .u8 (v e.val)])) (DH N S L ar ca) 4) := by
  have h1 := last_own (P := P) (G := G) (S := S) (L := L) (ar := ar) (ca := ca) hP hN hs hi hv
  generalize hA : Ar.real = A
  refine FnTr.dat hA h1 _ _ ?_
  (try cbv) <;> (repeat' (first | exact trivial | exact rfl | apply And.intro | exact fun _ => rfl | (intro _ hle; first | refine chunk_le hA rfl hle rfl ?_ | refine cat_le hA ?_ | refine upd_le hA ?_ | refine int_le ?_ | skip)))
  all_goals (subst hA; (try simp only [zn] at *); (try (simp only [Ar.real, NV.val, zo, zt])); first | done | omega | decide | exact zi | (refine ⟨?_, ?_⟩ <;> first | omega | decide | exact zi))
end Go.Proofs.YtnjjgipblimbfaaGreatDoor.Dsk
namespace Go.Proofs.YtnjjgipblimbfaaGreatDoor.Dsk
open Go.Eng
open Go.DskLaw (q64 secV)
set_option maxRecDepth 100000
set_option maxHeartbeats 4000000
theorem new_bad {P : Program} {G : Gl} (hP : P = Tryz.prog) {n : Int} (hn : n < 1 ∨ 4096 < n) : FnTr P G 14 [.int .i64 n] [] 0 (Gives (.tup [.nilp, .lit .i64 1]) [] 0) := by
  have hT : T.Ok P := hP ▸ T_ok
  refine FnTr.intro (fn := Tryz.f14) (c := bodyOf Tryz.f14) (by rw [hP]; rfl) rfl rfl hT ?_
  generalize hA : Ar.real = A
  generalize hK : Gives _ _ _ = K
  cbv
  by_cases h0 : n < 1
  · have k1 : A.lt n 1 = true := by subst hA; simpa [Ar.real] using h0
    repeat' (first | (refine ⟨fun h => absurd (h.symm.trans k1) (by decide), fun _ => ?_⟩; cbv) | (refine ⟨fun _ => ?_, fun h => absurd (h.symm.trans k1) (by decide)⟩; cbv))
    refine Fin.le hA 0 [] (.tup [.nilp, .lit .i64 1]) ([]) 0 rfl rfl rfl ?_ ?_ (by rw [← hK]; exact ⟨rfl, rfl, rfl⟩)
    iterate 2 ((try cbv) <;> (repeat' (first | exact trivial | exact rfl | apply And.intro | exact fun _ => rfl | (intro _ hle; first | refine chunk_le hA rfl hle rfl ?_ | refine cat_le hA ?_ | refine upd_le hA ?_ | (try cbv)))))
  · have k1 : A.lt n 1 = false := by subst hA; simpa [Ar.real] using h0
    have k2 : A.gt n 4096 = true := by subst hA; simp [Ar.real]; omega
    repeat' (first | (refine ⟨fun h => absurd (h.symm.trans k1) (by decide), fun _ => ?_⟩; cbv) | (refine ⟨fun _ => ?_, fun h => absurd (h.symm.trans k1) (by decide)⟩; cbv) | (refine ⟨fun h => absurd (h.symm.trans k2) (by decide), fun _ => ?_⟩; cbv) | (refine ⟨fun _ => ?_, fun h => absurd (h.symm.trans k2) (by decide)⟩; cbv))
    refine Fin.le hA 0 [] (.tup [.nilp, .lit .i64 1]) ([]) 0 rfl rfl rfl ?_ ?_ (by rw [← hK]; exact ⟨rfl, rfl, rfl⟩)
    iterate 2 ((try cbv) <;> (repeat' (first | exact trivial | exact rfl | apply And.intro | exact fun _ => rfl | (intro _ hle; first | refine chunk_le hA rfl hle rfl ?_ | refine cat_le hA ?_ | refine upd_le hA ?_ | (try cbv)))))
theorem new_ok {P : Program} {G : Gl} (hP : P = Tryz.prog) {n : Int} {s N : Nat} {S : Nat → Int} {L : Int → Option (Nat → Int)} (hn : n = (s : Int)) (h1 : 1 ≤ s ∧ s ≤ 4096) (hN : N = 64 * s) (hS : ∀ x, S x = 0) (hL : ∀ k, L k = none) :
    FnTr P G 14 [.int .i64 n] [] 0 (Gives (.tup [.ptr 0 0, .lit .i64 0]) (DH N S L false 0) 3) := by
  have hM : MapTy P _ 64 := hP ▸ map_ty
  have hT : T.Ok P := hP ▸ T_ok
  refine FnTr.intro (fn := Tryz.f14) (c := bodyOf Tryz.f14) (by rw [hP]; rfl) rfl rfl hT ?_
  generalize hA : Ar.real = A
  generalize hK : Gives _ _ _ = K
  cbv
  have k1 : A.lt n 1 = false := by subst hA; simp only [zn] at *; simp [Ar.real]; omega
  have k2 : A.gt n 4096 = false := by subst hA; simp only [zn] at *; simp [Ar.real]; omega
  repeat' (first | (refine ⟨fun h => absurd (h.symm.trans k1) (by decide), fun _ => ?_⟩; cbv) | (refine ⟨fun _ => ?_, fun h => absurd (h.symm.trans k1) (by decide)⟩; cbv) | (refine ⟨fun h => absurd (h.symm.trans k2) (by decide), fun _ => ?_⟩; cbv) | (refine ⟨fun _ => ?_, fun h => absurd (h.symm.trans k2) (by decide)⟩; cbv))
  refine ⟨?_, ⟨?_, ?_, ?_, ?_⟩, ?_⟩
  iterate 5 (subst hA; (try simp only [zn] at *); (try (simp only [Ar.real, NV.val, zo, zt])); first | done | omega | decide | exact zi | (refine ⟨?_, ?_⟩ <;> first | omega | decide | exact zi))
  refine OS.did (makeMap_did (sz := 64) rfl) ?_
  cbv
  refine Fin.le hA 0 [(13, 0), (10, 1), (11, 2)] (.tup [.ptr 0 0, .lit .i64 0]) (DH N S L false 0) 3 rfl rfl rfl ?_ ?_ (by rw [← hK]; exact ⟨rfl, rfl, rfl⟩)
  · (try cbv) <;> (repeat' (first | exact trivial | exact rfl | apply And.intro | exact fun _ => rfl | (intro _ hle; first | refine chunk_le hA rfl hle rfl ?_ | refine cat_le hA ?_ | refine upd_le hA ?_ | (try cbv))))
  · (try cbv) <;> (repeat' (first | exact trivial | exact rfl | apply And.intro | exact fun _ => rfl | (intro _ hle; first | refine chunk_le hA rfl hle rfl ?_ | refine cat_le hA ?_ | refine upd_le hA ?_ | (try cbv))))
    all_goals first | exact (hS _).symm | exact fun k => (hL k).symm | (subst hA; (try simp only [zn] at *); (try (simp only [Ar.real, NV.val, zo, zt])); first | done | omega | decide | exact zi | (refine ⟨?_, ?_⟩ <;> first | omega | decide | exact zi))
theorem write_off {P : Program} {G : Gl} (hP : P = Tryz.prog) {N n : Nat} {S f : Nat → Int} {L : Int → Option (Nat → Int)} {ar : Bool} {ca i : Int} (h : ar = true ∧ ca = 0) :
    FnTr P G 65 [.ptr 0 0, .int .i64 i, By n f] (DH N S L ar ca) 3 (Gives (.lit .i64 6) (DH N S L ar ca) 3) := by
  have c1 := asked_off (P := P) (G := G) (N := N) (S := S) (L := L) (ar := ar) (i := i) (ca := ca) hP h
  have hT : T.Ok P := hP ▸ T_ok
  refine FnTr.intro (fn := Tryz.f65) (c := bodyOf Tryz.f65) (by rw [hP]; rfl) rfl rfl hT ?_
  generalize hA : Ar.real = A
  generalize hK : Gives _ _ _ = K
  cbv
  refine CS.le hA (c1) [(0, 0), (1, 1), (2, 2)] rfl rfl rfl ?_ ?_ ?_
  iterate 2 ((try cbv) <;> (repeat' (first | exact trivial | exact rfl | apply And.intro | exact fun _ => rfl | (intro _ hle; first | refine chunk_le hA rfl hle rfl ?_ | refine cat_le hA ?_ | refine upd_le hA ?_ | (try cbv)))) <;> (try (subst hA; (try simp only [zn] at *); (try (simp only [Ar.real, NV.val, zo, zt])); first | done | omega | decide | exact zi | (refine ⟨?_, ?_⟩ <;> first | omega | decide | exact zi))))
  cbv
  refine Fin.le hA 3 [] (.lit .i64 6) (DH N S L ar ca) 3 rfl rfl rfl ?_ ?_ (by rw [← hK]; exact ⟨rfl, rfl, rfl⟩)
  iterate 2 ((try cbv) <;> (repeat' (first | exact trivial | exact rfl | apply And.intro | exact fun _ => rfl | (intro _ hle; first | refine chunk_le hA rfl hle rfl ?_ | refine cat_le hA ?_ | refine upd_le hA ?_ | (try cbv)))))
theorem write_ok {P : Program} {G : Gl} (hP : P = Tryz.prog) {N s n i : Nat} {S f : Nat → Int} {L L' : Int → Option (Nat → Int)} {ar : Bool} {ca ca' : Int} (h : ¬ (ar = true ∧ ca = 0)) (hN : N = 64 * s) (hs : s ≤ 4096) (hi : i < s) (hn : n = 64) (hL : ∀ k, L' k = if k = (i : Int) then some f else L k)
    (hc : ca' = if ar then ca - 1 else ca) (hca : 0 ≤ ca ∧ ca ≤ 9223372036854775807) :
    FnTr P G 65 [.ptr 0 0, .int .i64 (i : Int), By n f] (DH N S L ar ca) 3 (Gives (.lit .i64 0) (DH N S L' ar ca') 3) := by
  have c1 := asked_ok (P := P) (G := G) (S := S) (L := L) (i := (i : Int)) hP h hN hs (by omega)
  have c2 := done_fn (P := P) (G := G) (N := N) (S := S) (L := L') (ar := ar) hP hc hca
  have hM : MapTy P _ 64 := hP ▸ map_ty
  have hR : ArrTy P _ 64 := hP ▸ arr_ty
  have hT : T.Ok P := hP ▸ T_ok
  refine FnTr.intro (fn := Tryz.f65) (c := bodyOf Tryz.f65) (by rw [hP]; rfl) rfl rfl hT ?_
  generalize hA : Ar.real = A
  generalize hK : Gives _ _ _ = K
  cbv
  refine CS.le hA (c1) [(0, 0), (1, 1), (2, 2)] rfl rfl rfl ?_ ?_ ?_
  iterate 2 ((try cbv) <;> (repeat' (first | exact trivial | exact rfl | apply And.intro | exact fun _ => rfl | (intro _ hle; first | refine chunk_le hA rfl hle rfl ?_ | refine cat_le hA ?_ | refine upd_le hA ?_ | (try cbv)))) <;> (try (subst hA; (try simp only [zn] at *); (try (simp only [Ar.real, NV.val, zo, zt])); first | done | omega | decide | exact zi | (refine ⟨?_, ?_⟩ <;> first | omega | decide | exact zi))))
  cbv
  have k1 : A.ne (A.i2 n) 64 = false := by subst hA; simp [Ar.real]; omega
  repeat' (first | (refine ⟨fun h => absurd (h.symm.trans k1) (by decide), fun _ => ?_⟩; cbv) | (refine ⟨fun _ => ?_, fun h => absurd (h.symm.trans k1) (by decide)⟩; cbv))
  refine DS.runK hA hT (by rw [hP]; exact P_mixed) 1 rfl ?_
  cbv
  refine OD.did [] rfl (arrayAt_did hR rfl rfl (show 64 ≤ n by omega)) rfl ?_
  cbv
  refine OD.did [] rfl (loadRa_did (g := f) hR rfl rfl (Ints.base .u8 f 64)) rfl ?_
  cbv
  refine OD.did [2] rfl (mapUpdate_did hM rfl rfl rfl rfl rfl) rfl ?_
  cbv
  refine DF.fin (by kernel_rfl) (by kernel_rfl) ?_
  cbv
  refine CS.le hA c2 [(0, 0), (1, 1), (2, 2)] rfl rfl rfl ?_ ?_ ?_
  · (try cbv) <;> (repeat' (first | exact trivial | exact rfl | apply And.intro | exact fun _ => rfl | (intro _ hle; first | refine chunk_le hA rfl hle rfl ?_ | refine cat_le hA ?_ | refine upd_le hA ?_ | (try cbv))))
  · (try cbv) <;> (repeat' (first | exact trivial | exact rfl | apply And.intro | exact fun _ => rfl | (intro _ hle; first | refine chunk_le hA rfl hle rfl ?_ | refine cat_le hA ?_ | refine upd_le hA ?_ | (try cbv))))
    exact fun k => (hL k).symm
  cbv
  refine Fin.le hA 3 [] (.lit .i64 0) (DH N S L' ar ca') 3 rfl rfl rfl ?_ ?_ (by rw [← hK]; exact ⟨rfl, rfl, rfl⟩)
  iterate 2 ((try cbv) <;> (repeat' (first | exact trivial | exact rfl | apply And.intro | exact fun _ => rfl | (intro _ hle; first | refine chunk_le hA rfl hle rfl ?_ | refine cat_le hA ?_ | refine upd_le hA ?_ | (try cbv)))))
theorem read_off {P : Program} {G : Gl} (hP : P = Tryz.prog) {N : Nat} {S : Nat → Int} {L : Int → Option (Nat → Int)} {ar : Bool} {ca i : Int} (h : ar = true ∧ ca = 0) :
    FnTr P G 63 [.ptr 0 0, .int .i64 i] (DH N S L ar ca) 3 (Gives (.tup [.nils, .lit .i64 6]) (DH N S L ar ca) 3) := by
  have c1 := asked_off (P := P) (G := G) (N := N) (S := S) (L := L) (ar := ar) (i := i) (ca := ca) hP h
  have hT : T.Ok P := hP ▸ T_ok
  refine FnTr.intro (fn := Tryz.f63) (c := bodyOf Tryz.f63) (by rw [hP]; rfl) rfl rfl hT ?_
  generalize hA : Ar.real = A
  generalize hK : Gives _ _ _ = K
  cbv
  refine CS.le hA (c1) [(0, 0), (1, 1), (2, 2)] rfl rfl rfl ?_ ?_ ?_
  iterate 2 ((try cbv) <;> (repeat' (first | exact trivial | exact rfl | apply And.intro | exact fun _ => rfl | (intro _ hle; first | refine chunk_le hA rfl hle rfl ?_ | refine cat_le hA ?_ | refine upd_le hA ?_ | (try cbv)))) <;> (try (subst hA; (try simp only [zn] at *); (try (simp only [Ar.real, NV.val, zo, zt])); first | done | omega | decide | exact zi | (refine ⟨?_, ?_⟩ <;> first | omega | decide | exact zi))))
  cbv
  refine Fin.le hA 3 [] (.tup [.nils, .lit .i64 6]) (DH N S L ar ca) 3 rfl rfl rfl ?_ ?_ (by rw [← hK]; exact ⟨rfl, rfl, rfl⟩)
  iterate 2 ((try cbv) <;> (repeat' (first | exact trivial | exact rfl | apply And.intro | exact fun _ => rfl | (intro _ hle; first | refine chunk_le hA rfl hle rfl ?_ | refine cat_le hA ?_ | refine upd_le hA ?_ | (try cbv)))))
theorem read_own {P : Program} {G : Gl} (hP : P = Tryz.prog) {N s i : Nat} {S v : Nat → Int} {L : Int → Option (Nat → Int)} {ar : Bool} {ca : Int} (h : ¬ (ar = true ∧ ca = 0)) (hN : N = 64 * s) (hs : s ≤ 4096) (hi : i < s) (hv : v = secV S L i) :
    FnTr P G 63 [.ptr 0 0, .int .i64 (i : Int)] (DH N S L ar ca) 3 (Gives (.tup [.sl 3 1 (.l 0) (.l 64), .lit .i64 0]) ((3, .row 5 1 (.l 64) (fun e => [.int .u8 (v e.val)])) :: DH N S L ar ca) 4) := by
  have c1 := asked_ok (P := P) (G := G) (S := S) (L := L) (i := (i : Int)) hP h hN hs (by omega)
  have c2 := last_own (P := P) (G := G) (S := S) (L := L) (ar := ar) (ca := ca) hP hN hs hi hv
  have hT : T.Ok P := hP ▸ T_ok
  refine FnTr.intro (fn := Tryz.f63) (c := bodyOf Tryz.f63) (by rw [hP]; rfl) rfl rfl hT ?_
  generalize hA : Ar.real = A
  generalize hK : Gives _ _ _ = K
  cbv
  refine CS.le hA (c1) [(0, 0), (1, 1), (2, 2)] rfl rfl rfl ?_ ?_ ?_
  iterate 2 ((try cbv) <;> (repeat' (first | exact trivial | exact rfl | apply And.intro | exact fun _ => rfl | (intro _ hle; first | refine chunk_le hA rfl hle rfl ?_ | refine cat_le hA ?_ | refine upd_le hA ?_ | (try cbv)))) <;> (try (subst hA; (try simp only [zn] at *); (try (simp only [Ar.real, NV.val, zo, zt])); first | done | omega | decide | exact zi | (refine ⟨?_, ?_⟩ <;> first | omega | decide | exact zi))))
  cbv
  refine CS.le hA (c2) [(0, 0), (1, 1), (2, 2)] rfl rfl rfl ?_ ?_ ?_
  iterate 2 ((try cbv) <;> (repeat' (first | exact trivial | exact rfl | apply And.intro | exact fun _ => rfl | (intro _ hle; first | refine chunk_le hA rfl hle rfl ?_ | refine cat_le hA ?_ | refine upd_le hA ?_ | (try cbv)))) <;> (try (subst hA; (try simp only [zn] at *); (try (simp only [Ar.real, NV.val, zo, zt])); first | done | omega | decide | exact zi | (refine ⟨?_, ?_⟩ <;> first | omega | decide | exact zi))))
  cbv
  refine Fin.le hA 3 [(18, 3)] (.tup [.sl 3 1 (.l 0) (.l 64), .lit .i64 0]) ((3, .row 5 1 (.l 64) (fun e => [.int .u8 (v e.val)])) :: DH N S L ar ca) 4 rfl rfl rfl ?_ ?_ (by rw [← hK]; exact ⟨rfl, rfl, rfl⟩)
  iterate 2 ((try cbv) <;> (repeat' (first | exact trivial | exact rfl | apply And.intro | exact fun _ => rfl | (intro _ hle; first | refine chunk_le hA rfl hle rfl ?_ | refine cat_le hA ?_ | refine upd_le hA ?_ | (try cbv)))))
theorem read_fn {P : Program} {G : Gl} (hP : P = Tryz.prog) {N s i : Nat} {S v : Nat → Int} {L : Int → Option (Nat → Int)} {ar : Bool} {ca : Int} (h : ¬ (ar = true ∧ ca = 0)) (hN : N = 64 * s) (hs : s ≤ 4096) (hi : i < s) (hv : v = secV S L i) :
    FnTr P G 63 [.ptr 0 0, .int .i64 (i : Int)] (DH N S L ar ca) 3 (Gives (.tup [.ro 1 (.l 64) (fun e => [.int .u8 (v e.val)]), .lit .i64 0]) (DH N S L ar ca) 4) := by
  have h1 := read_own (P := P) (G := G) (S := S) (L := L) (ar := ar) (ca := ca) hP h hN hs hi hv
  generalize hA : Ar.real = A
  refine FnTr.dat hA h1 _ _ ?_
  (try cbv) <;> (repeat' (first | exact trivial | exact rfl | apply And.intro | exact fun _ => rfl | (intro _ hle; first | refine chunk_le hA rfl hle rfl ?_ | refine cat_le hA ?_ | refine upd_le hA ?_ | refine int_le ?_ | skip)))
  all_goals (subst hA; (try simp only [zn] at *); (try (simp only [Ar.real, NV.val, zo, zt])); first | done | omega | decide | exact zi | (refine ⟨?_, ?_⟩ <;> first | omega | decide | exact zi))
end Go.Proofs.YtnjjgipblimbfaaGreatDoor.Dsk
namespace Go.Proofs.YtnjjgipblimbfaaGreatDoor.Dsk
open Go.Eng
open Go.DskLaw (q64 secV needN need_eq)
set_option maxRecDepth 100000
set_option maxHeartbeats 4000000
theorem need_fn {P : Program} {G : Gl} (hP : P = Tryz.prog) {n : Int} {m : Nat} (h : n ≤ 9223372036854775000) (hm : m = needN n.toNat) : FnTr P G 56 [.int .i64 n] [] 0 (Gives (.int .i64 (m : Int)) [] 0) := by
  obtain ⟨q1, q2, q3⟩ := need_eq n h
  rw [← hm] at q3
  have hT : T.Ok P := hP ▸ T_ok
  refine FnTr.intro (fn := Tryz.f56) (c := bodyOf Tryz.f56) (by rw [hP]; rfl) rfl rfl hT ?_
  generalize hA : Ar.real = A
  generalize hK : Gives _ _ _ = K
  cbv
  refine ⟨?_, ?_, ⟨?_, ?_⟩, ?_⟩
  · subst hA
    exact inR64 (by simp only [Ar.real]; omega) (by simp only [Ar.real]; omega)
  · subst hA
    exact inR64 (by simp only [Ar.real]; omega) (by simp only [Ar.real]; omega)
  · subst hA
    simp only [Ar.real]
    decide
  · subst hA
    exact inR64 (Int.le_trans (by decide) q2.1) (Int.le_trans q2.2 (by decide))
  refine Fin.le hA 0 [] (.int .i64 (m : Int)) ([]) 0 rfl rfl rfl ?_ ?_ (by rw [← hK]; exact ⟨rfl, rfl, rfl⟩)
  · (try cbv) <;> (repeat' (first | exact trivial | exact rfl | apply And.intro | exact fun _ => rfl | (intro _ hle; first | refine chunk_le hA rfl hle rfl ?_ | refine cat_le hA ?_ | refine upd_le hA ?_ | (try cbv))))
    subst hA
    exact q3
  · (try cbv) <;> (repeat' (first | exact trivial | exact rfl | apply And.intro | exact fun _ => rfl | (intro _ hle; first | refine chunk_le hA rfl hle rfl ?_ | refine cat_le hA ?_ | refine upd_le hA ?_ | (try cbv))))
theorem sasked_ok {P : Program} {G : Gl} (hP : P = Tryz.prog) {N s : Nat} {S : Nat → Int} {L : Int → Option (Nat → Int)} {ar : Bool} {ca a b : Int} (hN : N = 64 * s) (hs : s ≤ 4096) (h : 0 ≤ a ∧ a ≤ b ∧ b ≤ (s : Int)) :
    FnTr P G 61 [.ptr 0 0, .int .i64 a, .int .i64 b] (DH N S L ar ca) 3 (Gives (.lit .i64 0) (DH N S L ar ca) 3) := by
  have c2 := len_fn (P := P) (G := G) (S := S) (L := L) (ar := ar) (ca := ca) hP hN hs
  have hT : T.Ok P := hP ▸ T_ok
  refine FnTr.intro (fn := Tryz.f61) (c := bodyOf Tryz.f61) (by rw [hP]; rfl) rfl rfl hT ?_
  generalize hA : Ar.real = A
  generalize hK : Gives _ _ _ = K
  cbv
  have k1 : A.lt a 0 = false := by subst hA; simp [Ar.real]; omega
  have k2 : A.lt b a = false := by subst hA; simp [Ar.real]; omega
  repeat' (first | (refine ⟨fun h => absurd (h.symm.trans k1) (by decide), fun _ => ?_⟩; cbv) | (refine ⟨fun _ => ?_, fun h => absurd (h.symm.trans k1) (by decide)⟩; cbv) | (refine ⟨fun h => absurd (h.symm.trans k2) (by decide), fun _ => ?_⟩; cbv) | (refine ⟨fun _ => ?_, fun h => absurd (h.symm.trans k2) (by decide)⟩; cbv))
  refine CS.le hA (c2) [(0, 0), (1, 1), (2, 2)] rfl rfl rfl ?_ ?_ ?_
  iterate 2 ((try cbv) <;> (repeat' (first | exact trivial | exact rfl | apply And.intro | exact fun _ => rfl | (intro _ hle; first | refine chunk_le hA rfl hle rfl ?_ | refine cat_le hA ?_ | refine upd_le hA ?_ | (try cbv)))) <;> (try (subst hA; (try simp only [zn] at *); (try (simp only [Ar.real, NV.val, zo, zt])); first | done | omega | decide | exact zi | (refine ⟨?_, ?_⟩ <;> first | omega | decide | exact zi))))
  cbv
  have k3 : A.gt b (s : Int) = false := by subst hA; simp only [zn] at *; simp [Ar.real]; omega
  repeat' (first | (refine ⟨fun h => absurd (h.symm.trans k3) (by decide), fun _ => ?_⟩; cbv) | (refine ⟨fun _ => ?_, fun h => absurd (h.symm.trans k3) (by decide)⟩; cbv))
  refine Fin.le hA 3 [] (.lit .i64 0) (DH N S L ar ca) 3 rfl rfl rfl ?_ ?_ (by rw [← hK]; exact ⟨rfl, rfl, rfl⟩)
  iterate 2 ((try cbv) <;> (repeat' (first | exact trivial | exact rfl | apply And.intro | exact fun _ => rfl | (intro _ hle; first | refine chunk_le hA rfl hle rfl ?_ | refine cat_le hA ?_ | refine upd_le hA ?_ | (try cbv)))))
theorem blank_fn {P : Program} {G : Gl} (hP : P = Tryz.prog) {n : Nat} {f : Nat → Int} {r : Bool} (hn : n ≤ 1000000) (hr : r = true ↔ ∀ i, i < n → f i = 0) :
    FnTr P G 64 [By n f] [] 0 (Gives (.bs r) [] 0) := by
  have hT : T.Ok P := hP ▸ T_ok
  refine FnTr.intro (fn := Tryz.f64) (c := bodyOf Tryz.f64) (by rw [hP]; rfl) rfl rfl hT ?_
  generalize hA : Ar.real = A
  generalize hK : Gives _ _ _ = K
  cbv
  refine LS.le hT hA 0 (fun (i : Nat) => [(7, .int .i64 (i : Int))]) (fun _ => []) (fun i => i ≤ n ∧ ∀ j, j < i → f j = 0) (fun i => n - i) 0 [] rfl rfl ?_ ?_ ?_
  · (try cbv) <;> (repeat' (first | exact trivial | exact rfl | apply And.intro | exact fun _ => rfl | (intro _ hle; first | refine chunk_le hA rfl hle rfl ?_ | refine cat_le hA ?_ | refine upd_le hA ?_ | (try cbv))))
  · exact ⟨Nat.zero_le _, fun j hj => absurd hj (Nat.not_lt_zero _)⟩
  · intro R hR i hi
    cbv
    refine ⟨fun h1 => ?_, fun h1 => ?_⟩
    · have him : i < n := by subst hA; simp [Ar.real] at h1; omega
      cbv
      refine ⟨(by (subst hA; (try simp only [zn] at *); (try (simp only [Ar.real, NV.val, zo, zt])); first | done | omega | decide | exact zi | (refine ⟨?_, ?_⟩ <;> first | omega | decide | exact zi))), ?_⟩
      refine ⟨fun h2 => ?_, fun h2 => ?_⟩
      · have hf : f i ≠ 0 := by subst hA; simpa [Ar.real, NV.val] using h2
        have hr' : r = false := by
          cases r with
          | false => rfl
          | true => exact absurd (hr.1 rfl i him) hf
        clear hR
        cbv
        refine Fin.le hA 0 [] (.bs r) ([]) 0 rfl rfl rfl ?_ ?_ (by rw [← hK]; exact ⟨rfl, rfl, rfl⟩)
        · (try cbv) <;> (repeat' (first | exact trivial | exact rfl | apply And.intro | exact fun _ => rfl | (intro _ hle; first | refine chunk_le hA rfl hle rfl ?_ | refine cat_le hA ?_ | refine upd_le hA ?_ | (try cbv))))
          exact hr'.symm
        · (try cbv) <;> (repeat' (first | exact trivial | exact rfl | apply And.intro | exact fun _ => rfl | (intro _ hle; first | refine chunk_le hA rfl hle rfl ?_ | refine cat_le hA ?_ | refine upd_le hA ?_ | (try cbv))))
      · have hf : f i = 0 := by subst hA; simpa [Ar.real, NV.val] using h2
        cbv
        refine ⟨(by (subst hA; (try simp only [zn] at *); (try (simp only [Ar.real, NV.val, zo, zt])); first | done | omega | decide | exact zi | (refine ⟨?_, ?_⟩ <;> first | omega | decide | exact zi))), hR _ _ ⟨i + 1, 0, [], rfl, rfl, ?_, ⟨him, fun j hj => ?_⟩, (by show n - (i + 1) < n - i; omega)⟩⟩
        · clear hR
          (try cbv) <;> (repeat' (first | exact trivial | exact rfl | apply And.intro | exact fun _ => rfl | (intro _ hle; first | refine chunk_le hA rfl hle rfl ?_ | refine cat_le hA ?_ | refine upd_le hA ?_ | (try cbv))))
          (subst hA; (try simp only [zn] at *); (try (simp only [Ar.real, NV.val, zo, zt])); first | done | omega | decide | exact zi | (refine ⟨?_, ?_⟩ <;> first | omega | decide | exact zi))
        · rcases Nat.lt_or_ge j i with q | q
          · exact hi.2 j q
          · rw [show j = i by omega]; exact hf
    · have him : i = n := by subst hA; simp [Ar.real] at h1; omega
      subst him
      have hr' : r = true := hr.2 hi.2
      clear hR
      cbv
      refine Fin.le hA 0 [] (.bs r) ([]) 0 rfl rfl rfl ?_ ?_ (by rw [← hK]; exact ⟨rfl, rfl, rfl⟩)
      · (try cbv) <;> (repeat' (first | exact trivial | exact rfl | apply And.intro | exact fun _ => rfl | (intro _ hle; first | refine chunk_le hA rfl hle rfl ?_ | refine cat_le hA ?_ | refine upd_le hA ?_ | (try cbv))))
        exact hr'.symm
      · (try cbv) <;> (repeat' (first | exact trivial | exact rfl | apply And.intro | exact fun _ => rfl | (intro _ hle; first | refine chunk_le hA rfl hle rfl ?_ | refine cat_le hA ?_ | refine upd_le hA ?_ | (try cbv))))
end Go.Proofs.YtnjjgipblimbfaaGreatDoor.Dsk
namespace Go.Proofs.YtnjjgipblimbfaaGreatDoor.Dsk
open Go.Eng
open Go.DskLaw (q64 secV needN pcs)
set_option maxRecDepth 100000
set_option maxHeartbeats 4000000
theorem conv62 (n : Nat) : IntKind.u8.wrap (if (62 : Int) < (n : Int) then 62 else (n : Int)) = ((min n 62 : Nat) : Int) := by
  rw [show (if (62 : Int) < (n : Int) then 62 else (n : Int)) = ((min n 62 : Nat) : Int) by split <;> omega, wrap_u8, Nat.mod_eq_of_lt (by omega)]
theorem pieces_fn {P : Program} {G : Gl} (hP : P = Tryz.prog) {n : Nat} {f : Nat → Int} :
    FnTr P G 81 [By n f] [] 0 (Gives (.fn 90 [.ptr 0 0]) [(0, .cells 22 [By n f])] 1) := by
  have hT : T.Ok P := hP ▸ T_ok
  refine FnTr.intro (fn := Tryz.f81) (c := bodyOf Tryz.f81) (by rw [hP]; rfl) rfl rfl hT ?_
  generalize hA : Ar.real = A
  generalize hK : Gives _ _ _ = K
  cbv
  refine OS.did (makeFunc_did rfl) ?_
  cbv
  refine Fin.le hA 0 [(0, 0)] (.fn 90 [.ptr 0 0]) ([(0, .cells 22 [By n f])]) 1 rfl rfl rfl ?_ ?_ (by rw [← hK]; exact ⟨rfl, rfl, rfl⟩)
  iterate 2 ((try cbv) <;> (repeat' (first | exact trivial | exact rfl | apply And.intro | exact fun _ => rfl | (intro _ hle; first | refine chunk_le hA rfl hle rfl ?_ | refine cat_le hA ?_ | refine upd_le hA ?_ | (try cbv)))))
theorem put_ok {P : Program} {G : Gl} (hP : P = Tryz.prog) {N s n first fin k : Nat} {S f : Nat → Int} {L L' : Int → Option (Nat → Int)} {ar : Bool} {ca ca' at' e' : Int} (hN : N = 64 * s) (hs : s ≤ 4096) (h : first + needN n ≤ fin ∧ fin ≤ s) (hn : n ≤ 65536)
    (hca : 0 ≤ ca ∧ ca ≤ 9223372036854775807) (hk : (ar = false ∧ k = needN n) ∨ (ar = true ∧ k = min (needN n) ca.toNat)) (hL : ∀ i, L' i = if (first : Int) ≤ i ∧ i < (first : Int) + k then some (pcs n f (i - first).toNat) else L i) (hc : ca' = if ar then ca - k else ca)
    (he : (k = needN n ∧ at' = ((first + needN n : Nat) : Int) ∧ e' = 0) ∨ (k < needN n ∧ at' = 0 ∧ e' = 6)) :
    FnTr P G 52 [.ptr 0 0, .int .i64 (first : Int), .int .i64 (fin : Int), By n f] (DH N S L ar ca) 3 (Gives (.tup [.int .i64 at', .int .i64 e']) (DH N S L' ar ca') 3) := by
  have c1 := sasked_ok (P := P) (G := G) (S := S) (L := L) (ar := ar) (ca := ca) (a := (first : Int)) (b := (fin : Int)) hP hN hs (by omega)
  obtain ⟨m, hm⟩ : ∃ m, m = needN n := ⟨_, rfl⟩
  have c2 := need_fn (P := P) (G := G) (n := (n : Int)) (m := m) hP (by omega) hm
  have c3 := pieces_fn (P := P) (G := G) (n := n) (f := f) hP
  have hmn : 62 * m < n + 62 + (if n = 0 then 62 else 0) ∧ n ≤ 62 * m ∧ 1 ≤ m := by rw [hm]; unfold needN; split <;> omega
  rw [← hm] at h he hk
  have hkm : k ≤ m := by omega
  obtain ⟨aj, haj⟩ : ∃ aj : Nat → Int, aj = fun (j : Nat) => ((first + j : Nat) : Int) := ⟨_, rfl⟩
  obtain ⟨cj, hcj⟩ : ∃ cj : Nat → Int, cj = fun (j : Nat) => if ar then ca - (j : Int) else ca := ⟨_, rfl⟩
  obtain ⟨nj, hnj⟩ : ∃ nj : Nat → Nat, nj = fun (j : Nat) => n - 62 * j := ⟨_, rfl⟩
  obtain ⟨fj, hfj⟩ : ∃ fj : Nat → Nat → Int, fj = fun (j x : Nat) => f (62 * j + x) := ⟨_, rfl⟩
  obtain ⟨pj, hpj⟩ : ∃ pj : Nat → Nat → Int, pj = fun (j : Nat) => pcs n f j := ⟨_, rfl⟩
  obtain ⟨Lj, hLj⟩ : ∃ Lj : Nat → Int → Option (Nat → Int), Lj = fun (j : Nat) (i : Int) => if (first : Int) ≤ i ∧ i < (first : Int) + (j : Int) then some (pj (i - first).toNat) else L i := ⟨_, rfl⟩
  have a0 : (first : Int) = aj 0 := by rw [haj]; simp
  have n0 : n = nj 0 := by rw [hnj]; simp
  have f0 : ∀ x, f x = fj 0 x := fun x => by rw [hfj]; simp
  have ca0 : ca = cj 0 := by rw [hcj]; simp
  have L0 : ∀ i, L i = Lj 0 i := fun i => by rw [hLj]; simp only []; rw [if_neg (by omega)]
  have Lk : ∀ i, Lj k i = L' i := fun i => by rw [hLj, hL i, hpj]
  have ck : cj k = ca' := by rw [hcj, hc]
  have hkc : ar = true → (k : Int) ≤ ca := fun q => by
    rcases hk with hk | hk
    · rw [q] at hk; cases hk.1
    · omega
  have cjv : ∀ j, j ≤ k → 0 ≤ cj j ∧ cj j ≤ 9223372036854775807 := fun j hj => by
    rw [hcj]; simp only []
    split
    · rename_i q; have := hkc q; omega
    · exact hca
  have cjS : ∀ j, cj (j + 1) = if ar then cj j - 1 else cj j := fun j => by
    rw [hcj]; simp only []
    split <;> omega
  have cj0 : ∀ j, j < k → ¬ (ar = true ∧ cj j = 0) := fun j hj => by
    rw [hcj]; simp only []
    rintro ⟨q1, q2⟩
    rw [if_pos q1] at q2
    have := hkc q1; omega
  have ckz : k < m → ar = true ∧ cj k = 0 := fun q => by
    rcases hk with hk | hk
    · omega
    · refine ⟨hk.1, ?_⟩
      rw [hcj]; simp only []
      rw [if_pos hk.1]; omega
  have cw : ∀ j, j < k → FnTr P G 65 [.ptr 0 0, .int .i64 (aj j), By 64 (pj j)] (DH N S (Lj j) ar (cj j)) 3 (Gives (.lit .i64 0) (DH N S (Lj (j + 1)) ar (cj (j + 1))) 3) := fun j hj => by
    have q := write_ok (P := P) (G := G) (N := N) (s := s) (n := 64) (i := first + j) (S := S) (f := pj j) (L := Lj j) (L' := Lj (j + 1)) (ar := ar) (ca := cj j) (ca' := cj (j + 1)) hP (cj0 j hj) hN hs (by omega) rfl (fun i => by
      rw [hLj]
      simp only []
      by_cases e : i = ((first + j : Nat) : Int)
      · rw [if_pos e, if_pos (by omega), show (i - (first : Int)).toNat = j by omega]
      · rw [if_neg e]
        by_cases e2 : (first : Int) ≤ i ∧ i < (first : Int) + (j : Int)
        · rw [if_pos e2, if_pos (by omega)]
        · rw [if_neg e2, if_neg (by omega)]) (cjS j) (cjv j (by omega))
    rw [haj]
    exact q
  have cz : k < m → FnTr P G 65 [.ptr 0 0, .int .i64 (aj k), By 64 (pj k)] (DH N S (Lj k) ar (cj k)) 3 (Gives (.lit .i64 6) (DH N S (Lj k) ar (cj k)) 3) := fun hj =>
    write_off hP (ckz hj)
  have aS : ∀ j, j < m → aj (j + 1) = aj j + 1 ∧ 0 ≤ aj j ∧ aj j ≤ 4096 := fun j hj => by rw [haj]; simp only []; omega
  have nS : ∀ j, j < m → (nj (j + 1) = nj j - min (nj j) 62 ∧ (nj (j + 1) = 0 ↔ j + 1 = m) ∧ nj j ≤ 65536) := fun j hj => by
    rw [hnj]; simp only []
    refine ⟨by omega, ⟨fun q => ?_, fun q => ?_⟩, by omega⟩ <;> split at hmn <;> omega
  have fS : ∀ j x, fj (j + 1) x = fj j (62 + x) := fun j x => by rw [hfj]; simp only []; congr 1; omega
  have am : aj m = ((first + m : Nat) : Int) := by rw [haj]
  have pS : ∀ j x, x < 64 → pj j x = if x < 62 then (if x < nj j then fj j x else 0) else if x = 62 then ((min (nj j) 62 : Nat) : Int) else if nj j > 62 then 1 else 2 := fun j x hx => by
    rw [hpj, hnj, hfj]; simp only []; unfold pcs
    by_cases e : x < 62
    · rw [if_pos e, if_pos e]
      by_cases e2 : 62 * j + x < n
      · rw [if_pos e2, if_pos (by omega)]
      · rw [if_neg e2, if_neg (by omega)]
    · rw [if_neg e, if_neg e]
      by_cases e2 : x = 62
      · rw [if_pos e2, if_pos e2]
      · rw [if_neg e2, if_neg e2, if_pos (by omega)]
  have m1 : 0 < m := by omega
  obtain ⟨zj, hzj⟩ : ∃ zj : Nat → Nat → Int, zj = fun j x => if x < nj j ∧ x < 62 then fj j x else 0 := ⟨_, rfl⟩
  have zS : ∀ j x, zj j x = if x < nj j ∧ x < 62 then fj j x else 0 := fun j x => by rw [hzj]
  have hSl : SlTy P _ := hP ▸ sl_ty
  clear haj hcj hnj hzj hfj hpj hLj hL hc hmn hk hkc cjv cjS cj0 ckz
  have hT : T.Ok P := hP ▸ T_ok
  refine FnTr.intro (fn := Tryz.f52) (c := bodyOf Tryz.f52) (by rw [hP]; rfl) rfl rfl hT ?_
  generalize hA : Ar.real = A
  generalize hK : Gives _ _ _ = K
  cbv
  refine CS.le hA (c1) [(0, 0), (1, 1), (2, 2)] rfl rfl rfl ?_ ?_ ?_
  iterate 2 ((try cbv) <;> (repeat' (first | exact trivial | exact rfl | apply And.intro | exact fun _ => rfl | (intro _ hle; first | refine chunk_le hA rfl hle rfl ?_ | refine cat_le hA ?_ | refine upd_le hA ?_ | (try cbv)))) <;> (try (subst hA; (try simp only [zn] at *); (try (simp only [Ar.real, NV.val, zo, zt])); first | done | omega | decide | exact zi | (refine ⟨?_, ?_⟩ <;> first | omega | decide | exact zi))))
  cbv
  have k1 : A.gt (A.i2 n) 65536 = false := by subst hA; simp [Ar.real]; omega
  repeat' (first | (refine ⟨fun h => absurd (h.symm.trans k1) (by decide), fun _ => ?_⟩; cbv) | (refine ⟨fun _ => ?_, fun h => absurd (h.symm.trans k1) (by decide)⟩; cbv))
  refine CS.le hA (c2) [] rfl rfl rfl ?_ ?_ ?_
  iterate 2 ((try cbv) <;> (repeat' (first | exact trivial | exact rfl | apply And.intro | exact fun _ => rfl | (intro _ hle; first | refine chunk_le hA rfl hle rfl ?_ | refine cat_le hA ?_ | refine upd_le hA ?_ | (try cbv)))) <;> (try (subst hA; (try simp only [zn] at *); (try (simp only [Ar.real, NV.val, zo, zt])); first | done | omega | decide | exact zi | (refine ⟨?_, ?_⟩ <;> first | omega | decide | exact zi))))
  cbv
  have k2 : A.gt (m : Int) (A.sub (fin : Int) (first : Int)) = false := by subst hA; simp only [zn] at *; simp [Ar.real]; omega
  refine ⟨(by (subst hA; (try simp only [zn] at *); (try (simp only [Ar.real, NV.val, zo, zt])); first | done | omega | decide | exact zi | (refine ⟨?_, ?_⟩ <;> first | omega | decide | exact zi))), ?_⟩
  repeat' (first | (refine ⟨fun h => absurd (h.symm.trans k2) (by decide), fun _ => ?_⟩; cbv) | (refine ⟨fun _ => ?_, fun h => absurd (h.symm.trans k2) (by decide)⟩; cbv))
  refine CS.le hA (c3) [] rfl rfl rfl ?_ ?_ ?_
  iterate 2 ((try cbv) <;> (repeat' (first | exact trivial | exact rfl | apply And.intro | exact fun _ => rfl | (intro _ hle; first | refine chunk_le hA rfl hle rfl ?_ | refine cat_le hA ?_ | refine upd_le hA ?_ | (try cbv)))) <;> (try (subst hA; (try simp only [zn] at *); (try (simp only [Ar.real, NV.val, zo, zt])); first | done | omega | decide | exact zi | (refine ⟨?_, ?_⟩ <;> first | omega | decide | exact zi))))
  cbv
  refine FS.run hA (fn := Tryz.f90) (body := bodyOf Tryz.f90) (by rw [hP]; rfl) rfl rfl rfl hT rfl ?_
  intro l
  cbv
  clear c1 c2 c3 k1 k2 hN hs hca
  refine LS.leU hT hA 32 (fun _ => []) [] (fun j => [(0, .cells 58 [.sl 1 1 (.l 0) (.s N), .mp 2, .bs ar, .int .i64 (cj j)]), (2, .wm 64 (Lj j)), (27, .cells 3 [.int .i64 (aj j)]), (30, .cells 22 [By (nj j) (fj j)])]) (fun j => j ≤ k ∧ j < m) (fun j => m - j) 0 [] rfl rfl ?_ ?_ ?_
  · (try cbv) <;> (repeat' (first | exact trivial | exact rfl | apply And.intro | exact fun _ => rfl | (intro _ hle; first | refine chunk_le hA rfl hle rfl ?_ | refine cat_le hA ?_ | refine upd_le hA ?_ | (try cbv))))
    all_goals first | exact n0 | exact f0 _ | exact a0 | exact L0 | exact ca0
  · exact ⟨Nat.zero_le _, m1⟩
  · intro R hR j hj
    have hnj := nS j hj.2
    have haj := aS j hj.2
    cbv
    by_cases hl : j + 1 = m
    · refine ⟨⟨(by (subst hA; (try simp only [zn] at *); (try (simp only [Ar.real, NV.val, zo, zt])); first | done | omega | decide | exact zi | (refine ⟨?_, ?_⟩ <;> first | omega | decide | exact zi))), (by (subst hA; (try simp only [zn] at *); (try (simp only [Ar.real, NV.val, zo, zt])); first | done | omega | decide | exact zi | (refine ⟨?_, ?_⟩ <;> first | omega | decide | exact zi))), (by (subst hA; (try simp only [zn] at *); (try (simp only [Ar.real, NV.val, zo, zt])); first | done | omega | decide | exact zi | (refine ⟨?_, ?_⟩ <;> first | omega | decide | exact zi))), (by (subst hA; (try simp only [zn] at *); (try (simp only [Ar.real, NV.val, zo, zt])); first | done | omega | decide | exact zi | (refine ⟨?_, ?_⟩ <;> first | omega | decide | exact zi)))⟩, ⟨(by (subst hA; (try simp only [zn] at *); (try (simp only [Ar.real, NV.val, zo, zt])); first | done | omega | decide | exact zi | (refine ⟨?_, ?_⟩ <;> first | omega | decide | exact zi))), (by (subst hA; (try simp only [zn] at *); (try (simp only [Ar.real, NV.val, zo, zt])); first | done | omega | decide | exact zi | (refine ⟨?_, ?_⟩ <;> first | omega | decide | exact zi))), (by (subst hA; (try simp only [zn] at *); (try (simp only [Ar.real, NV.val, zo, zt])); first | done | omega | decide | exact zi | (refine ⟨?_, ?_⟩ <;> first | omega | decide | exact zi)))⟩, ?_⟩
      refine OS.did (copy_did (S := fun _ => 0) (S' := zj j) hSl rfl rfl rfl rfl (fun e _ => ⟨_, rfl, rfl⟩) rfl (Ints.shift hA (.l 0) (Ints.base .u8 (fj j) (nj j)) (by (subst hA; (try simp only [zn] at *); (try (simp only [Ar.real, NV.val, zo, zt])); first | done | omega | decide | exact zi | (refine ⟨?_, ?_⟩ <;> first | omega | decide | exact zi)))) (by decide) (fun i hi => by
        rw [zS j i]
        by_cases q : i < nj j ∧ i < 62
        · rw [if_pos q, if_pos (by subst hA; simp only [Ar.real, NV.val]; split <;> omega)]
          show fj j i = fj j (0 + (i - 0))
          rw [Nat.sub_zero, Nat.zero_add]
        · rw [if_neg q, if_neg (by subst hA; simp only [Ar.real, NV.val]; split <;> omega)])) ?_
      cbv
      refine ⟨⟨?_, ?_, ?_⟩, ?_⟩
      iterate 3 (subst hA; (try simp only [zn] at *); (try (simp only [Ar.real, NV.val, zo, zt])); first | done | omega | decide | exact zi | (refine ⟨?_, ?_⟩ <;> first | omega | decide | exact zi))
      have k3 : A.gt (A.i2 (A.subN (nj j) (A.nat (A.min (A.i2 (nj j)) 62)))) 0 = false := by subst hA; simp only [Ar.real]; simp; split <;> omega
      repeat' (first | (refine ⟨fun h => absurd (h.symm.trans k3) (by decide), fun _ => ?_⟩; cbv) | (refine ⟨fun _ => ?_, fun h => absurd (h.symm.trans k3) (by decide)⟩; cbv))
      have hp : ∀ e, ltNV A e (.l 64) → leL (leSV A 4) (updF A 1 (.l 63) 0 [.lit .u8 2] (updF A 1 (.l 62) 0 [.int .u8 (A.conv .u8 (A.min (A.i2 (nj j)) 62))] fun e => [.int .u8 (zj j e.val)]) e) [.int .u8 (pj j e.val)] := fun e he => by
        refine Ints.le hA (Ints.updl hA 63 (v := 2) rfl (Ints.updl hA 62 (v := A.conv .u8 (A.min (A.i2 (nj j)) 62)) rfl (Ints.base .u8 (zj j) 64))) he (Nat.le_refl _) ?_
        have hlt : e.val < 64 := ltNV_real.1 (hA ▸ he)
        have hv : A.conv .u8 (A.min (A.i2 (nj j)) 62) = ((min (nj j) 62 : Nat) : Int) := by subst hA; exact conv62 (nj j)
        show (if e.val = 63 then 2 else if e.val = 62 then A.conv .u8 (A.min (A.i2 (nj j)) 62) else zj j e.val) = pj j e.val
        rw [pS j e.val hlt, zS, hv]
        by_cases q1 : e.val < 62
        · rw [if_neg (by omega), if_neg (by omega), if_pos q1]
          by_cases q2 : e.val < nj j
          · rw [if_pos ⟨q2, q1⟩, if_pos q2]
          · rw [if_neg (fun q => q2 q.1), if_neg q2]
        · rw [if_neg q1]
          by_cases q2 : e.val = 62
          · rw [if_neg (by omega), if_pos q2, if_pos q2]
          · rw [if_pos (by omega), if_neg q2, if_neg (by omega)]
      refine OS.yield hA (i := 31) hT rfl rfl rfl rfl rfl rfl ?_
      cbv
      by_cases hjk : j < k
      · skip
        refine CS.frzA hA (by (try cbv) <;> (repeat' (first | exact trivial | exact rfl | apply And.intro | exact fun _ => rfl | (intro _ hle; first | refine chunk_le hA rfl hle rfl ?_ | refine cat_le hA ?_ | refine upd_le hA ?_ | (try cbv)))); all_goals (subst hA; (try simp only [zn] at *); (try (simp only [Ar.real, NV.val, zo, zt])); first | done | omega | decide | exact zi | (refine ⟨?_, ?_⟩ <;> first | omega | decide | exact zi))) ?_
        cbv
        refine CS.le hA (cw j hjk) [(0, 0), (1, 1), (2, 2)] rfl rfl rfl ?_ ?_ ?_
        · (try cbv) <;> (repeat' (first | exact trivial | exact rfl | apply And.intro | exact fun _ => rfl | (intro _ hle; first | exact hp _ hle | refine chunk_le hA rfl hle rfl ?_ | refine cat_le hA ?_ | refine upd_le hA ?_ | refine int_le ?_ | skip)))
        · (try cbv) <;> (repeat' (first | exact trivial | exact rfl | apply And.intro | exact fun _ => rfl | (intro _ hle; first | refine chunk_le hA rfl hle rfl ?_ | refine cat_le hA ?_ | refine upd_le hA ?_ | (try cbv))))
        cbv
        have k4 : A.eq (A.i2 (A.subN (nj j) (A.nat (A.min (A.i2 (nj j)) 62)))) 0 = true := by subst hA; simp only [Ar.real]; simp; split <;> omega
        refine ⟨(by (subst hA; (try simp only [zn] at *); (try (simp only [Ar.real, NV.val, zo, zt])); first | done | omega | decide | exact zi | (refine ⟨?_, ?_⟩ <;> first | omega | decide | exact zi))), ?_⟩
        repeat' (first | (refine ⟨fun h => absurd (h.symm.trans k4) (by decide), fun _ => ?_⟩; cbv) | (refine ⟨fun _ => ?_, fun h => absurd (h.symm.trans k4) (by decide)⟩; cbv))
        clear hR
        have hk' : k = j + 1 := by omega
        have he' : at' = ((first + m : Nat) : Int) ∧ e' = 0 := by
          rcases he with he | he
          · exact he.2
          · omega
        have ha' : aj j + 1 = at' := by rw [← haj.1, hl, am, he'.1]
        rw [hk'] at Lk ck
        refine Fin.le hA 3 [] (.tup [.int .i64 at', .int .i64 e']) (DH N S L' ar ca') 3 rfl rfl rfl ?_ ?_ (by rw [← hK]; exact ⟨rfl, rfl, rfl⟩)
        · (try cbv) <;> (repeat' (first | exact trivial | exact rfl | apply And.intro | exact fun _ => rfl | (intro _ hle; first | refine chunk_le hA rfl hle rfl ?_ | refine cat_le hA ?_ | refine upd_le hA ?_ | (try cbv))))
          · subst hA
            exact ha'
          · exact he'.2.symm
        · (try cbv) <;> (repeat' (first | exact trivial | exact rfl | apply And.intro | exact fun _ => rfl | (intro _ hle; first | refine chunk_le hA rfl hle rfl ?_ | refine cat_le hA ?_ | refine upd_le hA ?_ | (try cbv))))
          all_goals first | exact Lk | exact ck
      · have hjk : j = k := by omega
        have hkm' : k < m := by omega
        have he' : at' = 0 ∧ e' = 6 := by omega
        subst hjk
        refine CS.frzA hA (by (try cbv) <;> (repeat' (first | exact trivial | exact rfl | apply And.intro | exact fun _ => rfl | (intro _ hle; first | refine chunk_le hA rfl hle rfl ?_ | refine cat_le hA ?_ | refine upd_le hA ?_ | (try cbv)))); all_goals (subst hA; (try simp only [zn] at *); (try (simp only [Ar.real, NV.val, zo, zt])); first | done | omega | decide | exact zi | (refine ⟨?_, ?_⟩ <;> first | omega | decide | exact zi))) ?_
        cbv
        refine CS.le hA (cz hkm') [(0, 0), (1, 1), (2, 2)] rfl rfl rfl ?_ ?_ ?_
        · (try cbv) <;> (repeat' (first | exact trivial | exact rfl | apply And.intro | exact fun _ => rfl | (intro _ hle; first | exact hp _ hle | refine chunk_le hA rfl hle rfl ?_ | refine cat_le hA ?_ | refine upd_le hA ?_ | refine int_le ?_ | skip)))
        · (try cbv) <;> (repeat' (first | exact trivial | exact rfl | apply And.intro | exact fun _ => rfl | (intro _ hle; first | refine chunk_le hA rfl hle rfl ?_ | refine cat_le hA ?_ | refine upd_le hA ?_ | (try cbv))))
        cbv
        clear hR
        refine Fin.le hA 3 [] (.tup [.int .i64 at', .int .i64 e']) (DH N S L' ar ca') 3 rfl rfl rfl ?_ ?_ (by rw [← hK]; exact ⟨rfl, rfl, rfl⟩)
        · (try cbv) <;> (repeat' (first | exact trivial | exact rfl | apply And.intro | exact fun _ => rfl | (intro _ hle; first | refine chunk_le hA rfl hle rfl ?_ | refine cat_le hA ?_ | refine upd_le hA ?_ | (try cbv))))
          · exact he'.1.symm
          · exact he'.2.symm
        · (try cbv) <;> (repeat' (first | exact trivial | exact rfl | apply And.intro | exact fun _ => rfl | (intro _ hle; first | refine chunk_le hA rfl hle rfl ?_ | refine cat_le hA ?_ | refine upd_le hA ?_ | (try cbv))))
          all_goals first | exact Lk | exact ck
    · refine ⟨⟨(by (subst hA; (try simp only [zn] at *); (try (simp only [Ar.real, NV.val, zo, zt])); first | done | omega | decide | exact zi | (refine ⟨?_, ?_⟩ <;> first | omega | decide | exact zi))), (by (subst hA; (try simp only [zn] at *); (try (simp only [Ar.real, NV.val, zo, zt])); first | done | omega | decide | exact zi | (refine ⟨?_, ?_⟩ <;> first | omega | decide | exact zi))), (by (subst hA; (try simp only [zn] at *); (try (simp only [Ar.real, NV.val, zo, zt])); first | done | omega | decide | exact zi | (refine ⟨?_, ?_⟩ <;> first | omega | decide | exact zi))), (by (subst hA; (try simp only [zn] at *); (try (simp only [Ar.real, NV.val, zo, zt])); first | done | omega | decide | exact zi | (refine ⟨?_, ?_⟩ <;> first | omega | decide | exact zi)))⟩, ⟨(by (subst hA; (try simp only [zn] at *); (try (simp only [Ar.real, NV.val, zo, zt])); first | done | omega | decide | exact zi | (refine ⟨?_, ?_⟩ <;> first | omega | decide | exact zi))), (by (subst hA; (try simp only [zn] at *); (try (simp only [Ar.real, NV.val, zo, zt])); first | done | omega | decide | exact zi | (refine ⟨?_, ?_⟩ <;> first | omega | decide | exact zi))), (by (subst hA; (try simp only [zn] at *); (try (simp only [Ar.real, NV.val, zo, zt])); first | done | omega | decide | exact zi | (refine ⟨?_, ?_⟩ <;> first | omega | decide | exact zi)))⟩, ?_⟩
      refine OS.did (copy_did (S := fun _ => 0) (S' := zj j) hSl rfl rfl rfl rfl (fun e _ => ⟨_, rfl, rfl⟩) rfl (Ints.shift hA (.l 0) (Ints.base .u8 (fj j) (nj j)) (by (subst hA; (try simp only [zn] at *); (try (simp only [Ar.real, NV.val, zo, zt])); first | done | omega | decide | exact zi | (refine ⟨?_, ?_⟩ <;> first | omega | decide | exact zi)))) (by decide) (fun i hi => by
        rw [zS j i]
        by_cases q : i < nj j ∧ i < 62
        · rw [if_pos q, if_pos (by subst hA; simp only [Ar.real, NV.val]; split <;> omega)]
          show fj j i = fj j (0 + (i - 0))
          rw [Nat.sub_zero, Nat.zero_add]
        · rw [if_neg q, if_neg (by subst hA; simp only [Ar.real, NV.val]; split <;> omega)])) ?_
      cbv
      refine ⟨⟨?_, ?_, ?_⟩, ?_⟩
      iterate 3 (subst hA; (try simp only [zn] at *); (try (simp only [Ar.real, NV.val, zo, zt])); first | done | omega | decide | exact zi | (refine ⟨?_, ?_⟩ <;> first | omega | decide | exact zi))
      have k3 : A.gt (A.i2 (A.subN (nj j) (A.nat (A.min (A.i2 (nj j)) 62)))) 0 = true := by subst hA; simp only [Ar.real]; simp; split <;> omega
      repeat' (first | (refine ⟨fun h => absurd (h.symm.trans k3) (by decide), fun _ => ?_⟩; cbv) | (refine ⟨fun _ => ?_, fun h => absurd (h.symm.trans k3) (by decide)⟩; cbv))
      have hp : ∀ e, ltNV A e (.l 64) → leL (leSV A 4) (updF A 1 (.l 63) 0 [.lit .u8 1] (updF A 1 (.l 63) 0 [.lit .u8 2] (updF A 1 (.l 62) 0 [.int .u8 (A.conv .u8 (A.min (A.i2 (nj j)) 62))] fun e => [.int .u8 (zj j e.val)])) e) [.int .u8 (pj j e.val)] := fun e he => by
        refine Ints.le hA (Ints.updl hA 63 (v := 1) rfl (Ints.updl hA 63 (v := 2) rfl (Ints.updl hA 62 (v := A.conv .u8 (A.min (A.i2 (nj j)) 62)) rfl (Ints.base .u8 (zj j) 64)))) he (Nat.le_refl _) ?_
        have hlt : e.val < 64 := ltNV_real.1 (hA ▸ he)
        have hv : A.conv .u8 (A.min (A.i2 (nj j)) 62) = ((min (nj j) 62 : Nat) : Int) := by subst hA; exact conv62 (nj j)
        show (if e.val = 63 then 1 else if e.val = 63 then 2 else if e.val = 62 then A.conv .u8 (A.min (A.i2 (nj j)) 62) else zj j e.val) = pj j e.val
        rw [pS j e.val hlt, zS, hv]
        by_cases q1 : e.val < 62
        · rw [if_neg (by omega), if_neg (by omega), if_neg (by omega), if_pos q1]
          by_cases q2 : e.val < nj j
          · rw [if_pos ⟨q2, q1⟩, if_pos q2]
          · rw [if_neg (fun q => q2 q.1), if_neg q2]
        · rw [if_neg q1]
          by_cases q2 : e.val = 62
          · rw [if_neg (by omega), if_neg (by omega), if_pos q2, if_pos q2]
          · rw [if_pos (by omega), if_neg q2, if_pos (by omega)]
      refine OS.yield hA (i := 31) hT rfl rfl rfl rfl rfl rfl ?_
      cbv
      by_cases hjk : j < k
      · skip
        refine CS.frzA hA (by (try cbv) <;> (repeat' (first | exact trivial | exact rfl | apply And.intro | exact fun _ => rfl | (intro _ hle; first | refine chunk_le hA rfl hle rfl ?_ | refine cat_le hA ?_ | refine upd_le hA ?_ | (try cbv)))); all_goals (subst hA; (try simp only [zn] at *); (try (simp only [Ar.real, NV.val, zo, zt])); first | done | omega | decide | exact zi | (refine ⟨?_, ?_⟩ <;> first | omega | decide | exact zi))) ?_
        cbv
        refine CS.le hA (cw j hjk) [(0, 0), (1, 1), (2, 2)] rfl rfl rfl ?_ ?_ ?_
        · (try cbv) <;> (repeat' (first | exact trivial | exact rfl | apply And.intro | exact fun _ => rfl | (intro _ hle; first | exact hp _ hle | refine chunk_le hA rfl hle rfl ?_ | refine cat_le hA ?_ | refine upd_le hA ?_ | refine int_le ?_ | skip)))
        · (try cbv) <;> (repeat' (first | exact trivial | exact rfl | apply And.intro | exact fun _ => rfl | (intro _ hle; first | refine chunk_le hA rfl hle rfl ?_ | refine cat_le hA ?_ | refine upd_le hA ?_ | (try cbv))))
        cbv
        have k4 : A.eq (A.i2 (A.subN (nj j) (A.nat (A.min (A.i2 (nj j)) 62)))) 0 = false := by subst hA; simp only [Ar.real]; simp; split <;> omega
        refine ⟨(by (subst hA; (try simp only [zn] at *); (try (simp only [Ar.real, NV.val, zo, zt])); first | done | omega | decide | exact zi | (refine ⟨?_, ?_⟩ <;> first | omega | decide | exact zi))), ?_⟩
        repeat' (first | (refine ⟨fun h => absurd (h.symm.trans k4) (by decide), fun _ => ?_⟩; cbv) | (refine ⟨fun _ => ?_, fun h => absurd (h.symm.trans k4) (by decide)⟩; cbv))
        refine hR _ _ ⟨j + 1, 32, [], rfl, rfl, ?_, ⟨hjk, by omega⟩, (by show m - (j + 1) < m - j; omega)⟩
        clear hR
        have hbig : 62 < nj j := by omega
        have e62 : A.nat (A.min (A.i2 (nj j)) 62) = 62 := by subst hA; simp only [Ar.real]; split <;> omega
        (try cbv) <;> (repeat' (first | exact trivial | exact rfl | apply And.intro | exact fun _ => rfl | (intro _ hle; first | refine chunk_le hA rfl hle rfl ?_ | refine cat_le hA ?_ | refine upd_le hA ?_ | refine int_le ?_ | skip)))
        · have q : A.subN (nj j) (A.nat (A.min (A.i2 (nj j)) 62)) = nj (j + 1) := by
            rw [e62]
            subst hA
            show nj j - 62 = nj (j + 1)
            omega
          exact q
        · rw [e62, fS]
          subst hA
          congr 1
        · subst hA
          exact haj.1.symm
      · have hjk : j = k := by omega
        have hkm' : k < m := by omega
        have he' : at' = 0 ∧ e' = 6 := by omega
        subst hjk
        refine CS.frzA hA (by (try cbv) <;> (repeat' (first | exact trivial | exact rfl | apply And.intro | exact fun _ => rfl | (intro _ hle; first | refine chunk_le hA rfl hle rfl ?_ | refine cat_le hA ?_ | refine upd_le hA ?_ | (try cbv)))); all_goals (subst hA; (try simp only [zn] at *); (try (simp only [Ar.real, NV.val, zo, zt])); first | done | omega | decide | exact zi | (refine ⟨?_, ?_⟩ <;> first | omega | decide | exact zi))) ?_
        cbv
        refine CS.le hA (cz hkm') [(0, 0), (1, 1), (2, 2)] rfl rfl rfl ?_ ?_ ?_
        · (try cbv) <;> (repeat' (first | exact trivial | exact rfl | apply And.intro | exact fun _ => rfl | (intro _ hle; first | exact hp _ hle | refine chunk_le hA rfl hle rfl ?_ | refine cat_le hA ?_ | refine upd_le hA ?_ | refine int_le ?_ | skip)))
        · (try cbv) <;> (repeat' (first | exact trivial | exact rfl | apply And.intro | exact fun _ => rfl | (intro _ hle; first | refine chunk_le hA rfl hle rfl ?_ | refine cat_le hA ?_ | refine upd_le hA ?_ | (try cbv))))
        cbv
        clear hR
        refine Fin.le hA 3 [] (.tup [.int .i64 at', .int .i64 e']) (DH N S L' ar ca') 3 rfl rfl rfl ?_ ?_ (by rw [← hK]; exact ⟨rfl, rfl, rfl⟩)
        · (try cbv) <;> (repeat' (first | exact trivial | exact rfl | apply And.intro | exact fun _ => rfl | (intro _ hle; first | refine chunk_le hA rfl hle rfl ?_ | refine cat_le hA ?_ | refine upd_le hA ?_ | (try cbv))))
          · exact he'.1.symm
          · exact he'.2.symm
        · (try cbv) <;> (repeat' (first | exact trivial | exact rfl | apply And.intro | exact fun _ => rfl | (intro _ hle; first | refine chunk_le hA rfl hle rfl ?_ | refine cat_le hA ?_ | refine upd_le hA ?_ | (try cbv))))
          all_goals first | exact Lk | exact ck
end Go.Proofs.YtnjjgipblimbfaaGreatDoor.Dsk
namespace Go.Proofs.YtnjjgipblimbfaaGreatDoor.Dsk
open Go.Eng
open Go.DskLaw (q64 secV needN pcs padOk isB)
set_option maxRecDepth 100000
set_option maxHeartbeats 4000000
theorem wrap_by {x : Int} (h : 0 ≤ x ∧ x ≤ 255) : IntKind.i64.wrap x = x := by
  simp [IntKind.wrap, IntKind.bits, IntKind.signed]; omega
theorem used_bad {P : Program} {G : Gl} (hP : P = Tryz.prog) {m : Nat} {v : Nat → Int} (hm : m = 64) (hv : isB v) (h : ¬ padOk v) :
    FnTr P G 84 [By m v] [] 0 (Gives (.tup [.nils, .bl false, .bl false]) [] 0) := by
  have h62 := hv 62 (by omega)
  have h63 := hv 63 (by omega)
  have hw := wrap_by h62
  by_cases h0 : 62 < v 62
  · skip
    have hT : T.Ok P := hP ▸ T_ok
    refine FnTr.intro (fn := Tryz.f84) (c := bodyOf Tryz.f84) (by rw [hP]; rfl) rfl rfl hT ?_
    generalize hA : Ar.real = A
    generalize hK : Gives _ _ _ = K
    cbv
    refine DS.runK hA hT (by rw [hP]; exact P_mixed) 1 rfl ?_
    cbv
    refine ⟨?_, ?_, ?_⟩
    iterate 2 (subst hA; (try simp only [zn] at *); (try (simp only [Ar.real, NV.val, zo, zt])); first | done | omega | decide | exact zi | (refine ⟨?_, ?_⟩ <;> first | omega | decide | exact zi))
    refine DF.fin (by kernel_rfl) (by kernel_rfl) ?_
    cbv
    have k1 : A.gt (A.conv .i64 (v 62)) 62 = true := by subst hA; show decide (IntKind.i64.wrap (v 62) > 62) = true; rw [hw]; simpa using h0
    repeat' (first | (refine ⟨fun h => absurd (h.symm.trans k1) (by decide), fun _ => ?_⟩; cbv) | (refine ⟨fun _ => ?_, fun h => absurd (h.symm.trans k1) (by decide)⟩; cbv))
    refine Fin.le hA 0 [] (.tup [.nils, .bl false, .bl false]) ([]) 0 rfl rfl rfl ?_ ?_ (by rw [← hK]; exact ⟨rfl, rfl, rfl⟩)
    iterate 2 ((try cbv) <;> (repeat' (first | exact trivial | exact rfl | apply And.intro | exact fun _ => rfl | (intro _ hle; first | refine chunk_le hA rfl hle rfl ?_ | refine cat_le hA ?_ | refine upd_le hA ?_ | (try cbv)))))
  · obtain ⟨n, hn⟩ : ∃ n, n = (v 62).toNat := ⟨_, rfl⟩
    obtain ⟨q, hq⟩ : ∃ q, q = 62 - n := ⟨_, rfl⟩
    obtain ⟨w, hw2⟩ : ∃ w : Nat → Int, w = fun x => v (n + x) := ⟨_, rfl⟩
    have c1 := blank_fn (P := P) (G := G) (n := q) (f := w) (r := false) hP (by omega) ⟨fun e => (by cases e), fun e => by
      exfalso
      refine h ⟨by omega, fun x hx1 hx2 => ?_⟩
      rw [← hn] at hx1
      have := e (x - n) (by omega)
      rw [hw2] at this
      simp only [] at this
      rwa [show n + (x - n) = x by omega] at this⟩
    have hwv : ∀ x, w x = v (n + x) := fun x => by rw [hw2]
    clear h hw2
    have hT : T.Ok P := hP ▸ T_ok
    refine FnTr.intro (fn := Tryz.f84) (c := bodyOf Tryz.f84) (by rw [hP]; rfl) rfl rfl hT ?_
    generalize hA : Ar.real = A
    generalize hK : Gives _ _ _ = K
    cbv
    refine DS.runK hA hT (by rw [hP]; exact P_mixed) 1 rfl ?_
    cbv
    refine ⟨?_, ?_, ?_⟩
    iterate 2 (subst hA; (try simp only [zn] at *); (try (simp only [Ar.real, NV.val, zo, zt])); first | done | omega | decide | exact zi | (refine ⟨?_, ?_⟩ <;> first | omega | decide | exact zi))
    refine DF.fin (by kernel_rfl) (by kernel_rfl) ?_
    cbv
    have kc : A.conv .i64 (v 62) = v 62 := by subst hA; exact hw
    have k1 : A.gt (A.conv .i64 (v 62)) 62 = false := by rw [kc]; subst hA; simp [Ar.real]; omega
    repeat' (first | (refine ⟨fun h => absurd (h.symm.trans k1) (by decide), fun _ => ?_⟩; cbv) | (refine ⟨fun _ => ?_, fun h => absurd (h.symm.trans k1) (by decide)⟩; cbv))
    have kn : A.nat (A.conv .i64 (v 62)) = n := by rw [kc]; subst hA; exact hn.symm
    refine ⟨⟨?_, ?_, ?_, ?_⟩, ?_⟩
    · have : A.nn (A.conv .i64 (v 62)) := by rw [kc]; subst hA; exact h62.1
      exact this
    · subst hA
      show 0 ≤ (62 : Int)
      decide
    · have : A.leN (A.nat (A.conv .i64 (v 62))) 62 := by rw [kn]; subst hA; show n ≤ 62; omega
      exact this
    · subst hA
      show 62 ≤ m
      omega
    have hp : ∀ e, ltNV A e (.s (A.subN 62 (A.nat (A.conv .i64 (v 62))))) → leL (leSV A 4) [.int .u8 (v (addNV A (.s (A.nat (A.conv .i64 (v 62)))) e).val)] [.int .u8 (w e.val)] := fun e he => by
      rw [kn]
      refine int_le ?_
      rw [hwv]
      subst hA
      cases e <;> rfl
    refine CS.leR hA c1 (.bl false) [] rfl rfl rfl ?_ ?_ ?_ ?_
    · (try cbv) <;> (repeat' (first | exact trivial | exact rfl | apply And.intro | exact fun _ => rfl | (intro _ hle; first | exact hp _ hle | refine chunk_le hA rfl hle rfl ?_ | refine cat_le hA ?_ | refine upd_le hA ?_ | refine int_le ?_ | skip)))
      have : A.subN 62 (A.nat (A.conv .i64 (v 62))) = q := by rw [kn, hq]; subst hA; rfl
      exact this
    iterate 2 ((try cbv) <;> (repeat' (first | exact trivial | exact rfl | apply And.intro | exact fun _ => rfl | (intro _ hle; first | refine chunk_le hA rfl hle rfl ?_ | refine cat_le hA ?_ | refine upd_le hA ?_ | (try cbv)))))
    cbv
    refine Fin.le hA 0 [] (.tup [.nils, .bl false, .bl false]) ([]) 0 rfl rfl rfl ?_ ?_ (by rw [← hK]; exact ⟨rfl, rfl, rfl⟩)
    iterate 2 ((try cbv) <;> (repeat' (first | exact trivial | exact rfl | apply And.intro | exact fun _ => rfl | (intro _ hle; first | refine chunk_le hA rfl hle rfl ?_ | refine cat_le hA ?_ | refine upd_le hA ?_ | (try cbv)))))
theorem used_on {P : Program} {G : Gl} (hP : P = Tryz.prog) {m n : Nat} {v : Nat → Int} {r : Bool} (hm : m = 64) (hv : isB v) (h : padOk v) (hn : n = (v 62).toNat) (h1 : v 63 = 1) (hr : r = true ↔ n = 62) :
    FnTr P G 84 [By m v] [] 0 (Gives (.tup [By n v, .bl true, .bs r]) [] 0) := by
  have h62 := hv 62 (by omega)
  have h63 := hv 63 (by omega)
  have hw := wrap_by h62
  have hle := h.1
  obtain ⟨q, hq⟩ : ∃ q, q = 62 - n := ⟨_, rfl⟩
  obtain ⟨w, hw2⟩ : ∃ w : Nat → Int, w = fun x => v (n + x) := ⟨_, rfl⟩
  have c1 := blank_fn (P := P) (G := G) (n := q) (f := w) (r := true) hP (by omega) ⟨fun _ x hx => by rw [hw2]; exact h.2 _ (by omega) (by omega), fun _ => rfl⟩
  have hwv : ∀ x, w x = v (n + x) := fun x => by rw [hw2]
  clear h hw2
  have hT : T.Ok P := hP ▸ T_ok
  refine FnTr.intro (fn := Tryz.f84) (c := bodyOf Tryz.f84) (by rw [hP]; rfl) rfl rfl hT ?_
  generalize hA : Ar.real = A
  generalize hK : Gives _ _ _ = K
  cbv
  refine DS.runK hA hT (by rw [hP]; exact P_mixed) 1 rfl ?_
  cbv
  refine ⟨?_, ?_, ?_⟩
  iterate 2 (subst hA; (try simp only [zn] at *); (try (simp only [Ar.real, NV.val, zo, zt])); first | done | omega | decide | exact zi | (refine ⟨?_, ?_⟩ <;> first | omega | decide | exact zi))
  refine DF.fin (by kernel_rfl) (by kernel_rfl) ?_
  cbv
  have kc : A.conv .i64 (v 62) = v 62 := by subst hA; exact hw
  have k1 : A.gt (A.conv .i64 (v 62)) 62 = false := by rw [kc]; subst hA; simp [Ar.real]; omega
  repeat' (first | (refine ⟨fun h => absurd (h.symm.trans k1) (by decide), fun _ => ?_⟩; cbv) | (refine ⟨fun _ => ?_, fun h => absurd (h.symm.trans k1) (by decide)⟩; cbv))
  have kn : A.nat (A.conv .i64 (v 62)) = n := by rw [kc]; subst hA; exact hn.symm
  refine ⟨⟨?_, ?_, ?_, ?_⟩, ?_⟩
  · have : A.nn (A.conv .i64 (v 62)) := by rw [kc]; subst hA; exact h62.1
    exact this
  · subst hA
    show 0 ≤ (62 : Int)
    decide
  · have : A.leN (A.nat (A.conv .i64 (v 62))) 62 := by rw [kn]; subst hA; show n ≤ 62; omega
    exact this
  · subst hA
    show 62 ≤ m
    omega
  have hp : ∀ e, ltNV A e (.s (A.subN 62 (A.nat (A.conv .i64 (v 62))))) → leL (leSV A 4) [.int .u8 (v (addNV A (.s (A.nat (A.conv .i64 (v 62)))) e).val)] [.int .u8 (w e.val)] := fun e he => by
    rw [kn]
    refine int_le ?_
    rw [hwv]
    subst hA
    cases e <;> rfl
  refine CS.leR hA c1 (.bl true) [] rfl rfl rfl ?_ ?_ ?_ ?_
  · (try cbv) <;> (repeat' (first | exact trivial | exact rfl | apply And.intro | exact fun _ => rfl | (intro _ hle; first | exact hp _ hle | refine chunk_le hA rfl hle rfl ?_ | refine cat_le hA ?_ | refine upd_le hA ?_ | refine int_le ?_ | skip)))
    have : A.subN 62 (A.nat (A.conv .i64 (v 62))) = q := by rw [kn, hq]; subst hA; rfl
    exact this
  iterate 2 ((try cbv) <;> (repeat' (first | exact trivial | exact rfl | apply And.intro | exact fun _ => rfl | (intro _ hle; first | refine chunk_le hA rfl hle rfl ?_ | refine cat_le hA ?_ | refine upd_le hA ?_ | (try cbv)))))
  cbv
  have k2 : A.eq (v 63) 1 = true := by subst hA; simpa [Ar.real] using h1
  repeat' (first | (refine ⟨fun h => absurd (h.symm.trans k2) (by decide), fun _ => ?_⟩; cbv) | (refine ⟨fun _ => ?_, fun h => absurd (h.symm.trans k2) (by decide)⟩; cbv))
  refine ⟨⟨?_, ?_, ?_⟩, ?_⟩
  · have : A.nn (A.conv .i64 (v 62)) := by rw [kc]; subst hA; exact h62.1
    exact this
  · have : A.leN 0 (A.nat (A.conv .i64 (v 62))) := by subst hA; exact Nat.zero_le _
    exact this
  · have : A.leN (A.nat (A.conv .i64 (v 62))) m := by rw [kn]; subst hA; show n ≤ m; omega
    exact this
  have hpn : A.subN (A.nat (A.conv .i64 (v 62))) 0 = n := by rw [kn]; subst hA; rfl
  have k3 : A.eq (A.conv .i64 (v 62)) 62 = r := by
    rw [kc]
    subst hA
    rw [Bool.eq_iff_iff, hr]
    simp only [Ar.real, beq_iff_eq]
    omega
  refine Fin.le hA 0 [] (.tup [By n v, .bl true, .bs r]) ([]) 0 rfl rfl rfl ?_ ?_ (by rw [← hK]; exact ⟨rfl, rfl, rfl⟩)
  · (try cbv) <;> (repeat' (first | exact trivial | exact rfl | apply And.intro | exact fun _ => rfl | (intro _ hle; first | refine chunk_le hA rfl hle rfl ?_ | refine cat_le hA ?_ | refine upd_le hA ?_ | refine int_le ?_ | skip)))
    · exact hpn
    · exact k3
  · (try cbv) <;> (repeat' (first | exact trivial | exact rfl | apply And.intro | exact fun _ => rfl | (intro _ hle; first | refine chunk_le hA rfl hle rfl ?_ | refine cat_le hA ?_ | refine upd_le hA ?_ | (try cbv))))
theorem used_end {P : Program} {G : Gl} (hP : P = Tryz.prog) {m n : Nat} {v : Nat → Int} {r : Bool} (hm : m = 64) (hv : isB v) (h : padOk v) (hn : n = (v 62).toNat) (h1 : v 63 ≠ 1) (hr : r = true ↔ v 63 = 2) :
    FnTr P G 84 [By m v] [] 0 (Gives (.tup [By n v, .bl false, .bs r]) [] 0) := by
  have h62 := hv 62 (by omega)
  have h63 := hv 63 (by omega)
  have hw := wrap_by h62
  have hle := h.1
  obtain ⟨q, hq⟩ : ∃ q, q = 62 - n := ⟨_, rfl⟩
  obtain ⟨w, hw2⟩ : ∃ w : Nat → Int, w = fun x => v (n + x) := ⟨_, rfl⟩
  have c1 := blank_fn (P := P) (G := G) (n := q) (f := w) (r := true) hP (by omega) ⟨fun _ x hx => by rw [hw2]; exact h.2 _ (by omega) (by omega), fun _ => rfl⟩
  have hwv : ∀ x, w x = v (n + x) := fun x => by rw [hw2]
  clear h hw2
  have hT : T.Ok P := hP ▸ T_ok
  refine FnTr.intro (fn := Tryz.f84) (c := bodyOf Tryz.f84) (by rw [hP]; rfl) rfl rfl hT ?_
  generalize hA : Ar.real = A
  generalize hK : Gives _ _ _ = K
  cbv
  refine DS.runK hA hT (by rw [hP]; exact P_mixed) 1 rfl ?_
  cbv
  refine ⟨?_, ?_, ?_⟩
  iterate 2 (subst hA; (try simp only [zn] at *); (try (simp only [Ar.real, NV.val, zo, zt])); first | done | omega | decide | exact zi | (refine ⟨?_, ?_⟩ <;> first | omega | decide | exact zi))
  refine DF.fin (by kernel_rfl) (by kernel_rfl) ?_
  cbv
  have kc : A.conv .i64 (v 62) = v 62 := by subst hA; exact hw
  have k1 : A.gt (A.conv .i64 (v 62)) 62 = false := by rw [kc]; subst hA; simp [Ar.real]; omega
  repeat' (first | (refine ⟨fun h => absurd (h.symm.trans k1) (by decide), fun _ => ?_⟩; cbv) | (refine ⟨fun _ => ?_, fun h => absurd (h.symm.trans k1) (by decide)⟩; cbv))
  have kn : A.nat (A.conv .i64 (v 62)) = n := by rw [kc]; subst hA; exact hn.symm
  refine ⟨⟨?_, ?_, ?_, ?_⟩, ?_⟩
  · have : A.nn (A.conv .i64 (v 62)) := by rw [kc]; subst hA; exact h62.1
    exact this
  · subst hA
    show 0 ≤ (62 : Int)
    decide
  · have : A.leN (A.nat (A.conv .i64 (v 62))) 62 := by rw [kn]; subst hA; show n ≤ 62; omega
    exact this
  · subst hA
    show 62 ≤ m
    omega
  have hp : ∀ e, ltNV A e (.s (A.subN 62 (A.nat (A.conv .i64 (v 62))))) → leL (leSV A 4) [.int .u8 (v (addNV A (.s (A.nat (A.conv .i64 (v 62)))) e).val)] [.int .u8 (w e.val)] := fun e he => by
    rw [kn]
    refine int_le ?_
    rw [hwv]
    subst hA
    cases e <;> rfl
  refine CS.leR hA c1 (.bl true) [] rfl rfl rfl ?_ ?_ ?_ ?_
  · (try cbv) <;> (repeat' (first | exact trivial | exact rfl | apply And.intro | exact fun _ => rfl | (intro _ hle; first | exact hp _ hle | refine chunk_le hA rfl hle rfl ?_ | refine cat_le hA ?_ | refine upd_le hA ?_ | refine int_le ?_ | skip)))
    have : A.subN 62 (A.nat (A.conv .i64 (v 62))) = q := by rw [kn, hq]; subst hA; rfl
    exact this
  iterate 2 ((try cbv) <;> (repeat' (first | exact trivial | exact rfl | apply And.intro | exact fun _ => rfl | (intro _ hle; first | refine chunk_le hA rfl hle rfl ?_ | refine cat_le hA ?_ | refine upd_le hA ?_ | (try cbv)))))
  cbv
  have k2 : A.eq (v 63) 1 = false := by subst hA; simpa [Ar.real] using h1
  repeat' (first | (refine ⟨fun h => absurd (h.symm.trans k2) (by decide), fun _ => ?_⟩; cbv) | (refine ⟨fun _ => ?_, fun h => absurd (h.symm.trans k2) (by decide)⟩; cbv))
  refine ⟨⟨?_, ?_, ?_⟩, ?_⟩
  · have : A.nn (A.conv .i64 (v 62)) := by rw [kc]; subst hA; exact h62.1
    exact this
  · have : A.leN 0 (A.nat (A.conv .i64 (v 62))) := by subst hA; exact Nat.zero_le _
    exact this
  · have : A.leN (A.nat (A.conv .i64 (v 62))) m := by rw [kn]; subst hA; show n ≤ m; omega
    exact this
  have hpn : A.subN (A.nat (A.conv .i64 (v 62))) 0 = n := by rw [kn]; subst hA; rfl
  have k3 : A.eq (v 63) 2 = r := by
    subst hA
    rw [Bool.eq_iff_iff, hr]
    simp only [Ar.real, beq_iff_eq]
  refine Fin.le hA 0 [] (.tup [By n v, .bl false, .bs r]) ([]) 0 rfl rfl rfl ?_ ?_ (by rw [← hK]; exact ⟨rfl, rfl, rfl⟩)
  · (try cbv) <;> (repeat' (first | exact trivial | exact rfl | apply And.intro | exact fun _ => rfl | (intro _ hle; first | refine chunk_le hA rfl hle rfl ?_ | refine cat_le hA ?_ | refine upd_le hA ?_ | refine int_le ?_ | skip)))
    · exact hpn
    · exact k3
  · (try cbv) <;> (repeat' (first | exact trivial | exact rfl | apply And.intro | exact fun _ => rfl | (intro _ hle; first | refine chunk_le hA rfl hle rfl ?_ | refine cat_le hA ?_ | refine upd_le hA ?_ | (try cbv))))
end Go.Proofs.YtnjjgipblimbfaaGreatDoor.Dsk
namespace Go.Proofs.YtnjjgipblimbfaaGreatDoor.Dsk
open Go.Eng
open Go.DskLaw (q64 secV needN pcs padOk isB usedP getP usedP_none1 usedP_on usedP_none2 usedP_end usedP_none3 getP_stop getP_none getP_long getP_empty getP_on getP_end)
set_option maxRecDepth 100000
set_option maxHeartbeats 4000000
theorem get_own {P : Program} {G : Gl} {K : SV → Hl → Nat → Prop} (hP : P = Tryz.prog) {N s first fin : Nat} {S f0 : Nat → Int} {L : Int → Option (Nat → Int)} {ar : Bool} {ca : Int} {V : Nat → Nat → Int} {R0 : Option (Nat × (Nat → Int) × Nat)} (hN : N = 64 * s) (hs : s ≤ 4096)
    (h : first ≤ fin ∧ fin ≤ s) (ho : ¬ (ar = true ∧ ca = 0)) (hV : ∀ i, i < s → V i = secV S L i ∧ isB (V i)) (hR0 : getP V first fin (fin - first) first 0 f0 = R0)
    (hK1 : ∀ n f next, R0 = some (n, f, next) → K (.tup [.sl 3 1 (.l 0) (.s n), .int .i64 (next : Int), .lit .i64 0]) ((3, .row 5 1 (.s n) (fun e => [.int .u8 (f e.val)])) :: DH N S L ar ca) 4)
    (hK0 : R0 = none → K (.tup [.nils, .lit .i64 0, .lit .i64 4]) (DH N S L ar ca) 3) :
    FnTr P G 59 [.ptr 0 0, .int .i64 (first : Int), .int .i64 (fin : Int)] (DH N S L ar ca) 3 K := by
  have c1 := sasked_ok (P := P) (G := G) (S := S) (L := L) (ar := ar) (ca := ca) (a := (first : Int)) (b := (fin : Int)) hP hN hs (by omega)
  have c2 := off_fn (P := P) (G := G) (N := N) (S := S) (L := L) (ar := ar) (r := false) (ca := ca) hP ⟨fun q => (by cases q), fun q => absurd q ho⟩
  have c3 : ∀ i, i < s → FnTr P G 63 [.ptr 0 0, .int .i64 (i : Int)] (DH N S L ar ca) 3 (Gives (.tup [.ro 1 (.l 64) (fun e => [.int .u8 (V i e.val)]), .lit .i64 0]) (DH N S L ar ca) 4) := fun i hi => read_fn hP ho hN hs hi (hV i hi).1
  obtain ⟨m64, h64⟩ : ∃ m, m = 64 := ⟨_, rfl⟩
  have hB : ∀ i, i < s → isB (V i) := fun i hi => (hV i hi).2
  clear hV
  have hT : T.Ok P := hP ▸ T_ok
  refine FnTr.intro (fn := Tryz.f59) (c := bodyOf Tryz.f59) (by rw [hP]; rfl) rfl rfl hT ?_
  generalize hA : Ar.real = A
  cbv
  refine CS.le hA (c1) [(0, 0), (1, 1), (2, 2)] rfl rfl rfl ?_ ?_ ?_
  iterate 2 ((try cbv) <;> (repeat' (first | exact trivial | exact rfl | apply And.intro | exact fun _ => rfl | (intro _ hle; first | refine chunk_le hA rfl hle rfl ?_ | refine cat_le hA ?_ | refine upd_le hA ?_ | (try cbv)))) <;> (try (subst hA; (try simp only [zn] at *); (try (simp only [Ar.real, NV.val, zo, zt])); first | done | omega | decide | exact zi | (refine ⟨?_, ?_⟩ <;> first | omega | decide | exact zi))))
  cbv
  refine CS.leR hA (c2) (.bl false) [(0, 0), (1, 1), (2, 2)] rfl rfl rfl ?_ ?_ ?_ ?_
  iterate 3 ((try cbv) <;> (repeat' (first | exact trivial | exact rfl | apply And.intro | exact fun _ => rfl | (intro _ hle; first | refine chunk_le hA rfl hle rfl ?_ | refine cat_le hA ?_ | refine upd_le hA ?_ | (try cbv)))) <;> (try (subst hA; (try simp only [zn] at *); (try (simp only [Ar.real, NV.val, zo, zt])); first | done | omega | decide | exact zi | (refine ⟨?_, ?_⟩ <;> first | omega | decide | exact zi))))
  cbv
  clear c1 c2
  refine LS.ghost 5 1 (.l 0) (fun _ => [.int .u8 0]) rfl ?_
  refine LS.le3 hT hA 3 (fun (x : Nat) (n : Nat) (_ : Nat → Int) => [(10, .sl 3 1 (.l 0) (.s n)), (11, .int .i64 (x : Int))]) (fun _ n f => (3, .row 5 1 (.s n) (fun e => [.int .u8 (f e.val)])) :: DH N S L ar ca) (fun x n f => first ≤ x ∧ x ≤ fin ∧ n ≤ 65536 ∧ getP V first fin (fin - x) x n f = R0) (fun x _ _ => fin - x) first 0 f0 [(22, 3)] rfl rfl ?_ ?_ ?_
  · (try cbv) <;> (repeat' (first | exact trivial | exact rfl | apply And.intro | exact fun _ => rfl | (intro _ hle; first | refine chunk_le hA rfl hle rfl ?_ | refine cat_le hA ?_ | refine upd_le hA ?_ | refine int_le ?_ | skip)))
    all_goals (exfalso; subst hA; exact absurd (ltNV_real.1 hle) (Nat.not_lt_zero _))
  · exact ⟨Nat.le_refl _, h.1, by omega, hR0⟩
  · intro R hR x n f hx
    cbv
    refine ⟨fun h1 => ?_, fun h1 => ?_⟩
    · have hxf : x < fin := by clear c3 hK1 hK0 hB hR0 hx hR; subst hA; simpa [Ar.real] using h1
      have c := c3 x (by omega)
      have hb := hB x (by omega)
      clear c3
      cbv
      refine CS.le hA (c) [(0, 0), (1, 1), (2, 2)] rfl rfl rfl ?_ ?_ ?_
      iterate 2 ((try cbv) <;> (repeat' (first | exact trivial | exact rfl | apply And.intro | exact fun _ => rfl | (intro _ hle; first | refine chunk_le hA rfl hle rfl ?_ | refine cat_le hA ?_ | refine upd_le hA ?_ | (try cbv)))) <;> (try (subst hA; (try simp only [zn] at *); (try (simp only [Ar.real, NV.val, zo, zt])); first | done | omega | decide | exact zi | (refine ⟨?_, ?_⟩ <;> first | omega | decide | exact zi))))
      cbv
      by_cases hp : padOk (V x)
      · obtain ⟨m, hm⟩ : ∃ m, m = (V x 62).toNat := ⟨_, rfl⟩
        obtain ⟨nm, hnm⟩ : ∃ q, q = n + m := ⟨_, rfl⟩
        have hm62 : m ≤ 62 := by have := hp.1; omega
        obtain ⟨f', hf'⟩ : ∃ f' : Nat → Int, f' = fun i => if i < n then f i else V x (i - n) := ⟨_, rfl⟩
        have hfe : ∀ i, f' i = if i < n then f i else V x (i - n) := fun i => by rw [hf']
        by_cases e1 : V x 63 = 1
        · by_cases e2 : m = 62
          · have hu := usedP_on hp e1 (by omega)
            refine CS.leR hA (used_on (r := true) hP h64 hb hp hm e1 ⟨fun _ => e2, fun _ => rfl⟩) (.tup [By m (V x), .bl true, .bl true]) [] rfl rfl rfl ?_ ?_ ?_ ?_
            · (try cbv) <;> (repeat' (first | exact trivial | exact rfl | apply And.intro | exact fun _ => rfl | (intro _ hle; first | refine chunk_le hA rfl hle rfl ?_ | refine cat_le hA ?_ | refine upd_le hA ?_ | (try cbv))))
              all_goals (subst hA; (try simp only [zn] at *); (try (simp only [Ar.real, NV.val, zo, zt])); first | done | omega | decide | exact zi | (refine ⟨?_, ?_⟩ <;> first | omega | decide | exact zi))
            iterate 2 ((try cbv) <;> (repeat' (first | exact trivial | exact rfl | apply And.intro | exact fun _ => rfl | (intro _ hle; first | refine chunk_le hA rfl hle rfl ?_ | refine cat_le hA ?_ | refine upd_le hA ?_ | (try cbv)))))
            cbv
            refine ⟨(by (subst hA; (try simp only [zn] at *); (try (simp only [Ar.real, NV.val, zo, zt])); first | done | omega | decide | exact zi | (refine ⟨?_, ?_⟩ <;> first | omega | decide | exact zi))), ?_⟩
            by_cases e3 : 65536 < n + m
            · have hr0 : R0 = none := hx.2.2.2.symm.trans (getP_long hxf hu (by omega))
              have k1 : A.gt (A.i2 (A.addN n m)) 65536 = true := by subst hA; simp [Ar.real]; omega
              first | refine testR k1 rfl ?_ | refine testL k1 rfl ?_
              cbv
              refine Fin.le hA 3 [] (.tup [.nils, .lit .i64 0, .lit .i64 4]) (DH N S L ar ca) 3 rfl rfl rfl ?_ ?_ (hK0 hr0)
              iterate 2 ((try cbv) <;> (repeat' (first | exact trivial | exact rfl | apply And.intro | exact fun _ => rfl | (intro _ hle; first | refine chunk_le hA rfl hle rfl ?_ | refine cat_le hA ?_ | refine upd_le hA ?_ | (try cbv)))))
            · have hr1 := hx.2.2.2.symm.trans (getP_on hxf hu (by omega))
              rw [← e2, ← hf', ← hnm] at hr1
              have k1 : A.gt (A.i2 (A.addN n m)) 65536 = false := by subst hA; simp [Ar.real]; omega
              first | refine testR k1 rfl ?_ | refine testL k1 rfl ?_
              cbv
              refine ⟨(by (subst hA; (try simp only [zn] at *); (try (simp only [Ar.real, NV.val, zo, zt])); first | done | omega | decide | exact zi | (refine ⟨?_, ?_⟩ <;> first | omega | decide | exact zi))), hR _ _ _ _ ⟨x + 1, nm, f', 3, [(30, 3)], rfl, rfl, ?_, ⟨by omega, by omega, by omega, hr1.symm⟩, (by show fin - (x + 1) < fin - x; omega)⟩⟩
              clear hR
              (try cbv) <;> (repeat' (first | exact trivial | exact rfl | apply And.intro | exact fun _ => rfl | (intro _ hle; first | refine chunk_le hA rfl hle rfl ?_ | refine cat_le hA ?_ | refine upd_le hA ?_ | refine int_le ?_ | skip)))
              all_goals first | exact hfe _ | (subst hA; (try simp only [zn] at *); (try (simp only [Ar.real, NV.val, zo, zt])); first | done | omega | decide | exact zi | (refine ⟨?_, ?_⟩ <;> first | omega | decide | exact zi))
          · have hr0 : R0 = none := hx.2.2.2.symm.trans (getP_none hxf (usedP_none2 hp e1 (by omega)))
            refine CS.leR hA (used_on (r := false) hP h64 hb hp hm e1 ⟨fun q => (by cases q), fun q => absurd q e2⟩) (.tup [By m (V x), .bl true, .bl false]) [] rfl rfl rfl ?_ ?_ ?_ ?_
            · (try cbv) <;> (repeat' (first | exact trivial | exact rfl | apply And.intro | exact fun _ => rfl | (intro _ hle; first | refine chunk_le hA rfl hle rfl ?_ | refine cat_le hA ?_ | refine upd_le hA ?_ | (try cbv))))
              all_goals (subst hA; (try simp only [zn] at *); (try (simp only [Ar.real, NV.val, zo, zt])); first | done | omega | decide | exact zi | (refine ⟨?_, ?_⟩ <;> first | omega | decide | exact zi))
            iterate 2 ((try cbv) <;> (repeat' (first | exact trivial | exact rfl | apply And.intro | exact fun _ => rfl | (intro _ hle; first | refine chunk_le hA rfl hle rfl ?_ | refine cat_le hA ?_ | refine upd_le hA ?_ | (try cbv)))))
            cbv
            refine ⟨(by (subst hA; (try simp only [zn] at *); (try (simp only [Ar.real, NV.val, zo, zt])); first | done | omega | decide | exact zi | (refine ⟨?_, ?_⟩ <;> first | omega | decide | exact zi))), ?_⟩
            refine Fin.le hA 3 [] (.tup [.nils, .lit .i64 0, .lit .i64 4]) (DH N S L ar ca) 3 rfl rfl rfl ?_ ?_ (hK0 hr0)
            iterate 2 ((try cbv) <;> (repeat' (first | exact trivial | exact rfl | apply And.intro | exact fun _ => rfl | (intro _ hle; first | refine chunk_le hA rfl hle rfl ?_ | refine cat_le hA ?_ | refine upd_le hA ?_ | (try cbv)))))
        · by_cases e2 : V x 63 = 2
          · have hu := usedP_end hp e1 e2
            rw [← hm] at hu
            refine CS.leR hA (used_end (r := true) hP h64 hb hp hm e1 ⟨fun _ => e2, fun _ => rfl⟩) (.tup [By m (V x), .bl false, .bl true]) [] rfl rfl rfl ?_ ?_ ?_ ?_
            · (try cbv) <;> (repeat' (first | exact trivial | exact rfl | apply And.intro | exact fun _ => rfl | (intro _ hle; first | refine chunk_le hA rfl hle rfl ?_ | refine cat_le hA ?_ | refine upd_le hA ?_ | (try cbv))))
              all_goals (subst hA; (try simp only [zn] at *); (try (simp only [Ar.real, NV.val, zo, zt])); first | done | omega | decide | exact zi | (refine ⟨?_, ?_⟩ <;> first | omega | decide | exact zi))
            iterate 2 ((try cbv) <;> (repeat' (first | exact trivial | exact rfl | apply And.intro | exact fun _ => rfl | (intro _ hle; first | refine chunk_le hA rfl hle rfl ?_ | refine cat_le hA ?_ | refine upd_le hA ?_ | (try cbv)))))
            cbv
            refine ⟨(by (subst hA; (try simp only [zn] at *); (try (simp only [Ar.real, NV.val, zo, zt])); first | done | omega | decide | exact zi | (refine ⟨?_, ?_⟩ <;> first | omega | decide | exact zi))), ?_⟩
            by_cases e3 : 65536 < n + m
            · have hr0 : R0 = none := hx.2.2.2.symm.trans (getP_long hxf hu (by omega))
              have k1 : A.gt (A.i2 (A.addN n m)) 65536 = true := by subst hA; simp [Ar.real]; omega
              first | refine testR k1 rfl ?_ | refine testL k1 rfl ?_
              cbv
              refine Fin.le hA 3 [] (.tup [.nils, .lit .i64 0, .lit .i64 4]) (DH N S L ar ca) 3 rfl rfl rfl ?_ ?_ (hK0 hr0)
              iterate 2 ((try cbv) <;> (repeat' (first | exact trivial | exact rfl | apply And.intro | exact fun _ => rfl | (intro _ hle; first | refine chunk_le hA rfl hle rfl ?_ | refine cat_le hA ?_ | refine upd_le hA ?_ | (try cbv)))))
            · have k1 : A.gt (A.i2 (A.addN n m)) 65536 = false := by subst hA; simp [Ar.real]; omega
              clear hR
              by_cases e4 : m = 0
              · have k2 : A.eq (A.i2 m) 0 = true := by subst hA; simp [Ar.real]; omega
                by_cases e5 : first < x
                · have hr0 : R0 = none := hx.2.2.2.symm.trans (getP_empty hxf hu e4 e5)
                  have k3 : A.gt (Int.ofNat x) (Int.ofNat first) = true := by subst hA; simp [Ar.real]; omega
                  first | refine testR k1 rfl ?_ | refine testL k1 rfl ?_
                  cbv
                  first | refine testR k2 rfl ?_ | refine testL k2 rfl ?_
                  cbv
                  first | refine testR k3 rfl ?_ | refine testL k3 rfl ?_
                  cbv
                  refine Fin.le hA 3 [] (.tup [.nils, .lit .i64 0, .lit .i64 4]) (DH N S L ar ca) 3 rfl rfl rfl ?_ ?_ (hK0 hr0)
                  iterate 2 ((try cbv) <;> (repeat' (first | exact trivial | exact rfl | apply And.intro | exact fun _ => rfl | (intro _ hle; first | refine chunk_le hA rfl hle rfl ?_ | refine cat_le hA ?_ | refine upd_le hA ?_ | (try cbv)))))
                · have hr1 := hx.2.2.2.symm.trans (getP_end hxf hu (by omega) (by omega))
                  rw [← hf', ← hnm] at hr1
                  have k3 : A.gt (Int.ofNat x) (Int.ofNat first) = false := by subst hA; simp [Ar.real]; omega
                  first | refine testR k1 rfl ?_ | refine testL k1 rfl ?_
                  cbv
                  first | refine testR k2 rfl ?_ | refine testL k2 rfl ?_
                  cbv
                  first | refine testR k3 rfl ?_ | refine testL k3 rfl ?_
                  cbv
                  refine ⟨(by (subst hA; (try simp only [zn] at *); (try (simp only [Ar.real, NV.val, zo, zt])); first | done | omega | decide | exact zi | (refine ⟨?_, ?_⟩ <;> first | omega | decide | exact zi))), ?_⟩
                  refine Fin.le hA 3 [(30, 3)] (.tup [.sl 3 1 (.l 0) (.s nm), .int .i64 ((x + 1 : Nat) : Int), .lit .i64 0]) ((3, .row 5 1 (.s nm) (fun e => [.int .u8 (f' e.val)])) :: DH N S L ar ca) 4 rfl rfl rfl ?_ ?_ (hK1 _ _ _ hr1)
                  · (try cbv) <;> (repeat' (first | exact trivial | exact rfl | apply And.intro | exact fun _ => rfl | (intro _ hle; first | refine chunk_le hA rfl hle rfl ?_ | refine cat_le hA ?_ | refine upd_le hA ?_ | refine int_le ?_ | skip)))
                    all_goals (subst hA; (try simp only [zn] at *); (try (simp only [Ar.real, NV.val, zo, zt])); first | done | omega | decide | exact zi | (refine ⟨?_, ?_⟩ <;> first | omega | decide | exact zi))
                  · (try cbv) <;> (repeat' (first | exact trivial | exact rfl | apply And.intro | exact fun _ => rfl | (intro _ hle; first | refine chunk_le hA rfl hle rfl ?_ | refine cat_le hA ?_ | refine upd_le hA ?_ | refine int_le ?_ | skip)))
                    all_goals first | exact hfe _ | (subst hA; (try simp only [zn] at *); (try (simp only [Ar.real, NV.val, zo, zt])); first | done | omega | decide | exact zi | (refine ⟨?_, ?_⟩ <;> first | omega | decide | exact zi))
              · have hr1 := hx.2.2.2.symm.trans (getP_end hxf hu (by omega) (by omega))
                rw [← hf', ← hnm] at hr1
                have k2 : A.eq (A.i2 m) 0 = false := by subst hA; simp [Ar.real]; omega
                first | refine testR k1 rfl ?_ | refine testL k1 rfl ?_
                cbv
                first | refine testR k2 rfl ?_ | refine testL k2 rfl ?_
                cbv
                refine ⟨(by (subst hA; (try simp only [zn] at *); (try (simp only [Ar.real, NV.val, zo, zt])); first | done | omega | decide | exact zi | (refine ⟨?_, ?_⟩ <;> first | omega | decide | exact zi))), ?_⟩
                refine Fin.le hA 3 [(30, 3)] (.tup [.sl 3 1 (.l 0) (.s nm), .int .i64 ((x + 1 : Nat) : Int), .lit .i64 0]) ((3, .row 5 1 (.s nm) (fun e => [.int .u8 (f' e.val)])) :: DH N S L ar ca) 4 rfl rfl rfl ?_ ?_ (hK1 _ _ _ hr1)
                · (try cbv) <;> (repeat' (first | exact trivial | exact rfl | apply And.intro | exact fun _ => rfl | (intro _ hle; first | refine chunk_le hA rfl hle rfl ?_ | refine cat_le hA ?_ | refine upd_le hA ?_ | refine int_le ?_ | skip)))
                  all_goals (subst hA; (try simp only [zn] at *); (try (simp only [Ar.real, NV.val, zo, zt])); first | done | omega | decide | exact zi | (refine ⟨?_, ?_⟩ <;> first | omega | decide | exact zi))
                · (try cbv) <;> (repeat' (first | exact trivial | exact rfl | apply And.intro | exact fun _ => rfl | (intro _ hle; first | refine chunk_le hA rfl hle rfl ?_ | refine cat_le hA ?_ | refine upd_le hA ?_ | refine int_le ?_ | skip)))
                  all_goals first | exact hfe _ | (subst hA; (try simp only [zn] at *); (try (simp only [Ar.real, NV.val, zo, zt])); first | done | omega | decide | exact zi | (refine ⟨?_, ?_⟩ <;> first | omega | decide | exact zi))
          · have hr0 : R0 = none := hx.2.2.2.symm.trans (getP_none hxf (usedP_none3 hp e1 e2))
            refine CS.leR hA (used_end (r := false) hP h64 hb hp hm e1 ⟨fun q => (by cases q), fun q => absurd q e2⟩) (.tup [By m (V x), .bl false, .bl false]) [] rfl rfl rfl ?_ ?_ ?_ ?_
            · (try cbv) <;> (repeat' (first | exact trivial | exact rfl | apply And.intro | exact fun _ => rfl | (intro _ hle; first | refine chunk_le hA rfl hle rfl ?_ | refine cat_le hA ?_ | refine upd_le hA ?_ | (try cbv))))
              all_goals (subst hA; (try simp only [zn] at *); (try (simp only [Ar.real, NV.val, zo, zt])); first | done | omega | decide | exact zi | (refine ⟨?_, ?_⟩ <;> first | omega | decide | exact zi))
            iterate 2 ((try cbv) <;> (repeat' (first | exact trivial | exact rfl | apply And.intro | exact fun _ => rfl | (intro _ hle; first | refine chunk_le hA rfl hle rfl ?_ | refine cat_le hA ?_ | refine upd_le hA ?_ | (try cbv)))))
            cbv
            refine ⟨(by (subst hA; (try simp only [zn] at *); (try (simp only [Ar.real, NV.val, zo, zt])); first | done | omega | decide | exact zi | (refine ⟨?_, ?_⟩ <;> first | omega | decide | exact zi))), ?_⟩
            refine Fin.le hA 3 [] (.tup [.nils, .lit .i64 0, .lit .i64 4]) (DH N S L ar ca) 3 rfl rfl rfl ?_ ?_ (hK0 hr0)
            iterate 2 ((try cbv) <;> (repeat' (first | exact trivial | exact rfl | apply And.intro | exact fun _ => rfl | (intro _ hle; first | refine chunk_le hA rfl hle rfl ?_ | refine cat_le hA ?_ | refine upd_le hA ?_ | (try cbv)))))
      · have hr0 : R0 = none := hx.2.2.2.symm.trans (getP_none hxf (usedP_none1 hp))
        refine CS.le hA (used_bad hP h64 hb hp) [] rfl rfl rfl ?_ ?_ ?_
        iterate 2 ((try cbv) <;> (repeat' (first | exact trivial | exact rfl | apply And.intro | exact fun _ => rfl | (intro _ hle; first | refine chunk_le hA rfl hle rfl ?_ | refine cat_le hA ?_ | refine upd_le hA ?_ | (try cbv)))) <;> (try (subst hA; (try simp only [zn] at *); (try (simp only [Ar.real, NV.val, zo, zt])); first | done | omega | decide | exact zi | (refine ⟨?_, ?_⟩ <;> first | omega | decide | exact zi))))
        cbv
        refine ⟨(by (subst hA; (try simp only [zn] at *); (try (simp only [Ar.real, NV.val, zo, zt])); first | done | omega | decide | exact zi | (refine ⟨?_, ?_⟩ <;> first | omega | decide | exact zi))), ?_⟩
        refine Fin.le hA 3 [] (.tup [.nils, .lit .i64 0, .lit .i64 4]) (DH N S L ar ca) 3 rfl rfl rfl ?_ ?_ (hK0 hr0)
        iterate 2 ((try cbv) <;> (repeat' (first | exact trivial | exact rfl | apply And.intro | exact fun _ => rfl | (intro _ hle; first | refine chunk_le hA rfl hle rfl ?_ | refine cat_le hA ?_ | refine upd_le hA ?_ | (try cbv)))))
    · have hxf : ¬ x < fin := by clear c3 hK1 hK0 hB hR0 hx hR; subst hA; simpa [Ar.real] using h1
      have hr0 : R0 = none := hx.2.2.2.symm.trans (getP_stop (by omega) _)
      clear c3 hR hK1
      cbv
      refine Fin.le hA 3 [] (.tup [.nils, .lit .i64 0, .lit .i64 4]) (DH N S L ar ca) 3 rfl rfl rfl ?_ ?_ (hK0 hr0)
      iterate 2 ((try cbv) <;> (repeat' (first | exact trivial | exact rfl | apply And.intro | exact fun _ => rfl | (intro _ hle; first | refine chunk_le hA rfl hle rfl ?_ | refine cat_le hA ?_ | refine upd_le hA ?_ | (try cbv)))))
end Go.Proofs.YtnjjgipblimbfaaGreatDoor.Dsk
namespace Go.Proofs.YtnjjgipblimbfaaGreatDoor.Dsk
open Go.Eng
open Go.DskLaw (q64 secV needN pcs padOk isB usedP getP scanP getP_next scanP_none scanP_some)
set_option maxRecDepth 100000
set_option maxHeartbeats 4000000
theorem get_none {P : Program} {G : Gl} (hP : P = Tryz.prog) {N s first fin : Nat} {S f0 : Nat → Int} {L : Int → Option (Nat → Int)} {ar : Bool} {ca : Int} {V : Nat → Nat → Int} (hN : N = 64 * s) (hs : s ≤ 4096)
    (h : first ≤ fin ∧ fin ≤ s) (ho : ¬ (ar = true ∧ ca = 0)) (hV : ∀ i, i < s → V i = secV S L i ∧ isB (V i)) (hR0 : getP V first fin (fin - first) first 0 f0 = none) :
    FnTr P G 59 [.ptr 0 0, .int .i64 (first : Int), .int .i64 (fin : Int)] (DH N S L ar ca) 3 (Gives (.tup [.nils, .lit .i64 0, .lit .i64 4]) (DH N S L ar ca) 3) :=
  get_own hP hN hs h ho hV hR0 (fun n f next e => by cases e) (fun _ => ⟨rfl, rfl, rfl⟩)
theorem get_fn {P : Program} {G : Gl} (hP : P = Tryz.prog) {N s first fin n next : Nat} {S f0 f : Nat → Int} {L : Int → Option (Nat → Int)} {ar : Bool} {ca : Int} {V : Nat → Nat → Int} (hN : N = 64 * s) (hs : s ≤ 4096)
    (h : first ≤ fin ∧ fin ≤ s) (ho : ¬ (ar = true ∧ ca = 0)) (hV : ∀ i, i < s → V i = secV S L i ∧ isB (V i)) (hR0 : getP V first fin (fin - first) first 0 f0 = some (n, f, next)) :
    FnTr P G 59 [.ptr 0 0, .int .i64 (first : Int), .int .i64 (fin : Int)] (DH N S L ar ca) 3 (Gives (.tup [By n f, .int .i64 (next : Int), .lit .i64 0]) (DH N S L ar ca) 4) := by
  have h1 : FnTr P G 59 [.ptr 0 0, .int .i64 (first : Int), .int .i64 (fin : Int)] (DH N S L ar ca) 3 (Gives (.tup [.sl 3 1 (.l 0) (.s n), .int .i64 (next : Int), .lit .i64 0]) ((3, .row 5 1 (.s n) (fun e => [.int .u8 (f e.val)])) :: DH N S L ar ca) 4) :=
    get_own hP hN hs h ho hV hR0 (fun n f next e => by cases e; exact ⟨rfl, rfl, rfl⟩) (fun e => by cases e)
  generalize hA : Ar.real = A
  refine FnTr.dat hA h1 _ _ ?_
  (try cbv) <;> (repeat' (first | exact trivial | exact rfl | apply And.intro | exact fun _ => rfl | (intro _ hle; first | refine chunk_le hA rfl hle rfl ?_ | refine cat_le hA ?_ | refine upd_le hA ?_ | refine int_le ?_ | skip)))
  all_goals (subst hA; (try simp only [zn] at *); (try (simp only [Ar.real, NV.val, zo, zt])); first | done | omega | decide | exact zi | (refine ⟨?_, ?_⟩ <;> first | omega | decide | exact zi))
abbrev RecS (c : Nat) (g : Nat → Nat × (Nat → Int)) : SV := .ro 1 (.s c) (fun e => [.ro 1 (.s (g e.val).1) (fun x => [.int .u8 ((g e.val).2 x.val)])])
end Go.Proofs.YtnjjgipblimbfaaGreatDoor.Dsk
namespace Go.Proofs.YtnjjgipblimbfaaGreatDoor.Dsk
open Go.Eng
open Go.DskLaw (q64 secV needN pcs padOk isB wipeP wipeP_off wipeP_blank wipeP_full secV_upd)
set_option maxRecDepth 100000
set_option maxHeartbeats 4000000
theorem wipe_off {P : Program} {G : Gl} (hP : P = Tryz.prog) {N s : Nat} {S : Nat → Int} {L : Int → Option (Nat → Int)} {ar : Bool} {ca a b : Int} (hN : N = 64 * s) (hs : s ≤ 4096) (h : 0 ≤ a ∧ a ≤ b ∧ b ≤ (s : Int)) (ho : ar = true ∧ ca = 0) :
    FnTr P G 30 [.ptr 0 0, .int .i64 a, .int .i64 b] (DH N S L ar ca) 3 (Gives (.tup [.lit .i64 0, .lit .i64 6]) (DH N S L ar ca) 3) := by
  have c1 := sasked_ok (P := P) (G := G) (S := S) (L := L) (ar := ar) (ca := ca) hP hN hs h
  have c2 := off_fn (P := P) (G := G) (N := N) (S := S) (L := L) (ar := ar) (r := true) (ca := ca) hP ⟨fun _ => ho, fun _ => rfl⟩
  have hT : T.Ok P := hP ▸ T_ok
  refine FnTr.intro (fn := Tryz.f30) (c := bodyOf Tryz.f30) (by rw [hP]; rfl) rfl rfl hT ?_
  generalize hA : Ar.real = A
  generalize hK : Gives _ _ _ = K
  cbv
  refine CS.le hA (c1) [(0, 0), (1, 1), (2, 2)] rfl rfl rfl ?_ ?_ ?_
  iterate 2 ((try cbv) <;> (repeat' (first | exact trivial | exact rfl | apply And.intro | exact fun _ => rfl | (intro _ hle; first | refine chunk_le hA rfl hle rfl ?_ | refine cat_le hA ?_ | refine upd_le hA ?_ | (try cbv)))) <;> (try (subst hA; (try simp only [zn] at *); (try (simp only [Ar.real, NV.val, zo, zt])); first | done | omega | decide | exact zi | (refine ⟨?_, ?_⟩ <;> first | omega | decide | exact zi))))
  cbv
  refine CS.leR hA (c2) (.bl true) [(0, 0), (1, 1), (2, 2)] rfl rfl rfl ?_ ?_ ?_ ?_
  iterate 3 ((try cbv) <;> (repeat' (first | exact trivial | exact rfl | apply And.intro | exact fun _ => rfl | (intro _ hle; first | refine chunk_le hA rfl hle rfl ?_ | refine cat_le hA ?_ | refine upd_le hA ?_ | (try cbv)))) <;> (try (subst hA; (try simp only [zn] at *); (try (simp only [Ar.real, NV.val, zo, zt])); first | done | omega | decide | exact zi | (refine ⟨?_, ?_⟩ <;> first | omega | decide | exact zi))))
  cbv
  refine Fin.le hA 3 [] (.tup [.lit .i64 0, .lit .i64 6]) (DH N S L ar ca) 3 rfl rfl rfl ?_ ?_ (by rw [← hK]; exact ⟨rfl, rfl, rfl⟩)
  iterate 2 ((try cbv) <;> (repeat' (first | exact trivial | exact rfl | apply And.intro | exact fun _ => rfl | (intro _ hle; first | refine chunk_le hA rfl hle rfl ?_ | refine cat_le hA ?_ | refine upd_le hA ?_ | (try cbv)))))
theorem wipe_ok {P : Program} {G : Gl} {K : SV → Hl → Nat → Prop} (hP : P = Tryz.prog) {N s first fin : Nat} {S : Nat → Int} {L L' : Int → Option (Nat → Int)} {ar : Bool} {ca ca' : Int} {V : Nat → Nat → Int} {on : Option Nat} (hN : N = 64 * s) (hs : s ≤ 4096)
    (h : first ≤ fin ∧ fin ≤ s) (ho : ¬ (ar = true ∧ ca = 0)) (hca : 0 ≤ ca ∧ ca ≤ 9223372036854775807) (hV : ∀ i, i < s → V i = secV S L i) (hR0 : wipeP V ar (fin - first) first 0 L ca = (on, L', ca'))
    (hK1 : ∀ n, on = some n → K (.tup [.int .i64 (n : Int), .lit .i64 0]) (DH N S L' ar ca') 3) (hK0 : on = none → K (.tup [.lit .i64 0, .lit .i64 6]) (DH N S L' ar ca') 3) :
    FnTr P G 30 [.ptr 0 0, .int .i64 (first : Int), .int .i64 (fin : Int)] (DH N S L ar ca) 3 K := by
  have c1 := sasked_ok (P := P) (G := G) (S := S) (L := L) (ar := ar) (ca := ca) (a := (first : Int)) (b := (fin : Int)) hP hN hs (by omega)
  have c2 := off_fn (P := P) (G := G) (N := N) (S := S) (L := L) (ar := ar) (r := false) (ca := ca) hP ⟨fun q => (by cases q), fun q => absurd q ho⟩
  have hT : T.Ok P := hP ▸ T_ok
  refine FnTr.intro (fn := Tryz.f30) (c := bodyOf Tryz.f30) (by rw [hP]; rfl) rfl rfl hT ?_
  generalize hA : Ar.real = A
  cbv
  refine CS.le hA (c1) [(0, 0), (1, 1), (2, 2)] rfl rfl rfl ?_ ?_ ?_
  iterate 2 ((try cbv) <;> (repeat' (first | exact trivial | exact rfl | apply And.intro | exact fun _ => rfl | (intro _ hle; first | refine chunk_le hA rfl hle rfl ?_ | refine cat_le hA ?_ | refine upd_le hA ?_ | (try cbv)))) <;> (try (subst hA; (try simp only [zn] at *); (try (simp only [Ar.real, NV.val, zo, zt])); first | done | omega | decide | exact zi | (refine ⟨?_, ?_⟩ <;> first | omega | decide | exact zi))))
  cbv
  refine CS.leR hA (c2) (.bl false) [(0, 0), (1, 1), (2, 2)] rfl rfl rfl ?_ ?_ ?_ ?_
  iterate 3 ((try cbv) <;> (repeat' (first | exact trivial | exact rfl | apply And.intro | exact fun _ => rfl | (intro _ hle; first | refine chunk_le hA rfl hle rfl ?_ | refine cat_le hA ?_ | refine upd_le hA ?_ | (try cbv)))) <;> (try (subst hA; (try simp only [zn] at *); (try (simp only [Ar.real, NV.val, zo, zt])); first | done | omega | decide | exact zi | (refine ⟨?_, ?_⟩ <;> first | omega | decide | exact zi))))
  cbv
  clear c1 c2
  refine LS.le3 hT hA 3 (fun (x : Nat) (n : Nat) (_ : (Int → Option (Nat → Int)) × Int) => [(10, .int .i64 (x : Int)), (9, .int .i64 (n : Int))]) (fun _ _ Z => DH N S Z.1 ar Z.2) (fun x n Z => x ≤ fin ∧ n ≤ x ∧ wipeP V ar (fin - x) x n Z.1 Z.2 = (on, L', ca') ∧ (0 ≤ Z.2 ∧ Z.2 ≤ 9223372036854775807) ∧ ∀ i, x ≤ i → i < s → V i = secV S Z.1 i) (fun x _ _ => fin - x) first 0 (L, ca) [] rfl rfl ?_ ?_ ?_
  · (try cbv) <;> (repeat' (first | exact trivial | exact rfl | apply And.intro | exact fun _ => rfl | (intro _ hle; first | refine chunk_le hA rfl hle rfl ?_ | refine cat_le hA ?_ | refine upd_le hA ?_ | refine int_le ?_ | skip)))
  · exact ⟨h.1, Nat.zero_le _, hR0, hca, fun i _ hi => hV i hi⟩
  · intro R hR x n Z hx
    obtain ⟨L1, c1⟩ := Z
    obtain ⟨hxf, hnx, hw, hc1, hV1⟩ := hx
    cbv
    refine ⟨fun h1 => ?_, fun h1 => ?_⟩
    · have hxf' : x < fin := by clear hK1 hK0 hw hV hV1 hR hR0; subst hA; simpa [Ar.real] using h1
      obtain ⟨k, hk⟩ : ∃ k, fin - x = k + 1 := ⟨fin - x - 1, by omega⟩
      rw [hk] at hw
      cbv
      by_cases hoff : ar = true ∧ c1 = 0
      · rw [wipeP_off hoff] at hw
        obtain ⟨rfl, rfl, rfl⟩ : none = on ∧ L1 = L' ∧ c1 = ca' := by cases hw; exact ⟨rfl, rfl, rfl⟩
        have a1 := read_off (P := P) (G := G) (N := N) (S := S) (L := L1) (ar := ar) (i := (x : Int)) hP hoff
        clear hR hK1
        refine CS.le hA (a1) [(0, 0), (1, 1), (2, 2)] rfl rfl rfl ?_ ?_ ?_
        iterate 2 ((try cbv) <;> (repeat' (first | exact trivial | exact rfl | apply And.intro | exact fun _ => rfl | (intro _ hle; first | refine chunk_le hA rfl hle rfl ?_ | refine cat_le hA ?_ | refine upd_le hA ?_ | (try cbv)))) <;> (try (subst hA; (try simp only [zn] at *); (try (simp only [Ar.real, NV.val, zo, zt])); first | done | omega | decide | exact zi | (refine ⟨?_, ?_⟩ <;> first | omega | decide | exact zi))))
        cbv
        refine Fin.le hA 3 [] (.tup [.lit .i64 0, .lit .i64 6]) (DH N S L1 ar c1) 3 rfl rfl rfl ?_ ?_ (hK0 rfl)
        iterate 2 ((try cbv) <;> (repeat' (first | exact trivial | exact rfl | apply And.intro | exact fun _ => rfl | (intro _ hle; first | refine chunk_le hA rfl hle rfl ?_ | refine cat_le hA ?_ | refine upd_le hA ?_ | (try cbv)))))
      · have a1 := read_fn (P := P) (G := G) hP hoff hN hs (show x < s by omega) (hV1 x (Nat.le_refl _) (by omega))
        refine CS.le hA (a1) [(0, 0), (1, 1), (2, 2)] rfl rfl rfl ?_ ?_ ?_
        iterate 2 ((try cbv) <;> (repeat' (first | exact trivial | exact rfl | apply And.intro | exact fun _ => rfl | (intro _ hle; first | refine chunk_le hA rfl hle rfl ?_ | refine cat_le hA ?_ | refine upd_le hA ?_ | (try cbv)))) <;> (try (subst hA; (try simp only [zn] at *); (try (simp only [Ar.real, NV.val, zo, zt])); first | done | omega | decide | exact zi | (refine ⟨?_, ?_⟩ <;> first | omega | decide | exact zi))))
        cbv
        obtain ⟨m64, h64⟩ : ∃ m, m = 64 := ⟨_, rfl⟩
        by_cases hb : ∀ i, i < 64 → V x i = 0
        · rw [wipeP_blank hoff hb] at hw
          have a2 := blank_fn (P := P) (G := G) (n := m64) (f := V x) (r := true) hP (by omega) ⟨fun _ i hi => hb i (by omega), fun _ => rfl⟩
          refine CS.leR hA a2 (.bl true) [] rfl rfl rfl ?_ ?_ ?_ ?_
          · (try cbv) <;> (repeat' (first | exact trivial | exact rfl | apply And.intro | exact fun _ => rfl | (intro _ hle; first | refine chunk_le hA rfl hle rfl ?_ | refine cat_le hA ?_ | refine upd_le hA ?_ | (try cbv))))
            all_goals (subst hA; (try simp only [zn] at *); (try (simp only [Ar.real, NV.val, zo, zt])); first | done | omega | decide | exact zi | (refine ⟨?_, ?_⟩ <;> first | omega | decide | exact zi))
          iterate 2 ((try cbv) <;> (repeat' (first | exact trivial | exact rfl | apply And.intro | exact fun _ => rfl | (intro _ hle; first | refine chunk_le hA rfl hle rfl ?_ | refine cat_le hA ?_ | refine upd_le hA ?_ | (try cbv)))))
          cbv
          refine ⟨(by (subst hA; (try simp only [zn] at *); (try (simp only [Ar.real, NV.val, zo, zt])); first | done | omega | decide | exact zi | (refine ⟨?_, ?_⟩ <;> first | omega | decide | exact zi))), hR _ _ _ _ ⟨x + 1, n, (L1, c1), 3, [], rfl, rfl, ?_, ⟨by omega, by omega, by rw [show fin - (x + 1) = k by omega]; exact hw, hc1, fun i h1 h2 => hV1 i (by omega) h2⟩, (by show fin - (x + 1) < fin - x; omega)⟩⟩
          clear hR
          (try cbv) <;> (repeat' (first | exact trivial | exact rfl | apply And.intro | exact fun _ => rfl | (intro _ hle; first | refine chunk_le hA rfl hle rfl ?_ | refine cat_le hA ?_ | refine upd_le hA ?_ | refine int_le ?_ | skip)))
          all_goals (subst hA; (try simp only [zn] at *); (try (simp only [Ar.real, NV.val, zo, zt])); first | done | omega | decide | exact zi | (refine ⟨?_, ?_⟩ <;> first | omega | decide | exact zi))
        · rw [wipeP_full hoff hb] at hw
          obtain ⟨z, hz⟩ : ∃ z : Nat → Int, z = fun _ => 0 := ⟨_, rfl⟩
          obtain ⟨L2, hL2⟩ : ∃ L2 : Int → Option (Nat → Int), L2 = fun i => if i = (x : Int) then some (fun _ => 0) else L1 i := ⟨_, rfl⟩
          obtain ⟨c2, hc2⟩ : ∃ c2 : Int, c2 = if ar then c1 - 1 else c1 := ⟨_, rfl⟩
          rw [← hL2, ← hc2] at hw
          have hc2r : 0 ≤ c2 ∧ c2 ≤ 9223372036854775807 := by
            rw [hc2]
            by_cases q : ar = true
            · rw [if_pos q]; have : c1 ≠ 0 := fun e => hoff ⟨q, e⟩; omega
            · rw [if_neg q]; exact hc1
          have a2 := blank_fn (P := P) (G := G) (n := m64) (f := V x) (r := false) hP (by omega) ⟨fun q => (by cases q), fun q => absurd (fun i hi => q i (by omega)) hb⟩
          have a3 := write_ok (P := P) (G := G) (S := S) (f := z) (L := L1) (L' := L2) hP hoff hN hs (show x < s by omega) h64 (fun k => by rw [hL2, hz]) hc2 hc1
          have hV2 : ∀ i, x + 1 ≤ i → i < s → V i = secV S L2 i := fun i h1 h2 => by rw [hL2, secV_upd (by omega)]; exact hV1 i (by omega) h2
          have hz0 : ∀ i, z i = 0 := fun i => by rw [hz]
          clear hL2 hz hc2
          refine CS.leR hA a2 (.bl false) [] rfl rfl rfl ?_ ?_ ?_ ?_
          · (try cbv) <;> (repeat' (first | exact trivial | exact rfl | apply And.intro | exact fun _ => rfl | (intro _ hle; first | refine chunk_le hA rfl hle rfl ?_ | refine cat_le hA ?_ | refine upd_le hA ?_ | (try cbv))))
            all_goals (subst hA; (try simp only [zn] at *); (try (simp only [Ar.real, NV.val, zo, zt])); first | done | omega | decide | exact zi | (refine ⟨?_, ?_⟩ <;> first | omega | decide | exact zi))
          iterate 2 ((try cbv) <;> (repeat' (first | exact trivial | exact rfl | apply And.intro | exact fun _ => rfl | (intro _ hle; first | refine chunk_le hA rfl hle rfl ?_ | refine cat_le hA ?_ | refine upd_le hA ?_ | (try cbv)))))
          cbv
          refine ⟨⟨?_, ?_, ?_, ?_⟩, ?_⟩
          iterate 4 (subst hA; (try simp only [zn] at *); (try (simp only [Ar.real, NV.val, zo, zt])); first | done | omega | decide | exact zi | (refine ⟨?_, ?_⟩ <;> first | omega | decide | exact zi))
          refine CS.frzA hA (by (try cbv) <;> (repeat' (first | exact trivial | exact rfl | apply And.intro | exact fun _ => rfl | (intro _ hle; first | refine chunk_le hA rfl hle rfl ?_ | refine cat_le hA ?_ | refine upd_le hA ?_ | (try cbv)))); all_goals (subst hA; (try simp only [zn] at *); (try (simp only [Ar.real, NV.val, zo, zt])); first | done | omega | decide | exact zi | (refine ⟨?_, ?_⟩ <;> first | omega | decide | exact zi))) ?_
          cbv
          refine CS.le hA a3 [(0, 0), (1, 1), (2, 2)] rfl rfl rfl ?_ ?_ ?_
          · (try cbv) <;> (repeat' (first | exact trivial | exact rfl | apply And.intro | exact fun _ => rfl | (intro _ hle; first | refine chunk_le hA rfl hle rfl ?_ | refine cat_le hA ?_ | refine upd_le hA ?_ | refine int_le ?_ | skip)))
            all_goals first | exact (hz0 _).symm | (subst hA; (try simp only [zn] at *); (try (simp only [Ar.real, NV.val, zo, zt])); first | done | omega | decide | exact zi | (refine ⟨?_, ?_⟩ <;> first | omega | decide | exact zi))
          · (try cbv) <;> (repeat' (first | exact trivial | exact rfl | apply And.intro | exact fun _ => rfl | (intro _ hle; first | refine chunk_le hA rfl hle rfl ?_ | refine cat_le hA ?_ | refine upd_le hA ?_ | (try cbv))))
          cbv
          refine ⟨?_, ?_, hR _ _ _ _ ⟨x + 1, n + 1, (L2, c2), 3, [], rfl, rfl, ?_, ⟨by omega, by omega, by rw [show fin - (x + 1) = k by omega]; exact hw, hc2r, hV2⟩, (by show fin - (x + 1) < fin - x; omega)⟩⟩
          iterate 2 (subst hA; (try simp only [zn] at *); (try (simp only [Ar.real, NV.val, zo, zt])); first | done | omega | decide | exact zi | (refine ⟨?_, ?_⟩ <;> first | omega | decide | exact zi))
          clear hR
          (try cbv) <;> (repeat' (first | exact trivial | exact rfl | apply And.intro | exact fun _ => rfl | (intro _ hle; first | refine chunk_le hA rfl hle rfl ?_ | refine cat_le hA ?_ | refine upd_le hA ?_ | refine int_le ?_ | skip)))
          all_goals (subst hA; (try simp only [zn] at *); (try (simp only [Ar.real, NV.val, zo, zt])); first | done | omega | decide | exact zi | (refine ⟨?_, ?_⟩ <;> first | omega | decide | exact zi))
    · have hxf' : ¬ x < fin := by clear hK1 hK0 hw hV hV1 hR hR0; subst hA; simpa [Ar.real] using h1
      rw [show fin - x = 0 by omega] at hw
      obtain ⟨rfl, rfl, rfl⟩ : some n = on ∧ L1 = L' ∧ c1 = ca' := by cases hw; exact ⟨rfl, rfl, rfl⟩
      clear hR hK0
      cbv
      refine Fin.le hA 3 [] (.tup [.int .i64 (n : Int), .lit .i64 0]) (DH N S L1 ar c1) 3 rfl rfl rfl ?_ ?_ (hK1 n rfl)
      iterate 2 ((try cbv) <;> (repeat' (first | exact trivial | exact rfl | apply And.intro | exact fun _ => rfl | (intro _ hle; first | refine chunk_le hA rfl hle rfl ?_ | refine cat_le hA ?_ | refine upd_le hA ?_ | (try cbv)))))
end Go.Proofs.YtnjjgipblimbfaaGreatDoor.Dsk
namespace Go.Proofs.YtnjjgipblimbfaaGreatDoor.Dsk
open Go.Eng
open Go.DskLaw (q64 secV)
set_option maxRecDepth 100000
set_option maxHeartbeats 4000000
theorem of_bad {P : Program} {G : Gl} (hP : P = Tryz.prog) {n : Nat} {f : Nat → Int} (hn : n ≤ 1000000) (h : n / 64 < 1 ∨ 4096 < n / 64 ∨ n % 64 ≠ 0) : FnTr P G 5 [By n f] [] 0 (Gives (.tup [.nilp, .lit .i64 1]) [] 0) := by
  obtain ⟨q, hq⟩ : ∃ q, q = n / 64 := ⟨_, rfl⟩
  have e1 : Int.tdiv (n : Int) 64 = (q : Int) := by rw [hq]; exact quo_nat n 64
  have e2 : Int.tmod (n : Int) 64 = ((n % 64 : Nat) : Int) := rem_nat n 64
  have hq2 : q ≤ 1000000 := by omega
  by_cases h0 : q < 1 ∨ 4096 < q
  · have c1 := new_bad (P := P) (G := G) (n := (q : Int)) hP (by omega)
    have hT : T.Ok P := hP ▸ T_ok
    refine FnTr.intro (fn := Tryz.f5) (c := bodyOf Tryz.f5) (by rw [hP]; rfl) rfl rfl hT ?_
    generalize hA : Ar.real = A
    generalize hK : Gives _ _ _ = K
    cbv
    have kq : A.quo (A.i2 n) 64 = (q : Int) := by subst hA; exact e1
    refine ⟨⟨by subst hA; show (64 : Int) ≠ 0; decide, by have : A.inR .i64 (A.quo (A.i2 n) 64) := by { rw [kq]; subst hA; exact zi }; exact this⟩, ?_⟩
    refine CS.le hA c1 [] rfl rfl rfl ?_ ?_ ?_
    · (try cbv) <;> (repeat' (first | exact trivial | exact rfl | apply And.intro | exact fun _ => rfl | (intro _ hle; first | refine chunk_le hA rfl hle rfl ?_ | refine cat_le hA ?_ | refine upd_le hA ?_ | (try cbv))))
      exact kq
    · (try cbv) <;> (repeat' (first | exact trivial | exact rfl | apply And.intro | exact fun _ => rfl | (intro _ hle; first | refine chunk_le hA rfl hle rfl ?_ | refine cat_le hA ?_ | refine upd_le hA ?_ | (try cbv))))
    cbv
    refine Fin.le hA 0 [] (.tup [.nilp, .lit .i64 1]) ([]) 0 rfl rfl rfl ?_ ?_ (by rw [← hK]; exact ⟨rfl, rfl, rfl⟩)
    iterate 2 ((try cbv) <;> (repeat' (first | exact trivial | exact rfl | apply And.intro | exact fun _ => rfl | (intro _ hle; first | refine chunk_le hA rfl hle rfl ?_ | refine cat_le hA ?_ | refine upd_le hA ?_ | (try cbv)))))
  · obtain ⟨z, hz⟩ : ∃ z : Nat → Int, z = fun _ => 0 := ⟨_, rfl⟩
    obtain ⟨L, hL⟩ : ∃ L : Int → Option (Nat → Int), L = fun _ => none := ⟨_, rfl⟩
    obtain ⟨N, hN⟩ : ∃ N, N = 64 * q := ⟨_, rfl⟩
    have c1 := new_ok (P := P) (G := G) (n := (q : Int)) (S := z) (L := L) hP rfl (by omega) hN (fun x => by rw [hz]) (fun k => by rw [hL])
    clear hz hL
    have hT : T.Ok P := hP ▸ T_ok
    refine FnTr.intro (fn := Tryz.f5) (c := bodyOf Tryz.f5) (by rw [hP]; rfl) rfl rfl hT ?_
    generalize hA : Ar.real = A
    generalize hK : Gives _ _ _ = K
    cbv
    have kq : A.quo (A.i2 n) 64 = (q : Int) := by subst hA; exact e1
    refine ⟨⟨by subst hA; show (64 : Int) ≠ 0; decide, by have : A.inR .i64 (A.quo (A.i2 n) 64) := by { rw [kq]; subst hA; exact zi }; exact this⟩, ?_⟩
    refine CS.le hA c1 [] rfl rfl rfl ?_ ?_ ?_
    · (try cbv) <;> (repeat' (first | exact trivial | exact rfl | apply And.intro | exact fun _ => rfl | (intro _ hle; first | refine chunk_le hA rfl hle rfl ?_ | refine cat_le hA ?_ | refine upd_le hA ?_ | (try cbv))))
      exact kq
    · (try cbv) <;> (repeat' (first | exact trivial | exact rfl | apply And.intro | exact fun _ => rfl | (intro _ hle; first | refine chunk_le hA rfl hle rfl ?_ | refine cat_le hA ?_ | refine upd_le hA ?_ | (try cbv))))
    cbv
    have kr : A.ne (A.rem (A.i2 n) 64) 0 = true := by
      subst hA
      show (Int.tmod (n : Int) 64 != 0) = true
      rw [e2]
      simp; omega
    refine ⟨by subst hA; show (64 : Int) ≠ 0; decide, ?_⟩
    first | refine testR kr rfl ?_ | refine testL kr rfl ?_
    cbv
    refine Fin.le hA 0 [] (.tup [.nilp, .lit .i64 1]) ([]) 0 rfl rfl rfl ?_ ?_ (by rw [← hK]; exact ⟨rfl, rfl, rfl⟩)
    iterate 2 ((try cbv) <;> (repeat' (first | exact trivial | exact rfl | apply And.intro | exact fun _ => rfl | (intro _ hle; first | refine chunk_le hA rfl hle rfl ?_ | refine cat_le hA ?_ | refine upd_le hA ?_ | (try cbv)))))
theorem of_ok {P : Program} {G : Gl} (hP : P = Tryz.prog) {n s : Nat} {f : Nat → Int} {L : Int → Option (Nat → Int)} (hn : n = 64 * s) (h : 1 ≤ s ∧ s ≤ 4096) (hL : ∀ k, L k = none) :
    FnTr P G 5 [By n f] [] 0 (Gives (.tup [.ptr 0 0, .lit .i64 0]) (DH n f L false 0) 3) := by
  have e1 : Int.tdiv (n : Int) 64 = (s : Int) := by rw [hn]; exact q64 s
  have e2 : Int.tmod (n : Int) 64 = 0 := by
    have := rem_nat n 64
    rw [show n % 64 = 0 by omega] at this
    exact this
  obtain ⟨z, hz⟩ : ∃ z : Nat → Int, z = fun _ => 0 := ⟨_, rfl⟩
  have c1 := new_ok (P := P) (G := G) (n := (s : Int)) (S := z) (L := L) hP rfl h hn (fun x => by rw [hz]) hL
  have hSl : SlTy P _ := hP ▸ sl_ty
  clear hz hL
  have hT : T.Ok P := hP ▸ T_ok
  refine FnTr.intro (fn := Tryz.f5) (c := bodyOf Tryz.f5) (by rw [hP]; rfl) rfl rfl hT ?_
  generalize hA : Ar.real = A
  generalize hK : Gives _ _ _ = K
  cbv
  have kq : A.quo (A.i2 n) 64 = (s : Int) := by subst hA; exact e1
  refine ⟨⟨by subst hA; show (64 : Int) ≠ 0; decide, by have : A.inR .i64 (A.quo (A.i2 n) 64) := by { rw [kq]; subst hA; exact zi }; exact this⟩, ?_⟩
  refine CS.le hA c1 [] rfl rfl rfl ?_ ?_ ?_
  · (try cbv) <;> (repeat' (first | exact trivial | exact rfl | apply And.intro | exact fun _ => rfl | (intro _ hle; first | refine chunk_le hA rfl hle rfl ?_ | refine cat_le hA ?_ | refine upd_le hA ?_ | (try cbv))))
    exact kq
  · (try cbv) <;> (repeat' (first | exact trivial | exact rfl | apply And.intro | exact fun _ => rfl | (intro _ hle; first | refine chunk_le hA rfl hle rfl ?_ | refine cat_le hA ?_ | refine upd_le hA ?_ | (try cbv))))
  cbv
  have kr : A.ne (A.rem (A.i2 n) 64) 0 = false := by
    subst hA
    show (Int.tmod (n : Int) 64 != 0) = false
    rw [e2]; rfl
  refine ⟨by subst hA; show (64 : Int) ≠ 0; decide, ?_⟩
  first | refine testR kr rfl ?_ | refine testL kr rfl ?_
  cbv
  refine OS.did (copy_did (S := z) (S' := f) hSl rfl rfl rfl rfl (Ints.base .u8 z n) rfl (Ints.base .u8 f n) (by simp [NV.val]) (fun i hi => by
    have hi : i < n := hi
    rw [if_pos (by simp only [NV.val]; omega)]; rfl)) ?_
  cbv
  refine Fin.le hA 0 [(5, 0), (6, 1), (7, 2)] (.tup [.ptr 0 0, .lit .i64 0]) (DH n f L false 0) 3 rfl rfl rfl ?_ ?_ (by rw [← hK]; exact ⟨rfl, rfl, rfl⟩)
  iterate 2 ((try cbv) <;> (repeat' (first | exact trivial | exact rfl | apply And.intro | exact fun _ => rfl | (intro _ hle; first | refine chunk_le hA rfl hle rfl ?_ | refine cat_le hA ?_ | refine upd_le hA ?_ | (try cbv)))))
end Go.Proofs.YtnjjgipblimbfaaGreatDoor.Dsk
namespace Go.DskLaw
open Go.Eng
structure FlInv (N : Nat) (S : Nat → Int) (L : Int → Option (Nat → Int)) (es : Array MapEntry) (seen : Array Nat) (Sc : Nat → Int) : Prop where
  done : ∀ e ∈ es.toList, e.born ∈ seen → ∀ x, x < N → e.key = .int .i64 ((x / 64 : Nat) : Int) → Sc x = secV S L (x / 64) (x % 64)
  left : ∀ x, x < N → (∀ e ∈ es.toList, e.born ∈ seen → e.key ≠ .int .i64 ((x / 64 : Nat) : Int)) → Sc x = S x
variable {N c : Nat} {S Sc Sc' : Nat → Int} {L : Int → Option (Nat → Int)} {es : Array MapEntry} {seen : Array Nat} {e : MapEntry}
theorem FlInv.start : FlInv N S L es #[] S := ⟨fun e _ h => by simp at h, fun _ _ _ => rfl⟩
theorem secV_none {i : Nat} (h : L (i : Int) = none) : secV S L i = fun x => S (64 * i + x) := by unfold secV; rw [h]
theorem secV_some {i : Nat} {g : Nat → Int} (h : L (i : Int) = some g) : secV S L i = g := by unfold secV; rw [h]
theorem FlInv.fin (h : FlInv N S L es seen Sc) (hm : MapIs 64 es c L) (h0 : (leftOf es seen).size = 0) : ∀ x, x < N → Sc x = secV S L (x / 64) (x % 64) := by
  intro x hx
  have hall : ∀ e ∈ es.toList, e.born ∈ seen := by
    intro e he
    have : leftOf es seen = #[] := Array.eq_empty_of_size_eq_zero h0
    unfold leftOf at this
    rw [Array.filter_eq_empty_iff] at this
    have := this e (by simpa using he)
    simpa using this
  cases hL : L ((x / 64 : Nat) : Int) with
  | some g =>
    obtain ⟨e, he, hk⟩ := hm.all _ _ hL
    exact h.done e he (hall e he) x hx hk
  | none =>
    rw [secV_none hL]
    simp only []
    rw [show 64 * (x / 64) + x % 64 = x by omega]
    refine h.left x hx fun e he _ hk => ?_
    obtain ⟨k', g', q1, q2, _⟩ := hm.ent e he
    rw [hk] at q1
    cases q1
    rw [hL] at q2; cases q2
theorem FlInv.step {k : Nat} {g : Nat → Int} (h : FlInv N S L es seen Sc) (hm : MapIs 64 es c L) (he : e ∈ es.toList) (hk : e.key = .int .i64 (k : Int)) (hL : L (k : Int) = some g) (hS : ∀ x, x < N → Sc' x = if 64 * k ≤ x ∧ x < 64 * k + 64 then g (x - 64 * k) else Sc x) :
    FlInv N S L es (seen.push e.born) Sc' where
  done := fun e' he' hb x hx hk' => by
    rw [hS x hx]
    by_cases q : x / 64 = k
    · rw [if_pos (by omega), q, secV_some hL, show x - 64 * k = x % 64 by omega]
    · rw [if_neg (by omega)]
      refine h.done e' he' ?_ x hx hk'
      rcases Array.mem_push.1 hb with hb | hb
      · exact hb
      · exfalso
        obtain ⟨i, hi⟩ := List.getElem?_of_mem he
        obtain ⟨j, hj⟩ := List.getElem?_of_mem he'
        have h1 : (es.toList.map (·.born))[i]? = some e.born := by rw [List.getElem?_map, hi]; rfl
        have h2 : (es.toList.map (·.born))[j]? = some e.born := by rw [List.getElem?_map, hj, ← hb]; rfl
        have hl : i < (es.toList.map (·.born)).length := by
          rcases Nat.lt_or_ge i (es.toList.map (·.born)).length with hl | hl
          · exact hl
          · rw [List.getElem?_eq_none hl] at h1; cases h1
        have hij := (List.getElem?_inj hl hm.born).1 (h1.trans h2.symm)
        subst hij
        rw [hi] at hj; cases hj
        rw [hk] at hk'; cases hk'
        omega
  left := fun x hx hn => by
    rw [hS x hx, if_neg]
    · exact h.left x hx fun e' he' hb => hn e' he' (Array.mem_push.2 (.inl hb))
    · intro q
      refine hn e he (Array.mem_push.2 (.inr rfl)) ?_
      rw [hk]
      congr 1
      omega
theorem left_mem (h : e ∈ (leftOf es seen).toList) : e ∈ es.toList ∧ e.born ∉ seen := by
  unfold leftOf at h
  simp at h
  simpa using h
theorem left_less (h : e ∈ (leftOf es seen).toList) : (leftOf es (seen.push e.born)).size < (leftOf es seen).size := left_shrinks es seen e h
end Go.DskLaw
namespace Go.Proofs.YtnjjgipblimbfaaGreatDoor.Dsk
open Go.Eng
open Go.DskLaw (q64 secV FlInv FlInv.start FlInv.fin FlInv.step left_mem left_less)
set_option maxRecDepth 100000
set_option maxHeartbeats 4000000
abbrev DN (N : Nat) (S : Nat → Int) (mb : Nat) (o : Obj) (ar : Bool) (ca : Int) : Hl :=
  [(0, .cells 58 [.sl 1 1 (.l 0) (.s N), .mp 2, .bs ar, .int .i64 ca]), (1, .row 5 1 (.s N) (fun e => [.int .u8 (S e.val)])), (2, .num mb o)]
theorem at_num {P : Program} {G : Gl} (hP : P = Tryz.prog) {N s i o mb : Nat} {ob : Obj} {S : Nat → Int} {ar : Bool} {ca : Int} (hN : N = 64 * s) (hs : s ≤ 4096) (hi : i < s) (ho : o = 64 * i) :
    FnTr P G 55 [.ptr 0 0, .int .i64 (i : Int)] (DN N S mb ob ar ca) 3 (Gives (.sl 1 1 (.s o) (.l 64)) (DN N S mb ob ar ca) 3) := by
  have hT : T.Ok P := hP ▸ T_ok
  refine FnTr.intro (fn := Tryz.f55) (c := bodyOf Tryz.f55) (by rw [hP]; rfl) rfl rfl hT ?_
  generalize hA : Ar.real = A
  generalize hK : Gives _ _ _ = K
  cbv
  refine ⟨?_, ?_, ?_, ⟨?_, ?_, ?_, ?_⟩, ?_⟩
  iterate 7 (subst hA; (try simp only [zn] at *); (try (simp only [Ar.real, NV.val, zo, zt])); first | done | omega | decide | exact zi | (refine ⟨?_, ?_⟩ <;> first | omega | decide | exact zi))
  refine Fin.le hA 3 [] (.sl 1 1 (.s o) (.l 64)) (DN N S mb ob ar ca) 3 rfl rfl rfl ?_ ?_ (by rw [← hK]; exact ⟨rfl, rfl, rfl⟩)
  · (try cbv) <;> (repeat' (first | exact trivial | exact rfl | apply And.intro | exact fun _ => rfl | (intro _ hle; first | refine chunk_le hA rfl hle rfl ?_ | refine cat_le hA ?_ | refine upd_le hA ?_ | (try cbv))))
    all_goals (subst hA; (try simp only [zn] at *); (try (simp only [Ar.real, NV.val, zo, zt])); first | done | omega | decide | exact zi | (refine ⟨?_, ?_⟩ <;> first | omega | decide | exact zi))
  · (try cbv) <;> (repeat' (first | exact trivial | exact rfl | apply And.intro | exact fun _ => rfl | (intro _ hle; first | refine chunk_le hA rfl hle rfl ?_ | refine cat_le hA ?_ | refine upd_le hA ?_ | (try cbv))))
theorem flush_off {P : Program} {G : Gl} (hP : P = Tryz.prog) {N : Nat} {S : Nat → Int} {L : Int → Option (Nat → Int)} {ar : Bool} {ca : Int} (h : ar = true ∧ ca = 0) :
    FnTr P G 32 [.ptr 0 0] (DH N S L ar ca) 3 (Gives (.lit .i64 6) (DH N S L ar ca) 3) := by
  have c1 := asked_off (P := P) (G := G) (N := N) (S := S) (L := L) (ar := ar) (i := 0) (ca := ca) hP h
  have hT : T.Ok P := hP ▸ T_ok
  refine FnTr.intro (fn := Tryz.f32) (c := bodyOf Tryz.f32) (by rw [hP]; rfl) rfl rfl hT ?_
  generalize hA : Ar.real = A
  generalize hK : Gives _ _ _ = K
  cbv
  refine CS.le hA (c1) [(0, 0), (1, 1), (2, 2)] rfl rfl rfl ?_ ?_ ?_
  iterate 2 ((try cbv) <;> (repeat' (first | exact trivial | exact rfl | apply And.intro | exact fun _ => rfl | (intro _ hle; first | refine chunk_le hA rfl hle rfl ?_ | refine cat_le hA ?_ | refine upd_le hA ?_ | (try cbv)))) <;> (try (subst hA; (try simp only [zn] at *); (try (simp only [Ar.real, NV.val, zo, zt])); first | done | omega | decide | exact zi | (refine ⟨?_, ?_⟩ <;> first | omega | decide | exact zi))))
  cbv
  refine Fin.le hA 3 [] (.lit .i64 6) (DH N S L ar ca) 3 rfl rfl rfl ?_ ?_ (by rw [← hK]; exact ⟨rfl, rfl, rfl⟩)
  iterate 2 ((try cbv) <;> (repeat' (first | exact trivial | exact rfl | apply And.intro | exact fun _ => rfl | (intro _ hle; first | refine chunk_le hA rfl hle rfl ?_ | refine cat_le hA ?_ | refine upd_le hA ?_ | (try cbv)))))
theorem flush_ok {P : Program} {G : Gl} (hP : P = Tryz.prog) {N s : Nat} {S S' : Nat → Int} {L L' : Int → Option (Nat → Int)} {ar : Bool} {ca ca' : Int} (h : ¬ (ar = true ∧ ca = 0)) (hN : N = 64 * s) (hs : 1 ≤ s ∧ s ≤ 4096) (hc : ca' = if ar then ca - 1 else ca) (hca : 0 ≤ ca ∧ ca ≤ 9223372036854775807)
    (hk : ∀ k g, L k = some g → 0 ≤ k ∧ k < (s : Int)) (hS : ∀ x, x < N → S' x = secV S L (x / 64) (x % 64)) (hL : ∀ k, L' k = none) :
    FnTr P G 32 [.ptr 0 0] (DH N S L ar ca) 3 (Gives (.lit .i64 0) (DH N S' L' ar ca') 3) := by
  have c1 := asked_ok (P := P) (G := G) (S := S) (L := L) (ar := ar) (ca := ca) (i := 0) hP h hN hs.2 (by omega)
  have hM : MapTy P _ 64 := hP ▸ map_ty
  have hAr : ArrTy P _ 64 := hP ▸ arr_ty
  have hSl : SlTy P _ := hP ▸ sl_ty
  have hT : T.Ok P := hP ▸ T_ok
  refine FnTr.intro (fn := Tryz.f32) (c := bodyOf Tryz.f32) (by rw [hP]; rfl) rfl rfl hT ?_
  generalize hA : Ar.real = A
  generalize hK : Gives _ _ _ = K
  cbv
  refine CS.le hA (c1) [(0, 0), (1, 1), (2, 2)] rfl rfl rfl ?_ ?_ ?_
  iterate 2 ((try cbv) <;> (repeat' (first | exact trivial | exact rfl | apply And.intro | exact fun _ => rfl | (intro _ hle; first | refine chunk_le hA rfl hle rfl ?_ | refine cat_le hA ?_ | refine upd_le hA ?_ | (try cbv)))) <;> (try (subst hA; (try simp only [zn] at *); (try (simp only [Ar.real, NV.val, zo, zt])); first | done | omega | decide | exact zi | (refine ⟨?_, ?_⟩ <;> first | omega | decide | exact zi))))
  cbv
  refine OS.range (sz := 64) hM rfl rfl rfl ?_
  intro mb es c hmap
  cbv
  have c2 := done_fn (P := P) (G := G) (N := N) (S := S') (L := L') (ar := ar) hP hc hca
  refine LS.leU hT hA 16 (fun _ => []) [] (fun (Z : Array Nat × (Nat → Int)) => [(1, .row 5 1 (.s N) (fun e => [.int .u8 (Z.2 e.val)])), (15, .obj (.mapIter (some mb) c Z.1 c))]) (fun Z => FlInv N S L es Z.1 Z.2) (fun Z => (leftOf es Z.1).size) (#[], S) [] rfl rfl ?_ ?_ ?_
  · (try cbv) <;> (repeat' (first | exact trivial | exact rfl | apply And.intro | exact fun _ => rfl | (intro _ hle; first | refine chunk_le hA rfl hle rfl ?_ | refine cat_le hA ?_ | refine upd_le hA ?_ | refine int_le ?_ | skip)))
  · exact FlInv.start
  · intro R hR Z hZ
    obtain ⟨seen, Sc⟩ := Z
    cbv
    refine OS.next (sz := 64) (i := 2) hmap rfl rfl rfl rfl (fun h0 => ?_) (fun e he seen' hse => ?_)
    · have hSc : ∀ x, x < N → Sc x = S' x := fun x hx => (hZ.fin hmap h0 x hx).trans (hS x hx).symm
      clear hR hZ hS
      have hp2 : ∀ e, ltNV A e (.s N) → leL (leSV A 4) [.int .u8 (Sc e.val)] [.int .u8 (S' e.val)] := fun e he => by
        refine int_le ?_
        exact hSc _ (by subst hA; exact ltNV_real.1 he)
      cbv
      refine OS.did (clear_did (sz := 64) hM rfl rfl rfl rfl trivial) ?_
      cbv
      refine CS.le hA c2 [(0, 0), (1, 1), (2, 2)] rfl rfl rfl ?_ ?_ ?_
      · (try cbv) <;> (repeat' (first | exact trivial | exact rfl | apply And.intro | exact fun _ => rfl | (intro _ hle; first | refine chunk_le hA rfl hle rfl ?_ | refine cat_le hA ?_ | refine upd_le hA ?_ | (try cbv))))
      · (try cbv) <;> (repeat' (first | exact trivial | exact rfl | apply And.intro | exact fun _ => rfl | (intro _ hle; first | exact hp2 _ hle | refine chunk_le hA rfl hle rfl ?_ | refine cat_le hA ?_ | refine upd_le hA ?_ | refine int_le ?_ | skip)))
        exact fun k => (hL k).symm
      cbv
      refine Fin.le hA 3 [] (.lit .i64 0) (DH N S' L' ar ca') 3 rfl rfl rfl ?_ ?_ (by rw [← hK]; exact ⟨rfl, rfl, rfl⟩)
      iterate 2 ((try cbv) <;> (repeat' (first | exact trivial | exact rfl | apply And.intro | exact fun _ => rfl | (intro _ hle; first | refine chunk_le hA rfl hle rfl ?_ | refine cat_le hA ?_ | refine upd_le hA ?_ | (try cbv)))))
    · obtain ⟨hes, hnew⟩ := left_mem he
      obtain ⟨k, g, hke, hLk, hval⟩ := hmap.ent e hes
      obtain ⟨q, rfl⟩ : ∃ q : Nat, k = (q : Int) := ⟨k.toNat, by have := hk k g hLk; omega⟩
      have hq : q < s := by have := hk _ g hLk; simp only [zn] at this; omega
      obtain ⟨o, ho⟩ : ∃ o, o = 64 * q := ⟨_, rfl⟩
      obtain ⟨Sc', hSc'⟩ : ∃ Sc' : Nat → Int, Sc' = fun x => if o ≤ x ∧ x < o + 64 then g (x - o) else Sc x := ⟨_, rfl⟩
      have hSe : ∀ x, Sc' x = if o ≤ x ∧ x < o + 64 then g (x - o) else Sc x := fun x => by rw [hSc']
      have hZ' : FlInv N S L es (seen.push e.born) Sc' := hZ.step hmap hes hke hLk (fun x _ => by rw [hSe, ho])
      rw [← hse] at hZ'
      have hls : (leftOf es seen').size < (leftOf es seen).size := by rw [hse]; exact left_less he
      have a1 := at_num (P := P) (G := G) (mb := mb) (ob := .map es c) (S := Sc) (ar := ar) (ca := ca) hP hN hs.2 hq ho
      clear hZ hSc'
      cbv
      refine OS.did (entry_did (i := 2) hmap hse rfl rfl rfl rfl hes hke hval) ?_
      cbv
      refine DS.runK hA hT (by rw [hP]; exact P_mixed) 4 rfl ?_
      cbv
      refine CD.pass hA (a1) [(0, 0), (1, 1), (2, 2)] [] rfl ⟨rfl, rfl, rfl, rfl, ?_, ?_⟩ rfl (.inl rfl) ?_
      iterate 2 ((try cbv) <;> (repeat' (first | exact trivial | exact rfl | apply And.intro | exact fun _ => rfl | (intro _ hle; first | refine chunk_le hA rfl hle rfl ?_ | refine cat_le hA ?_ | refine upd_le hA ?_ | (try cbv)))) <;> (try (subst hA; (try simp only [zn] at *); (try (simp only [Ar.real, NV.val, zo, zt])); first | done | omega | decide | exact zi | (refine ⟨?_, ?_⟩ <;> first | omega | decide | exact zi))))
      cbv
      refine OD.did [20] rfl (sliceArr_did (g := g) (.l 64) hAr rfl rfl rfl rfl rfl) rfl ?_
      cbv
      refine OD.did [1] rfl (copy_did (S := Sc) (S' := Sc') hSl rfl rfl rfl rfl (Ints.base .u8 Sc N) rfl (Ints.base .u8 g 64) (show o + 64 ≤ N by omega) (fun i hi => by rw [hSe]; rfl)) rfl ?_
      cbv
      refine DF.fin (by kernel_rfl) (by kernel_rfl) ?_
      cbv
      refine hR _ _ ⟨(seen', Sc'), 16, [], rfl, rfl, ?_, hZ', hls⟩
      clear hR
      (try cbv) <;> (repeat' (first | exact trivial | exact rfl | apply And.intro | exact fun _ => rfl | (intro _ hle; first | refine chunk_le hA rfl hle rfl ?_ | refine cat_le hA ?_ | refine upd_le hA ?_ | refine int_le ?_ | skip)))
      all_goals (subst hA; (try simp only [zn] at *); (try (simp only [Ar.real, NV.val, zo, zt])); first | done | omega | decide | exact zi | (refine ⟨?_, ?_⟩ <;> first | omega | decide | exact zi))
end Go.Proofs.YtnjjgipblimbfaaGreatDoor.Dsk
namespace Go.Proofs.YtnjjgipblimbfaaGreatDoor.Dsk
open Go.Eng
open Go.DskLaw (q64 secV clampB crash1 crashP crashP_keys)
set_option maxRecDepth 100000
set_option maxHeartbeats 4000000
theorem crash_fn {P : Program} {G : Gl} (hP : P = Tryz.prog) {N s n : Nat} {S S' : Nat → Int} {L L' : Int → Option (Nat → Int)} {ar : Bool} {ca : Int} {ks kb : Nat → Int} (hN : N = 64 * s) (hs : s ≤ 4096) (hn : n ≤ 1000000)
    (hk : ∀ k g, L k = some g → 0 ≤ k ∧ k < (s : Int)) (hS : ∀ x, x < N → S' x = (crashP S L ks kb n).1 x) (hL : ∀ k, L' k = none) :
    FnTr P G 18 [.ptr 0 0, .ro 2 (.s n) (fun e => [.int .i64 (ks e.val), .int .i64 (kb e.val)])] (DH N S L ar ca) 3 (Gives (.tup []) (DH N S' L' false 0) 3) := by
  have hM : MapTy P _ 64 := hP ▸ map_ty
  have hAr : ArrTy P _ 64 := hP ▸ arr_ty
  have hSl : SlTy P _ := hP ▸ sl_ty
  obtain ⟨Si, hSi⟩ : ∃ Si : Nat → Nat → Int, Si = fun (i : Nat) => (crashP S L ks kb i).1 := ⟨_, rfl⟩
  obtain ⟨Li, hLi⟩ : ∃ Li : Nat → Int → Option (Nat → Int), Li = fun (i : Nat) => (crashP S L ks kb i).2 := ⟨_, rfl⟩
  have h1 : ∀ i, Li i (ks i) = none → Si (i + 1) = Si i ∧ Li (i + 1) = Li i := fun i h => by
    rw [hSi, hLi]; rw [hLi] at h
    show (crash1 _ _ _ _).1 = _ ∧ (crash1 _ _ _ _).2 = _
    unfold crash1
    simp only [] at h
    rw [h]
    exact ⟨rfl, rfl⟩
  have h2 : ∀ i g, Li i (ks i) = some g → (∀ x, Si (i + 1) x = if 64 * (ks i).toNat ≤ x ∧ x < 64 * (ks i).toNat + clampB (kb i) then g (x - 64 * (ks i).toNat) else Si i x) ∧ (∀ k, Li (i + 1) k = if k = ks i then none else Li i k) := fun i g h => by
    rw [hSi, hLi]; rw [hLi] at h
    show (∀ x, (crash1 _ _ _ _).1 x = _) ∧ ∀ k, (crash1 _ _ _ _).2 k = _
    unfold crash1
    simp only [] at h
    rw [h]
    exact ⟨fun _ => rfl, fun _ => rfl⟩
  have hkey : ∀ i g, Li i (ks i) = some g → 0 ≤ ks i ∧ ks i < (s : Int) := fun i g h => by rw [hLi] at h; exact crashP_keys hk i _ _ h
  have hS0 : ∀ x, S x = Si 0 x := fun x => by rw [hSi]; rfl
  have hL0 : ∀ k, L k = Li 0 k := fun k => by rw [hLi]; rfl
  have hSn : ∀ x, x < N → Si n x = S' x := fun x hx => by rw [hS x hx, hSi]
  clear hSi hLi hS hk
  have hT : T.Ok P := hP ▸ T_ok
  refine FnTr.intro (fn := Tryz.f18) (c := bodyOf Tryz.f18) (by rw [hP]; rfl) rfl rfl hT ?_
  generalize hA : Ar.real = A
  generalize hK : Gives _ _ _ = K
  cbv
  refine LS.leU hT hA 3 (fun (i : Nat) => [(12, .int .i64 (i : Int))]) [] (fun i => [(1, .row 5 1 (.s N) (fun e => [.int .u8 (Si i e.val)])), (2, .wm 64 (Li i))]) (fun i => i ≤ n) (fun i => n - i) 0 [] rfl rfl ?_ ?_ ?_
  · (try cbv) <;> (repeat' (first | exact trivial | exact rfl | apply And.intro | exact fun _ => rfl | (intro _ hle; first | refine chunk_le hA rfl hle rfl ?_ | refine cat_le hA ?_ | refine upd_le hA ?_ | (try cbv))))
    all_goals first | exact hS0 _ | exact hL0
  · exact Nat.zero_le _
  · intro R hR i hi
    cbv
    refine ⟨fun h3 => ?_, fun h3 => ?_⟩
    · have him : i < n := by clear h1 h2 hkey hR; subst hA; simpa [Ar.real] using h3
      cbv
      refine ⟨(by (subst hA; (try simp only [zn] at *); (try (simp only [Ar.real, NV.val, zo, zt])); first | done | omega | decide | exact zi | (refine ⟨?_, ?_⟩ <;> first | omega | decide | exact zi))), ?_⟩
      have kn : A.nat (Int.ofNat i) = i := by subst hA; rfl
      cases hlk : Li i (ks i) with
      | none =>
        obtain ⟨e1, e2⟩ := h1 i hlk
        clear h1 h2 hkey
        refine DS.runK hA hT (by rw [hP]; exact P_mixed) 1 rfl ?_
        cbv
        refine OD.did [2] rfl (lookup_did (k := ks (A.nat (Int.ofNat i))) hM rfl rfl rfl rfl false (fun _ => 0) (.inr ⟨rfl, by rw [kn]; exact hlk, rfl⟩)) rfl ?_
        cbv
        refine DF.fin (by kernel_rfl) (by kernel_rfl) ?_
        cbv
        refine ⟨(by (subst hA; (try simp only [zn] at *); (try (simp only [Ar.real, NV.val, zo, zt])); first | done | omega | decide | exact zi | (refine ⟨?_, ?_⟩ <;> first | omega | decide | exact zi))), hR _ _ ⟨i + 1, 3, [], rfl, rfl, ?_, him, (by show n - (i + 1) < n - i; omega)⟩⟩
        clear hR
        (try cbv) <;> (repeat' (first | exact trivial | exact rfl | apply And.intro | exact fun _ => rfl | (intro _ hle; first | refine chunk_le hA rfl hle rfl ?_ | refine cat_le hA ?_ | refine upd_le hA ?_ | refine int_le ?_ | skip)))
        all_goals first | exact congrFun e1.symm _ | exact fun k => congrFun e2.symm k | (subst hA; (try simp only [zn] at *); (try (simp only [Ar.real, NV.val, zo, zt])); first | done | omega | decide | exact zi | (refine ⟨?_, ?_⟩ <;> first | omega | decide | exact zi))
      | some g =>
        obtain ⟨e1, e2⟩ := h2 i g hlk
        obtain ⟨q, hq⟩ : ∃ q : Nat, ks i = (q : Int) := ⟨(ks i).toNat, by have := hkey i g hlk; omega⟩
        have hqs : q < s := by have := hkey i g hlk; simp only [zn] at *; omega
        obtain ⟨o, ho⟩ : ∃ o, o = 64 * q := ⟨_, rfl⟩
        obtain ⟨m, hm⟩ : ∃ m, m = clampB (kb i) := ⟨_, rfl⟩
        have hm64 : m ≤ 64 := by rw [hm]; unfold clampB; omega
        have hmv : (if (if (0 : Int) > kb i then 0 else kb i) > 64 then 64 else (if (0 : Int) > kb i then 0 else kb i)) = (m : Int) := by
          rw [hm]; unfold clampB; split <;> split <;> omega
        have a1 := at_fn (P := P) (G := G) (S := Si i) (L := Li i) (ar := ar) (ca := ca) hP hN hs hqs ho
        rw [hq] at e1
        rw [← hm, show ((q : Int)).toNat = q from rfl, ← ho] at e1
        clear h1 h2 hkey
        refine DS.runK hA hT (by rw [hP]; exact P_mixed) 1 rfl ?_
        cbv
        refine OD.did [2] rfl (lookup_did (k := ks (A.nat (Int.ofNat i))) hM rfl rfl rfl rfl true g (.inl ⟨rfl, by rw [kn]; exact hlk⟩)) rfl ?_
        cbv
        refine DF.fin (by kernel_rfl) (by kernel_rfl) ?_
        cbv
        refine DS.runK hA hT (by rw [hP]; exact P_mixed) 4 rfl ?_
        cbv
        refine CD.pass hA (a1) [(0, 0), (1, 1), (2, 2)] [] rfl ⟨rfl, rfl, rfl, rfl, ?_, ?_⟩ rfl (.inl rfl) ?_
        iterate 2 ((try cbv) <;> (repeat' (first | exact trivial | exact rfl | apply And.intro | exact fun _ => rfl | (intro _ hle; first | refine chunk_le hA rfl hle rfl ?_ | refine cat_le hA ?_ | refine upd_le hA ?_ | (try cbv)))) <;> (try (subst hA; (try simp only [zn] at *); (try (simp only [Ar.real, NV.val, zo, zt])); first | done | omega | decide | exact zi | (refine ⟨?_, ?_⟩ <;> first | omega | decide | exact zi))))
        cbv
        have hN64 : A.min (A.max (kb (NV.s (A.nat (Int.ofNat i))).val) 0) 64 = (m : Int) ∧ m ≤ 64 := ⟨by subst hA; exact hmv, hm64⟩
        refine OD.did [18] rfl (sliceArr_did (g := g) (.s m) hAr rfl rfl rfl rfl hN64) rfl ?_
        cbv
        refine OD.did [1] rfl (copy_did (S := Si i) (S' := Si (i + 1)) hSl rfl rfl rfl rfl (Ints.base .u8 (Si i) N) rfl (Ints.base .u8 g m) (show o + 64 ≤ N by omega) (fun x hx => by rw [e1 x]; show _ = if o ≤ x ∧ x < o + min m 64 then _ else _; rw [Nat.min_eq_left hm64]; rfl)) rfl ?_
        cbv
        refine DF.fin (by kernel_rfl) (by kernel_rfl) ?_
        cbv
        refine DS.runK hA hT (by rw [hP]; exact P_mixed) 1 rfl ?_
        cbv
        refine OD.did [2] rfl (delete_did hM rfl rfl rfl rfl rfl) rfl ?_
        cbv
        refine DF.fin (by kernel_rfl) (by kernel_rfl) ?_
        cbv
        refine ⟨(by (subst hA; (try simp only [zn] at *); (try (simp only [Ar.real, NV.val, zo, zt])); first | done | omega | decide | exact zi | (refine ⟨?_, ?_⟩ <;> first | omega | decide | exact zi))), hR _ _ ⟨i + 1, 3, [], rfl, rfl, ?_, him, (by show n - (i + 1) < n - i; omega)⟩⟩
        clear hR
        (try cbv) <;> (repeat' (first | exact trivial | exact rfl | apply And.intro | exact fun _ => rfl | (intro _ hle; first | refine chunk_le hA rfl hle rfl ?_ | refine cat_le hA ?_ | refine upd_le hA ?_ | refine int_le ?_ | skip)))
        all_goals first | (intro k; rw [e2 k]; show updL (Li i) (ks (A.nat (Int.ofNat i))) none k = _; rw [kn]; rfl) | (subst hA; (try simp only [zn] at *); (try (simp only [Ar.real, NV.val, zo, zt])); first | done | omega | decide | exact zi | (refine ⟨?_, ?_⟩ <;> first | omega | decide | exact zi))
    · have him : i = n := by clear h1 h2 hkey hR; subst hA; simp [Ar.real] at h3; omega
      subst him
      clear h1 h2 hkey hR
      cbv
      refine OS.did (clear_did (sz := 64) hM rfl rfl rfl rfl rfl) ?_
      cbv
      have hp2 : ∀ e, ltNV A e (.s N) → leL (leSV A 4) [.int .u8 (Si i e.val)] [.int .u8 (S' e.val)] := fun e he => by
        refine int_le ?_
        exact hSn _ (by subst hA; exact ltNV_real.1 he)
      refine Fin.le hA 3 [] (.tup []) (DH N S' L' false 0) 3 rfl rfl rfl ?_ ?_ (by rw [← hK]; exact ⟨rfl, rfl, rfl⟩)
      · (try cbv) <;> (repeat' (first | exact trivial | exact rfl | apply And.intro | exact fun _ => rfl | (intro _ hle; first | refine chunk_le hA rfl hle rfl ?_ | refine cat_le hA ?_ | refine upd_le hA ?_ | (try cbv))))
      · (try cbv) <;> (repeat' (first | exact trivial | exact rfl | apply And.intro | exact fun _ => rfl | (intro _ hle; first | exact hp2 _ hle | refine chunk_le hA rfl hle rfl ?_ | refine cat_le hA ?_ | refine upd_le hA ?_ | refine int_le ?_ | skip)))
        exact fun k => (hL k).symm
end Go.Proofs.YtnjjgipblimbfaaGreatDoor.Dsk
namespace Go.DskLaw
theorem pcs_lt {n : Nat} {f : Nat → Int} {j x : Nat} (h : x < 62) : pcs n f j x = if 62 * j + x < n then f (62 * j + x) else 0 := by unfold pcs; rw [if_pos h]
theorem pcs_62 (n : Nat) (f : Nat → Int) (j : Nat) : pcs n f j 62 = ((min (n - 62 * j) 62 : Nat) : Int) := rfl
theorem pcs_63 (n : Nat) (f : Nat → Int) (j : Nat) : pcs n f j 63 = if n - 62 * j > 62 then 1 else 2 := rfl
theorem isB_pcs {n : Nat} {f : Nat → Int} (hf : ∀ x, x < n → 0 ≤ f x ∧ f x ≤ 255) (j : Nat) : isB (pcs n f j) := by
  intro x hx
  unfold pcs
  split
  · split
    · exact hf _ (by assumption)
    · omega
  · split
    · omega
    · split
      · split <;> omega
      · omega
theorem padOk_congr {v w : Nat → Int} (h : ∀ x, x < 64 → v x = w x) : padOk v ↔ padOk w := by
  unfold padOk
  rw [h 62 (by omega)]
  constructor
  · rintro ⟨h1, h2⟩
    exact ⟨h1, fun x a b => by rw [← h x (by omega)]; exact h2 x a b⟩
  · rintro ⟨h1, h2⟩
    exact ⟨h1, fun x a b => by rw [h x (by omega)]; exact h2 x a b⟩
theorem usedP_congr {v w : Nat → Int} (h : ∀ x, x < 64 → v x = w x) : usedP v = usedP w := by
  have h1 := padOk_congr h
  have h2 := h 62 (by omega)
  have h3 := h 63 (by omega)
  unfold usedP
  rw [h2, h3]
  by_cases q : padOk v
  · rw [if_pos q, if_pos (h1.1 q)]
  · rw [if_neg q, if_neg (fun e => q (h1.2 e))]
theorem usedP_pcs_on {n : Nat} {f : Nat → Int} {j : Nat} (h : 62 * j + 62 < n) : usedP (pcs n f j) = some (62, true) := by
  have e : pcs n f j 62 = 62 := by rw [pcs_62]; omega
  refine usedP_on ⟨by rw [e]; omega, fun x h1 h2 => ?_⟩ (by rw [pcs_63, if_pos (by omega)]) (by rw [e]; rfl)
  rw [e] at h1; omega
theorem usedP_pcs_end {n : Nat} {f : Nat → Int} {j : Nat} (h : n ≤ 62 * j + 62) : usedP (pcs n f j) = some (n - 62 * j, false) := by
  have e : pcs n f j 62 = ((n - 62 * j : Nat) : Int) := by rw [pcs_62]; omega
  rw [usedP_end ⟨by rw [e]; omega, fun x h1 h2 => ?_⟩ (by rw [pcs_63, if_neg (by omega)]; decide) (by rw [pcs_63, if_neg (by omega)]), e]
  · rfl
  · rw [pcs_lt h2, if_neg]
    rw [e] at h1; omega
theorem getP_whole {V : Nat → Nat → Int} {first fin n : Nat} {r : Nat → Int} (hfin : first + needN n ≤ fin) (hn : n ≤ 65536) (hV : ∀ j, j < needN n → ∀ x, x < 64 → V (first + j) x = pcs n r j x) :
    ∀ (k j : Nat) (f : Nat → Int), k + j + 1 = needN n → (∀ i, i < 62 * j → i < n → f i = r i) → ∃ f', getP V first fin (fin - (first + j)) (first + j) (62 * j) f = some (n, f', first + needN n) ∧ ∀ i, i < n → f' i = r i := by
  intro k
  induction k with
  | zero =>
    intro j f hk hf
    have hm : n ≤ 62 * j + 62 ∧ (j = 0 ∨ 62 * j < n) := by unfold needN at hk; omega
    have hu : usedP (V (first + j)) = some (n - 62 * j, false) := (usedP_congr (hV j (by omega))).trans (usedP_pcs_end hm.1)
    have e1 : 62 * j + (n - 62 * j) = n := by omega
    refine ⟨_, by rw [getP_end (by omega) hu (by omega) (by omega), e1]; rw [show first + j + 1 = first + needN n by omega], fun i hi => ?_⟩
    by_cases q : i < 62 * j
    · simp only [q, if_true]
      exact hf i q hi
    · simp only [q, if_false]
      rw [hV j (by omega) _ (by omega), pcs_lt (by omega), if_pos (by omega)]
      congr 1; omega
  | succ k ih =>
    intro j f hk hf
    have hm : 62 * j + 62 < n := by unfold needN at hk; omega
    have hu : usedP (V (first + j)) = some (62, true) := (usedP_congr (hV j (by omega))).trans (usedP_pcs_on hm)
    rw [getP_on (by omega) hu (by omega)]
    obtain ⟨f', h1, h2⟩ := ih (j + 1) (fun i => if i < 62 * j then f i else V (first + j) (i - 62 * j)) (by omega) (fun i h1 h2 => by
      by_cases q : i < 62 * j
      · simp only [q, if_true]
        exact hf i q h2
      · simp only [q, if_false]
        rw [hV j (by omega) _ (by omega), pcs_lt (by omega), if_pos (by omega)]
        congr 1; omega)
    exact ⟨f', h1, h2⟩
def atN (o : Nat) (len : Nat → Nat) : Nat → Nat
  | 0 => o
  | i + 1 => atN o len i + needN (len i)
theorem need1 (n : Nat) : 1 ≤ needN n := by unfold needN; omega
theorem atN_mono {o : Nat} {len : Nat → Nat} {i j : Nat} (h : i ≤ j) : atN o len i ≤ atN o len j := by
  induction j with
  | zero => rw [Nat.le_zero.1 h]; exact Nat.le_refl _
  | succ j ih =>
    rcases Nat.lt_or_ge i (j + 1) with q | q
    · have := ih (by omega)
      show _ ≤ atN o len j + needN (len j)
      omega
    · rw [show i = j + 1 by omega]; exact Nat.le_refl _
theorem le_atN (o : Nat) (len : Nat → Nat) (i : Nat) : o + i ≤ atN o len i := by
  induction i with
  | zero => exact Nat.le_refl _
  | succ i ih => show _ ≤ atN o len i + needN (len i); have := need1 (len i); omega
theorem scan_row {V : Nat → Nat → Int} {o fin c0 : Nat} {len : Nat → Nat} {r : Nat → Nat → Int} (hlen : ∀ i, i < c0 → len i ≤ 65536) (hfin : atN o len c0 ≤ fin) (hV : ∀ i, i < c0 → ∀ j, j < needN (len i) → ∀ x, x < 64 → V (atN o len i + j) x = pcs (len i) (r i) j x)
    (hstop : getP V (atN o len c0) fin (fin - atN o len c0) (atN o len c0) 0 (fun _ => 0) = none) :
    ∀ (q i k : Nat) (g : Nat → Nat × (Nat → Int)), q + i = c0 → fin - atN o len i < k → (∀ u, u < i → (g u).1 = len u ∧ ∀ x, x < len u → (g u).2 x = r u x) → ∃ gs, scanP V fin k (atN o len i) i g = (c0, gs, atN o len c0) ∧ ∀ u, u < c0 → (gs u).1 = len u ∧ ∀ x, x < len u → (gs u).2 x = r u x := by
  intro q
  induction q with
  | zero =>
    intro i k g hq hk hg
    obtain rfl : i = c0 := by omega
    exact ⟨g, scanP_none hstop, hg⟩
  | succ q ih =>
    intro i k g hq hk hg
    have hi : i < c0 := by omega
    have hm : atN o len (i + 1) ≤ atN o len c0 := atN_mono (by omega)
    have e1 : atN o len (i + 1) = atN o len i + needN (len i) := rfl
    have hn1 := need1 (len i)
    obtain ⟨f', h1, h2⟩ := getP_whole (V := V) (first := atN o len i) (fin := fin) (n := len i) (r := r i) (by omega) (hlen i hi) (hV i hi) (needN (len i) - 1) 0 (fun _ => 0) (by omega) (fun u h => by omega)
    obtain ⟨k', rfl⟩ : ∃ k', k = k' + 1 := ⟨k - 1, by omega⟩
    rw [scanP_some h1, ← e1]
    refine ih (i + 1) k' _ (by omega) (by omega) fun u hu => ?_
    by_cases w : u < i
    · simp only [w, if_true]
      exact hg u w
    · obtain rfl : u = i := by omega
      simp only [w, if_false]
      exact ⟨trivial, h2⟩
theorem usedP_zero {v : Nat → Int} (h : v 63 = 0) : usedP v = none := by
  by_cases q : padOk v
  · exact usedP_none3 q (by rw [h]; decide) (by rw [h]; decide)
  · exact usedP_none1 q
theorem getP_zero {V : Nat → Nat → Int} {first fin : Nat} {f : Nat → Int} (h : first < fin → V first 63 = 0) : getP V first fin (fin - first) first 0 f = none := by
  by_cases q : fin ≤ first
  · exact getP_stop q _
  · exact getP_none (by omega) (usedP_zero (h (by omega)))
def pieceAt (o : Nat) (len : Nat → Nat) (r : Nat → Nat → Int) : Nat → Nat → Nat → Int
  | 0, _ => fun _ => 0
  | i + 1, t => if atN o len i ≤ t ∧ t < atN o len (i + 1) then pcs (len i) (r i) (t - atN o len i) else pieceAt o len r i t
def keptB (ks kb : Nat → Int) (t : Int) : Nat → Option Nat
  | 0 => none
  | i + 1 => match keptB ks kb t i with
    | some b => some b
    | none => if ks i = t then some (clampB (kb i)) else none
def secC (S : Nat → Int) (L : Int → Option (Nat → Int)) (ks kb : Nat → Int) (n t : Nat) : Nat → Int := fun x =>
  match L (t : Int) with
  | some g => if x < (keptB ks kb (t : Int) n).getD 0 then g x else S (64 * t + x)
  | none => S (64 * t + x)
theorem clampB_le (b : Int) : clampB b ≤ 64 := by unfold clampB; omega
theorem keptB_le {ks kb : Nat → Int} {t : Int} : ∀ {n b : Nat}, keptB ks kb t n = some b → b ≤ 64 := by
  intro n
  induction n with
  | zero => intro b h; cases h
  | succ n ih =>
    intro b h
    unfold keptB at h
    split at h
    · rename_i q; cases h; exact ih q
    · split at h
      · cases h; exact clampB_le _
      · cases h
theorem crashP_eq {S : Nat → Int} {L : Int → Option (Nat → Int)} {ks kb : Nat → Int} (hk : ∀ k g, L k = some g → 0 ≤ k) : ∀ i, (∀ k, (crashP S L ks kb i).2 k = if (keptB ks kb k i).isSome then none else L k) ∧ ∀ t x, x < 64 → (crashP S L ks kb i).1 (64 * t + x) = secC S L ks kb i t x := by
  intro i
  induction i with
  | zero =>
    refine ⟨fun k => rfl, fun t x hx => ?_⟩
    unfold secC
    show S (64 * t + x) = _
    split
    · rw [if_neg (by show ¬ x < 0; omega)]
    · rfl
  | succ i ih =>
    obtain ⟨ih1, ih2⟩ := ih
    unfold crashP crash1
    cases hL : (crashP S L ks kb i).2 (ks i) with
    | none =>
      simp only []
      rw [ih1] at hL
      refine ⟨fun k => ?_, fun t x hx => ?_⟩
      · rw [ih1 k]
        cases e : keptB ks kb k i with
        | some b => simp [keptB, e]
        | none =>
          by_cases q : ks i = k
          · rw [q, e] at hL
            simp only [Option.isSome_none, Bool.false_eq_true, if_false] at hL
            simp [keptB, e, q, hL]
          · simp [keptB, e, q]
      · rw [ih2 t x hx]
        unfold secC
        cases e2 : L (t : Int) with
        | none => rfl
        | some g =>
          simp only []
          cases e : keptB ks kb (t : Int) i with
          | some b => simp [keptB, e]
          | none =>
            by_cases q : ks i = (t : Int)
            · rw [q, e, e2] at hL; simp at hL
            · simp [keptB, e, q]
    | some g =>
      simp only []
      rw [ih1] at hL
      have hno : keptB ks kb (ks i) i = none := by
        cases e : keptB ks kb (ks i) i with
        | none => rfl
        | some b => rw [e] at hL; simp at hL
      have hLg : L (ks i) = some g := by rw [hno] at hL; simpa using hL
      have hk0 := hk _ _ hLg
      refine ⟨fun k => ?_, fun t x hx => ?_⟩
      · by_cases q : k = ks i
        · rw [if_pos q, q]
          simp [keptB, hno]
        · rw [if_neg q, ih1 k]
          cases e : keptB ks kb k i with
          | some b => simp [keptB, e]
          | none => simp [keptB, e, show ¬ ks i = k from fun h => q h.symm]
      · have hc := clampB_le (kb i)
        by_cases q : (t : Int) = ks i
        · have ht : (ks i).toNat = t := by omega
          unfold secC
          rw [q, hLg]
          simp only []
          have e1 : keptB ks kb (ks i) (i + 1) = some (clampB (kb i)) := by simp [keptB, hno]
          rw [e1, ht]
          show _ = if x < clampB (kb i) then _ else _
          by_cases w : x < clampB (kb i)
          · rw [if_pos ⟨by omega, by omega⟩, if_pos w]; congr 1; omega
          · rw [if_neg (by omega), if_neg w, ih2 t x hx]
            unfold secC
            rw [q, hLg, hno]
            simp only []
            rw [if_neg (by show ¬ x < 0; omega)]
        · rw [if_neg (by omega), ih2 t x hx]
          unfold secC
          cases e2 : L (t : Int) with
          | none => rfl
          | some g' =>
            simp only []
            have : keptB ks kb (t : Int) (i + 1) = keptB ks kb (t : Int) i := by
              cases e : keptB ks kb (t : Int) i with
              | some b => simp [keptB, e]
              | none => simp [keptB, e, show ¬ ks i = (t : Int) from fun h => q h.symm]
            rw [this]
end Go.DskLaw
namespace Go.DskLaw
theorem secV_none' {S : Nat → Int} {L : Int → Option (Nat → Int)} {i : Nat} (h : L (i : Int) = none) (x : Nat) : secV S L i x = S (64 * i + x) := by unfold secV; rw [h]
theorem secV_some' {S : Nat → Int} {L : Int → Option (Nat → Int)} {i : Nat} {g : Nat → Int} (h : L (i : Int) = some g) : secV S L i = g := by unfold secV; rw [h]
theorem lives26_facts (g0 : Nat → Nat × (Nat → Int)) : ∃ (z nine : Nat → Int) (L0 L1 L2 L3 : Int → Option (Nat → Int)) (V : Nat → Nat → Int) (gs : Nat → Nat × (Nat → Int)) (f' : Nat → Int),
    (∀ x, z x = 0) ∧ (∀ x, nine x = 9) ∧ (∀ k, L0 k = none) ∧ (∀ i, L1 i = if ((1 : Nat) : Int) ≤ i ∧ i < ((1 : Nat) : Int) + (2 : Nat) then some (pcs 63 z (i - (1 : Nat)).toNat) else L0 i) ∧
    (∀ i, L2 i = if ((3 : Nat) : Int) ≤ i ∧ i < ((3 : Nat) : Int) + (1 : Nat) then some (pcs 1 nine (i - (3 : Nat)).toNat) else L1 i) ∧ (∀ i, i < 6 → V i = secV z L2 i ∧ isB (V i)) ∧
    scanP V 6 (6 - 1 + 1) 1 0 g0 = (2, gs, 4) ∧ getP V 3 6 (6 - 3) 3 0 (fun _ => 0) = some (1, f', 4) ∧ f' 0 = 9 ∧ getP V 4 6 (6 - 4) 4 0 (fun _ => 0) = none ∧ wipeP V false (6 - 0) 0 0 L2 0 = (some 3, L3, 0) := by
  obtain ⟨z, hz⟩ : ∃ z : Nat → Int, ∀ x, z x = 0 := ⟨fun _ => 0, fun _ => rfl⟩
  obtain ⟨nine, h9⟩ : ∃ z : Nat → Int, ∀ x, z x = 9 := ⟨fun _ => 9, fun _ => rfl⟩
  obtain ⟨L0, hL0⟩ : ∃ L0 : Int → Option (Nat → Int), ∀ k, L0 k = none := ⟨fun _ => none, fun _ => rfl⟩
  obtain ⟨L1, hL1⟩ : ∃ L1 : Int → Option (Nat → Int), ∀ i, L1 i = if ((1 : Nat) : Int) ≤ i ∧ i < ((1 : Nat) : Int) + (2 : Nat) then some (pcs 63 z (i - (1 : Nat)).toNat) else L0 i := ⟨_, fun _ => rfl⟩
  obtain ⟨L2, hL2⟩ : ∃ L2 : Int → Option (Nat → Int), ∀ i, L2 i = if ((3 : Nat) : Int) ≤ i ∧ i < ((3 : Nat) : Int) + (1 : Nat) then some (pcs 1 nine (i - (3 : Nat)).toNat) else L1 i := ⟨_, fun _ => rfl⟩
  obtain ⟨V, hV⟩ : ∃ V : Nat → Nat → Int, ∀ i, V i = secV z L2 i := ⟨_, fun _ => rfl⟩
  have v0 : ∀ x, V 0 x = 0 := fun x => by rw [hV, secV_none' (by rw [hL2, if_neg (by decide), hL1, if_neg (by decide), hL0]), hz]
  have v1 : V 1 = pcs 63 z 0 := by rw [hV, secV_some' (by rw [hL2, if_neg (by decide), hL1, if_pos (by decide)])]; rfl
  have v2 : V 2 = pcs 63 z 1 := by rw [hV, secV_some' (by rw [hL2, if_neg (by decide), hL1, if_pos (by decide)])]; rfl
  have v3 : V 3 = pcs 1 nine 0 := by rw [hV, secV_some' (by rw [hL2, if_pos (by decide)])]; rfl
  have v4 : ∀ x, V 4 x = 0 := fun x => by rw [hV, secV_none' (by rw [hL2, if_neg (by decide), hL1, if_neg (by decide), hL0]), hz]
  have v5 : ∀ x, V 5 x = 0 := fun x => by rw [hV, secV_none' (by rw [hL2, if_neg (by decide), hL1, if_neg (by decide), hL0]), hz]
  obtain ⟨len, hlen⟩ : ∃ len : Nat → Nat, len = fun i => if i = 0 then 63 else 1 := ⟨_, rfl⟩
  obtain ⟨r, hr⟩ : ∃ r : Nat → Nat → Int, r = fun i => if i = 0 then z else nine := ⟨_, rfl⟩
  have a0 : atN 1 len 0 = 1 := rfl
  have a1 : atN 1 len 1 = 3 := by rw [hlen]; rfl
  have a2 : atN 1 len 2 = 4 := by rw [hlen]; rfl
  have n0 : needN (len 0) = 2 := by rw [hlen]; rfl
  have n1 : needN (len 1) = 1 := by rw [hlen]; rfl
  have hB0 : isB fun _ => (0 : Int) := fun x _ => ⟨Int.le_refl _, by show (0 : Int) ≤ 255; decide⟩
  obtain ⟨gs, hgs, _⟩ := scan_row (V := V) (o := 1) (fin := 6) (c0 := 2) (len := len) (r := r) (fun i _ => by rw [hlen]; simp only []; split <;> omega) (by rw [a2]; omega)
    (fun i hi j hj x hx => by
      rcases (show i = 0 ∨ i = 1 by omega) with rfl | rfl
      · rw [n0] at hj
        rw [a0]
        rcases (show j = 0 ∨ j = 1 by omega) with rfl | rfl
        · rw [v1, hr, hlen]; rfl
        · rw [v2, hr, hlen]; rfl
      · rw [n1] at hj
        obtain rfl : j = 0 := by omega
        rw [a1, v3, hr, hlen]; rfl)
    (by rw [a2]; exact getP_zero fun _ => v4 63) 2 0 (6 - 1 + 1) g0 rfl (by rw [a0]; decide) (fun u hu => by omega)
  rw [a0, a2] at hgs
  obtain ⟨f', hf', hf9⟩ := getP_whole (V := V) (first := 3) (fin := 6) (n := 1) (r := nine) (by decide) (by omega) (fun j hj x hx => by
    obtain rfl : j = 0 := by have : needN 1 = 1 := rfl; omega
    rw [v3]) 0 0 (fun _ => 0) rfl (fun i h => by omega)
  refine ⟨z, nine, L0, L1, L2, (wipeP V false 6 0 0 L2 0).2.1, V, gs, f', hz, h9, hL0, hL1, hL2, fun i hi => ⟨hV i, ?_⟩, hgs, hf', (hf9 0 (by omega)).trans (h9 0), getP_zero fun _ => v4 63, ?_⟩
  · rcases (show i = 0 ∨ i = 1 ∨ i = 2 ∨ i = 3 ∨ i = 4 ∨ i = 5 by omega) with rfl | rfl | rfl | rfl | rfl | rfl
    · rw [show V 0 = fun _ => 0 from funext v0]; exact hB0
    · rw [v1]; exact isB_pcs (fun x _ => by rw [hz]; decide) _
    · rw [v2]; exact isB_pcs (fun x _ => by rw [hz]; decide) _
    · rw [v3]; exact isB_pcs (fun x _ => by rw [h9]; decide) _
    · rw [show V 4 = fun _ => 0 from funext v4]; exact hB0
    · rw [show V 5 = fun _ => 0 from funext v5]; exact hB0
  · have off : ¬ (false = true ∧ (0 : Int) = 0) := fun h => by cases h.1
    have e : ∃ L3, wipeP V false 6 0 0 L2 0 = (some 3, L3, 0) := by
      rw [wipeP_blank off (fun i _ => v0 i), wipeP_full off (fun h => by have := h 62 (by omega); rw [v1] at this; rw [pcs_62] at this; revert this; decide)]
      rw [show (if false = true then (0 : Int) - 1 else 0) = 0 from rfl]
      rw [wipeP_full off (fun h => by have := h 62 (by omega); rw [v2] at this; rw [pcs_62] at this; revert this; decide)]
      rw [show (if false = true then (0 : Int) - 1 else 0) = 0 from rfl]
      rw [wipeP_full off (fun h => by have := h 62 (by omega); rw [v3] at this; rw [pcs_62] at this; revert this; decide)]
      rw [show (if false = true then (0 : Int) - 1 else 0) = 0 from rfl]
      rw [wipeP_blank off (fun i _ => v4 i), wipeP_blank off (fun i _ => v5 i)]
      exact ⟨_, rfl⟩
    obtain ⟨L3, h3⟩ := e
    show wipeP V false 6 0 0 L2 0 = _
    rw [h3]
end Go.DskLaw
namespace Go.DskLaw
def rowL (o : Nat) (len : Nat → Nat) (r : Nat → Nat → Int) (m t : Nat) : Int → Option (Nat → Int) := fun k => if (o : Int) ≤ k ∧ k < (t : Int) then some (pieceAt o len r m k.toNat) else none
end Go.DskLaw
namespace Go.Proofs.YtnjjgipblimbfaaGreatDoor.Dsk
open Go.Eng
open Go.DskLaw (q64 secV needN pcs padOk isB usedP getP scanP lives26_facts)
set_option maxRecDepth 100000
set_option maxHeartbeats 4000000
abbrev DHn (a b c : Nat) (N : Nat) (S : Nat → Int) (L : Int → Option (Nat → Int)) (ar : Bool) (ca : Int) : Hl :=
  [(a, .cells 58 [.sl b 1 (.l 0) (.s N), .mp c, .bs ar, .int .i64 ca]), (b, .row 5 1 (.s N) (fun e => [.int .u8 (S e.val)])), (c, .wm 64 L)]
theorem same_fn {P : Program} {G : Gl} (hP : P = Tryz.prog) {n m : Nat} {f g : Nat → Int} {res : Bool} (hf : ∀ i, i < n → 0 ≤ f i ∧ f i < 256) (hg : ∀ i, i < m → 0 ≤ g i ∧ g i < 256) (hres : res = true ↔ (n = m ∧ ∀ i, i < n → f i = g i)) :
    FnTr P G 9 [.ro 1 (.s n) (fun e => [.int .u8 (f e.val)]), .ro 1 (.s m) (fun e => [.int .u8 (g e.val)])] [] 0 (Gives (.bs res) [] 0) := by
  have hT : T.Ok P := hP ▸ T_ok
  refine FnTr.intro (fn := Tryz.f9) (c := bodyOf Tryz.f9) (by rw [hP]; rfl) rfl rfl hT ?_
  generalize hA : Ar.real = A
  generalize hK : Gives _ _ _ = K
  cbv
  refine ⟨fun e _ => rfl, fun e _ => rfl, ?_⟩
  refine Fin.le hA 0 [] (.bs res) [] 0 rfl rfl rfl ?_ ?_ (by rw [← hK]; exact ⟨rfl, rfl, rfl⟩)
  · cbv
    subst hA
    rw [Bool.eq_iff_iff]
    exact (bytes_eq hf hg).trans hres.symm
  · trivial
theorem sameall_fn {P : Program} {G : Gl} (hP : P = Tryz.prog) {n m : Nat} {lf lg : Nat → Nat} {f g : Nat → Nat → Int} (hn : n = m) (hb : n ≤ 1000000) (h : ∀ i, i < n → lf i = lg i ∧ ∀ j, j < lf i → f i j = g i j ∧ 0 ≤ f i j ∧ f i j < 256) :
    FnTr P G 46 [.ro 1 (.s n) (fun e => [.ro 1 (.s (lf e.val)) (fun x => [.int .u8 (f e.val x.val)])]), .ro 1 (.s m) (fun e => [.ro 1 (.s (lg e.val)) (fun x => [.int .u8 (g e.val x.val)])])] [] 0 (Gives (.bl true) [] 0) := by
  subst hn
  have hT : T.Ok P := hP ▸ T_ok
  refine FnTr.intro (fn := Tryz.f46) (c := bodyOf Tryz.f46) (by rw [hP]; rfl) rfl rfl hT ?_
  generalize hA : Ar.real = A
  generalize hK : Gives _ _ _ = K
  cbv
  have k1 : A.ne (A.i2 n) (A.i2 n) = false := by subst hA; simp [Ar.real]
  first | refine testR k1 rfl ?_ | refine testL k1 rfl ?_
  cbv
  refine LS.le hT hA 0 (fun (i : Nat) => [(5, .int .i64 (i : Int))]) (fun _ => []) (fun i => i ≤ n) (fun i => n - i) 0 [] rfl rfl ?_ ?_ ?_
  · (try cbv) <;> (repeat' (first | exact trivial | exact rfl | apply And.intro | exact fun _ => rfl | (intro _ hle; first | refine chunk_le hA rfl hle rfl ?_ | refine cat_le hA ?_ | refine upd_le hA ?_ | (try cbv))))
  · exact Nat.zero_le _
  · intro R hR i hi
    cbv
    refine ⟨fun h1 => ?_, fun h1 => ?_⟩
    · have him : i < n := by clear h; subst hA; simp [Ar.real] at h1; omega
      have a1 := h i him
      clear h
      cbv
      refine DS.runK hA hT (by rw [hP]; exact P_mixed) 2 rfl ?_
      cbv
      refine ⟨?_, fun e _ => rfl, ?_, fun e _ => rfl, ?_⟩
      iterate 2 (subst hA; (try simp only [zn] at *); (try (simp only [Ar.real, NV.val, zo, zt])); first | done | omega | decide | exact zi | (refine ⟨?_, ?_⟩ <;> first | omega | decide | exact zi))
      refine DF.fin (by kernel_rfl) (by kernel_rfl) ?_
      cbv
      have k2 : A.not (A.eqL (A.bytes (lf (A.nat (Int.ofNat i))) (byteAt fun x => [SV.int IntKind.u8 (f (A.nat (Int.ofNat i)) x.val)])) (A.bytes (lg (A.nat (Int.ofNat i))) (byteAt fun x => [SV.int IntKind.u8 (g (A.nat (Int.ofNat i)) x.val)]))) = false := by
        clear hR
        subst hA
        show (!(Ar.real.eqL (Ar.real.bytes (lf i) (f i)) (Ar.real.bytes (lg i) (g i)))) = false
        rw [(bytes_eq (fun j hj => (a1.2 j hj).2) (fun j hj => by rw [← (a1.2 j (by omega)).1]; exact (a1.2 j (by omega)).2)).2 ⟨a1.1, fun j hj => (a1.2 j hj).1⟩]
        rfl
      clear a1
      first | refine testR k2 rfl ?_ | refine testL k2 rfl ?_
      cbv
      refine ⟨(by (subst hA; (try simp only [zn] at *); (try (simp only [Ar.real, NV.val, zo, zt])); first | done | omega | decide | exact zi | (refine ⟨?_, ?_⟩ <;> first | omega | decide | exact zi))), hR _ _ ⟨i + 1, 0, [], rfl, rfl, ?_, him, (by show n - (i + 1) < n - i; omega)⟩⟩
      clear hR
      (try cbv) <;> (repeat' (first | exact trivial | exact rfl | apply And.intro | exact fun _ => rfl | (intro _ hle; first | refine chunk_le hA rfl hle rfl ?_ | refine cat_le hA ?_ | refine upd_le hA ?_ | (try cbv))))
      (subst hA; (try simp only [zn] at *); (try (simp only [Ar.real, NV.val, zo, zt])); first | done | omega | decide | exact zi | (refine ⟨?_, ?_⟩ <;> first | omega | decide | exact zi))
    · clear hR h
      cbv
      refine Fin.le hA 0 [] (.bl true) ([]) 0 rfl rfl rfl ?_ ?_ (by rw [← hK]; exact ⟨rfl, rfl, rfl⟩)
      iterate 2 ((try cbv) <;> (repeat' (first | exact trivial | exact rfl | apply And.intro | exact fun _ => rfl | (intro _ hle; first | refine chunk_le hA rfl hle rfl ?_ | refine cat_le hA ?_ | refine upd_le hA ?_ | (try cbv)))))
end Go.Proofs.YtnjjgipblimbfaaGreatDoor.Dsk
namespace Go.DskLaw
def rowS (len : Nat → Nat) (r : Nat → Nat → Int) (m f : Nat) : Nat → Int := fun x => if x < 64 * f then pieceAt 0 len r m (x / 64) (x % 64) else 0
def rowW (len : Nat → Nat) (r : Nat → Nat → Int) (m f w : Nat) : Int → Option (Nat → Int) := fun k => if (f : Int) ≤ k ∧ k < (w : Int) then some (pieceAt 0 len r m k.toNat) else none
variable {len : Nat → Nat} {r : Nat → Nat → Int} {m f w : Nat}
end Go.DskLaw
namespace Go.DskLaw
theorem usedP_le {v : Nat → Int} {m : Nat} {on : Bool} (h : usedP v = some (m, on)) : m ≤ 62 := by
  unfold usedP at h
  split at h
  · rename_i q
    have := q.1
    split at h
    · split at h
      · cases h; omega
      · cases h
    · split at h
      · cases h; omega
      · cases h
  · cases h
theorem getP_isB {V : Nat → Nat → Int} {first fin : Nat} (hV : ∀ i, i < fin → isB (V i)) : ∀ (k x n : Nat) (f : Nat → Int) (n' : Nat) (f' : Nat → Int) (next : Nat), (∀ i, i < n → 0 ≤ f i ∧ f i ≤ 255) → getP V first fin k x n f = some (n', f', next) → ∀ i, i < n' → 0 ≤ f' i ∧ f' i ≤ 255 := by
  intro k
  induction k with
  | zero => intro x n f n' f' next _ h; cases h
  | succ k ih =>
    intro x n f n' f' next hf h
    unfold getP at h
    split at h
    · cases h
    · rename_i hx
      split at h
      · cases h
      · rename_i m on hu
        have hm := usedP_le hu
        have key : ∀ i, i < n + m → 0 ≤ (fun i => if i < n then f i else V x (i - n)) i ∧ (fun i => if i < n then f i else V x (i - n)) i ≤ 255 := fun i hi => by
          by_cases q : i < n
          · simp only [q, if_true]; exact hf i q
          · simp only [q, if_false]; exact hV x (by omega) _ (by omega)
        split at h
        · cases h
        · split at h
          · cases h
          · split at h
            · exact ih _ _ _ _ _ _ key h
            · cases h; exact key
end Go.DskLaw
namespace Go.DskLaw
def fromP (ks kb : Nat → Int) (t : Int) (n : Nat) : Nat → Int
  | 0 => 0
  | d + 1 => if ks (n - (d + 1)) = t then kb (n - (d + 1)) else fromP ks kb t n d
end Go.DskLaw
namespace Go.DskLaw
open Go.Eng
structure SeenIs (es : Array MapEntry) (seen : Array Nat) (n : Nat) (f : Nat → Int) : Prop where
  inc : ∀ i, i < n → ∃ e ∈ es.toList, e.born ∈ seen ∧ e.key = .int .i64 (f i)
  all : ∀ e ∈ es.toList, e.born ∈ seen → ∃ i, i < n ∧ e.key = .int .i64 (f i)
  inj : ∀ i j, i < n → j < n → f i = f j → i = j
structure EnumIs (L : Int → Option (Nat → Int)) (n : Nat) (f : Nat → Int) : Prop where
  inc : ∀ i, i < n → ∃ g, L (f i) = some g
  all : ∀ k g, L k = some g → ∃ i, i < n ∧ f i = k
  inj : ∀ i j, i < n → j < n → f i = f j → i = j
variable {es : Array MapEntry} {seen : Array Nat} {n c : Nat} {f : Nat → Int} {L : Int → Option (Nat → Int)} {e : MapEntry}
theorem SeenIs.start : SeenIs es #[] 0 f := ⟨fun i h => by omega, fun e _ h => by simp at h, fun i j h => by omega⟩
theorem SeenIs.step {k : Int} {f' : Nat → Int} (h : SeenIs es seen n f) (hm : MapIs 64 es c L) (he : e ∈ es.toList) (hnew : e.born ∉ seen) (hk : e.key = .int .i64 k) (h1 : ∀ i, i < n → f' i = f i) (h2 : f' n = k) : SeenIs es (seen.push e.born) (n + 1) f' where
  inc := fun i hi => by
    by_cases q : i < n
    · obtain ⟨e', a, b, d⟩ := h.inc i q
      exact ⟨e', a, Array.mem_push.2 (.inl b), by rw [d, h1 i q]⟩
    · obtain rfl : i = n := by omega
      exact ⟨e, he, Array.mem_push.2 (.inr rfl), by rw [hk, h2]⟩
  all := fun e' he' hb => by
    rcases Array.mem_push.1 hb with hb | hb
    · obtain ⟨i, a, b⟩ := h.all e' he' hb
      exact ⟨i, by omega, by rw [b, h1 i a]⟩
    · obtain ⟨i, hi⟩ := List.getElem?_of_mem he
      obtain ⟨j, hj⟩ := List.getElem?_of_mem he'
      have a1 : (es.toList.map (·.born))[i]? = some e.born := by rw [List.getElem?_map, hi]; rfl
      have a2 : (es.toList.map (·.born))[j]? = some e.born := by rw [List.getElem?_map, hj, ← hb]; rfl
      have hl : i < (es.toList.map (·.born)).length := by
        rcases Nat.lt_or_ge i (es.toList.map (·.born)).length with hl | hl
        · exact hl
        · rw [List.getElem?_eq_none hl] at a1; cases a1
      have hij := (List.getElem?_inj hl hm.born).1 (a1.trans a2.symm)
      subst hij
      rw [hi] at hj; cases hj
      exact ⟨n, by omega, by rw [hk, h2]⟩
  inj := fun i j hi hj hij => by
    have key : ∀ u, u < n → f u = k → False := fun u hu hfu => by
      obtain ⟨e', a, b, d⟩ := h.inc u hu
      have : e'.key = e.key := by rw [d, hk, hfu]
      obtain ⟨p, hp⟩ := List.getElem?_of_mem a
      obtain ⟨q, hq⟩ := List.getElem?_of_mem he
      have := hm.uniq hp hq this
      subst this
      rw [hp] at hq; cases hq
      exact hnew b
    by_cases p : i < n
    · by_cases q : j < n
      · rw [h1 i p, h1 j q] at hij; exact h.inj i j p q hij
      · obtain rfl : j = n := by omega
        rw [h1 i p, h2] at hij; exact (key i p hij).elim
    · obtain rfl : i = n := by omega
      by_cases q : j < i
      · rw [h1 j q, h2] at hij; exact (key j q hij.symm).elim
      · omega
theorem SeenIs.fin (h : SeenIs es seen n f) (hm : MapIs 64 es c L) (h0 : (leftOf es seen).size = 0) : EnumIs L n f where
  inc := fun i hi => by
    obtain ⟨e, a, _, d⟩ := h.inc i hi
    obtain ⟨k, g, q1, q2, _⟩ := hm.ent e a
    rw [d] at q1; cases q1
    exact ⟨g, q2⟩
  all := fun k g hL => by
    obtain ⟨e, he, hk⟩ := hm.all k g hL
    have hs : e.born ∈ seen := by
      have : leftOf es seen = #[] := Array.eq_empty_of_size_eq_zero h0
      unfold leftOf at this
      rw [Array.filter_eq_empty_iff] at this
      have := this e (by simpa using he)
      simpa using this
    obtain ⟨i, a, b⟩ := h.all e he hs
    rw [hk] at b
    cases b
    exact ⟨i, a, rfl⟩
  inj := h.inj
theorem pigeon : ∀ (s n : Nat) (f : Nat → Int), (∀ i, i < n → 0 ≤ f i ∧ f i < (s : Int)) → (∀ i j, i < n → j < n → f i = f j → i = j) → n ≤ s := by
  intro s
  induction s with
  | zero =>
    intro n f h _
    rcases Nat.eq_zero_or_pos n with q | q
    · omega
    · have := h 0 q; omega
  | succ s ih =>
    intro n f h hinj
    by_cases hx : ∃ i0, i0 < n ∧ f i0 = (s : Int)
    · obtain ⟨i0, a, b⟩ := hx
      have := ih (n - 1) (fun i => if i = i0 then f (n - 1) else f i) (fun i hi => by
        by_cases q : i = i0
        · simp only [q, if_true]
          have h1 := h (n - 1) (by omega)
          have h2 : f (n - 1) ≠ (s : Int) := fun e => by
            have := hinj (n - 1) i0 (by omega) a (by rw [e, b]); omega
          omega
        · simp only [q, if_false]
          have h1 := h i (by omega)
          have h2 : f i ≠ (s : Int) := fun e => q (hinj i i0 (by omega) a (by rw [e, b]))
          omega) (fun i j hi hj hij => by
        by_cases p : i = i0
        · by_cases q : j = i0
          · omega
          · simp only [p, q, if_true, if_false] at hij
            have := hinj (n - 1) j (by omega) (by omega) hij; omega
        · by_cases q : j = i0
          · simp only [p, q, if_true, if_false] at hij
            have := hinj i (n - 1) (by omega) (by omega) hij; omega
          · simp only [p, q, if_false] at hij
            exact hinj i j (by omega) (by omega) hij)
      omega
    · have := ih n f (fun i hi => by
        have h1 := h i hi
        have h2 : f i ≠ (s : Int) := fun e => hx ⟨i, hi, e⟩
        omega) hinj
      omega
theorem SeenIs.le {s : Nat} (h : SeenIs es seen n f) (hm : MapIs 64 es c L) (hk : ∀ k g, L k = some g → 0 ≤ k ∧ k < (s : Int)) : n ≤ s := pigeon s n f (fun i hi => by
  obtain ⟨e, a, _, d⟩ := h.inc i hi
  obtain ⟨k, g, q1, q2, _⟩ := hm.ent e a
  rw [d] at q1; cases q1
  exact hk _ g q2) h.inj
theorem EnumIs.le {s : Nat} (h : EnumIs L n f) (hk : ∀ k g, L k = some g → 0 ≤ k ∧ k < (s : Int)) : n ≤ s := pigeon s n f (fun i hi => by obtain ⟨g, hg⟩ := h.inc i hi; exact hk _ g hg) h.inj
theorem EnumIs.swap {f' : Nat → Int} {j : Nat} (h : EnumIs L n f) (hj : 1 ≤ j ∧ j < n) (h' : ∀ i, i < n → f' i = if i = j then f (j - 1) else if i = j - 1 then f j else f i) : EnumIs L n f' := by
  have hs : ∀ i, i < n → ∃ u, u < n ∧ f' i = f u ∧ (∀ v, v < n → f' v = f u → v = i) := fun i hi => by
    by_cases p : i = j
    · refine ⟨j - 1, by omega, by rw [h' i hi, if_pos p], fun v hv e => ?_⟩
      rw [h' v hv] at e
      by_cases a : v = j
      · omega
      · by_cases b : v = j - 1
        · rw [if_neg a, if_pos b] at e; have := h.inj _ _ hj.2 (by omega) e; omega
        · rw [if_neg a, if_neg b] at e; have := h.inj _ _ hv (by omega) e; omega
    · by_cases q : i = j - 1
      · refine ⟨j, by omega, by rw [h' i hi, if_neg p, if_pos q], fun v hv e => ?_⟩
        rw [h' v hv] at e
        by_cases a : v = j
        · rw [if_pos a] at e; have := h.inj _ _ (by omega) hj.2 e; omega
        · by_cases b : v = j - 1
          · omega
          · rw [if_neg a, if_neg b] at e; have := h.inj _ _ hv hj.2 e; omega
      · refine ⟨i, hi, by rw [h' i hi, if_neg p, if_neg q], fun v hv e => ?_⟩
        rw [h' v hv] at e
        by_cases a : v = j
        · rw [if_pos a] at e; have := h.inj _ _ (by omega) hi e; omega
        · by_cases b : v = j - 1
          · rw [if_neg a, if_pos b] at e; have := h.inj _ _ hj.2 hi e; omega
          · rw [if_neg a, if_neg b] at e; exact h.inj _ _ hv hi e
  refine ⟨fun i hi => ?_, fun k g hL => ?_, fun i v hi hv e => ?_⟩
  · obtain ⟨u, hu, e, _⟩ := hs i hi
    rw [e]; exact h.inc u hu
  · obtain ⟨i, hi, e⟩ := h.all k g hL
    by_cases p : i = j
    · exact ⟨j - 1, by omega, by rw [h' _ (by omega), if_neg (by omega), if_pos rfl, ← p, e]⟩
    · by_cases q : i = j - 1
      · exact ⟨j, hj.2, by rw [h' _ hj.2, if_pos rfl, ← q, e]⟩
      · exact ⟨i, hi, by rw [h' i hi, if_neg p, if_neg q, e]⟩
  · obtain ⟨u, hu, e1, e2⟩ := hs i hi
    exact (e2 v hv (by rw [← e, e1])).symm
def SrtTo (f : Nat → Int) (i : Nat) : Prop := ∀ u v, u < v → v < i → f u < f v
structure Mov (f : Nat → Int) (i j : Nat) : Prop where
  oth : ∀ u v, u < v → v ≤ i → u ≠ j → v ≠ j → f u < f v
  abv : ∀ u, j < u → u ≤ i → f j < f u
theorem Mov.start {i : Nat} (h : SrtTo f i) : Mov f i i := ⟨fun u v h1 h2 _ h4 => h u v h1 (by omega), fun u h1 h2 => by omega⟩
theorem Mov.step {f' : Nat → Int} {i j : Nat} (h : Mov f i j) (hj : 1 ≤ j ∧ j ≤ i) (hlt : f j < f (j - 1)) (h' : ∀ u, u ≤ i → f' u = if u = j then f (j - 1) else if u = j - 1 then f j else f u) : Mov f' i (j - 1) where
  oth := fun u v h1 h2 h3 h4 => by
    rw [h' u (by omega), h' v h2, if_neg h3, if_neg h4]
    by_cases p : u = j
    · rw [if_pos p, if_neg (by omega)]
      exact h.oth (j - 1) v (by omega) h2 (by omega) (by omega)
    · rw [if_neg p]
      by_cases q : v = j
      · rw [if_pos q]
        exact h.oth u (j - 1) (by omega) (by omega) p (by omega)
      · rw [if_neg q]
        exact h.oth u v h1 h2 p q
  abv := fun u h1 h2 => by
    rw [h' (j - 1) (by omega), if_neg (by omega), if_pos rfl, h' u h2]
    by_cases p : u = j
    · rw [if_pos p]; exact hlt
    · rw [if_neg p, if_neg (by omega)]
      exact h.abv u (by omega) h2
theorem Mov.fin {i j : Nat} (h : Mov f i j) (hj : j = 0 ∨ (1 ≤ j ∧ f (j - 1) < f j)) : SrtTo f (i + 1) := fun u v h1 h2 => by
  by_cases p : u = j
  · subst p; exact h.abv v h1 (by omega)
  · by_cases q : v = j
    · subst q
      have hj : 1 ≤ v ∧ f (v - 1) < f v := by omega
      by_cases w : u = v - 1
      · rw [w]; exact hj.2
      · have := h.oth u (v - 1) (by omega) (by omega) p (by omega)
        omega
    · exact h.oth u v h1 (by omega) p q
theorem enum_unique {m : Nat} {g : Nat → Int} (h1 : EnumIs L n f) (s1 : SrtTo f n) (h2 : EnumIs L m g) (s2 : SrtTo g m) : n = m ∧ ∀ i, i < n → f i = g i := by
  have key : ∀ i, ∀ u, u < i → (u < n ↔ u < m) ∧ (u < n → f u = g u) := by
    intro i
    induction i with
    | zero => intro u hu; omega
    | succ i ih =>
      intro u hu
      by_cases q : u < i
      · exact ih u q
      · obtain rfl : u = i := by omega
        have ge1 : ∀ j, j < m → u < n → g j = f u → u ≤ j := fun j hj hun e => by
          rcases Nat.lt_or_ge j u with p | p
          · have := ih j p
            have e2 := this.2 (this.1.2 hj)
            have := h1.inj j u (by omega) hun (by rw [e2, e])
            omega
          · exact p
        have ge2 : ∀ j, j < n → u < m → f j = g u → u ≤ j := fun j hj hun e => by
          rcases Nat.lt_or_ge j u with p | p
          · have := ih j p
            have e2 := this.2 hj
            have := h2.inj j u (by omega) hun (by rw [← e2, e])
            omega
          · exact p
        have a : u < n → ∃ j, j < m ∧ g j = f u ∧ u ≤ j := fun hun => by
          obtain ⟨x, hx⟩ := h1.inc u hun
          obtain ⟨j, hj, e⟩ := h2.all _ _ hx
          exact ⟨j, hj, e, ge1 j hj hun e⟩
        have b : u < m → ∃ j, j < n ∧ f j = g u ∧ u ≤ j := fun hun => by
          obtain ⟨x, hx⟩ := h2.inc u hun
          obtain ⟨j, hj, e⟩ := h1.all _ _ hx
          exact ⟨j, hj, e, ge2 j hj hun e⟩
        refine ⟨⟨fun h => ?_, fun h => ?_⟩, fun h => ?_⟩
        · obtain ⟨j, hj, _, hle⟩ := a h; omega
        · obtain ⟨j, hj, _, hle⟩ := b h; omega
        · obtain ⟨j, hj, e, hle⟩ := a h
          obtain ⟨j', hj', e', hle'⟩ := b (by omega)
          have x1 : f u ≤ f j' := by
            rcases Nat.eq_or_lt_of_le hle' with r | r
            · rw [r]; exact Int.le_refl _
            · exact Int.le_of_lt (s1 u j' r hj')
          have x2 : g u ≤ g j := by
            rcases Nat.eq_or_lt_of_le hle with r | r
            · rw [r]; exact Int.le_refl _
            · exact Int.le_of_lt (s2 u j r hj)
          omega
  refine ⟨?_, fun i hi => (key (i + 1) i (by omega)).2 hi⟩
  have k1 := (key (n + 1) n (by omega)).1
  have k2 := (key (m + 1) m (by omega)).1
  omega
theorem enum_into {m : Nat} {g : Nat → Int} (h1 : EnumIs L n f) (h2 : EnumIs L m g) : ∃ t : Nat → Nat, ∀ i, i < n → t i < m ∧ g (t i) = f i := by
  have : ∀ i, ∃ j, i < n → j < m ∧ g j = f i := fun i => by
    by_cases q : i < n
    · obtain ⟨x, hx⟩ := h1.inc i q
      obtain ⟨j, a, b⟩ := h2.all _ _ hx
      exact ⟨j, fun _ => ⟨a, b⟩⟩
    · exact ⟨0, fun h => absurd h q⟩
  exact ⟨fun i => (this i).choose, fun i hi => (this i).choose_spec hi⟩
theorem pigeon_enum {m : Nat} {g : Nat → Int} (h1 : EnumIs L n f) (h2 : EnumIs L m g) : n ≤ m := by
  obtain ⟨t, ht⟩ := enum_into h1 h2
  refine pigeon m n (fun i => (t i : Int)) (fun i hi => ?_) (fun i j hi hj e => ?_)
  · have := (ht i hi).1; exact ⟨Int.natCast_nonneg _, by omega⟩
  · have e : t i = t j := Int.ofNat.inj e
    have a := (ht i hi).2
    have b := (ht j hj).2
    exact h1.inj i j hi hj (by rw [← a, ← b, e])
def wP (W : Nat → Bool) : Nat → Nat × (Nat → Int)
  | 0 => (0, fun _ => 0)
  | i + 1 => if W i = true then ((wP W i).1 + 1, fun x => if x < (wP W i).1 then (wP W i).2 x else (i : Int)) else wP W i
end Go.DskLaw
namespace Go.DskLaw
structure Sim (s N : Nat) (S : Nat → Int) (L : Int → Option (Nat → Int)) (ar : Bool) (ca : Int) (RS RL : Nat → Nat → Int) (W : Nat → Bool) (c : Int) : Prop where
  hN : N = 64 * s
  hs : 1 ≤ s ∧ s ≤ 4096
  rs : ∀ t x, x < 64 → RS t x = S (64 * t + x)
  rl : ∀ t x, x < 64 → RL t x = secV S L t x
  w : ∀ t : Nat, W t = (L (t : Int)).isSome
  hc : c = if ar then ca else -1
  hca : 0 ≤ ca ∧ ca ≤ 9223372036854775807
  key : ∀ k g, L k = some g → 0 ≤ k ∧ k < (s : Int)
  sb : ∀ x, x < N → 0 ≤ S x ∧ S x ≤ 255
  lb : ∀ k g, L k = some g → ∀ x, x < 64 → 0 ≤ g x ∧ g x ≤ 255
section
variable {s N : Nat} {S : Nat → Int} {L : Int → Option (Nat → Int)} {ar : Bool} {ca : Int} {RS RL : Nat → Nat → Int} {W : Nat → Bool} {c : Int}
theorem Sim.off (h : Sim s N S L ar ca RS RL W c) : c = 0 ↔ ar = true ∧ ca = 0 := by
  rw [h.hc]
  cases ar <;> simp
theorem Sim.crange (h : Sim s N S L ar ca RS RL W c) : -1 ≤ c ∧ c ≤ 9223372036854775807 := by
  rw [h.hc]; have := h.hca
  split <;> omega
theorem Sim.bytes (h : Sim s N S L ar ca RS RL W c) (t : Nat) (ht : t < s) : isB (secV S L t) := by
  intro x hx
  cases e : L (t : Int) with
  | some g => rw [secV_some' e]; exact h.lb _ _ e x hx
  | none => rw [secV_none' e]; exact h.sb _ (by rw [h.hN]; omega)
theorem Sim.rbytes (h : Sim s N S L ar ca RS RL W c) (t : Nat) (ht : t < s) : isB (RL t) := by
  intro x hx; rw [h.rl t x hx]; exact h.bytes t ht x hx
theorem Sim.start (hN : N = 64 * s) (hs : 1 ≤ s ∧ s ≤ 4096) (hS : ∀ x, S x = 0) (hL : ∀ k, L k = none) (hRS : ∀ t x, RS t x = 0) (hRL : ∀ t x, RL t x = 0) (hW : ∀ t, W t = false) : Sim s N S L false 0 RS RL W (-1) where
  hN := hN
  hs := hs
  rs := fun t x _ => by rw [hRS, hS]
  rl := fun t x _ => by rw [secV_none' (hL _), hRL, hS]
  w := fun t => by rw [hW, hL]; rfl
  hc := rfl
  hca := by omega
  key := fun k g h => by rw [hL] at h; cases h
  sb := fun x _ => by rw [hS]; omega
  lb := fun k g h => by rw [hL] at h; cases h
theorem Sim.write {i : Nat} {f : Nat → Int} {L' : Int → Option (Nat → Int)} {ca' c' : Int} {RL' : Nat → Nat → Int} {W' : Nat → Bool} (h : Sim s N S L ar ca RS RL W c) (ho : c ≠ 0) (hi : i < s) (hf : ∀ x, x < 64 → 0 ≤ f x ∧ f x ≤ 255) (hL' : ∀ k, L' k = if k = (i : Int) then some f else L k) (hca : ca' = if ar then ca - 1 else ca)
    (hRL : ∀ t x, RL' t x = if t = i then f x else RL t x) (hW : ∀ t, W' t = if t = i then true else W t) (hc' : c' = if 0 < c then c - 1 else c) : Sim s N S L' ar ca' RS RL' W' c' where
  hN := h.hN
  hs := h.hs
  rs := h.rs
  rl := fun t x hx => by
    rw [hRL]
    by_cases q : t = i
    · subst q; rw [if_pos rfl]; unfold secV; rw [hL', if_pos rfl]
    · rw [if_neg q, h.rl t x hx]; unfold secV; rw [hL', if_neg (by omega)]
  w := fun t => by
    rw [hW, hL']
    by_cases q : t = i
    · rw [if_pos q, if_pos (by omega)]; rfl
    · rw [if_neg q, if_neg (by omega)]; exact h.w t
  hc := by
    have h1 := h.hc; have h2 := h.hca
    rw [hc', hca]
    cases ar with
    | true => simp only [if_true] at h1 ⊢; rw [if_pos (by omega)]; omega
    | false => simp at h1 ⊢; rw [h1]; rfl
  hca := by
    have h1 := h.hc; have h2 := h.hca
    rw [hca]
    cases ar with
    | true => simp only [if_true] at h1 ⊢; omega
    | false => simpa using h2
  key := fun k g hk => by
    rw [hL'] at hk
    by_cases q : k = (i : Int)
    · omega
    · rw [if_neg q] at hk; exact h.key k g hk
  sb := h.sb
  lb := fun k g hk => by
    rw [hL'] at hk
    by_cases q : k = (i : Int)
    · rw [if_pos q] at hk; cases hk; exact hf
    · rw [if_neg q] at hk; exact h.lb k g hk
end
end Go.DskLaw
namespace Go.DskLaw
end Go.DskLaw
namespace Go.WalLaw
def headB (g : Nat) (i : Nat) : Int := if i < 8 then ((g / 256 ^ (7 - i) % 256 : Nat) : Int) else if 56 ≤ i then ((g / 256 ^ (63 - i) % 256 : Nat) : Int) else 0
def headP (g j : Nat) (x : Nat) : Int := if x < j ∨ (56 ≤ x ∧ x < 56 + j) then headB g x else 0
theorem headP_zero (g x : Nat) : headP g 0 x = 0 := by
  unfold headP; rw [if_neg (by omega)]
theorem headP_all (g x : Nat) (hx : x < 64) : headP g 8 x = headB g x := by
  unfold headP
  split
  · rfl
  · unfold headB; rw [if_neg (by omega), if_neg (by omega)]
theorem headP_succ (g j x : Nat) (hj : j < 8) : headP g (j + 1) x = if x = 56 + j then ((g / 256 ^ (7 - j) % 256 : Nat) : Int) else if x = j then ((g / 256 ^ (7 - j) % 256 : Nat) : Int) else headP g j x := by
  unfold headP headB
  by_cases h1 : x = 56 + j
  · rw [if_pos (by omega), if_neg (by omega), if_pos (by omega), if_pos h1, show 63 - x = 7 - j by omega]
  · rw [if_neg h1]
    by_cases h2 : x = j
    · rw [if_pos (by omega), if_pos (by omega), if_pos h2, h2]
    · rw [if_neg h2]
      by_cases h3 : x < j ∨ (56 ≤ x ∧ x < 56 + j)
      · rw [if_pos (by omega), if_pos h3]
      · rw [if_neg (by omega), if_neg h3]
theorem headB_range (g i : Nat) : 0 ≤ headB g i ∧ headB g i ≤ 255 := by
  unfold headB
  split
  · omega
  · split <;> omega
def genN (v : Nat → Int) : Nat → Nat
  | 0 => 0
  | j + 1 => genN v j * 256 + (v j).toNat
theorem genN_lt (v : Nat → Int) (hv : ∀ i, i < 8 → 0 ≤ v i ∧ v i ≤ 255) : ∀ j, j ≤ 8 → genN v j < 256 ^ j := by
  intro j
  induction j with
  | zero => intro _; show (0 : Nat) < 1; omega
  | succ j ih =>
    intro hj
    have h1 := ih (by omega)
    have h2 := hv j (by omega)
    unfold genN
    rw [Nat.pow_succ]
    omega
def GenOk (v : Nat → Int) (sec : Nat) : Prop := 1 ≤ genN v 8 ∧ genN v 8 ≤ 1099511627776 ∧ genN v 8 % 2 = sec ∧ ∀ i, i < 64 → v i = headB (genN v 8) i
def GenIs (v : Nat → Int) (sec g : Nat) : Prop := (GenOk v sec ∧ g = genN v 8) ∨ (¬ GenOk v sec ∧ g = 0)
theorem genIs_ex (v : Nat → Int) (sec : Nat) : ∃ g, GenIs v sec g := by
  by_cases h : GenOk v sec
  · exact ⟨_, .inl ⟨h, rfl⟩⟩
  · exact ⟨_, .inr ⟨h, rfl⟩⟩
theorem GenIs.le {v : Nat → Int} {sec g : Nat} (h : GenIs v sec g) : g ≤ 1099511627776 := by
  rcases h with ⟨h, rfl⟩ | ⟨_, rfl⟩
  · exact h.2.1
  · decide
end Go.WalLaw
namespace Go.Proofs.YtnjjgipblimbfaaGreatDoor.Dsk
open Go.Eng
open Go.DskLaw (q64)
open Go.WalLaw
set_option maxRecDepth 100000
set_option maxHeartbeats 1000000
theorem half_fn {P : Program} {G : Gl} (hP : P = Tryz.prog) {N s h : Nat} {S : Nat → Int} {L : Int → Option (Nat → Int)} {ar : Bool} {ca : Int} (hN : N = 64 * s) (hs : 4 ≤ s ∧ s ≤ 4096) (hh : h = (s - 2) / 2) :
    FnTr P G 66 [.ptr 0 0] (DH N S L ar ca) 3 (Gives (.int .i64 (h : Int)) (DH N S L ar ca) 3) := by
  have a1 := len_fn (P := P) (G := G) (S := S) (L := L) (ar := ar) (ca := ca) hP hN hs.2
  have e1 : Int.tdiv ((s : Int) - 2) 2 = (h : Int) := by rw [show ((s : Int) - 2) = ((s - 2 : Nat) : Int) by omega, hh]; rfl
  have hh2 : h ≤ 2047 := by omega
  have hT : T.Ok P := hP ▸ T_ok
  refine FnTr.intro (fn := Tryz.f66) (c := bodyOf Tryz.f66) (by rw [hP]; rfl) rfl rfl hT ?_
  generalize hA : Ar.real = A
  generalize hK : Gives _ _ _ = K
  cbv
  refine CS.le hA (a1) [(0, 0), (1, 1), (2, 2)] rfl rfl rfl ?_ ?_ ?_
  iterate 2 ((try cbv) <;> (repeat' (first | exact trivial | exact rfl | apply And.intro | exact fun _ => rfl | (intro _ hle; first | refine chunk_le hA rfl hle rfl ?_ | refine cat_le hA ?_ | refine upd_le hA ?_ | (try cbv)))) <;> (try (subst hA; (try simp only [zn] at *); (try (simp only [Ar.real, NV.val, zo, zt])); first | done | omega | decide | exact zi | (refine ⟨?_, ?_⟩ <;> first | omega | decide | exact zi))))
  cbv
  have k1 : A.quo (A.sub (Int.ofNat s) 2) 2 = (h : Int) := by subst hA; exact e1
  refine ⟨?_, ⟨?_, by (show A.inR .i64 (A.quo (A.sub (Int.ofNat s) 2) 2)); rw [k1]; (subst hA; (try simp only [zn] at *); (try (simp only [Ar.real, NV.val, zo, zt])); first | done | omega | decide | exact zi | (refine ⟨?_, ?_⟩ <;> first | omega | decide | exact zi))⟩, ?_⟩
  iterate 2 (subst hA; (try simp only [zn] at *); (try (simp only [Ar.real, NV.val, zo, zt])); first | done | omega | decide | exact zi | (refine ⟨?_, ?_⟩ <;> first | omega | decide | exact zi))
  refine Fin.le hA 3 [] (.int .i64 (h : Int)) (DH N S L ar ca) 3 rfl rfl rfl ?_ ?_ (by rw [← hK]; exact ⟨rfl, rfl, rfl⟩)
  · (try cbv) <;> (repeat' (first | exact trivial | exact rfl | apply And.intro | exact fun _ => rfl | (intro _ hle; first | refine chunk_le hA rfl hle rfl ?_ | refine cat_le hA ?_ | refine upd_le hA ?_ | (try cbv))))
    exact k1
  · (try cbv) <;> (repeat' (first | exact trivial | exact rfl | apply And.intro | exact fun _ => rfl | (intro _ hle; first | refine chunk_le hA rfl hle rfl ?_ | refine cat_le hA ?_ | refine upd_le hA ?_ | (try cbv))))
theorem first_fn {P : Program} {G : Gl} (hP : P = Tryz.prog) {N s h g fi : Nat} {S : Nat → Int} {L : Int → Option (Nat → Int)} {ar : Bool} {ca : Int} (hN : N = 64 * s) (hs : 4 ≤ s ∧ s ≤ 4096) (hh : h = (s - 2) / 2) (hg : g ≤ 1099511627777) (hf : fi = 2 + g % 2 * h) :
    FnTr P G 58 [.ptr 0 0, .int .i64 (g : Int)] (DH N S L ar ca) 3 (Gives (.int .i64 (fi : Int)) (DH N S L ar ca) 3) := by
  have a1 := half_fn (P := P) (G := G) (S := S) (L := L) (ar := ar) (ca := ca) hP hN hs hh
  obtain ⟨r, hr⟩ : ∃ r, r = g % 2 := ⟨_, rfl⟩
  obtain ⟨rh, hrh⟩ : ∃ rh, rh = r * h := ⟨_, rfl⟩
  have e0 : Int.tmod (g : Int) 2 = (r : Int) := by rw [hr]; rfl
  have e1 : (r : Int) * (h : Int) = (rh : Int) := by rw [hrh]; exact (Int.natCast_mul r h).symm
  have hh2 : h ≤ 2047 := by omega
  have hr2 : r ≤ 1 := by omega
  have hrh2 : rh ≤ 2047 := by
    rw [hrh]
    have : r = 0 ∨ r = 1 := by omega
    rcases this with e | e <;> rw [e] <;> omega
  have hf : fi = 2 + rh := by rw [hf, ← hr, ← hrh]
  clear hh hN
  have hT : T.Ok P := hP ▸ T_ok
  refine FnTr.intro (fn := Tryz.f58) (c := bodyOf Tryz.f58) (by rw [hP]; rfl) rfl rfl hT ?_
  generalize hA : Ar.real = A
  generalize hK : Gives _ _ _ = K
  cbv
  have k0 : A.rem (Int.ofNat g) 2 = (r : Int) := by subst hA; exact e0
  have k1 : A.mul (r : Int) (Int.ofNat h) = (rh : Int) := by subst hA; exact e1
  refine ⟨(by (subst hA; (try simp only [zn] at *); (try (simp only [Ar.real, NV.val, zo, zt])); first | done | omega | decide | exact zi | (refine ⟨?_, ?_⟩ <;> first | omega | decide | exact zi))), ?_⟩
  refine CS.le hA (a1) [(0, 0), (1, 1), (2, 2)] rfl rfl rfl ?_ ?_ ?_
  iterate 2 ((try cbv) <;> (repeat' (first | exact trivial | exact rfl | apply And.intro | exact fun _ => rfl | (intro _ hle; first | refine chunk_le hA rfl hle rfl ?_ | refine cat_le hA ?_ | refine upd_le hA ?_ | (try cbv)))) <;> (try (subst hA; (try simp only [zn] at *); (try (simp only [Ar.real, NV.val, zo, zt])); first | done | omega | decide | exact zi | (refine ⟨?_, ?_⟩ <;> first | omega | decide | exact zi))))
  cbv
  have k2 : A.mul (A.rem (Int.ofNat g) 2) (Int.ofNat h) = (rh : Int) := by rw [k0]; exact k1
  refine ⟨by (show A.inR .i64 (A.mul (A.rem (Int.ofNat g) 2) (Int.ofNat h))); rw [k2]; (subst hA; (try simp only [zn] at *); (try (simp only [Ar.real, NV.val, zo, zt])); first | done | omega | decide | exact zi | (refine ⟨?_, ?_⟩ <;> first | omega | decide | exact zi)), by (show A.inR .i64 (A.add 2 (A.mul (A.rem (Int.ofNat g) 2) (Int.ofNat h)))); rw [k2]; (subst hA; (try simp only [zn] at *); (try (simp only [Ar.real, NV.val, zo, zt])); first | done | omega | decide | exact zi | (refine ⟨?_, ?_⟩ <;> first | omega | decide | exact zi)), ?_⟩
  refine Fin.le hA 3 [] (.int .i64 (fi : Int)) (DH N S L ar ca) 3 rfl rfl rfl ?_ ?_ (by rw [← hK]; exact ⟨rfl, rfl, rfl⟩)
  · (try cbv) <;> (repeat' (first | exact trivial | exact rfl | apply And.intro | exact fun _ => rfl | (intro _ hle; first | refine chunk_le hA rfl hle rfl ?_ | refine cat_le hA ?_ | refine upd_le hA ?_ | (try cbv))))
    show A.add 2 (A.mul (A.rem (Int.ofNat g) 2) (Int.ofNat h)) = _
    rw [k2]
    (subst hA; (try simp only [zn] at *); (try (simp only [Ar.real, NV.val, zo, zt])); first | done | omega | decide | exact zi | (refine ⟨?_, ?_⟩ <;> first | omega | decide | exact zi))
  · (try cbv) <;> (repeat' (first | exact trivial | exact rfl | apply And.intro | exact fun _ => rfl | (intro _ hle; first | refine chunk_le hA rfl hle rfl ?_ | refine cat_le hA ?_ | refine upd_le hA ?_ | (try cbv))))
theorem end_fn {P : Program} {G : Gl} (hP : P = Tryz.prog) {N s h g fi en : Nat} {S : Nat → Int} {L : Int → Option (Nat → Int)} {ar : Bool} {ca : Int} (hN : N = 64 * s) (hs : 4 ≤ s ∧ s ≤ 4096) (hh : h = (s - 2) / 2) (hg : g ≤ 1099511627777) (hf : fi = 2 + g % 2 * h) (he : en = fi + h) :
    FnTr P G 31 [.ptr 0 0, .int .i64 (g : Int)] (DH N S L ar ca) 3 (Gives (.int .i64 (en : Int)) (DH N S L ar ca) 3) := by
  have a1 := half_fn (P := P) (G := G) (S := S) (L := L) (ar := ar) (ca := ca) hP hN hs hh
  have a2 := first_fn (P := P) (G := G) (S := S) (L := L) (ar := ar) (ca := ca) hP hN hs hh hg hf
  have hh2 : h ≤ 2047 := by omega
  have hf2 : fi ≤ 2049 := by
    rw [hf]
    have : g % 2 = 0 ∨ g % 2 = 1 := by omega
    rcases this with e | e <;> rw [e] <;> omega
  clear hh hN hf
  have hT : T.Ok P := hP ▸ T_ok
  refine FnTr.intro (fn := Tryz.f31) (c := bodyOf Tryz.f31) (by rw [hP]; rfl) rfl rfl hT ?_
  generalize hA : Ar.real = A
  generalize hK : Gives _ _ _ = K
  cbv
  refine CS.le hA (a2) [(0, 0), (1, 1), (2, 2)] rfl rfl rfl ?_ ?_ ?_
  iterate 2 ((try cbv) <;> (repeat' (first | exact trivial | exact rfl | apply And.intro | exact fun _ => rfl | (intro _ hle; first | refine chunk_le hA rfl hle rfl ?_ | refine cat_le hA ?_ | refine upd_le hA ?_ | (try cbv)))) <;> (try (subst hA; (try simp only [zn] at *); (try (simp only [Ar.real, NV.val, zo, zt])); first | done | omega | decide | exact zi | (refine ⟨?_, ?_⟩ <;> first | omega | decide | exact zi))))
  cbv
  refine CS.le hA (a1) [(0, 0), (1, 1), (2, 2)] rfl rfl rfl ?_ ?_ ?_
  iterate 2 ((try cbv) <;> (repeat' (first | exact trivial | exact rfl | apply And.intro | exact fun _ => rfl | (intro _ hle; first | refine chunk_le hA rfl hle rfl ?_ | refine cat_le hA ?_ | refine upd_le hA ?_ | (try cbv)))) <;> (try (subst hA; (try simp only [zn] at *); (try (simp only [Ar.real, NV.val, zo, zt])); first | done | omega | decide | exact zi | (refine ⟨?_, ?_⟩ <;> first | omega | decide | exact zi))))
  cbv
  refine ⟨(by (subst hA; (try simp only [zn] at *); (try (simp only [Ar.real, NV.val, zo, zt])); first | done | omega | decide | exact zi | (refine ⟨?_, ?_⟩ <;> first | omega | decide | exact zi))), ?_⟩
  refine Fin.le hA 3 [] (.int .i64 (en : Int)) (DH N S L ar ca) 3 rfl rfl rfl ?_ ?_ (by rw [← hK]; exact ⟨rfl, rfl, rfl⟩)
  · (try cbv) <;> (repeat' (first | exact trivial | exact rfl | apply And.intro | exact fun _ => rfl | (intro _ hle; first | refine chunk_le hA rfl hle rfl ?_ | refine cat_le hA ?_ | refine upd_le hA ?_ | (try cbv))))
    (subst hA; (try simp only [zn] at *); (try (simp only [Ar.real, NV.val, zo, zt])); first | done | omega | decide | exact zi | (refine ⟨?_, ?_⟩ <;> first | omega | decide | exact zi))
  · (try cbv) <;> (repeat' (first | exact trivial | exact rfl | apply And.intro | exact fun _ => rfl | (intro _ hle; first | refine chunk_le hA rfl hle rfl ?_ | refine cat_le hA ?_ | refine upd_le hA ?_ | (try cbv))))
theorem byte64 (g i : Nat) (hi : i < 8) : IntKind.u8.wrap (Ar.real.shr .i64 (g : Int) (8 * (7 - (i : Int)))) = ((g / 256 ^ (7 - i) % 256 : Nat) : Int) := by
  have hw : ∀ x : Nat, IntKind.u8.wrap (x : Int) = ((x % 256 : Nat) : Int) := fun x => by
    simp [IntKind.wrap, IntKind.signed, IntKind.bits]
  rw [show (8 * (7 - (i : Int))) = ((8 * (7 - i) : Nat) : Int) by omega, ← hw]
  congr 1
  show Int.fdiv (g : Int) (2 ^ (Nat.min ((8 * (7 - i) : Nat) : Int).toNat IntKind.i64.bits)) = _
  rw [show Nat.min ((8 * (7 - i) : Nat) : Int).toNat IntKind.i64.bits = 8 * (7 - i) by show min (8 * (7 - i)) 64 = _; omega]
  rw [show (256 : Nat) ^ (7 - i) = 2 ^ (8 * (7 - i)) by rw [Nat.pow_mul]]
  rw [Int.fdiv_eq_ediv_of_nonneg _ (by exact Int.le_of_lt (Int.pow_pos (by decide)))]
  simp
theorem head_own {P : Program} {G : Gl} (hP : P = Tryz.prog) {g : Nat} {f : Nat → Int} (hg : g ≤ 1099511627777) (hf : ∀ i, i < 64 → f i = headB g i) :
    FnTr P G 80 [.int .i64 (g : Int)] [] 0 (Gives (.sl 0 1 (.l 0) (.l 64)) [(0, .row 5 1 (.l 64) (fun e => [.int .u8 (f e.val)]))] 100) := by
  obtain ⟨F, hF⟩ : ∃ F : Nat → Nat → Int, ∀ j x, F j x = headP g j x := ⟨_, fun _ _ => rfl⟩
  have hF0 : ∀ x, F 0 x = 0 := fun x => by rw [hF]; exact headP_zero g x
  obtain ⟨B, hB⟩ : ∃ B : Nat → Int, ∀ j, B j = ((g / 256 ^ (7 - j) % 256 : Nat) : Int) := ⟨_, fun _ => rfl⟩
  have hFs : ∀ (j x : Nat), j < 8 → F (j + 1) x = if x = 56 + j then B j else if x = j then B j else F j x := fun j x hj => by rw [hF, hF, hB]; exact headP_succ g j x hj
  have hF8 : ∀ x, x < 64 → F 8 x = f x := fun x hx => by rw [hF, headP_all g x hx, hf x hx]
  have hb : ∀ (j : Nat), j < 8 → IntKind.u8.wrap (Ar.real.shr .i64 (g : Int) (8 * (7 - (j : Int)))) = B j := fun j hj => by rw [hB]; exact byte64 g j hj
  clear hF hf hB
  have hT : T.Ok P := hP ▸ T_ok
  refine FnTr.intro (fn := Tryz.f80) (c := bodyOf Tryz.f80) (by rw [hP]; rfl) rfl rfl hT ?_
  generalize hA : Ar.real = A
  generalize hK : Gives _ _ _ = K
  cbv
  refine ⟨(by (subst hA; (try simp only [zn] at *); (try (simp only [Ar.real, NV.val, zo, zt])); first | done | omega | decide | exact zi | (refine ⟨?_, ?_⟩ <;> first | omega | decide | exact zi))), ?_⟩
  refine LS.le hT hA 5 (fun (i : Nat) => [(7, .int .i64 (i : Int))]) (fun i => [(1, .row 5 1 (.l 64) (fun e => [.int .u8 (F i e.val)]))]) (fun i => i ≤ 8) (fun i => 8 - i) 0 [] rfl rfl ?_ ?_ ?_
  · (try cbv) <;> (repeat' (first | exact trivial | exact rfl | apply And.intro | exact fun _ => rfl | (intro _ hle; first | refine chunk_le hA rfl hle rfl ?_ | refine cat_le hA ?_ | refine upd_le hA ?_ | (try cbv))))
    all_goals exact (hF0 _).symm
  · exact Nat.zero_le _
  · intro R hR i hi
    cbv
    refine ⟨fun q1 => ?_, fun q1 => ?_⟩
    · have hi8 : i < 8 := by clear hR hF0 hFs hF8 hb; subst hA; simp [Ar.real] at q1; omega
      have hb := hb i hi8
      have hFs := fun x => hFs i x hi8
      clear hF0 hF8
      have kn : A.nat (Int.ofNat i) = i := by clear hR hFs hb; subst hA; rfl
      have kv : A.conv .u8 (A.shr .i64 (Int.ofNat g) (A.mul 8 (A.sub 7 (Int.ofNat i)))) = B i := by clear hR hFs; subst hA; exact hb
      have kn2 : A.nat (A.add 56 (Int.ofNat i)) = 56 + i := by clear hR hFs hb kv kn; subst hA; show ((56 : Int) + (i : Int)).toNat = _; omega
      have hup : ∀ e, ltNV A e (.l 64) → leL (leSV A 4) (updF A 1 (.s (A.nat (A.add 56 (Int.ofNat i)))) 0 [.int .u8 (A.conv .u8 (A.shr .i64 (Int.ofNat g) (A.mul 8 (A.sub 7 (Int.ofNat i)))))] (updF A 1 (.s (A.nat (Int.ofNat i))) 0 [.int .u8 (A.conv .u8 (A.shr .i64 (Int.ofNat g) (A.mul 8 (A.sub 7 (Int.ofNat i)))))] (fun e => [.int .u8 (F i e.val)])) e) [.int .u8 (F (i + 1) e.val)] := fun e he =>
        Ints.le hA (Ints.upd hA (A.nat (A.add 56 (Int.ofNat i))) rfl (Ints.upd hA (A.nat (Int.ofNat i)) rfl (Ints.base .u8 (F i) 64))) he (Nat.le_refl _) (by rw [kn2, kn, kv, hFs])
      clear hb hFs kv kn kn2
      cbv
      refine ⟨?_, ?_, ?_, ?_, ?_, ?_, ?_, ?_, ?_, hR _ _ ⟨i + 1, 5, [], rfl, rfl, ?_, hi8, (by show 8 - (i + 1) < 8 - i; omega)⟩⟩
      iterate 9 (subst hA; (try simp only [zn] at *); (try (simp only [Ar.real, NV.val, zo, zt])); first | done | omega | decide | exact zi | (refine ⟨?_, ?_⟩ <;> first | omega | decide | exact zi))
      clear hR
      (try cbv) <;> (repeat' (first | exact trivial | exact rfl | apply And.intro | exact fun _ => rfl | (intro _ hle; first | exact hup _ hle | refine chunk_le hA rfl hle rfl ?_ | refine cat_le hA ?_ | refine upd_le hA ?_ | refine int_le ?_ | skip)))
      all_goals (subst hA; (try simp only [zn] at *); (try (simp only [Ar.real, NV.val, zo, zt])); first | done | omega | decide | exact zi | (refine ⟨?_, ?_⟩ <;> first | omega | decide | exact zi))
    · have hi8 : i = 8 := by clear hR hF0 hFs hF8 hb; subst hA; simp [Ar.real] at q1; omega
      subst hi8
      clear hR hF0 hFs hb
      cbv
      refine Fin.le hA 0 [(1, 0)] (.sl 0 1 (.l 0) (.l 64)) ([(0, .row 5 1 (.l 64) (fun e => [.int .u8 (f e.val)]))]) 100 rfl rfl rfl ?_ ?_ (by rw [← hK]; exact ⟨rfl, rfl, rfl⟩)
      · (try cbv) <;> (repeat' (first | exact trivial | exact rfl | apply And.intro | exact fun _ => rfl | (intro _ hle; first | refine chunk_le hA rfl hle rfl ?_ | refine cat_le hA ?_ | refine upd_le hA ?_ | (try cbv))))
      · (try cbv) <;> (repeat' (first | exact trivial | exact rfl | apply And.intro | exact fun _ => rfl | (intro _ hle; first | refine chunk_le hA rfl hle rfl ?_ | refine cat_le hA ?_ | refine upd_le hA ?_ | (try cbv))))
        all_goals (refine hF8 _ ?_; subst hA; exact ltNV_real.1 (by assumption))
theorem head_fn {P : Program} {G : Gl} (hP : P = Tryz.prog) {g : Nat} {f : Nat → Int} (hg : g ≤ 1099511627777) (hf : ∀ i, i < 64 → f i = headB g i) :
    FnTr P G 80 [.int .i64 (g : Int)] [] 0 (Gives (.ro 1 (.l 64) (fun e => [.int .u8 (f e.val)])) [] 100) := by
  have h1 := head_own (P := P) (G := G) hP hg hf
  generalize hA : Ar.real = A
  refine FnTr.dat hA h1 _ _ ?_
  (try cbv) <;> (repeat' (first | exact trivial | exact rfl | apply And.intro | exact fun _ => rfl | (intro _ hle; first | refine chunk_le hA rfl hle rfl ?_ | refine cat_le hA ?_ | refine upd_le hA ?_ | (try cbv))))
  all_goals (subst hA; (try simp only [zn] at *); (try (simp only [Ar.real, NV.val, zo, zt])); first | done | omega | decide | exact zi | (refine ⟨?_, ?_⟩ <;> first | omega | decide | exact zi))
end Go.Proofs.YtnjjgipblimbfaaGreatDoor.Dsk
namespace Go.CrcLaw
abbrev R := BitVec 32
def half (r : R) : R := (r >>> 1) ^^^ (bif r.getLsbD 0 then 0xedb88320#32 else 0#32)
def Lin (f : R → R) : Prop := ∀ x y, f (x ^^^ y) = f x ^^^ f y
def sumBits (x : R) : Nat → R
  | 0 => 0#32
  | n + 1 => sumBits x n ^^^ (bif x.getLsbD n then 1#32 <<< n else 0#32)
theorem sumBits_bit (x : R) (n : Nat) (i : Nat) (hn : n ≤ 32) : (sumBits x n).getLsbD i = (decide (i < n) && x.getLsbD i) := by
  induction n with
  | zero => simp [sumBits]
  | succ n ih =>
    simp only [sumBits, BitVec.getLsbD_xor]
    rw [ih (by omega)]
    by_cases e : i = n
    · subst e
      have h1 : (1#32 <<< i).getLsbD i = true := by simp; omega
      cases hx : x.getLsbD i <;> simp [h1]
    · have h1 : (1#32 <<< n).getLsbD i = false := by
        simp only [BitVec.getLsbD_shiftLeft, BitVec.getLsbD_one]
        by_cases h : i < n
        · simp [h]
        · have : i - n ≠ 0 := by omega
          simp [this]
      have h2 : (bif x.getLsbD n then 1#32 <<< n else 0#32).getLsbD i = false := by
        cases x.getLsbD n
        · simp
        · simpa using h1
      rw [h2]
      have : decide (i < n + 1) = decide (i < n) := by
        by_cases h : i < n
        · simp [h]; omega
        · simp [h]; omega
      rw [this]; simp
theorem sumBits_all (x : R) : sumBits x 32 = x := by
  apply BitVec.eq_of_getLsbD_eq
  intro i hi
  rw [sumBits_bit x 32 i (by omega)]
  simp [hi]
theorem Lin.zero {f : R → R} (h : Lin f) : f 0#32 = 0#32 := by
  have := h 0#32 0#32
  simpa using this
theorem lin_ext {f g : R → R} (hf : Lin f) (hg : Lin g) (h : ∀ i : Fin 32, f (1#32 <<< i.val) = g (1#32 <<< i.val)) : ∀ x, f x = g x := by
  intro x
  have key : ∀ n, n ≤ 32 → f (sumBits x n) = g (sumBits x n) := by
    intro n
    induction n with
    | zero => intro _; show f 0#32 = g 0#32; rw [hf.zero, hg.zero]
    | succ n ih =>
      intro hn
      simp only [sumBits]
      rw [hf, hg, ih (by omega)]
      congr 1
      cases x.getLsbD n with
      | false => show f 0#32 = g 0#32; rw [hf.zero, hg.zero]
      | true => exact h ⟨n, by omega⟩
  have := key 32 (Nat.le_refl _)
  rwa [sumBits_all] at this
theorem Lin.id : Lin (fun x => x) := fun _ _ => rfl
theorem Lin.comp {f g : R → R} (hf : Lin f) (hg : Lin g) : Lin (fun x => f (g x)) := fun x y => by
  show f (g (x ^^^ y)) = _
  rw [hg, hf]
theorem xor4 (a b c d : R) : (a ^^^ b) ^^^ (c ^^^ d) = (a ^^^ c) ^^^ (b ^^^ d) := by ac_rfl
theorem Lin.xor {f g : R → R} (hf : Lin f) (hg : Lin g) : Lin (fun x => f x ^^^ g x) := fun x y => by
  show f (x ^^^ y) ^^^ g (x ^^^ y) = _
  rw [hf, hg, xor4]
theorem Lin.shr (n : Nat) : Lin (fun x => x >>> n) := fun x y => by
  show (x ^^^ y) >>> n = _
  exact BitVec.ushiftRight_xor_distrib x y n
theorem Lin.bit (i : Nat) (c : R) : Lin (fun x => bif x.getLsbD i then c else 0#32) := fun x y => by
  show (bif (x ^^^ y).getLsbD i then c else 0#32) = (bif x.getLsbD i then c else 0#32) ^^^ (bif y.getLsbD i then c else 0#32)
  rw [BitVec.getLsbD_xor]
  cases x.getLsbD i <;> cases y.getLsbD i <;> simp
theorem Lin.half : Lin half := Lin.xor (Lin.shr 1) (Lin.bit 0 _)
def hs : Nat → R → R
  | 0, r => r
  | n + 1, r => hs n (half r)
theorem Lin.hs (n : Nat) : Lin (hs n) := by
  induction n with
  | zero => exact Lin.id
  | succ n ih => exact fun x y => Lin.comp ih Lin.half x y
theorem hs_add (m n : Nat) (r : R) : hs (m + n) r = hs n (hs m r) := by
  induction m generalizing r with
  | zero => rw [Nat.zero_add]; rfl
  | succ m ih => rw [Nat.succ_add]; exact ih (half r)
theorem hs_half (n : Nat) (r : R) : hs n (half r) = half (hs n r) := by
  have := hs_add n 1 r
  rw [show hs (n + 1) r = hs n (half r) from rfl] at this
  exact this
def dbl (x : R) : R := (x <<< 1) ^^^ (bif x.getLsbD 31 then (0xedb88320#32 <<< 1) ^^^ 1#32 else 0#32)
def four : Nat → R
  | 0 => 0#32 | 1 => 498536548#32 | 2 => 997073096#32 | 3 => 651767980#32 | 4 => 1994146192#32 | 5 => 1802195444#32 | 6 => 1303535960#32 | 7 => 1342533948#32
  | 8 => 3988292384#32 | 9 => 4027552580#32 | 10 => 3604390888#32 | 11 => 3412177804#32 | 12 => 2607071920#32 | 13 => 2262029012#32 | 14 => 2685067896#32 | 15 => 3183342108#32
  | _ => 0#32
theorem four_lin : ∀ a b : Fin 16, four (a.val ^^^ b.val) = four a.val ^^^ four b.val := by decide +kernel
theorem and15_lt (x : R) : (x &&& 15#32).toNat < 16 := by
  rw [BitVec.toNat_and]
  have : x.toNat &&& (15#32).toNat ≤ (15#32).toNat := Nat.and_le_right
  have e : (15#32).toNat = 15 := by decide
  omega
theorem xor_and (x y c : R) : (x ^^^ y) &&& c = (x &&& c) ^^^ (y &&& c) := by
  apply BitVec.eq_of_getLsbD_eq
  intro i hi
  simp only [BitVec.getLsbD_and, BitVec.getLsbD_xor]
  cases x.getLsbD i <;> cases y.getLsbD i <;> cases c.getLsbD i <;> rfl
theorem Lin.low4 : Lin (fun x => four (x &&& 15#32).toNat) := fun x y => by
  show four ((x ^^^ y) &&& 15#32).toNat = _
  have e : ((x ^^^ y) &&& 15#32).toNat = (x &&& 15#32).toNat ^^^ (y &&& 15#32).toNat := by
    rw [xor_and, BitVec.toNat_xor]
  rw [e]
  exact four_lin ⟨_, and15_lt x⟩ ⟨_, and15_lt y⟩
theorem hs4 (r : R) : hs 4 r = (r >>> 4) ^^^ four (r &&& 15#32).toNat := by
  refine lin_ext (Lin.hs 4) (Lin.xor (Lin.shr 4) Lin.low4) ?_ r
  decide +kernel
def step (r c : R) : R := hs 8 (r ^^^ c)
def raw (g : Nat → R) (r : R) : Nat → R
  | 0 => r
  | n + 1 => step (raw g r n) (g n)
def more (g : Nat → R) (s : R) (n : Nat) : R := ~~~ (raw g (~~~ s) n)
theorem not_eq_xor (x : R) : ~~~ x = 4294967295#32 ^^^ x := by
  rw [show (4294967295#32 : R) = BitVec.allOnes 32 by decide, BitVec.allOnes_xor]
def cat (g : Nat → R) (n : Nat) (h : Nat → R) : Nat → R := fun i => if i < n then g i else h (i - n)
def mulGo (a : R) : Nat → R → R → R
  | 0, _, out => out
  | k + 1, b, out => mulGo a k (half b) (bif a.getLsbD k then out ^^^ b else out)
def times (a b : R) : R := mulGo a 32 b 0#32
def mulSum (a : R) : Nat → R → R
  | 0, _ => 0#32
  | k + 1, b => (bif a.getLsbD k then b else 0#32) ^^^ mulSum a k (half b)
def unit : R := 1#32 <<< 31
def joinGo : Nat → Nat → R → R → R
  | 0, _, _, a => a
  | f + 1, n, p, a => if n = 0 then a else joinGo f (n / 2) (times p p) (if n % 2 = 1 then times p a else a)
def join (a b : R) (n : Nat) : R := joinGo n n (8388608#32) a ^^^ b
def sealB (gi : Nat → Int) (s : R) (n e : Nat) : Int := if e < n then gi e else ((s.toNat / 256 ^ (e - n) % 256 : Nat) : Int)
theorem sealB_rng {gi : Nat → Int} {s : R} {n : Nat} (h : ∀ i, i < n → 0 ≤ gi i ∧ gi i < 256) (i : Nat) : 0 ≤ sealB gi s n i ∧ sealB gi s n i < 256 := by
  unfold sealB
  split
  · exact h i ‹_›
  · constructor
    · exact Int.natCast_nonneg _
    · generalize s.toNat / 256 ^ (i - n) = q
      omega
def turn (g : Nat → R) (x : R) (k : Nat) : Nat → Nat → R
  | 0 => g
  | i + 1 => fun j => bif x.getLsbD i then (if j = (k + i) / 8 then turn g x k i j ^^^ 1#32 <<< ((k + i) % 8) else turn g x k i j) else turn g x k i j
def byteOf (s : R) (j : Nat) : R := (s >>> (8 * j)) &&& 255#32
end Go.CrcLaw
namespace Go.Proofs.YtnjjgipblimbfaaGreatDoor
open Go.Eng
def T : Tab := [
  (3, ⟨1, 8, [.lit .i64 0], .int .i64⟩),
  (4, ⟨1, 1, [.bl false], .bool⟩),
  (5, ⟨1, 1, [.lit .u8 0], .int .u8⟩),
  (9, ⟨1, 16, [.str []], .str⟩),
  (22, ⟨1, 24, [.nils], .slice 5⟩),
  (25, ⟨1, 8, [.lit .i64 0], .int .i64⟩),
  (116, ⟨1, 4, [.lit .u32 0], .int .u32⟩),
  (118, ⟨1, 8, [.lit .u64 0], .int .u64⟩),
  (137, ⟨16, 64, [.lit .u32 0, .lit .u32 0, .lit .u32 0, .lit .u32 0, .lit .u32 0, .lit .u32 0, .lit .u32 0, .lit .u32 0, .lit .u32 0, .lit .u32 0, .lit .u32 0, .lit .u32 0, .lit .u32 0, .lit .u32 0, .lit .u32 0, .lit .u32 0], .array 16 116⟩)]
set_option maxRecDepth 100000
theorem T_ok : T.Ok Tryz.prog := Tab.ok_of_map (by kernel_rfl)
theorem P_mixed : Tryz.prog.follows .mixedOrders = true := by kernel_rfl
def Gf (fr : Nat → Int) : Gl := [(0, .ra 1 16 (fun e => [.int .u32 (fr e.val)]))]
def bytesSV (n : Nat) (gi : Nat → Int) : SV := .ro 1 (.s n) (fun e => [.int .u8 (gi e.val)])
end Go.Proofs.YtnjjgipblimbfaaGreatDoor
namespace Go.Proofs.YtnjjgipblimbfaaGreatDoor
open Go.Eng
open Go.CrcLaw (four raw hs hs4 hs_add xor_and and15_lt half)
set_option maxRecDepth 100000
theorem byteA (r c : BitVec 32) : ((((r ^^^ c) >>> 4 ^^^ four ((r ^^^ c) &&& 15#32).toNat) >>> 4) ^^^ four ((((r ^^^ c) >>> 4 ^^^ four ((r ^^^ c) &&& 15#32).toNat) &&& 15#32).toNat)) = CrcLaw.step r c := by
  rw [← hs4, ← hs4, ← hs_add]; rfl
theorem more_fn {P : Program} (hP : P = Tryz.prog) {fr gi : Nat → Int} {si ri : Int} {n : Nat} {s : BitVec 32} {g : Nat → BitVec 32} (hfr : ∀ i, fr i = ((four i).toNat : Int)) (hg : ∀ i, gi i = ((g i).toNat : Int)) (hs : si = (s.toNat : Int)) (hr : ri = ((CrcLaw.more g s n).toNat : Int)) (hn : n ≤ 9223372036854775807) :
    FnTr P (Gf fr) 91 [.int .u32 si, .ro 1 (.s n) (fun e => [.int .u8 (gi e.val)])] [] 0 (Gives (.int .u32 ri) [] 0) := by
  have hT : T.Ok P := hP ▸ T_ok
  refine FnTr.intro (fn := Tryz.f91) (c := bodyOf Tryz.f91) (by rw [hP]; rfl) rfl rfl hT ?_
  generalize hA : Ar.real = A
  generalize hK : Gives _ _ _ = K
  cbv
  refine LS.le2 hT hA 0 (fun (k : Nat) (r : Int) => [(12, .int .i64 (k : Int)), (5, .int .u32 r)]) (fun _ _ => []) (fun k r => k ≤ n ∧ r = ((raw g (~~~ s) k).toNat : Int)) (fun k _ => n - k) 0 (A.xorm .u32 si) [] rfl rfl ?_ ?_ ?_
  · cbv
    refine ⟨⟨fun e _ => ?_, fun e _ => ?_, rfl, trivial⟩, trivial⟩ <;> exact ⟨rfl, trivial⟩
  · subst hA; exact ⟨Nat.zero_le _, by rw [hs, not32]; rfl⟩
  · intro R hR k r ha
    cbv
    obtain ⟨h1, h2⟩ := ha
    obtain ⟨r', hr'⟩ : ∃ r' : Int, r' = ((raw g (~~~ s) (k + 1)).toNat : Int) := ⟨_, rfl⟩
    refine ⟨fun h => ?_, fun h => ?_⟩
    · cbv
      have hlt : k < n := by subst hA; simp only [Ar.real] at h; simpa using h
      have hcv : ∀ i, IntKind.u32.wrap (gi i) = ((g i).toNat : Int) := fun i => by rw [hg, wrap_u32_bv]
      have h15 : (15 : Int) = ((15#32).toNat : Int) := by decide
      refine ⟨?_, ?_, ?_, ?_, ?_, ?_, hR _ _ _ ⟨k + 1, r', 0, [], rfl, rfl, ?_, ?_, ?_⟩⟩ <;> clear hR
      · subst hA; simp only [Ar.real, NV.val, zo, zt]
        exact ⟨by omega, hlt⟩
      · subst hA; simp only [Ar.real, NV.val, zo, zt]
        decide
      · subst hA; simp only [Ar.real, NV.val, zo, zt, hcv, h2, xor32, h15, and32]
        exact ⟨Int.natCast_nonneg _, and15_lt _⟩
      · subst hA; simp only [Ar.real, NV.val, zo, zt]
        decide
      · subst hA; simp only [Ar.real, NV.val, zo, zt, hcv, h2, xor32, h15, and32, hfr, shr32]
        exact ⟨Int.natCast_nonneg _, and15_lt _⟩
      · subst hA; simp only [Ar.real, NV.val, zo, zt]
        constructor <;> simp [IntKind.min, IntKind.max, IntKind.bits, IntKind.signed] <;> omega
      · cbv
        refine ⟨⟨fun e _ => ⟨rfl, trivial⟩, ?_, fun e _ => ⟨rfl, trivial⟩, ?_, trivial⟩, trivial⟩
        · subst hA; simp only [Ar.real, NV.val, zo, zt, hcv, h2, xor32, h15, and32, hfr, shr32]
          rw [hr']
          congr 2
          exact byteA _ _
        · subst hA; simp only [Ar.real, NV.val, zo, zt]
          rfl
      · exact ⟨hlt, hr'⟩
      · show n - (k + 1) < n - k
        omega
    · cbv
      have hge : k = n := by subst hA; simp only [Ar.real] at h; simp at h; omega
      clear hR
      refine Fin.le hA 0 [] (.int .u32 ri) [] 0 rfl rfl rfl ?_ ?_ (by rw [← hK]; exact ⟨rfl, rfl, rfl⟩)
      · cbv
        subst hA; rw [hr, h2, hge]; exact not32 _
      · trivial
theorem refstep_fn {P : Program} {G : Gl} (hP : P = Tryz.prog) {ri ci oi : Int} {r c : BitVec 32} (hr : ri = (r.toNat : Int)) (hc : ci = (c.toNat : Int)) (ho : oi = ((CrcLaw.step r c).toNat : Int)) :
    FnTr P G 104 [.int .u32 ri, .int .u8 ci] [] 0 (Gives (.int .u32 oi) [] 0) := by
  have hT : T.Ok P := hP ▸ T_ok
  refine FnTr.intro (fn := Tryz.f104) (c := bodyOf Tryz.f104) (by rw [hP]; rfl) rfl rfl hT ?_
  generalize hA : Ar.real = A
  generalize hK : Gives _ _ _ = K
  cbv
  refine LS.le2 hT hA 0 (fun (k : Nat) (x : Int) => [(5, .int .i64 (k : Int)), (0, .int .u32 x)]) (fun _ _ => []) (fun k x => k ≤ 8 ∧ x = ((hs k (r ^^^ c)).toNat : Int)) (fun k _ => 8 - k) 0 (A.w .xor .u32 ri (A.conv .u32 ci)) [] rfl rfl ?_ ?_ ?_
  · cbv
    exact ⟨⟨rfl, trivial⟩, trivial⟩
  · subst hA; refine ⟨by omega, ?_⟩
    rw [hr, hc]; simp only [Ar.real]; rw [wrap_u32_bv, xor32]; rfl
  · intro R hR k x ha
    cbv
    obtain ⟨h1, h2⟩ := ha
    obtain ⟨x', hx'⟩ : ∃ x' : Int, x' = ((hs (k + 1) (r ^^^ c)).toNat : Int) := ⟨_, rfl⟩
    have hstep : hs (k + 1) (r ^^^ c) = half (hs k (r ^^^ c)) := by rw [← CrcLaw.hs_half]; rfl
    refine ⟨fun h => ?_, fun h => ?_⟩
    · have hlt : k < 8 := by subst hA; simp only [Ar.real] at h; simp at h; omega
      have h2' : (2 : Int) = ((2 : Nat) : Int) := rfl
      cbv
      refine ⟨?_, ?_, fun h => ?_, fun h => ?_⟩
      · subst hA; simp only [Ar.real, NV.val, zo, zt]
        decide
      · subst hA; simp only [Ar.real, NV.val, zo, zt]
        decide
      all_goals cbv
      all_goals refine ⟨?_, hR _ _ _ ⟨k + 1, x', 0, [], rfl, rfl, ?_, ?_, ?_⟩⟩ <;> clear hR
      · subst hA; simp only [Ar.real, NV.val, zo, zt]
        constructor <;> simp [IntKind.min, IntKind.max, IntKind.bits, IntKind.signed] <;> omega
      · cbv
        refine ⟨⟨?_, ?_, trivial⟩, trivial⟩
        · subst hA
          simp only [Ar.real, h2, h2', rem_nat] at h
          have hl : (hs k (r ^^^ c)).toNat % 2 = 1 := by
            have := of_decide_eq_true h
            exact_mod_cast this
          simp only [Ar.real, NV.val, zo, zt, h2, h2', quo32, half_div]
          have h32 : (3988292384 : Int) = ((3988292384#32).toNat : Int) := by decide
          rw [h32, xor32, hx', hstep]
          have hb : (hs k (r ^^^ c)).getLsbD 0 = true := by rw [low_bit] at hl; simpa using hl
          unfold half
          rw [hb]
          rfl
        · subst hA; simp only [Ar.real, NV.val, zo, zt]
          rfl
      · exact ⟨hlt, hx'⟩
      · show 8 - (k + 1) < 8 - k
        omega
      · subst hA; simp only [Ar.real, NV.val, zo, zt]
        constructor <;> simp [IntKind.min, IntKind.max, IntKind.bits, IntKind.signed] <;> omega
      · cbv
        refine ⟨⟨?_, ?_, trivial⟩, trivial⟩
        · subst hA
          simp only [Ar.real, h2, h2', rem_nat] at h
          have hl : (hs k (r ^^^ c)).toNat % 2 ≠ 1 := by
            have := of_decide_eq_false h
            exact fun e => this (by exact_mod_cast e)
          simp only [Ar.real, NV.val, zo, zt, h2, h2', quo32, half_div]
          rw [hx', hstep]
          have hb : (hs k (r ^^^ c)).getLsbD 0 = false := by rw [low_bit] at hl; simpa using hl
          unfold half
          rw [hb]
          simp
        · subst hA; simp only [Ar.real, NV.val, zo, zt]
          rfl
      · exact ⟨hlt, hx'⟩
      · show 8 - (k + 1) < 8 - k
        omega
    · cbv
      clear hR
      have hge : k = 8 := by subst hA; simp only [Ar.real] at h; simp at h; omega
      refine Fin.le hA 0 [] (.int .u32 oi) [] 0 rfl rfl rfl ?_ ?_ (by rw [← hK]; exact ⟨rfl, rfl, rfl⟩)
      · cbv
        rw [h2, hge, ho]; rfl
      · trivial
theorem refmore_fn {P : Program} {G : Gl} (hP : P = Tryz.prog) {gi : Nat → Int} {si ri : Int} {n : Nat} {s : BitVec 32} {g : Nat → BitVec 32} (hg : ∀ i, gi i = ((g i).toNat : Int)) (hs : si = (s.toNat : Int)) (hr : ri = ((CrcLaw.more g s n).toNat : Int)) (hn : n ≤ 9223372036854775807) :
    FnTr P G 92 [.int .u32 si, .ro 1 (.s n) (fun e => [.int .u8 (gi e.val)])] [] 0 (Gives (.int .u32 ri) [] 0) := by
  have hall : (4294967295 : Int) = ((4294967295#32).toNat : Int) := by decide
  have hT : T.Ok P := hP ▸ T_ok
  refine FnTr.intro (fn := Tryz.f92) (c := bodyOf Tryz.f92) (by rw [hP]; rfl) rfl rfl hT ?_
  generalize hA : Ar.real = A
  generalize hK : Gives _ _ _ = K
  cbv
  refine LS.le2 hT hA 0 (fun (k : Nat) (r : Int) => [(6, .int .i64 (k : Int)), (5, .int .u32 r)]) (fun _ _ => []) (fun k r => k ≤ n ∧ r = ((raw g (~~~ s) k).toNat : Int)) (fun k _ => n - k) 0 (A.w .xor .u32 si 4294967295) [] rfl rfl ?_ ?_ ?_
  · cbv
    refine ⟨⟨fun e _ => ⟨rfl, trivial⟩, rfl, trivial⟩, trivial⟩
  · subst hA
    refine ⟨Nat.zero_le _, ?_⟩
    simp only [Ar.real]
    rw [hs, hall, xor32, BitVec.xor_comm, ← CrcLaw.not_eq_xor]; rfl
  · intro R hR k r ha
    cbv
    obtain ⟨h1, h2⟩ := ha
    obtain ⟨r', hr'⟩ : ∃ r' : Int, r' = ((raw g (~~~ s) (k + 1)).toNat : Int) := ⟨_, rfl⟩
    refine ⟨fun h => ?_, fun h => ?_⟩
    · have hlt : k < n := by subst hA; simp only [Ar.real] at h; simpa using h
      cbv
      refine ⟨?_, CS.le hA (refstep_fn hP h2 (hg k) hr') [] rfl rfl rfl ?_ ?_ ?_⟩
      · subst hA; simp only [Ar.real, NV.val, zo, zt]
        exact ⟨by omega, hlt⟩
      · (try cbv) <;> (repeat' (first | exact trivial | exact rfl | apply And.intro | exact fun _ => rfl | (intro _ hle; first | refine chunk_le hA rfl hle rfl ?_ | refine cat_le hA ?_ | refine upd_le hA ?_ | (try cbv))))
        · subst hA; simp only [Ar.real, NV.val, zo, zt]
      · trivial
      · cbv
        refine ⟨?_, hR _ _ _ ⟨k + 1, r', 0, [], rfl, rfl, ?_, ?_, ?_⟩⟩ <;> clear hR
        · subst hA; simp only [Ar.real, NV.val, zo, zt]
          constructor <;> simp [IntKind.min, IntKind.max, IntKind.bits, IntKind.signed] <;> omega
        · (try cbv) <;> (repeat' (first | exact trivial | exact rfl | apply And.intro | exact fun _ => rfl | (intro _ hle; first | refine chunk_le hA rfl hle rfl ?_ | refine cat_le hA ?_ | refine upd_le hA ?_ | (try cbv))))
          · subst hA; simp only [Ar.real, NV.val, zo, zt]
            rfl
        · exact ⟨hlt, hr'⟩
        · show n - (k + 1) < n - k
          omega
    · have hge : k = n := by subst hA; simp only [Ar.real] at h; simp at h; omega
      cbv
      clear hR
      refine Fin.le hA 0 [] (.int .u32 ri) [] 0 rfl rfl rfl ?_ ?_ (by rw [← hK]; exact ⟨rfl, rfl, rfl⟩)
      · cbv
        subst hA; simp only [Ar.real, NV.val, zo, zt, h2, hge, hall, xor32]
        rw [hr, BitVec.xor_comm, ← CrcLaw.not_eq_xor]; rfl
      · trivial
theorem sum_fn {P : Program} (hP : P = Tryz.prog) {fr gi : Nat → Int} {ri : Int} {n : Nat} {g : Nat → BitVec 32} (hfr : ∀ i, fr i = ((four i).toNat : Int)) (hg : ∀ i, gi i = ((g i).toNat : Int)) (hr : ri = ((CrcLaw.more g 0#32 n).toNat : Int)) (hn : n ≤ 9223372036854775807) :
    FnTr P (Gf fr) 82 [.ro 1 (.s n) (fun e => [.int .u8 (gi e.val)])] [] 0 (Gives (.int .u32 ri) [] 0) := by
  have hT : T.Ok P := hP ▸ T_ok
  refine FnTr.intro (fn := Tryz.f82) (c := bodyOf Tryz.f82) (by rw [hP]; rfl) rfl rfl hT ?_
  generalize hA : Ar.real = A
  generalize hK : Gives _ _ _ = K
  cbv
  refine CS.le hA (more_fn hP hfr hg (si := 0) rfl hr hn) [] rfl rfl rfl ?_ ?_ ?_
  · (try cbv) <;> (repeat' (first | exact trivial | exact rfl | apply And.intro | exact fun _ => rfl | (intro _ hle; first | refine chunk_le hA rfl hle rfl ?_ | refine cat_le hA ?_ | refine upd_le hA ?_ | (try cbv))))
  · trivial
  · cbv
    refine Fin.le hA 0 [] (.int .u32 ri) [] 0 rfl rfl rfl ?_ ?_ (by rw [← hK]; exact ⟨rfl, rfl, rfl⟩)
    · cbv
    · trivial
theorem refsum_fn {P : Program} {G : Gl} (hP : P = Tryz.prog) {gi : Nat → Int} {ri : Int} {n : Nat} {g : Nat → BitVec 32} (hg : ∀ i, gi i = ((g i).toNat : Int)) (hr : ri = ((CrcLaw.more g 0#32 n).toNat : Int)) (hn : n ≤ 9223372036854775807) :
    FnTr P G 86 [.ro 1 (.s n) (fun e => [.int .u8 (gi e.val)])] [] 0 (Gives (.int .u32 ri) [] 0) := by
  have hT : T.Ok P := hP ▸ T_ok
  refine FnTr.intro (fn := Tryz.f86) (c := bodyOf Tryz.f86) (by rw [hP]; rfl) rfl rfl hT ?_
  generalize hA : Ar.real = A
  generalize hK : Gives _ _ _ = K
  cbv
  refine CS.le hA (refmore_fn hP hg (si := 0) rfl hr hn) [] rfl rfl rfl ?_ ?_ ?_
  · (try cbv) <;> (repeat' (first | exact trivial | exact rfl | apply And.intro | exact fun _ => rfl | (intro _ hle; first | refine chunk_le hA rfl hle rfl ?_ | refine cat_le hA ?_ | refine upd_le hA ?_ | (try cbv))))
  · trivial
  · cbv
    refine Fin.le hA 0 [] (.int .u32 ri) [] 0 rfl rfl rfl ?_ ?_ (by rw [← hK]; exact ⟨rfl, rfl, rfl⟩)
    · cbv
    · trivial
end Go.Proofs.YtnjjgipblimbfaaGreatDoor
namespace Go.Proofs.YtnjjgipblimbfaaGreatDoor
open Go.Eng
open Go.CrcLaw (half mulGo times)
set_option maxRecDepth 100000
end Go.Proofs.YtnjjgipblimbfaaGreatDoor
namespace Go.Proofs.YtnjjgipblimbfaaGreatDoor
open Go.Eng
open Go.CrcLaw (four)
set_option maxRecDepth 100000
theorem clone_own {P : Program} {G : Gl} (hP : P = Tryz.prog) {n : Nat} {f : Nat → Int} (hn : n ≤ 140737488355328) :
    FnTr P G 50 [.ro 1 (.s n) (fun e => [.int .u8 (f e.val)])] [] 0 (Gives (.sl 0 1 (.l 0) (.s n)) [(0, .row 5 1 (.s n) (fun e => [.int .u8 (f e.val)]))] 1) := by
  have hT : T.Ok P := hP ▸ T_ok
  refine FnTr.intro (fn := Tryz.f50) (c := bodyOf Tryz.f50) (by rw [hP]; rfl) rfl rfl hT ?_
  generalize hA : Ar.real = A
  generalize hK : Gives _ _ _ = K
  cbv
  refine ⟨fun h0 => ?_, ?_⟩
  · cbv
    refine Fin.leG hA 0 [] [(0, .row 5 1 (.s n) (fun e => [.int .u8 (f e.val)]))] (.sl 0 1 (.l 0) (.s n)) _ 1 rfl rfl rfl ?_ ?_ ?_ (by rw [← hK]; exact ⟨rfl, rfl, rfl⟩)
    · (try cbv) <;> (repeat' (first | exact trivial | exact rfl | apply And.intro | exact fun _ => rfl | (intro _ hle; first | refine chunk_le hA rfl hle rfl ?_ | refine cat_le hA ?_ | refine upd_le hA ?_ | (try cbv))))
      exact h0
    · (try cbv) <;> (repeat' (first | exact trivial | exact rfl | apply And.intro | exact fun _ => rfl | (intro _ hle; first | refine chunk_le hA rfl hle rfl ?_ | refine cat_le hA ?_ | refine upd_le hA ?_ | (try cbv))))
      exact h0
    · (try cbv) <;> (repeat' (first | exact trivial | exact rfl | apply And.intro | exact fun _ => rfl | (intro _ hle; first | refine chunk_le hA rfl hle rfl ?_ | refine cat_le hA ?_ | refine upd_le hA ?_ | (try cbv))))
  · refine ⟨?_, Fin.le hA 0 [(4, 0)] (.sl 0 1 (.l 0) (.s n)) _ 1 rfl rfl rfl ?_ ?_ (by rw [← hK]; exact ⟨rfl, rfl, rfl⟩)⟩
    · subst hA; simp only [Ar.real, NV.val, zo, zt]
      omega
    iterate 2 ((try cbv) <;> (repeat' (first | exact trivial | exact rfl | apply And.intro | exact fun _ => rfl | (intro _ hle; first | refine chunk_le hA rfl hle rfl ?_ | refine cat_le hA ?_ | refine upd_le hA ?_ | (try cbv)))))
theorem clone_fn {P : Program} {G : Gl} (hP : P = Tryz.prog) {n : Nat} {f : Nat → Int} (hn : n ≤ 140737488355328) :
    FnTr P G 50 [.ro 1 (.s n) (fun e => [.int .u8 (f e.val)])] [] 0 (Gives (.ro 1 (.s n) (fun e => [.int .u8 (f e.val)])) [] 1) := by
  generalize hA : Ar.real = A
  refine FnTr.dat hA (clone_own hP hn) _ _ ?_
  cbv
  refine ⟨⟨?_, trivial⟩, fun e _ => ⟨rfl, trivial⟩, trivial⟩
  subst hA; simp only [Ar.real, NV.val, zo, zt]
  omega
theorem byte_sh (s : BitVec 32) (k : Nat) : IntKind.u8.wrap (Int.fdiv (s.toNat : Int) (2 ^ (Nat.min ((8 * k : Nat) : Int).toNat IntKind.u32.bits))) = ((s.toNat / 256 ^ k % 256 : Nat) : Int) := by
  rw [shr32, wrap_u8, BitVec.toNat_ushiftRight, Nat.shiftRight_eq_div_pow]
  rw [show ((8 * k : Nat) : Int).toNat = 8 * k from zt _, Nat.pow_mul]
theorem byte_md (s : BitVec 32) (k : Nat) : IntKind.u8.wrap (Int.tmod (s.toNat : Int) 256) = ((s.toNat / 256 ^ 0 % 256 : Nat) : Int) := by
  have := rem_nat s.toNat 256
  rw [show ((256 : Nat) : Int) = 256 from rfl] at this
  rw [this, wrap_u8]; simp
theorem byte_qr (s : BitVec 32) (k : Nat) : IntKind.u8.wrap (Int.tmod (wOp .quo .u32 (s.toNat : Int) ((256 ^ k : Nat) : Int)) 256) = ((s.toNat / 256 ^ k % 256 : Nat) : Int) := by
  rw [quo32]
  have := rem_nat (s.toNat / 256 ^ k) 256
  rw [show ((256 : Nat) : Int) = 256 from rfl] at this
  rw [this, wrap_u8]; simp
theorem byte_q (s : BitVec 32) (k : Nat) : IntKind.u8.wrap (wOp .quo .u32 (s.toNat : Int) ((256 ^ k : Nat) : Int)) = ((s.toNat / 256 ^ k % 256 : Nat) : Int) := by
  rw [quo32, wrap_u8]
theorem seal_pick (gi : Nat → Int) (s : BitVec 32) (n k : Nat) (hk : k < n + 4) :
    Ar.real.iteI (Ar.real.ltN k n) (gi k) (Ar.real.sel (Ar.real.subN k n) [((s.toNat / 256 ^ 0 % 256 : Nat) : Int), ((s.toNat / 256 ^ 1 % 256 : Nat) : Int), ((s.toNat / 256 ^ 2 % 256 : Nat) : Int), ((s.toNat / 256 ^ 3 % 256 : Nat) : Int)]) = CrcLaw.sealB gi s n k := by
  unfold CrcLaw.sealB
  simp only [Ar.real]
  by_cases h : k < n
  · simp [h]
  · simp only [h, decide_false, Bool.false_eq_true, if_false]
    obtain ⟨j, rfl⟩ : ∃ j, k = n + j := ⟨k - n, by omega⟩
    rw [show n + j - n = j by omega]
    have : j = 0 ∨ j = 1 ∨ j = 2 ∨ j = 3 := by omega
    rcases this with rfl | rfl | rfl | rfl <;> rfl
theorem seal_own {P : Program} (hP : P = Tryz.prog) {n : Nat} {fr gi hi : Nat → Int} {g : Nat → BitVec 32} (hfr : ∀ i, fr i = ((four i).toNat : Int)) (hg : ∀ i, gi i = ((g i).toNat : Int)) (hn : n ≤ 1000000000) {m : Nat} (hm : m = n + 4) (hh : ∀ i, i < m → hi i = CrcLaw.sealB gi (CrcLaw.more g 0#32 n) n i) :
    FnTr P (Gf fr) 53 [.ro 1 (.s n) (fun e => [.int .u8 (gi e.val)])] [] 0 (Gives (.sl 0 1 (.l 0) (.s m)) [(0, .row 5 1 (.s m) (fun e => [.int .u8 (hi e.val)]))] 1) := by
  obtain ⟨s, hs⟩ : ∃ s, s = CrcLaw.more g 0#32 n := ⟨_, rfl⟩
  obtain ⟨si, hsi⟩ : ∃ si : Int, si = (s.toNat : Int) := ⟨_, rfl⟩
  have hT : T.Ok P := hP ▸ T_ok
  refine FnTr.intro (fn := Tryz.f53) (c := bodyOf Tryz.f53) (by rw [hP]; rfl) rfl rfl hT ?_
  generalize hA : Ar.real = A
  generalize hK : Gives _ _ _ = K
  cbv
  refine CS.le hA (sum_fn (n := n) hP hfr hg (hsi.trans (by rw [hs])) (by omega)) [] rfl rfl rfl ?_ ?_ ?_
  iterate 2 ((try cbv) <;> (repeat' (first | exact trivial | exact rfl | apply And.intro | exact fun _ => rfl | (intro _ hle; first | refine chunk_le hA rfl hle rfl ?_ | refine cat_le hA ?_ | refine upd_le hA ?_ | (try cbv)))) <;> (try (subst hA; (try simp only [zn] at *); (try (simp only [Ar.real, NV.val, zo, zt])); first | done | omega | decide | exact zi | (refine ⟨?_, ?_⟩ <;> first | omega | decide | exact zi))))
  cbv
  refine CS.le hA (clone_own (n := n) (f := gi) hP (by omega)) [] rfl rfl rfl ?_ ?_ ?_
  iterate 2 ((try cbv) <;> (repeat' (first | exact trivial | exact rfl | apply And.intro | exact fun _ => rfl | (intro _ hle; first | refine chunk_le hA rfl hle rfl ?_ | refine cat_le hA ?_ | refine upd_le hA ?_ | (try cbv)))) <;> (try (subst hA; (try simp only [zn] at *); (try (simp only [Ar.real, NV.val, zo, zt])); first | done | omega | decide | exact zi | (refine ⟨?_, ?_⟩ <;> first | omega | decide | exact zi))))
  cbv
  have hb0 : A.conv .u8 si = ((s.toNat / 256 ^ 0 % 256 : Nat) : Int) := by subst hA; rw [hsi]; exact (wrap_u8 s.toNat).trans (by simp)
  have hb1 : A.conv .u8 (A.shr .u32 si 8) = ((s.toNat / 256 ^ 1 % 256 : Nat) : Int) := by subst hA; rw [hsi]; exact byte_sh s 1
  have hb2 : A.conv .u8 (A.shr .u32 si 16) = ((s.toNat / 256 ^ 2 % 256 : Nat) : Int) := by subst hA; rw [hsi]; exact byte_sh s 2
  have hb3 : A.conv .u8 (A.shr .u32 si 24) = ((s.toNat / 256 ^ 3 % 256 : Nat) : Int) := by subst hA; rw [hsi]; exact byte_sh s 3
  have hall : ∀ k, k < n + 4 → A.iteI (A.ltN k n) (gi k) (A.sel (A.subN k n) [A.conv .u8 si, A.conv .u8 (A.shr .u32 si 8), A.conv .u8 (A.shr .u32 si 16), A.conv .u8 (A.shr .u32 si 24)]) = hi k := by
    intro k hk
    rw [hb0, hb1, hb2, hb3, hh k (by omega), ← hs]
    subst hA
    exact seal_pick gi s n k hk
  have hlt : A.addN n 4 = m := by subst hA; exact hm.symm
  refine ⟨?_, ?_, ?_, ?_, Fin.le hA 0 [(17, 0)] (.sl 0 1 (.l 0) (.s m)) [(0, .row 5 1 (.s m) (fun e => [.int .u8 (hi e.val)]))] 1 rfl rfl rfl ?_ ?_ (by rw [← hK]; exact ⟨rfl, rfl, rfl⟩)⟩
  · subst hA; simp only [Ar.real, NV.val, zo, zt]
    decide
  · subst hA; simp only [Ar.real, NV.val, zo, zt]
    decide
  · subst hA; simp only [Ar.real, NV.val, zo, zt]
    decide
  · subst hA; simp only [Ar.real, NV.val, zo, zt]
    omega
  · (try cbv) <;> (repeat' (first | exact trivial | exact rfl | apply And.intro | exact fun _ => rfl | (intro _ hle; first | refine chunk_le hA rfl hle rfl ?_ | refine cat_le hA ?_ | refine upd_le hA ?_ | (try cbv))))
    exact hlt
  · (try cbv) <;> (repeat' (first | exact trivial | exact rfl | apply And.intro | exact fun _ => rfl | (intro _ hle; first | refine chunk_le hA rfl hle rfl ?_ | refine cat_le hA ?_ | refine upd_le hA ?_ | (try cbv))))
    · exact hlt
    · rename_i e
      have hlt' : e.val < n + 4 := by subst hA; rw [ltNV_real] at hle; exact hle
      cases e with
      | l k => cbv; exact ⟨hall k hlt', trivial⟩
      | s k => cbv; exact ⟨hall k hlt', trivial⟩
theorem seal_fn {P : Program} (hP : P = Tryz.prog) {n : Nat} {fr gi hi : Nat → Int} {g : Nat → BitVec 32} (hfr : ∀ i, fr i = ((four i).toNat : Int)) (hg : ∀ i, gi i = ((g i).toNat : Int)) (hn : n ≤ 1000000000) {m : Nat} (hm : m = n + 4) (hh : ∀ i, i < m → hi i = CrcLaw.sealB gi (CrcLaw.more g 0#32 n) n i) :
    FnTr P (Gf fr) 53 [.ro 1 (.s n) (fun e => [.int .u8 (gi e.val)])] [] 0 (Gives (.ro 1 (.s m) (fun e => [.int .u8 (hi e.val)])) [] 1) := by
  have h := seal_own (n := n) hP hfr hg hn hm hh
  generalize hA : Ar.real = A
  refine FnTr.dat hA h _ _ ?_
  cbv
  refine ⟨⟨?_, trivial⟩, fun e _ => ⟨rfl, trivial⟩, trivial⟩
  (subst hA; (try simp only [zn] at *); (try (simp only [Ar.real, NV.val, zo, zt])); first | done | omega | decide | exact zi | (refine ⟨?_, ?_⟩ <;> first | omega | decide | exact zi))
theorem refseal_own {P : Program} {G : Gl} (hP : P = Tryz.prog) {n : Nat} {gi hi : Nat → Int} {g : Nat → BitVec 32} (hg : ∀ i, gi i = ((g i).toNat : Int)) (hn : n ≤ 1000000000) {m : Nat} (hm : m = n + 4) (hh : ∀ i, i < m → hi i = CrcLaw.sealB gi (CrcLaw.more g 0#32 n) n i) :
    FnTr P G 73 [.ro 1 (.s n) (fun e => [.int .u8 (gi e.val)])] [] 0 (Gives (.sl 0 1 (.l 0) (.s m)) [(0, .row 5 1 (.s m) (fun e => [.int .u8 (hi e.val)]))] 1) := by
  obtain ⟨s, hs⟩ : ∃ s, s = CrcLaw.more g 0#32 n := ⟨_, rfl⟩
  obtain ⟨si, hsi⟩ : ∃ si : Int, si = (s.toNat : Int) := ⟨_, rfl⟩
  have hT : T.Ok P := hP ▸ T_ok
  refine FnTr.intro (fn := Tryz.f73) (c := bodyOf Tryz.f73) (by rw [hP]; rfl) rfl rfl hT ?_
  generalize hA : Ar.real = A
  generalize hK : Gives _ _ _ = K
  cbv
  refine CS.le hA (refsum_fn (n := n) hP hg (hsi.trans (by rw [hs])) (by omega)) [] rfl rfl rfl ?_ ?_ ?_
  iterate 2 ((try cbv) <;> (repeat' (first | exact trivial | exact rfl | apply And.intro | exact fun _ => rfl | (intro _ hle; first | refine chunk_le hA rfl hle rfl ?_ | refine cat_le hA ?_ | refine upd_le hA ?_ | (try cbv)))) <;> (try (subst hA; (try simp only [zn] at *); (try (simp only [Ar.real, NV.val, zo, zt])); first | done | omega | decide | exact zi | (refine ⟨?_, ?_⟩ <;> first | omega | decide | exact zi))))
  cbv
  refine ⟨?_, ?_, ?_, ?_, ?_, ?_, ?_, ?_, ?_⟩
  iterate 8 (subst hA; (try simp only [zn] at *); (try (simp only [Ar.real, NV.val, zo, zt])); first | done | omega | decide | exact zi | (refine ⟨?_, ?_⟩ <;> first | omega | decide | exact zi))
  have hb0 : A.conv .u8 (A.rem si 256) = ((s.toNat / 256 ^ 0 % 256 : Nat) : Int) := by subst hA; rw [hsi]; exact byte_md s 0
  have hb1 : A.conv .u8 (A.rem (A.w .quo .u32 si 256) 256) = ((s.toNat / 256 ^ 1 % 256 : Nat) : Int) := by subst hA; rw [hsi]; exact byte_qr s 1
  have hb2 : A.conv .u8 (A.rem (A.w .quo .u32 si 65536) 256) = ((s.toNat / 256 ^ 2 % 256 : Nat) : Int) := by subst hA; rw [hsi]; exact byte_qr s 2
  have hb3 : A.conv .u8 (A.w .quo .u32 si 16777216) = ((s.toNat / 256 ^ 3 % 256 : Nat) : Int) := by subst hA; rw [hsi]; exact byte_q s 3
  have hall : ∀ k, k < n + 4 → A.iteI (A.ltN k n) (gi k) (A.sel (A.subN k n) [A.conv .u8 (A.rem si 256), A.conv .u8 (A.rem (A.w .quo .u32 si 256) 256), A.conv .u8 (A.rem (A.w .quo .u32 si 65536) 256), A.conv .u8 (A.w .quo .u32 si 16777216)]) = hi k := by
    intro k hk
    rw [hb0, hb1, hb2, hb3, hh k (by omega), ← hs]
    subst hA
    exact seal_pick gi s n k hk
  have hlt : A.addN n 4 = m := by subst hA; exact hm.symm
  refine Fin.le hA 0 [(23, 0)] (.sl 0 1 (.l 0) (.s m)) ([(0, .row 5 1 (.s m) (fun e => [.int .u8 (hi e.val)]))]) 1 rfl rfl rfl ?_ ?_ (by rw [← hK]; exact ⟨rfl, rfl, rfl⟩)
  · (try cbv) <;> (repeat' (first | exact trivial | exact rfl | apply And.intro | exact fun _ => rfl | (intro _ hle; first | refine chunk_le hA rfl hle rfl ?_ | refine cat_le hA ?_ | refine upd_le hA ?_ | (try cbv))))
    exact hlt
  · (try cbv) <;> (repeat' (first | exact trivial | exact rfl | apply And.intro | exact fun _ => rfl | (intro _ hle; first | refine chunk_le hA rfl hle rfl ?_ | refine cat_le hA ?_ | refine upd_le hA ?_ | (try cbv))))
    · exact hlt
    · rename_i e
      have hlt' : e.val < n + 4 := by subst hA; rw [ltNV_real] at hle; exact hle
      cases e with
      | l k => cbv; exact ⟨hall k hlt', trivial⟩
      | s k => cbv; exact ⟨hall k hlt', trivial⟩
theorem refseal_fn {P : Program} {G : Gl} (hP : P = Tryz.prog) {n : Nat} {gi hi : Nat → Int} {g : Nat → BitVec 32} (hg : ∀ i, gi i = ((g i).toNat : Int)) (hn : n ≤ 1000000000) {m : Nat} (hm : m = n + 4) (hh : ∀ i, i < m → hi i = CrcLaw.sealB gi (CrcLaw.more g 0#32 n) n i) :
    FnTr P G 73 [.ro 1 (.s n) (fun e => [.int .u8 (gi e.val)])] [] 0 (Gives (.ro 1 (.s m) (fun e => [.int .u8 (hi e.val)])) [] 1) := by
  have h := refseal_own (n := n) (G := G) hP hg hn hm hh
  generalize hA : Ar.real = A
  refine FnTr.dat hA h _ _ ?_
  cbv
  refine ⟨⟨?_, trivial⟩, fun e _ => ⟨rfl, trivial⟩, trivial⟩
  (subst hA; (try simp only [zn] at *); (try (simp only [Ar.real, NV.val, zo, zt])); first | done | omega | decide | exact zi | (refine ⟨?_, ?_⟩ <;> first | omega | decide | exact zi))
end Go.Proofs.YtnjjgipblimbfaaGreatDoor
namespace Go.Proofs.YtnjjgipblimbfaaGreatDoor
open Go.Eng
open Go.CrcLaw (four)
set_option maxRecDepth 100000
def OpenIs (gi : Nat → Int) (g : Nat → BitVec 32) (n m : Nat) (er : Int) : Prop :=
  (n < 4 ∧ m = 0 ∧ er = 210) ∨ (4 ≤ n ∧ (∀ i, i < n → CrcLaw.sealB gi (CrcLaw.more g 0#32 (n - 4)) (n - 4) i = gi i) ∧ m = n - 4 ∧ er = 0) ∨
    (4 ≤ n ∧ ¬ (∀ i, i < n → CrcLaw.sealB gi (CrcLaw.more g 0#32 (n - 4)) (n - 4) i = gi i) ∧ m = 0 ∧ er = 240)
theorem refopen_fn {P : Program} {G : Gl} (hP : P = Tryz.prog) {n m : Nat} {gi : Nat → Int} {er : Int} {g : Nat → BitVec 32} (hg : ∀ i, gi i = ((g i).toNat : Int)) (hg8 : ∀ i, i < n → (g i).toNat < 256) (hn : n ≤ 1000000000) (ho : OpenIs gi g n m er) :
    FnTr P G 39 [.ro 1 (.s n) (fun e => [.int .u8 (gi e.val)])] [] 0 (Gives (.tup [.ro 1 (.s m) (fun e => [.int .u8 (gi e.val)]), .int .i64 er]) [] 0) := by
  obtain ⟨q, hq⟩ : ∃ q, q = n - 4 := ⟨_, rfl⟩
  obtain ⟨hi, hh⟩ : ∃ hi : Nat → Int, ∀ i, hi i = CrcLaw.sealB gi (CrcLaw.more g 0#32 q) q i := ⟨_, fun _ => rfl⟩
  have hT : T.Ok P := hP ▸ T_ok
  refine FnTr.intro (fn := Tryz.f39) (c := bodyOf Tryz.f39) (by rw [hP]; rfl) rfl rfl hT ?_
  generalize hA : Ar.real = A
  generalize hK : Gives _ _ _ = K
  cbv
  refine ⟨fun h => ?_, fun h => ?_⟩
  · cbv
    have hlt : n < 4 := by subst hA; simp only [Ar.real] at h; simp at h; omega
    obtain ⟨rfl, rfl⟩ : m = 0 ∧ er = 210 := by rcases ho with ⟨_, h1, h2⟩ | ⟨h0, _⟩ | ⟨h0, _⟩ <;> first | exact ⟨h1, h2⟩ | omega
    refine Fin.le hA 0 [] (.tup [.ro 1 (.s 0) (fun e => [.int .u8 (gi e.val)]), .int .i64 210]) ([]) 0 rfl rfl rfl ?_ ?_ (by rw [← hK]; exact ⟨rfl, rfl, rfl⟩)
    iterate 2 ((try cbv) <;> (repeat' (first | exact trivial | exact rfl | apply And.intro | exact fun _ => rfl | (intro _ hle; first | refine chunk_le hA rfl hle rfl ?_ | refine cat_le hA ?_ | refine upd_le hA ?_ | (try cbv)))))
  · cbv
    have hge : 4 ≤ n := by subst hA; simp only [Ar.real] at h; simp at h; omega
    have hq0 : A.subN (A.nat (A.sub (A.i2 n) 4)) 0 = q := by subst hA; simp only [Ar.real]; omega
    have hq1 : A.nat (A.sub (A.i2 n) 4) = q := by subst hA; simp only [Ar.real]; omega
    have hbe : ∀ c, A.not (A.eqL (A.bytes n (byteAt fun e => [.int .u8 (hi e.val)])) (A.bytes n (byteAt fun e => [.int .u8 (gi e.val)]))) = c → (c = false ↔ ∀ i, i < n → hi i = gi i) := by
      intro c hc
      subst hA
      have := bytes_eq (n := n) (m := n) (f := hi) (g := gi) (fun i hi' => by rw [hh]; exact CrcLaw.sealB_rng (fun j hj => by rw [hg]; exact ⟨Int.natCast_nonneg _, by exact_mod_cast hg8 j (by omega)⟩) i) (fun i hi' => by rw [hg]; exact ⟨Int.natCast_nonneg _, by exact_mod_cast hg8 i hi'⟩)
      simp only [true_and] at this
      rw [← this, ← hc]
      simp only [Ar.real, Bool.not_eq_eq_eq_not, Bool.not_false]
      exact Iff.rfl
    refine DS.run hA hT (by rw [hP]; exact P_mixed) 1 rfl ?_
    cbv
    refine ⟨?_, ?_, ?_⟩
    iterate 2 (subst hA; (try simp only [zn] at *); (try (simp only [Ar.real, NV.val, zo, zt])); first | done | omega | decide | exact zi | (refine ⟨?_, ?_⟩ <;> first | omega | decide | exact zi))
    refine CD.pass hA (refseal_fn (n := q) (m := n) (hi := hi) hP hg (by omega) (by omega) (fun i _ => hh i)) [] [] rfl ⟨rfl, rfl, rfl, rfl, ?_, ?_⟩ rfl (.inl rfl) ?_
    · (try cbv) <;> (repeat' (first | exact trivial | exact rfl | apply And.intro | exact fun _ => rfl | (intro _ hle; first | refine chunk_le hA rfl hle rfl ?_ | refine cat_le hA ?_ | refine upd_le hA ?_ | (try cbv))))
      exact hq0
    · (try cbv) <;> (repeat' (first | exact trivial | exact rfl | apply And.intro | exact fun _ => rfl | (intro _ hle; first | refine chunk_le hA rfl hle rfl ?_ | refine cat_le hA ?_ | refine upd_le hA ?_ | (try cbv))))
    cbv
    refine ⟨fun _ _ => rfl, fun _ _ => rfl, fun h2 => ?_, fun h2 => ?_⟩
    · have hne := hbe _ h2
      cbv
      obtain ⟨rfl, rfl⟩ : m = 0 ∧ er = 240 := by
        rcases ho with ⟨h0, _⟩ | ⟨_, h0, _⟩ | ⟨_, _, h1⟩
        · omega
        · rw [← hq] at h0
          exact absurd (hne.2 fun i hi' => by rw [hh]; exact h0 i hi') (by decide)
        · exact h1
      refine Fin.le hA 0 [] (.tup [.ro 1 (.s 0) (fun e => [.int .u8 (gi e.val)]), .int .i64 240]) ([]) 0 rfl rfl rfl ?_ ?_ (by rw [← hK]; exact ⟨rfl, rfl, rfl⟩)
      iterate 2 ((try cbv) <;> (repeat' (first | exact trivial | exact rfl | apply And.intro | exact fun _ => rfl | (intro _ hle; first | refine chunk_le hA rfl hle rfl ?_ | refine cat_le hA ?_ | refine upd_le hA ?_ | (try cbv)))))
    · have hne := hbe _ h2
      cbv
      obtain ⟨rfl, rfl⟩ : m = q ∧ er = 0 := by
        rcases ho with ⟨h0, _⟩ | ⟨_, h0, h1⟩ | ⟨_, h0, _⟩
        · omega
        · rw [← hq] at h1; exact h1
        · rw [← hq] at h0
          exact absurd (fun i hi' => by rw [← hh]; exact hne.1 rfl i hi') h0
      refine ⟨?_, ?_, ?_⟩
      iterate 2 (subst hA; (try simp only [zn] at *); (try (simp only [Ar.real, NV.val, zo, zt])); first | done | omega | decide | exact zi | (refine ⟨?_, ?_⟩ <;> first | omega | decide | exact zi))
      refine Fin.le hA 0 [] (.tup [.ro 1 (.s m) (fun e => [.int .u8 (gi e.val)]), .int .i64 0]) ([]) 0 rfl rfl rfl ?_ ?_ (by rw [← hK]; exact ⟨rfl, rfl, rfl⟩)
      · (try cbv) <;> (repeat' (first | exact trivial | exact rfl | apply And.intro | exact fun _ => rfl | (intro _ hle; first | refine chunk_le hA rfl hle rfl ?_ | refine cat_le hA ?_ | refine upd_le hA ?_ | (try cbv))))
        exact hq0
      · (try cbv) <;> (repeat' (first | exact trivial | exact rfl | apply And.intro | exact fun _ => rfl | (intro _ hle; first | refine chunk_le hA rfl hle rfl ?_ | refine cat_le hA ?_ | refine upd_le hA ?_ | (try cbv))))
theorem shl_or (x y : BitVec 32) (hx : x.toNat < 16777216) (hy : y.toNat < 256) : wOp .or .u32 (IntKind.u32.wrap ((x.toNat : Int) * 2 ^ (Nat.min (8 : Int).toNat IntKind.u32.bits))) (y.toNat : Int) = ((x.toNat * 256 + y.toNat : Nat) : Int) := by
  have e : IntKind.u32.wrap ((x.toNat : Int) * 2 ^ (Nat.min (8 : Int).toNat IntKind.u32.bits)) = ((x <<< 8).toNat : Int) := by
    have e1 : ((x.toNat : Int) * 2 ^ (Nat.min (8 : Int).toNat IntKind.u32.bits)) = ((x.toNat * 256 : Nat) : Int) := by
      rw [Int.natCast_mul]; rfl
    rw [e1, wrap_u32, BitVec.toNat_shiftLeft, Nat.shiftLeft_eq]
  rw [e, or32]
  have e2 : (x <<< 8 ||| y).toNat = x.toNat * 256 + y.toNat := by
    rw [BitVec.toNat_or, BitVec.toNat_shiftLeft]
    have e3 : x.toNat <<< 8 % 2 ^ 32 = x.toNat <<< 8 := by rw [Nat.shiftLeft_eq]; exact Nat.mod_eq_of_lt (by omega)
    rw [e3, ← Nat.shiftLeft_add_eq_or_of_lt (by omega), Nat.shiftLeft_eq]
  rw [e2]
theorem open_num {g : Nat → BitVec 32} {q : Nat} (h : ∀ j, j < q + 4 → (g j).toNat < 256) :
    wOp .or .u32 (Ar.real.shl .u32 (wOp .or .u32 (Ar.real.shl .u32 (wOp .or .u32 (Ar.real.shl .u32 (wOp .or .u32 0 ((g (q + 3)).toNat : Int)) 8) ((g (q + 2)).toNat : Int)) 8) ((g (q + 1)).toNat : Int)) 8) ((g (q + 0)).toNat : Int) = (((((g (q + 3)).toNat * 256 + (g (q + 2)).toNat) * 256 + (g (q + 1)).toNat) * 256 + (g q).toNat : Nat) : Int) := by
  have b0 := h q (by omega)
  have b1 := h (q + 1) (by omega)
  have b2 := h (q + 2) (by omega)
  have b3 := h (q + 3) (by omega)
  have e0 : wOp .or .u32 0 ((g (q + 3)).toNat : Int) = ((g (q + 3)).toNat : Int) := by
    have := or32 0#32 (g (q + 3))
    rw [BitVec.zero_or] at this
    exact this
  rw [e0]
  have hw : ∀ k : Nat, k < 4294967296 → ∃ x : BitVec 32, x.toNat = k := fun k hk => ⟨BitVec.ofNat 32 k, by simp; omega⟩
  simp only [Nat.add_zero]
  have e1 := shl_or (g (q + 3)) (g (q + 2)) (by omega) b2
  rw [show Ar.real.shl .u32 ((g (q + 3)).toNat : Int) 8 = IntKind.u32.wrap (((g (q + 3)).toNat : Int) * 2 ^ (Nat.min (8 : Int).toNat IntKind.u32.bits)) from rfl, e1]
  obtain ⟨x, hx⟩ := hw ((g (q + 3)).toNat * 256 + (g (q + 2)).toNat) (by omega)
  rw [← hx]
  have e2 := shl_or x (g (q + 1)) (by omega) b1
  rw [show Ar.real.shl .u32 (x.toNat : Int) 8 = IntKind.u32.wrap ((x.toNat : Int) * 2 ^ (Nat.min (8 : Int).toNat IntKind.u32.bits)) from rfl, e2]
  obtain ⟨y, hy⟩ := hw (x.toNat * 256 + (g (q + 1)).toNat) (by omega)
  rw [← hy]
  exact shl_or y (g q) (by omega) b0
theorem digits4 {a b c d s : Nat} (ha : a < 256) (hb : b < 256) (hc : c < 256) (hd : d < 256) (hs : s < 4294967296) : (((d * 256 + c) * 256 + b) * 256 + a = s) ↔ (s / 1 % 256 = a ∧ s / 256 % 256 = b ∧ s / 65536 % 256 = c ∧ s / 16777216 % 256 = d) := by omega
theorem open_test {gi : Nat → Int} {g : Nat → BitVec 32} {n q : Nat} {si : Int} {c : Bool} (hg : ∀ i, gi i = ((g i).toNat : Int)) (h8 : ∀ j, j < q + 4 → (g j).toNat < 256) (hsi : si = ((CrcLaw.more g 0#32 q).toNat : Int)) (hn : n = q + 4)
    (hc : Ar.real.ne (wOp .or .u32 (Ar.real.shl .u32 (wOp .or .u32 (Ar.real.shl .u32 (wOp .or .u32 (Ar.real.shl .u32 (wOp .or .u32 0 ((g (q + 3)).toNat : Int)) 8) ((g (q + 2)).toNat : Int)) 8) ((g (q + 1)).toNat : Int)) 8) ((g (q + 0)).toNat : Int)) si = c) :
    c = false ↔ ∀ i, i < n → CrcLaw.sealB gi (CrcLaw.more g 0#32 q) q i = gi i := by
  rw [open_num h8, hsi] at hc
  generalize CrcLaw.more g 0#32 q = s at *
  have hd := digits4 (h8 q (by omega)) (h8 (q + 1) (by omega)) (h8 (q + 2) (by omega)) (h8 (q + 3) (by omega)) s.isLt
  have e1 : c = false ↔ (((g (q + 3)).toNat * 256 + (g (q + 2)).toNat) * 256 + (g (q + 1)).toNat) * 256 + (g q).toNat = s.toNat := by
    rw [← hc]
    simp only [Ar.real, bne_eq_false_iff_eq]
    omega
  rw [e1, hd]
  unfold CrcLaw.sealB
  constructor
  · rintro ⟨k0, k1, k2, k3⟩ i hi
    by_cases h : i < q
    · rw [if_pos h]
    · rw [if_neg h, hg]
      have : i = q ∨ i = q + 1 ∨ i = q + 2 ∨ i = q + 3 := by omega
      rcases this with rfl | rfl | rfl | rfl
      · rw [Nat.sub_self]; exact congrArg Nat.cast k0
      · rw [show q + 1 - q = 1 by omega]; exact congrArg Nat.cast k1
      · rw [show q + 2 - q = 2 by omega]; exact congrArg Nat.cast k2
      · rw [show q + 3 - q = 3 by omega]; exact congrArg Nat.cast k3
  · intro h
    have k0 := h q (by omega)
    have k1 := h (q + 1) (by omega)
    have k2 := h (q + 2) (by omega)
    have k3 := h (q + 3) (by omega)
    rw [if_neg (by omega), hg] at k0 k1 k2 k3
    rw [Nat.sub_self] at k0
    rw [show q + 1 - q = 1 by omega] at k1
    rw [show q + 2 - q = 2 by omega] at k2
    rw [show q + 3 - q = 3 by omega] at k3
    exact ⟨by exact_mod_cast k0, by exact_mod_cast k1, by exact_mod_cast k2, by exact_mod_cast k3⟩
theorem open_fn {P : Program} (hP : P = Tryz.prog) {n m : Nat} {fr gi : Nat → Int} {er : Int} {g : Nat → BitVec 32} (hfr : ∀ i, fr i = ((four i).toNat : Int)) (hg : ∀ i, gi i = ((g i).toNat : Int)) (hg8 : ∀ i, i < n → (g i).toNat < 256) (hn : n ≤ 1000000000) (ho : OpenIs gi g n m er) :
    FnTr P (Gf fr) 60 [.ro 1 (.s n) (fun e => [.int .u8 (gi e.val)])] [] 0 (Gives (.tup [.ro 1 (.s m) (fun e => [.int .u8 (gi e.val)]), .int .i64 er]) [] 1) := by
  obtain ⟨q, hq⟩ : ∃ q, q = n - 4 := ⟨_, rfl⟩
  obtain ⟨si, hsi⟩ : ∃ si : Int, si = ((CrcLaw.more g 0#32 q).toNat : Int) := ⟨_, rfl⟩
  have hT : T.Ok P := hP ▸ T_ok
  refine FnTr.intro (fn := Tryz.f60) (c := bodyOf Tryz.f60) (by rw [hP]; rfl) rfl rfl hT ?_
  generalize hA : Ar.real = A
  generalize hK : Gives _ _ _ = K
  cbv
  refine ⟨fun h => ?_, fun h => ?_⟩
  · cbv
    have hlt : n < 4 := by subst hA; simp only [Ar.real] at h; simp at h; omega
    obtain ⟨rfl, rfl⟩ : m = 0 ∧ er = 210 := by rcases ho with ⟨_, h1, h2⟩ | ⟨h0, _⟩ | ⟨h0, _⟩ <;> first | exact ⟨h1, h2⟩ | omega
    refine Fin.le hA 0 [] (.tup [.ro 1 (.s 0) (fun e => [.int .u8 (gi e.val)]), .int .i64 210]) ([]) 1 rfl rfl rfl ?_ ?_ (by rw [← hK]; exact ⟨rfl, rfl, rfl⟩)
    iterate 2 ((try cbv) <;> (repeat' (first | exact trivial | exact rfl | apply And.intro | exact fun _ => rfl | (intro _ hle; first | refine chunk_le hA rfl hle rfl ?_ | refine cat_le hA ?_ | refine upd_le hA ?_ | (try cbv)))))
  · have hge : 4 ≤ n := by subst hA; simp only [Ar.real] at h; simp at h; omega
    have hq1 : A.nat (A.sub (A.i2 n) 4) = q := by subst hA; simp only [Ar.real]; omega
    have hq0 : A.subN (A.nat (A.sub (A.i2 n) 4)) 0 = q := by rw [hq1]; subst hA; rfl
    have hr : A.inR .i64 (A.sub (A.i2 n) 4) := by (subst hA; (try simp only [zn] at *); (try (simp only [Ar.real, NV.val, zo, zt])); first | done | omega | decide | exact zi | (refine ⟨?_, ?_⟩ <;> first | omega | decide | exact zi))
    have ha : ∀ j : Nat, j < 4 → A.inR .i64 (A.add (A.sub (A.i2 n) 4) (j : Int)) ∧ A.idx (A.add (A.sub (A.i2 n) 4) (j : Int)) n ∧ A.nat (A.add (A.sub (A.i2 n) 4) (j : Int)) = q + j := by
      intro j hj
      subst hA; simp only [Ar.real]
      exact ⟨inR64 (by omega) (by omega), ⟨by omega, by omega⟩, by omega⟩
    have hix : ∀ j : Nat, j < 4 → A.conv .u32 (gi (A.nat (A.add (A.sub (A.i2 n) 4) (j : Int)))) = ((g (q + j)).toNat : Int) := by
      intro j hj
      rw [(ha j hj).2.2, hg]
      subst hA
      exact wrap_u32_bv _
    have hne : ∀ c, A.ne (A.w .or .u32 (A.shl .u32 (A.w .or .u32 (A.shl .u32 (A.w .or .u32 (A.shl .u32 (A.w .or .u32 0 (A.conv .u32 (gi (A.nat (A.add (A.sub (A.i2 n) 4) 3))))) 8) (A.conv .u32 (gi (A.nat (A.add (A.sub (A.i2 n) 4) 2))))) 8) (A.conv .u32 (gi (A.nat (A.add (A.sub (A.i2 n) 4) 1))))) 8) (A.conv .u32 (gi (A.nat (A.add (A.sub (A.i2 n) 4) 0))))) si = c →
        (c = false ↔ ∀ i, i < n → CrcLaw.sealB gi (CrcLaw.more g 0#32 q) q i = gi i) := by
      intro c hc
      have h0 : A.conv .u32 (gi (A.nat (A.add (A.sub (A.i2 n) 4) 0))) = ((g (q + 0)).toNat : Int) := hix 0 (by omega)
      have h1 : A.conv .u32 (gi (A.nat (A.add (A.sub (A.i2 n) 4) 1))) = ((g (q + 1)).toNat : Int) := hix 1 (by omega)
      have h2 : A.conv .u32 (gi (A.nat (A.add (A.sub (A.i2 n) 4) 2))) = ((g (q + 2)).toNat : Int) := hix 2 (by omega)
      have h3 : A.conv .u32 (gi (A.nat (A.add (A.sub (A.i2 n) 4) 3))) = ((g (q + 3)).toNat : Int) := hix 3 (by omega)
      rw [h0, h1, h2, h3] at hc
      subst hA
      exact open_test hg (fun j hj => hg8 j (by omega)) hsi (by omega) hc
    cbv
    refine ⟨hr, LS.rounds hA 5 hT ?_⟩
    cbv
    refine ⟨(ha 3 (by omega)).1, (ha 3 (by omega)).2.1, ?_, (ha 2 (by omega)).1, (ha 2 (by omega)).2.1, ?_, (ha 1 (by omega)).1, (ha 1 (by omega)).2.1, ?_, (ha 0 (by omega)).1, (ha 0 (by omega)).2.1, ?_, ?_⟩
    iterate 4 (subst hA; (try simp only [zn] at *); (try (simp only [Ar.real, NV.val, zo, zt])); first | done | omega | decide | exact zi | (refine ⟨?_, ?_⟩ <;> first | omega | decide | exact zi))
    refine CS.le hA (sum_fn (n := q) hP hfr hg hsi (by omega)) [] rfl rfl rfl ?_ ?_ ?_
    · (try cbv) <;> (repeat' (first | exact trivial | exact rfl | apply And.intro | exact fun _ => rfl | (intro _ hle; first | refine chunk_le hA rfl hle rfl ?_ | refine cat_le hA ?_ | refine upd_le hA ?_ | (try cbv))))
      exact hq0
    · (try cbv) <;> (repeat' (first | exact trivial | exact rfl | apply And.intro | exact fun _ => rfl | (intro _ hle; first | refine chunk_le hA rfl hle rfl ?_ | refine cat_le hA ?_ | refine upd_le hA ?_ | (try cbv))))
    cbv
    refine ⟨fun h2 => ?_, fun h2 => ?_⟩
    · have hc := hne _ h2
      cbv
      obtain ⟨rfl, rfl⟩ : m = 0 ∧ er = 240 := by
        rcases ho with ⟨h0, _⟩ | ⟨_, h0, _⟩ | ⟨_, _, h1⟩
        · omega
        · rw [← hq] at h0
          exact absurd (hc.2 h0) (by decide)
        · exact h1
      refine Fin.le hA 0 [] (.tup [.ro 1 (.s 0) (fun e => [.int .u8 (gi e.val)]), .int .i64 240]) ([]) 1 rfl rfl rfl ?_ ?_ (by rw [← hK]; exact ⟨rfl, rfl, rfl⟩)
      iterate 2 ((try cbv) <;> (repeat' (first | exact trivial | exact rfl | apply And.intro | exact fun _ => rfl | (intro _ hle; first | refine chunk_le hA rfl hle rfl ?_ | refine cat_le hA ?_ | refine upd_le hA ?_ | (try cbv)))))
    · have hc := hne _ h2
      cbv
      obtain ⟨rfl, rfl⟩ : m = q ∧ er = 0 := by
        rcases ho with ⟨h0, _⟩ | ⟨_, h0, h1⟩ | ⟨_, h0, _⟩
        · omega
        · rw [← hq] at h1; exact h1
        · rw [← hq] at h0
          exact absurd (hc.1 rfl) h0
      refine ⟨(by (subst hA; (try simp only [zn] at *); (try (simp only [Ar.real, NV.val, zo, zt])); first | done | omega | decide | exact zi | (refine ⟨?_, ?_⟩ <;> first | omega | decide | exact zi))), ?_⟩
      refine CS.le hA (clone_fn (n := m) (f := gi) hP (by omega)) [] rfl rfl rfl ?_ ?_ ?_
      · (try cbv) <;> (repeat' (first | exact trivial | exact rfl | apply And.intro | exact fun _ => rfl | (intro _ hle; first | refine chunk_le hA rfl hle rfl ?_ | refine cat_le hA ?_ | refine upd_le hA ?_ | (try cbv))))
        exact hq0
      · (try cbv) <;> (repeat' (first | exact trivial | exact rfl | apply And.intro | exact fun _ => rfl | (intro _ hle; first | refine chunk_le hA rfl hle rfl ?_ | refine cat_le hA ?_ | refine upd_le hA ?_ | (try cbv))))
      cbv
      refine Fin.le hA 0 [] (.tup [.ro 1 (.s m) (fun e => [.int .u8 (gi e.val)]), .int .i64 0]) ([]) 1 rfl rfl rfl ?_ ?_ (by rw [← hK]; exact ⟨rfl, rfl, rfl⟩)
      iterate 2 ((try cbv) <;> (repeat' (first | exact trivial | exact rfl | apply And.intro | exact fun _ => rfl | (intro _ hle; first | refine chunk_le hA rfl hle rfl ?_ | refine cat_le hA ?_ | refine upd_le hA ?_ | (try cbv)))))
end Go.Proofs.YtnjjgipblimbfaaGreatDoor
namespace Go.Proofs.YtnjjgipblimbfaaGreatDoor.Dsk
open Go.Eng Go.RowKit
open Go.CrcLaw (four)
set_option maxRecDepth 100000
def zs4 : List Int := [0, 498536548, 997073096, 651767980, 1994146192, 1802195444, 1303535960, 1342533948, 3988292384, 4027552580, 3604390888, 3412177804, 2607071920, 2262029012, 2685067896, 3183342108]
def fr4 : Nat → Int := fun i => zs4.getD i 0
theorem fr4_four (i : Nat) : fr4 i = ((four i).toNat : Int) := by
  by_cases h : i < 16
  · have : ∀ i : Fin 16, fr4 i.val = ((four i.val).toNat : Int) := by decide +kernel
    exact this ⟨i, h⟩
  · have e1 : fr4 i = 0 := by
      unfold fr4
      rw [List.getD_eq_getElem?_getD, List.getElem?_eq_none (by show zs4.length ≤ i; show 16 ≤ i; omega)]; rfl
    have e2 : four i = 0#32 := by
      unfold CrcLaw.four
      split <;> first | omega | rfl
    rw [e1, e2]; rfl
variable {W : World} {v0 v1 v2 v3 v4 : Value}
theorem four_rep (h : Lib.TabIs Tryz.prog W "copse/crc.four" .u32 zs4) (hg : Tryz.prog.globalNamed "copse/crc.four" = some 0) :
    ∀ p ∈ Gf fr4, Rep W (fun b => b < W.heap.size) Vln.no p.2 (.pointer (some ⟨p.1, 0, none⟩)) := by
  intro p hp
  obtain rfl : p = (0, .ra 1 16 (fun e => [.int .u32 (fr4 e.val)])) := by simpa [Gf] using hp
  exact tab_rep (by omega) (fun i hi => h.cell hg i (by show i < 16; exact hi)) (fun _ h => h)
abbrev bysh : Shs := .cons (.int .u8) .nil
abbrev bbsh : Shs := .cons (.sl bysh) .nil
abbrev kpsh : Shs := .cons (.int .i64) (.cons (.int .i64) .nil)
abbrev opwsh : Shs := .cons (.int .i64) (.cons (.int .i64) (.cons (.sl bysh) (.cons (.sl kpsh) .nil)))
end Go.Proofs.YtnjjgipblimbfaaGreatDoor.Dsk
namespace Go.Proofs.YtnjjgipblimbfaaGreatDoor.Dsk
open Go.Eng
open Go.DskLaw (q64 secV isB)
open Go.WalLaw
set_option maxRecDepth 100000
set_option maxHeartbeats 1000000
theorem beq_fn {P : Program} {G : Gl} (hP : P = Tryz.prog) {n m : Nat} {f g : Nat → Int} {res : Bool} {N M : NV} (hN : N.val = n) (hM : M.val = m) (hf : ∀ i, i < n → 0 ≤ f i ∧ f i < 256) (hg : ∀ i, i < m → 0 ≤ g i ∧ g i < 256) (hres : res = true ↔ (n = m ∧ ∀ i, i < n → f i = g i)) :
    FnTr P G 83 [.ro 1 N (fun e => [.int .u8 (f e.val)]), .ro 1 M (fun e => [.int .u8 (g e.val)])] [] 0 (Gives (.bs res) [] 0) := by
  subst hN hM
  have hT : T.Ok P := hP ▸ T_ok
  refine FnTr.intro (fn := Tryz.f83) (c := bodyOf Tryz.f83) (by rw [hP]; rfl) rfl rfl hT ?_
  generalize hA : Ar.real = A
  generalize hK : Gives _ _ _ = K
  cbv
  refine ⟨fun e _ => rfl, fun e _ => rfl, ?_⟩
  refine Fin.le hA 0 [] (.bs res) [] 0 rfl rfl rfl ?_ ?_ (by rw [← hK]; exact ⟨rfl, rfl, rfl⟩)
  · cbv
    subst hA
    rw [Bool.eq_iff_iff]
    exact (bytes_eq hf hg).trans hres.symm
  · trivial
theorem shl_or64 (x : Nat) (y : Int) (hx : x < 72057594037927936) (hy : 0 ≤ y ∧ y ≤ 255) : wOp .or .u64 (Ar.real.shl .u64 (x : Int) 8) y = ((x * 256 + y.toNat : Nat) : Int) := by
  obtain ⟨z, hz⟩ : ∃ z : Nat, y = (z : Int) := ⟨y.toNat, by omega⟩
  subst hz
  have hz : z < 256 := by omega
  have e1 : Ar.real.shl .u64 (x : Int) 8 = ((x * 256 : Nat) : Int) := by
    show IntKind.u64.wrap ((x : Int) * 2 ^ (Nat.min (8 : Int).toNat IntKind.u64.bits)) = _
    rw [show ((x : Int) * 2 ^ (Nat.min (8 : Int).toNat IntKind.u64.bits)) = ((x * 256 : Nat) : Int) by rw [Int.natCast_mul]; rfl]
    simp only [IntKind.wrap, IntKind.bits, IntKind.signed]
    simp
    omega
  rw [e1]
  show IntKind.u64.wrap ((BitVec.ofInt 64 ((x * 256 : Nat) : Int) ||| BitVec.ofInt 64 (z : Int)).toNat : Int) = _
  have e2 : (BitVec.ofInt 64 ((x * 256 : Nat) : Int) ||| BitVec.ofInt 64 (z : Int)).toNat = x * 256 + z := by
    rw [BitVec.toNat_or, BitVec.ofInt_natCast, BitVec.ofInt_natCast, BitVec.toNat_ofNat, BitVec.toNat_ofNat, Nat.mod_eq_of_lt (by omega), Nat.mod_eq_of_lt (by omega)]
    rw [show x * 256 = x <<< 8 by rw [Nat.shiftLeft_eq], ← Nat.shiftLeft_add_eq_or_of_lt (by omega)]
  rw [e2]
  simp only [IntKind.wrap, IntKind.bits, IntKind.signed, zt]
  simp
  omega
theorem gen_off {P : Program} {G : Gl} (hP : P = Tryz.prog) {N : Nat} {S : Nat → Int} {L : Int → Option (Nat → Int)} {ar : Bool} {ca i : Int} (h : ar = true ∧ ca = 0) :
    FnTr P G 57 [.ptr 0 0, .int .i64 i] (DH N S L ar ca) 3 (Gives (.tup [.lit .i64 0, .lit .i64 6]) (DH N S L ar ca) 3) := by
  have a1 := read_off (P := P) (G := G) (N := N) (S := S) (L := L) (i := i) hP h
  have hT : T.Ok P := hP ▸ T_ok
  refine FnTr.intro (fn := Tryz.f57) (c := bodyOf Tryz.f57) (by rw [hP]; rfl) rfl rfl hT ?_
  generalize hA : Ar.real = A
  generalize hK : Gives _ _ _ = K
  cbv
  refine CS.le hA (a1) [(0, 0), (1, 1), (2, 2)] rfl rfl rfl ?_ ?_ ?_
  iterate 2 ((try cbv) <;> (repeat' (first | exact trivial | exact rfl | apply And.intro | exact fun _ => rfl | (intro _ hle; first | refine chunk_le hA rfl hle rfl ?_ | refine cat_le hA ?_ | refine upd_le hA ?_ | (try cbv)))) <;> (try (subst hA; (try simp only [zn] at *); (try (simp only [Ar.real, NV.val, zo, zt])); first | done | omega | decide | exact zi | (refine ⟨?_, ?_⟩ <;> first | omega | decide | exact zi))))
  cbv
  refine Fin.le hA 3 [] (.tup [.lit .i64 0, .lit .i64 6]) (DH N S L ar ca) 3 rfl rfl rfl ?_ ?_ (by rw [← hK]; exact ⟨rfl, rfl, rfl⟩)
  iterate 2 ((try cbv) <;> (repeat' (first | exact trivial | exact rfl | apply And.intro | exact fun _ => rfl | (intro _ hle; first | refine chunk_le hA rfl hle rfl ?_ | refine cat_le hA ?_ | refine upd_le hA ?_ | (try cbv)))))
theorem gen_fn {P : Program} {G : Gl} (hP : P = Tryz.prog) {N s sec g : Nat} {S v : Nat → Int} {L : Int → Option (Nat → Int)} {ar : Bool} {ca : Int} (h : ¬ (ar = true ∧ ca = 0)) (hN : N = 64 * s) (hs : 4 ≤ s ∧ s ≤ 4096) (hi : sec < 2) (hv : v = secV S L sec) (hb : isB v) (hg : GenIs v sec g) :
    FnTr P G 57 [.ptr 0 0, .int .i64 (sec : Int)] (DH N S L ar ca) 3 (Gives (.tup [.int .i64 (g : Int), .lit .i64 0]) (DH N S L ar ca) 1000) := by
  have a1 := read_fn (P := P) (G := G) (S := S) (L := L) (ar := ar) (ca := ca) hP h hN hs.2 (i := sec) (by omega) hv
  obtain ⟨X, hX⟩ : ∃ X : Nat → Nat, ∀ j, X j = genN v j := ⟨_, fun _ => rfl⟩
  have hX0 : X 0 = 0 := hX 0
  have hXlt : ∀ j, j ≤ 8 → X j < 256 ^ j := fun j hj => by rw [hX]; exact genN_lt v (fun i hi => hb i (by omega)) j hj
  have hXs : ∀ j, j < 8 → wOp .or .u64 (Ar.real.shl .u64 (X j : Int) 8) (v j) = (X (j + 1) : Int) := fun j hj => by
    have h1 := hXlt j (by omega)
    have h2 : (256 : Nat) ^ j ≤ 256 ^ 7 := Nat.pow_le_pow_right (by decide) (by omega)
    rw [hX, hX]
    rw [hX] at h1
    exact shl_or64 _ _ (by omega) (hb j (by omega))
  have hX8 : X 8 = genN v 8 := hX 8
  clear hX
  have hT : T.Ok P := hP ▸ T_ok
  refine FnTr.intro (fn := Tryz.f57) (c := bodyOf Tryz.f57) (by rw [hP]; rfl) rfl rfl hT ?_
  generalize hA : Ar.real = A
  generalize hK : Gives _ _ _ = K
  cbv
  refine CS.le hA (a1) [(0, 0), (1, 1), (2, 2)] rfl rfl rfl ?_ ?_ ?_
  iterate 2 ((try cbv) <;> (repeat' (first | exact trivial | exact rfl | apply And.intro | exact fun _ => rfl | (intro _ hle; first | refine chunk_le hA rfl hle rfl ?_ | refine cat_le hA ?_ | refine upd_le hA ?_ | (try cbv)))) <;> (try (subst hA; (try simp only [zn] at *); (try (simp only [Ar.real, NV.val, zo, zt])); first | done | omega | decide | exact zi | (refine ⟨?_, ?_⟩ <;> first | omega | decide | exact zi))))
  cbv
  refine ⟨(by (subst hA; (try simp only [zn] at *); (try (simp only [Ar.real, NV.val, zo, zt])); first | done | omega | decide | exact zi | (refine ⟨?_, ?_⟩ <;> first | omega | decide | exact zi))), ?_⟩
  refine LS.le hT hA 24 (fun (i : Nat) => [(8, .int .u64 ((X i : Nat) : Int)), (23, .int .i64 (i : Int))]) (fun _ => DH N S L ar ca) (fun i => i ≤ 8) (fun i => 8 - i) 0 [] rfl rfl ?_ ?_ ?_
  · (try cbv) <;> (repeat' (first | exact trivial | exact rfl | apply And.intro | exact fun _ => rfl | (intro _ hle; first | refine chunk_le hA rfl hle rfl ?_ | refine cat_le hA ?_ | refine upd_le hA ?_ | (try cbv))))
    all_goals (subst hA; rw [hX0]; rfl)
  · exact Nat.zero_le _
  · intro R hR i hi
    cbv
    refine ⟨fun q1 => ?_, fun q1 => ?_⟩
    · have hi8 : i < 8 := by clear hR hX0 hXs hXlt hX8 hb hg; subst hA; simp [Ar.real] at q1; omega
      have hXs := hXs i hi8
      have hv1 := hb i (by omega)
      clear hX0 hXlt hX8 hb hg
      have kn : A.nat (Int.ofNat i) = i := by clear hR hXs; subst hA; rfl
      have kv : (addNV A (.l 0) (.s (A.nat (Int.ofNat i)))).val = i := by clear hR hXs kn; subst hA; rw [addNV_zero]; rfl
      have kx : A.w .or .u64 (A.shl .u64 ((X i : Nat) : Int) 8) (A.conv .u64 (v (addNV A (.l 0) (.s (A.nat (Int.ofNat i)))).val)) = ((X (i + 1) : Nat) : Int) := by
        rw [kv]
        clear hR kn kv
        subst hA
        have e : Ar.real.conv .u64 (v i) = v i := by
          show IntKind.u64.wrap (v i) = v i
          simp only [IntKind.wrap, IntKind.bits, IntKind.signed]
          simp
          omega
        rw [e]; exact hXs
      clear hXs
      cbv
      refine ⟨?_, ?_, ?_, hR _ _ ⟨i + 1, 24, [], rfl, rfl, ?_, hi8, (by show 8 - (i + 1) < 8 - i; omega)⟩⟩
      iterate 3 (subst hA; (try simp only [zn] at *); (try (simp only [Ar.real, NV.val, zo, zt])); first | done | omega | decide | exact zi | (refine ⟨?_, ?_⟩ <;> first | omega | decide | exact zi))
      clear hR
      (try cbv) <;> (repeat' (first | exact trivial | exact rfl | apply And.intro | exact fun _ => rfl | (intro _ hle; first | refine chunk_le hA rfl hle rfl ?_ | refine cat_le hA ?_ | refine upd_le hA ?_ | (try cbv))))
      all_goals first | exact kx | (subst hA; (try simp only [zn] at *); (try (simp only [Ar.real, NV.val, zo, zt])); first | done | omega | decide | exact zi | (refine ⟨?_, ?_⟩ <;> first | omega | decide | exact zi))
    · have hi8 : i = 8 := by clear hR hX0 hXs hXlt hX8 hb hg; subst hA; simp [Ar.real] at q1; omega
      subst hi8
      clear hR hX0 hXs
      have hlt := hXlt 8 (Nat.le_refl _)
      clear hXlt
      obtain ⟨x, hx⟩ : ∃ x, x = X 8 := ⟨_, rfl⟩
      have hG : GenOk v sec ↔ (1 ≤ x ∧ x ≤ 1099511627776 ∧ x % 2 = sec ∧ ∀ i, i < 64 → v i = headB x i) := by rw [hx, hX8]; exact Iff.rfl
      have hg2 : (GenOk v sec ∧ g = x) ∨ (¬ GenOk v sec ∧ g = 0) := by rw [hx, hX8]; exact hg
      clear hX8 hg
      by_cases g1 : x < 1
      · have g0 : g = 0 := by rcases hg2 with h | h; exact absurd (hG.1 h.1).1 (by omega); exact h.2
        have k1 : A.lt ((X 8 : Nat) : Int) 1 = true := by rw [← hx]; clear hG hg2; subst hA; simp [Ar.real]; omega
        clear hG hg2 hb
        cbv
        first | refine testR k1 rfl ?_ | refine testL k1 rfl ?_
        cbv
        refine Fin.le hA 3 [] (.tup [.int .i64 (g : Int), .lit .i64 0]) (DH N S L ar ca) 1000 rfl rfl rfl ?_ ?_ (by rw [← hK]; exact ⟨rfl, rfl, rfl⟩)
        · (try cbv) <;> (repeat' (first | exact trivial | exact rfl | apply And.intro | exact fun _ => rfl | (intro _ hle; first | refine chunk_le hA rfl hle rfl ?_ | refine cat_le hA ?_ | refine upd_le hA ?_ | (try cbv))))
          all_goals (subst hA; (try simp only [zn] at *); (try (simp only [Ar.real, NV.val, zo, zt])); first | done | omega | decide | exact zi | (refine ⟨?_, ?_⟩ <;> first | omega | decide | exact zi))
        · (try cbv) <;> (repeat' (first | exact trivial | exact rfl | apply And.intro | exact fun _ => rfl | (intro _ hle; first | refine chunk_le hA rfl hle rfl ?_ | refine cat_le hA ?_ | refine upd_le hA ?_ | (try cbv))))
      have k1 : A.lt ((X 8 : Nat) : Int) 1 = false := by rw [← hx]; clear hG hg2; subst hA; simp [Ar.real]; omega
      by_cases g2 : 1099511627776 < x
      · have g0 : g = 0 := by rcases hg2 with h | h; exact absurd (hG.1 h.1).2.1 (by omega); exact h.2
        have k2 : A.gt ((X 8 : Nat) : Int) 1099511627776 = true := by rw [← hx]; clear hG hg2; subst hA; simp [Ar.real]; omega
        clear hG hg2 hb
        cbv
        first | refine testR k1 rfl ?_ | refine testL k1 rfl ?_
        cbv
        first | refine testR k2 rfl ?_ | refine testL k2 rfl ?_
        cbv
        refine Fin.le hA 3 [] (.tup [.int .i64 (g : Int), .lit .i64 0]) (DH N S L ar ca) 1000 rfl rfl rfl ?_ ?_ (by rw [← hK]; exact ⟨rfl, rfl, rfl⟩)
        · (try cbv) <;> (repeat' (first | exact trivial | exact rfl | apply And.intro | exact fun _ => rfl | (intro _ hle; first | refine chunk_le hA rfl hle rfl ?_ | refine cat_le hA ?_ | refine upd_le hA ?_ | (try cbv))))
          all_goals (subst hA; (try simp only [zn] at *); (try (simp only [Ar.real, NV.val, zo, zt])); first | done | omega | decide | exact zi | (refine ⟨?_, ?_⟩ <;> first | omega | decide | exact zi))
        · (try cbv) <;> (repeat' (first | exact trivial | exact rfl | apply And.intro | exact fun _ => rfl | (intro _ hle; first | refine chunk_le hA rfl hle rfl ?_ | refine cat_le hA ?_ | refine upd_le hA ?_ | (try cbv))))
      have k2 : A.gt ((X 8 : Nat) : Int) 1099511627776 = false := by rw [← hx]; clear hG hg2; subst hA; simp [Ar.real]; omega
      have kc : A.conv .i64 ((X 8 : Nat) : Int) = (x : Int) := by
        rw [← hx]; clear hG hg2; subst hA
        show IntKind.i64.wrap (x : Int) = (x : Int)
        simp only [IntKind.wrap, IntKind.bits, IntKind.signed]
        simp
        omega
      have kr : A.rem (x : Int) 2 = ((x % 2 : Nat) : Int) := by clear hG hg2 k1 k2 kc; subst hA; rfl
      by_cases g3 : ¬ x % 2 = sec
      · have g0 : g = 0 := by rcases hg2 with h | h; exact absurd (hG.1 h.1).2.2.1 g3; exact h.2
        have k3 : A.ne (A.rem (A.conv .i64 ((X 8 : Nat) : Int)) 2) (Int.ofNat sec) = true := by rw [kc, kr]; clear hG hg2 k1 k2 kc kr; subst hA; simp [Ar.real]; omega
        clear hG hg2 hb
        cbv
        first | refine testR k1 rfl ?_ | refine testL k1 rfl ?_
        cbv
        first | refine testR k2 rfl ?_ | refine testL k2 rfl ?_
        cbv
        refine ⟨(by (subst hA; (try simp only [zn] at *); (try (simp only [Ar.real, NV.val, zo, zt])); first | done | omega | decide | exact zi | (refine ⟨?_, ?_⟩ <;> first | omega | decide | exact zi))), ?_⟩
        first | refine testR k3 rfl ?_ | refine testL k3 rfl ?_
        cbv
        refine Fin.le hA 3 [] (.tup [.int .i64 (g : Int), .lit .i64 0]) (DH N S L ar ca) 1000 rfl rfl rfl ?_ ?_ (by rw [← hK]; exact ⟨rfl, rfl, rfl⟩)
        · (try cbv) <;> (repeat' (first | exact trivial | exact rfl | apply And.intro | exact fun _ => rfl | (intro _ hle; first | refine chunk_le hA rfl hle rfl ?_ | refine cat_le hA ?_ | refine upd_le hA ?_ | (try cbv))))
          all_goals (clear k1 k2 k3 kc kr; (subst hA; (try simp only [zn] at *); (try (simp only [Ar.real, NV.val, zo, zt])); first | done | omega | decide | exact zi | (refine ⟨?_, ?_⟩ <;> first | omega | decide | exact zi)))
        · (try cbv) <;> (repeat' (first | exact trivial | exact rfl | apply And.intro | exact fun _ => rfl | (intro _ hle; first | refine chunk_le hA rfl hle rfl ?_ | refine cat_le hA ?_ | refine upd_le hA ?_ | (try cbv))))
      have g3 := Decidable.not_not.1 g3
      have k3 : A.ne (A.rem (A.conv .i64 ((X 8 : Nat) : Int)) 2) (Int.ofNat sec) = false := by rw [kc, kr]; clear hG hg2 k1 k2 kc kr; subst hA; simp [Ar.real]; omega
      obtain ⟨hd, hhd⟩ : ∃ hd : Nat → Int, ∀ i, hd i = headB x i := ⟨_, fun _ => rfl⟩
      have c1 := head_fn (P := P) (G := G) (g := x) (f := hd) hP (by omega) (fun i _ => hhd i)
      have bh : ∀ i, i < 64 → 0 ≤ hd i ∧ hd i < 256 := fun i _ => by rw [hhd]; have := headB_range x i; omega
      have bv : ∀ i, i < 64 → 0 ≤ v i ∧ v i < 256 := fun i hi => by have := hb i hi; omega
      by_cases g4 : ∀ i, i < 64 → v i = hd i
      · have g0 : g = x := by
          rcases hg2 with h | h
          · exact h.2
          · exact absurd (hG.2 ⟨by omega, by omega, g3, fun i hi => by rw [g4 i hi, hhd]⟩) h.1
        have c2 := beq_fn (P := P) (G := G) (n := 64) (m := 64) (f := v) (g := hd) (res := true) (N := .l 64) (M := .l 64) hP rfl rfl bv bh ⟨fun _ => ⟨rfl, g4⟩, fun _ => rfl⟩
        clear hG hg2 hb hhd bh bv g4
        cbv
        first | refine testR k1 rfl ?_ | refine testL k1 rfl ?_
        cbv
        first | refine testR k2 rfl ?_ | refine testL k2 rfl ?_
        cbv
        refine ⟨(by (subst hA; (try simp only [zn] at *); (try (simp only [Ar.real, NV.val, zo, zt])); first | done | omega | decide | exact zi | (refine ⟨?_, ?_⟩ <;> first | omega | decide | exact zi))), ?_⟩
        first | refine testR k3 rfl ?_ | refine testL k3 rfl ?_
        cbv
        refine CS.le hA c1 [] rfl rfl rfl ?_ ?_ ?_
        · (try cbv) <;> (repeat' (first | exact trivial | exact rfl | apply And.intro | exact fun _ => rfl | (intro _ hle; first | refine chunk_le hA rfl hle rfl ?_ | refine cat_le hA ?_ | refine upd_le hA ?_ | (try cbv))))
          all_goals exact kc
        · (try cbv) <;> (repeat' (first | exact trivial | exact rfl | apply And.intro | exact fun _ => rfl | (intro _ hle; first | refine chunk_le hA rfl hle rfl ?_ | refine cat_le hA ?_ | refine upd_le hA ?_ | (try cbv))))
        cbv
        refine CS.leR hA (c2) (.bl true) [] rfl rfl rfl ?_ ?_ ?_ ?_
        iterate 3 ((try cbv) <;> (repeat' (first | exact trivial | exact rfl | apply And.intro | exact fun _ => rfl | (intro _ hle; first | refine chunk_le hA rfl hle rfl ?_ | refine cat_le hA ?_ | refine upd_le hA ?_ | (try cbv)))) <;> (try (subst hA; (try simp only [zn] at *); (try (simp only [Ar.real, NV.val, zo, zt])); first | done | omega | decide | exact zi | (refine ⟨?_, ?_⟩ <;> first | omega | decide | exact zi))))
        cbv
        refine Fin.le hA 3 [] (.tup [.int .i64 (g : Int), .lit .i64 0]) (DH N S L ar ca) 1000 rfl rfl rfl ?_ ?_ (by rw [← hK]; exact ⟨rfl, rfl, rfl⟩)
        · (try cbv) <;> (repeat' (first | exact trivial | exact rfl | apply And.intro | exact fun _ => rfl | (intro _ hle; first | refine chunk_le hA rfl hle rfl ?_ | refine cat_le hA ?_ | refine upd_le hA ?_ | (try cbv))))
          all_goals first | (rw [g0]; exact kc) | (clear k1 k2 k3 kc kr; (subst hA; (try simp only [zn] at *); (try (simp only [Ar.real, NV.val, zo, zt])); first | done | omega | decide | exact zi | (refine ⟨?_, ?_⟩ <;> first | omega | decide | exact zi)))
        · (try cbv) <;> (repeat' (first | exact trivial | exact rfl | apply And.intro | exact fun _ => rfl | (intro _ hle; first | refine chunk_le hA rfl hle rfl ?_ | refine cat_le hA ?_ | refine upd_le hA ?_ | (try cbv))))
      · have g0 : g = 0 := by
          rcases hg2 with h | h
          · exact absurd (fun i hi => by rw [(hG.1 h.1).2.2.2 i hi, hhd]) g4
          · exact h.2
        have c2 := beq_fn (P := P) (G := G) (n := 64) (m := 64) (f := v) (g := hd) (res := false) (N := .l 64) (M := .l 64) hP rfl rfl bv bh ⟨fun h => (by cases h), fun h => absurd h.2 g4⟩
        clear hG hg2 hb hhd bh bv g4
        cbv
        first | refine testR k1 rfl ?_ | refine testL k1 rfl ?_
        cbv
        first | refine testR k2 rfl ?_ | refine testL k2 rfl ?_
        cbv
        refine ⟨(by (subst hA; (try simp only [zn] at *); (try (simp only [Ar.real, NV.val, zo, zt])); first | done | omega | decide | exact zi | (refine ⟨?_, ?_⟩ <;> first | omega | decide | exact zi))), ?_⟩
        first | refine testR k3 rfl ?_ | refine testL k3 rfl ?_
        cbv
        refine CS.le hA c1 [] rfl rfl rfl ?_ ?_ ?_
        · (try cbv) <;> (repeat' (first | exact trivial | exact rfl | apply And.intro | exact fun _ => rfl | (intro _ hle; first | refine chunk_le hA rfl hle rfl ?_ | refine cat_le hA ?_ | refine upd_le hA ?_ | (try cbv))))
          all_goals exact kc
        · (try cbv) <;> (repeat' (first | exact trivial | exact rfl | apply And.intro | exact fun _ => rfl | (intro _ hle; first | refine chunk_le hA rfl hle rfl ?_ | refine cat_le hA ?_ | refine upd_le hA ?_ | (try cbv))))
        cbv
        refine CS.leR hA (c2) (.bl false) [] rfl rfl rfl ?_ ?_ ?_ ?_
        iterate 3 ((try cbv) <;> (repeat' (first | exact trivial | exact rfl | apply And.intro | exact fun _ => rfl | (intro _ hle; first | refine chunk_le hA rfl hle rfl ?_ | refine cat_le hA ?_ | refine upd_le hA ?_ | (try cbv)))) <;> (try (subst hA; (try simp only [zn] at *); (try (simp only [Ar.real, NV.val, zo, zt])); first | done | omega | decide | exact zi | (refine ⟨?_, ?_⟩ <;> first | omega | decide | exact zi))))
        cbv
        refine Fin.le hA 3 [] (.tup [.int .i64 (g : Int), .lit .i64 0]) (DH N S L ar ca) 1000 rfl rfl rfl ?_ ?_ (by rw [← hK]; exact ⟨rfl, rfl, rfl⟩)
        · (try cbv) <;> (repeat' (first | exact trivial | exact rfl | apply And.intro | exact fun _ => rfl | (intro _ hle; first | refine chunk_le hA rfl hle rfl ?_ | refine cat_le hA ?_ | refine upd_le hA ?_ | (try cbv))))
          all_goals (clear k1 k2 k3 kc kr; (subst hA; (try simp only [zn] at *); (try (simp only [Ar.real, NV.val, zo, zt])); first | done | omega | decide | exact zi | (refine ⟨?_, ?_⟩ <;> first | omega | decide | exact zi)))
        · (try cbv) <;> (repeat' (first | exact trivial | exact rfl | apply And.intro | exact fun _ => rfl | (intro _ hle; first | refine chunk_le hA rfl hle rfl ?_ | refine cat_le hA ?_ | refine upd_le hA ?_ | (try cbv))))
end Go.Proofs.YtnjjgipblimbfaaGreatDoor.Dsk
