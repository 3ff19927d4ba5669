/-
  Records on sectors: a record is put on a run.
-/
import Derived.Test.YtnjjgipblimbfaaDskF3
import Derived.Test.YtnjjgipblimbfaaEngThree
set_option linter.unusedVariables false
set_option linter.unusedSimpArgs false
namespace Go.Proofs.Ytnjjgipblimbfaa.Dsk
open Go.Eng
open Go.DskLaw (q64 secV needN pcs)
set_option maxRecDepth 100000
set_option maxHeartbeats 4000000
set_option linter.unusedVariables false

theorem conv62 (n : Nat) : IntKind.u8.wrap (if (62 : Int) < (n : Int) then 62 else (n : Int)) = ((min n 62 : Nat) : Int) := by
  rw [show (if (62 : Int) < (n : Int) then 62 else (n : Int)) = ((min n 62 : Nat) : Int) by split <;> omega, wrap_u8, Nat.mod_eq_of_lt (by omega)]
theorem pieces_fn {P : Program} {G : Gl} (hP : P = Try.prog) {n : Nat} {f : Nat → Int} :
    FnTr P G 39 [By n f] [] 0 (Gives (.fn 59 [.ptr 0 0]) [(0, .cells 23 [By n f])] 1) := by
  have hT : T.Ok P := hP ▸ T_ok
  refine FnTr.intro (fn := Try.f39) (c := bodyOf Try.f39) (by rw [hP]; rfl) rfl rfl hT ?_
  generalize hA : Ar.real = A
  generalize hK : Gives _ _ _ = K
  cbv
  refine OS.did (makeFunc_did rfl) ?_
  cbv
  refine Fin.le hA 0 [(0, 0)] (.fn 59 [.ptr 0 0]) ([(0, .cells 23 [By n f])]) 1 rfl rfl rfl ?_ ?_ (by rw [← hK]; exact ⟨rfl, rfl, rfl⟩)
  · (try cbv) <;> (repeat' (first | exact trivial | exact rfl | apply And.intro | exact fun _ => rfl | (intro _ hle; first | refine chunk_le hA rfl hle rfl ?_ | refine cat_le hA ?_ | refine upd_le hA ?_ | (try cbv))))
  · (try cbv) <;> (repeat' (first | exact trivial | exact rfl | apply And.intro | exact fun _ => rfl | (intro _ hle; first | refine chunk_le hA rfl hle rfl ?_ | refine cat_le hA ?_ | refine upd_le hA ?_ | (try cbv))))

theorem put_nil {P : Program} {G : Gl} (hP : P = Try.prog) {a b : Int} {n : Nat} {f : Nat → Int} : FnTr P G 12 [.nilp, .int .i64 a, .int .i64 b, By n f] [] 0 (Gives (.tup [.lit .i64 0, .lit .i64 7]) [] 0) := by
  have c1 := sasked_nil (P := P) (G := G) (a := a) (b := b) hP
  have hT : T.Ok P := hP ▸ T_ok
  refine FnTr.intro (fn := Try.f12) (c := bodyOf Try.f12) (by rw [hP]; rfl) rfl rfl hT ?_
  generalize hA : Ar.real = A
  generalize hK : Gives _ _ _ = K
  cbv
  refine CS.le hA (c1) [] rfl rfl rfl ?_ ?_ ?_
  · (try cbv) <;> (repeat' (first | exact trivial | exact rfl | apply And.intro | exact fun _ => rfl | (intro _ hle; first | refine chunk_le hA rfl hle rfl ?_ | refine cat_le hA ?_ | refine upd_le hA ?_ | (try cbv)))) <;> (try (subst hA; (try simp only [natCast_eq] at *); (try (simp only [Ar.real, NV.val, Int.ofNat_eq_natCast, Int.toNat_natCast])); first | done | omega | decide | exact inR64 (by omega) (by omega) | (refine ⟨?_, ?_⟩ <;> first | omega | decide | exact inR64 (by omega) (by omega))))
  · (try cbv) <;> (repeat' (first | exact trivial | exact rfl | apply And.intro | exact fun _ => rfl | (intro _ hle; first | refine chunk_le hA rfl hle rfl ?_ | refine cat_le hA ?_ | refine upd_le hA ?_ | (try cbv))))
  cbv
  refine Fin.le hA 0 [] (.tup [.lit .i64 0, .lit .i64 7]) ([]) 0 rfl rfl rfl ?_ ?_ (by rw [← hK]; exact ⟨rfl, rfl, rfl⟩)
  · (try cbv) <;> (repeat' (first | exact trivial | exact rfl | apply And.intro | exact fun _ => rfl | (intro _ hle; first | refine chunk_le hA rfl hle rfl ?_ | refine cat_le hA ?_ | refine upd_le hA ?_ | (try cbv))))
  · (try cbv) <;> (repeat' (first | exact trivial | exact rfl | apply And.intro | exact fun _ => rfl | (intro _ hle; first | refine chunk_le hA rfl hle rfl ?_ | refine cat_le hA ?_ | refine upd_le hA ?_ | (try cbv))))
theorem put_arg {P : Program} {G : Gl} (hP : P = Try.prog) {N s n : Nat} {S f : Nat → Int} {L : Int → Option (Nat → Int)} {ar : Bool} {ca a b : Int} (hN : N = 64 * s) (hs : s ≤ 4096) (h : a < 0 ∨ b < a ∨ (s : Int) < b) :
    FnTr P G 12 [.ptr 0 0, .int .i64 a, .int .i64 b, By n f] (DH N S L ar ca) 3 (Gives (.tup [.lit .i64 0, .lit .i64 1]) (DH N S L ar ca) 3) := by
  have c1 := sasked_arg (P := P) (G := G) (S := S) (L := L) (ar := ar) (ca := ca) hP hN hs h
  have hT : T.Ok P := hP ▸ T_ok
  refine FnTr.intro (fn := Try.f12) (c := bodyOf Try.f12) (by rw [hP]; rfl) rfl rfl hT ?_
  generalize hA : Ar.real = A
  generalize hK : Gives _ _ _ = K
  cbv
  refine CS.le hA (c1) [(0, 0), (1, 1), (2, 2)] rfl rfl rfl ?_ ?_ ?_
  · (try cbv) <;> (repeat' (first | exact trivial | exact rfl | apply And.intro | exact fun _ => rfl | (intro _ hle; first | refine chunk_le hA rfl hle rfl ?_ | refine cat_le hA ?_ | refine upd_le hA ?_ | (try cbv)))) <;> (try (subst hA; (try simp only [natCast_eq] at *); (try (simp only [Ar.real, NV.val, Int.ofNat_eq_natCast, Int.toNat_natCast])); first | done | omega | decide | exact inR64 (by omega) (by omega) | (refine ⟨?_, ?_⟩ <;> first | omega | decide | exact inR64 (by omega) (by omega))))
  · (try cbv) <;> (repeat' (first | exact trivial | exact rfl | apply And.intro | exact fun _ => rfl | (intro _ hle; first | refine chunk_le hA rfl hle rfl ?_ | refine cat_le hA ?_ | refine upd_le hA ?_ | (try cbv))))
  cbv
  refine Fin.le hA 3 [] (.tup [.lit .i64 0, .lit .i64 1]) (DH N S L ar ca) 3 rfl rfl rfl ?_ ?_ (by rw [← hK]; exact ⟨rfl, rfl, rfl⟩)
  · (try cbv) <;> (repeat' (first | exact trivial | exact rfl | apply And.intro | exact fun _ => rfl | (intro _ hle; first | refine chunk_le hA rfl hle rfl ?_ | refine cat_le hA ?_ | refine upd_le hA ?_ | (try cbv))))
  · (try cbv) <;> (repeat' (first | exact trivial | exact rfl | apply And.intro | exact fun _ => rfl | (intro _ hle; first | refine chunk_le hA rfl hle rfl ?_ | refine cat_le hA ?_ | refine upd_le hA ?_ | (try cbv))))
theorem put_long {P : Program} {G : Gl} (hP : P = Try.prog) {N s n : Nat} {S f : Nat → Int} {L : Int → Option (Nat → Int)} {ar : Bool} {ca a b : Int} (hN : N = 64 * s) (hs : s ≤ 4096) (h : 0 ≤ a ∧ a ≤ b ∧ b ≤ (s : Int)) (hn : 65536 < n) :
    FnTr P G 12 [.ptr 0 0, .int .i64 a, .int .i64 b, By n f] (DH N S L ar ca) 3 (Gives (.tup [.lit .i64 0, .lit .i64 3]) (DH N S L ar ca) 3) := by
  have c1 := sasked_ok (P := P) (G := G) (S := S) (L := L) (ar := ar) (ca := ca) hP hN hs h
  have hT : T.Ok P := hP ▸ T_ok
  refine FnTr.intro (fn := Try.f12) (c := bodyOf Try.f12) (by rw [hP]; rfl) rfl rfl hT ?_
  generalize hA : Ar.real = A
  generalize hK : Gives _ _ _ = K
  cbv
  refine CS.le hA (c1) [(0, 0), (1, 1), (2, 2)] rfl rfl rfl ?_ ?_ ?_
  · (try cbv) <;> (repeat' (first | exact trivial | exact rfl | apply And.intro | exact fun _ => rfl | (intro _ hle; first | refine chunk_le hA rfl hle rfl ?_ | refine cat_le hA ?_ | refine upd_le hA ?_ | (try cbv)))) <;> (try (subst hA; (try simp only [natCast_eq] at *); (try (simp only [Ar.real, NV.val, Int.ofNat_eq_natCast, Int.toNat_natCast])); first | done | omega | decide | exact inR64 (by omega) (by omega) | (refine ⟨?_, ?_⟩ <;> first | omega | decide | exact inR64 (by omega) (by omega))))
  · (try cbv) <;> (repeat' (first | exact trivial | exact rfl | apply And.intro | exact fun _ => rfl | (intro _ hle; first | refine chunk_le hA rfl hle rfl ?_ | refine cat_le hA ?_ | refine upd_le hA ?_ | (try cbv))))
  cbv
  have k1 : A.gt (A.i2 n) 65536 = true := by subst hA; simp [Ar.real]; omega
  repeat' (first | (refine ⟨fun h => absurd (h.symm.trans k1) (by decide), fun _ => ?_⟩; cbv) | (refine ⟨fun _ => ?_, fun h => absurd (h.symm.trans k1) (by decide)⟩; cbv))
  refine Fin.le hA 3 [] (.tup [.lit .i64 0, .lit .i64 3]) (DH N S L ar ca) 3 rfl rfl rfl ?_ ?_ (by rw [← hK]; exact ⟨rfl, rfl, rfl⟩)
  · (try cbv) <;> (repeat' (first | exact trivial | exact rfl | apply And.intro | exact fun _ => rfl | (intro _ hle; first | refine chunk_le hA rfl hle rfl ?_ | refine cat_le hA ?_ | refine upd_le hA ?_ | (try cbv))))
  · (try cbv) <;> (repeat' (first | exact trivial | exact rfl | apply And.intro | exact fun _ => rfl | (intro _ hle; first | refine chunk_le hA rfl hle rfl ?_ | refine cat_le hA ?_ | refine upd_le hA ?_ | (try cbv))))
theorem put_full {P : Program} {G : Gl} (hP : P = Try.prog) {N s n : Nat} {S f : Nat → Int} {L : Int → Option (Nat → Int)} {ar : Bool} {ca a b : Int} (hN : N = 64 * s) (hs : s ≤ 4096) (h : 0 ≤ a ∧ a ≤ b ∧ b ≤ (s : Int)) (hn : n ≤ 65536) (hf : b - a < (needN n : Int)) :
    FnTr P G 12 [.ptr 0 0, .int .i64 a, .int .i64 b, By n f] (DH N S L ar ca) 3 (Gives (.tup [.lit .i64 0, .lit .i64 2]) (DH N S L ar ca) 3) := by
  have c1 := sasked_ok (P := P) (G := G) (S := S) (L := L) (ar := ar) (ca := ca) hP hN hs h
  obtain ⟨m, hm⟩ : ∃ m, m = needN n := ⟨_, rfl⟩
  have c2 := need_fn (P := P) (G := G) (n := (n : Int)) (m := m) hP (by omega) hm
  rw [← hm] at hf
  have hT : T.Ok P := hP ▸ T_ok
  refine FnTr.intro (fn := Try.f12) (c := bodyOf Try.f12) (by rw [hP]; rfl) rfl rfl hT ?_
  generalize hA : Ar.real = A
  generalize hK : Gives _ _ _ = K
  cbv
  refine CS.le hA (c1) [(0, 0), (1, 1), (2, 2)] rfl rfl rfl ?_ ?_ ?_
  · (try cbv) <;> (repeat' (first | exact trivial | exact rfl | apply And.intro | exact fun _ => rfl | (intro _ hle; first | refine chunk_le hA rfl hle rfl ?_ | refine cat_le hA ?_ | refine upd_le hA ?_ | (try cbv)))) <;> (try (subst hA; (try simp only [natCast_eq] at *); (try (simp only [Ar.real, NV.val, Int.ofNat_eq_natCast, Int.toNat_natCast])); first | done | omega | decide | exact inR64 (by omega) (by omega) | (refine ⟨?_, ?_⟩ <;> first | omega | decide | exact inR64 (by omega) (by omega))))
  · (try cbv) <;> (repeat' (first | exact trivial | exact rfl | apply And.intro | exact fun _ => rfl | (intro _ hle; first | refine chunk_le hA rfl hle rfl ?_ | refine cat_le hA ?_ | refine upd_le hA ?_ | (try cbv))))
  cbv
  have k1 : A.gt (A.i2 n) 65536 = false := by subst hA; simp [Ar.real]; omega
  repeat' (first | (refine ⟨fun h => absurd (h.symm.trans k1) (by decide), fun _ => ?_⟩; cbv) | (refine ⟨fun _ => ?_, fun h => absurd (h.symm.trans k1) (by decide)⟩; cbv))
  refine CS.le hA (c2) [] rfl rfl rfl ?_ ?_ ?_
  · (try cbv) <;> (repeat' (first | exact trivial | exact rfl | apply And.intro | exact fun _ => rfl | (intro _ hle; first | refine chunk_le hA rfl hle rfl ?_ | refine cat_le hA ?_ | refine upd_le hA ?_ | (try cbv)))) <;> (try (subst hA; (try simp only [natCast_eq] at *); (try (simp only [Ar.real, NV.val, Int.ofNat_eq_natCast, Int.toNat_natCast])); first | done | omega | decide | exact inR64 (by omega) (by omega) | (refine ⟨?_, ?_⟩ <;> first | omega | decide | exact inR64 (by omega) (by omega))))
  · (try cbv) <;> (repeat' (first | exact trivial | exact rfl | apply And.intro | exact fun _ => rfl | (intro _ hle; first | refine chunk_le hA rfl hle rfl ?_ | refine cat_le hA ?_ | refine upd_le hA ?_ | (try cbv))))
  cbv
  have k2 : A.gt (m : Int) (A.sub b a) = true := by subst hA; simp only [natCast_eq] at *; simp [Ar.real]; omega
  refine ⟨(by (subst hA; (try simp only [natCast_eq] at *); (try (simp only [Ar.real, NV.val, Int.ofNat_eq_natCast, Int.toNat_natCast])); first | done | omega | decide | exact inR64 (by omega) (by omega) | (refine ⟨?_, ?_⟩ <;> first | omega | decide | exact inR64 (by omega) (by omega)))), ?_⟩
  repeat' (first | (refine ⟨fun h => absurd (h.symm.trans k2) (by decide), fun _ => ?_⟩; cbv) | (refine ⟨fun _ => ?_, fun h => absurd (h.symm.trans k2) (by decide)⟩; cbv))
  refine Fin.le hA 3 [] (.tup [.lit .i64 0, .lit .i64 2]) (DH N S L ar ca) 3 rfl rfl rfl ?_ ?_ (by rw [← hK]; exact ⟨rfl, rfl, rfl⟩)
  · (try cbv) <;> (repeat' (first | exact trivial | exact rfl | apply And.intro | exact fun _ => rfl | (intro _ hle; first | refine chunk_le hA rfl hle rfl ?_ | refine cat_le hA ?_ | refine upd_le hA ?_ | (try cbv))))
  · (try cbv) <;> (repeat' (first | exact trivial | exact rfl | apply And.intro | exact fun _ => rfl | (intro _ hle; first | refine chunk_le hA rfl hle rfl ?_ | refine cat_le hA ?_ | refine upd_le hA ?_ | (try cbv))))
theorem put_ok {P : Program} {G : Gl} (hP : P = Try.prog) {N s n first fin k : Nat} {S f : Nat → Int} {L L' : Int → Option (Nat → Int)} {ar : Bool} {ca ca' at' e' : Int} (hN : N = 64 * s) (hs : s ≤ 4096) (h : first + needN n ≤ fin ∧ fin ≤ s) (hn : n ≤ 65536)
    (hca : 0 ≤ ca ∧ ca ≤ 9223372036854775807) (hk : (ar = false ∧ k = needN n) ∨ (ar = true ∧ k = min (needN n) ca.toNat)) (hL : ∀ i, L' i = if (first : Int) ≤ i ∧ i < (first : Int) + k then some (pcs n f (i - first).toNat) else L i) (hc : ca' = if ar then ca - k else ca)
    (he : (k = needN n ∧ at' = ((first + needN n : Nat) : Int) ∧ e' = 0) ∨ (k < needN n ∧ at' = 0 ∧ e' = 6)) :
    FnTr P G 12 [.ptr 0 0, .int .i64 (first : Int), .int .i64 (fin : Int), By n f] (DH N S L ar ca) 3 (Gives (.tup [.int .i64 at', .int .i64 e']) (DH N S L' ar ca') 3) := by
  have c1 := sasked_ok (P := P) (G := G) (S := S) (L := L) (ar := ar) (ca := ca) (a := (first : Int)) (b := (fin : Int)) hP hN hs (by omega)
  obtain ⟨m, hm⟩ : ∃ m, m = needN n := ⟨_, rfl⟩
  have c2 := need_fn (P := P) (G := G) (n := (n : Int)) (m := m) hP (by omega) hm
  have c3 := pieces_fn (P := P) (G := G) (n := n) (f := f) hP
  have hmn : 62 * m < n + 62 + (if n = 0 then 62 else 0) ∧ n ≤ 62 * m ∧ 1 ≤ m := by rw [hm]; unfold needN; split <;> omega
  rw [← hm] at h he hk
  have hkm : k ≤ m := by omega
  obtain ⟨aj, haj⟩ : ∃ aj : Nat → Int, aj = fun (j : Nat) => ((first + j : Nat) : Int) := ⟨_, rfl⟩
  obtain ⟨cj, hcj⟩ : ∃ cj : Nat → Int, cj = fun (j : Nat) => if ar then ca - (j : Int) else ca := ⟨_, rfl⟩
  obtain ⟨nj, hnj⟩ : ∃ nj : Nat → Nat, nj = fun (j : Nat) => n - 62 * j := ⟨_, rfl⟩
  obtain ⟨fj, hfj⟩ : ∃ fj : Nat → Nat → Int, fj = fun (j x : Nat) => f (62 * j + x) := ⟨_, rfl⟩
  obtain ⟨pj, hpj⟩ : ∃ pj : Nat → Nat → Int, pj = fun (j : Nat) => pcs n f j := ⟨_, rfl⟩
  obtain ⟨Lj, hLj⟩ : ∃ Lj : Nat → Int → Option (Nat → Int), Lj = fun (j : Nat) (i : Int) => if (first : Int) ≤ i ∧ i < (first : Int) + (j : Int) then some (pj (i - first).toNat) else L i := ⟨_, rfl⟩
  have a0 : (first : Int) = aj 0 := by rw [haj]; simp
  have n0 : n = nj 0 := by rw [hnj]; simp
  have f0 : ∀ x, f x = fj 0 x := fun x => by rw [hfj]; simp
  have ca0 : ca = cj 0 := by rw [hcj]; simp
  have L0 : ∀ i, L i = Lj 0 i := fun i => by rw [hLj]; simp only []; rw [if_neg (by omega)]
  have Lk : ∀ i, Lj k i = L' i := fun i => by rw [hLj, hL i, hpj]
  have ck : cj k = ca' := by rw [hcj, hc]
  have hkc : ar = true → (k : Int) ≤ ca := fun q => by
    rcases hk with hk | hk
    · rw [q] at hk; cases hk.1
    · omega
  have cjv : ∀ j, j ≤ k → 0 ≤ cj j ∧ cj j ≤ 9223372036854775807 := fun j hj => by
    rw [hcj]; simp only []
    split
    · rename_i q; have := hkc q; omega
    · exact hca
  have cjS : ∀ j, cj (j + 1) = if ar then cj j - 1 else cj j := fun j => by
    rw [hcj]; simp only []
    split <;> omega
  have cj0 : ∀ j, j < k → ¬ (ar = true ∧ cj j = 0) := fun j hj => by
    rw [hcj]; simp only []
    rintro ⟨q1, q2⟩
    rw [if_pos q1] at q2
    have := hkc q1; omega
  have ckz : k < m → ar = true ∧ cj k = 0 := fun q => by
    rcases hk with hk | hk
    · omega
    · refine ⟨hk.1, ?_⟩
      rw [hcj]; simp only []
      rw [if_pos hk.1]; omega
  have cw : ∀ j, j < k → FnTr P G 35 [.ptr 0 0, .int .i64 (aj j), By 64 (pj j)] (DH N S (Lj j) ar (cj j)) 3 (Gives (.lit .i64 0) (DH N S (Lj (j + 1)) ar (cj (j + 1))) 3) := fun j hj => by
    have q := write_ok (P := P) (G := G) (N := N) (s := s) (n := 64) (i := first + j) (S := S) (f := pj j) (L := Lj j) (L' := Lj (j + 1)) (ar := ar) (ca := cj j) (ca' := cj (j + 1)) hP (cj0 j hj) hN hs (by omega) rfl (fun i => by
      rw [hLj]
      simp only []
      by_cases e : i = ((first + j : Nat) : Int)
      · rw [if_pos e, if_pos (by omega), show (i - (first : Int)).toNat = j by omega]
      · rw [if_neg e]
        by_cases e2 : (first : Int) ≤ i ∧ i < (first : Int) + (j : Int)
        · rw [if_pos e2, if_pos (by omega)]
        · rw [if_neg e2, if_neg (by omega)]) (cjS j) (cjv j (by omega))
    rw [haj]
    exact q
  have cz : k < m → FnTr P G 35 [.ptr 0 0, .int .i64 (aj k), By 64 (pj k)] (DH N S (Lj k) ar (cj k)) 3 (Gives (.lit .i64 6) (DH N S (Lj k) ar (cj k)) 3) := fun hj =>
    write_off hP (ckz hj)
  have aS : ∀ j, j < m → aj (j + 1) = aj j + 1 ∧ 0 ≤ aj j ∧ aj j ≤ 4096 := fun j hj => by rw [haj]; simp only []; omega
  have nS : ∀ j, j < m → (nj (j + 1) = nj j - min (nj j) 62 ∧ (nj (j + 1) = 0 ↔ j + 1 = m) ∧ nj j ≤ 65536) := fun j hj => by
    rw [hnj]; simp only []
    refine ⟨by omega, ⟨fun q => ?_, fun q => ?_⟩, by omega⟩ <;> split at hmn <;> omega
  have fS : ∀ j x, fj (j + 1) x = fj j (62 + x) := fun j x => by rw [hfj]; simp only []; congr 1; omega
  have am : aj m = ((first + m : Nat) : Int) := by rw [haj]
  have pS : ∀ j x, x < 64 → pj j x = if x < 62 then (if x < nj j then fj j x else 0) else if x = 62 then ((min (nj j) 62 : Nat) : Int) else if nj j > 62 then 1 else 2 := fun j x hx => by
    rw [hpj, hnj, hfj]; simp only []; unfold pcs
    by_cases e : x < 62
    · rw [if_pos e, if_pos e]
      by_cases e2 : 62 * j + x < n
      · rw [if_pos e2, if_pos (by omega)]
      · rw [if_neg e2, if_neg (by omega)]
    · rw [if_neg e, if_neg e]
      by_cases e2 : x = 62
      · rw [if_pos e2, if_pos e2]
      · rw [if_neg e2, if_neg e2, if_pos (by omega)]
  have m1 : 0 < m := by omega
  obtain ⟨zj, hzj⟩ : ∃ zj : Nat → Nat → Int, zj = fun j x => if x < nj j ∧ x < 62 then fj j x else 0 := ⟨_, rfl⟩
  have zS : ∀ j x, zj j x = if x < nj j ∧ x < 62 then fj j x else 0 := fun j x => by rw [hzj]
  have hSl : SlTy P _ := hP ▸ sl_ty
  clear haj hcj hnj hzj hfj hpj hLj hL hc hmn hk hkc cjv cjS cj0 ckz
  have hT : T.Ok P := hP ▸ T_ok
  refine FnTr.intro (fn := Try.f12) (c := bodyOf Try.f12) (by rw [hP]; rfl) rfl rfl hT ?_
  generalize hA : Ar.real = A
  generalize hK : Gives _ _ _ = K
  cbv
  refine CS.le hA (c1) [(0, 0), (1, 1), (2, 2)] rfl rfl rfl ?_ ?_ ?_
  · (try cbv) <;> (repeat' (first | exact trivial | exact rfl | apply And.intro | exact fun _ => rfl | (intro _ hle; first | refine chunk_le hA rfl hle rfl ?_ | refine cat_le hA ?_ | refine upd_le hA ?_ | (try cbv)))) <;> (try (subst hA; (try simp only [natCast_eq] at *); (try (simp only [Ar.real, NV.val, Int.ofNat_eq_natCast, Int.toNat_natCast])); first | done | omega | decide | exact inR64 (by omega) (by omega) | (refine ⟨?_, ?_⟩ <;> first | omega | decide | exact inR64 (by omega) (by omega))))
  · (try cbv) <;> (repeat' (first | exact trivial | exact rfl | apply And.intro | exact fun _ => rfl | (intro _ hle; first | refine chunk_le hA rfl hle rfl ?_ | refine cat_le hA ?_ | refine upd_le hA ?_ | (try cbv))))
  cbv
  have k1 : A.gt (A.i2 n) 65536 = false := by subst hA; simp [Ar.real]; omega
  repeat' (first | (refine ⟨fun h => absurd (h.symm.trans k1) (by decide), fun _ => ?_⟩; cbv) | (refine ⟨fun _ => ?_, fun h => absurd (h.symm.trans k1) (by decide)⟩; cbv))
  refine CS.le hA (c2) [] rfl rfl rfl ?_ ?_ ?_
  · (try cbv) <;> (repeat' (first | exact trivial | exact rfl | apply And.intro | exact fun _ => rfl | (intro _ hle; first | refine chunk_le hA rfl hle rfl ?_ | refine cat_le hA ?_ | refine upd_le hA ?_ | (try cbv)))) <;> (try (subst hA; (try simp only [natCast_eq] at *); (try (simp only [Ar.real, NV.val, Int.ofNat_eq_natCast, Int.toNat_natCast])); first | done | omega | decide | exact inR64 (by omega) (by omega) | (refine ⟨?_, ?_⟩ <;> first | omega | decide | exact inR64 (by omega) (by omega))))
  · (try cbv) <;> (repeat' (first | exact trivial | exact rfl | apply And.intro | exact fun _ => rfl | (intro _ hle; first | refine chunk_le hA rfl hle rfl ?_ | refine cat_le hA ?_ | refine upd_le hA ?_ | (try cbv))))
  cbv
  have k2 : A.gt (m : Int) (A.sub (fin : Int) (first : Int)) = false := by subst hA; simp only [natCast_eq] at *; simp [Ar.real]; omega
  refine ⟨(by (subst hA; (try simp only [natCast_eq] at *); (try (simp only [Ar.real, NV.val, Int.ofNat_eq_natCast, Int.toNat_natCast])); first | done | omega | decide | exact inR64 (by omega) (by omega) | (refine ⟨?_, ?_⟩ <;> first | omega | decide | exact inR64 (by omega) (by omega)))), ?_⟩
  repeat' (first | (refine ⟨fun h => absurd (h.symm.trans k2) (by decide), fun _ => ?_⟩; cbv) | (refine ⟨fun _ => ?_, fun h => absurd (h.symm.trans k2) (by decide)⟩; cbv))
  refine CS.le hA (c3) [] rfl rfl rfl ?_ ?_ ?_
  · (try cbv) <;> (repeat' (first | exact trivial | exact rfl | apply And.intro | exact fun _ => rfl | (intro _ hle; first | refine chunk_le hA rfl hle rfl ?_ | refine cat_le hA ?_ | refine upd_le hA ?_ | (try cbv)))) <;> (try (subst hA; (try simp only [natCast_eq] at *); (try (simp only [Ar.real, NV.val, Int.ofNat_eq_natCast, Int.toNat_natCast])); first | done | omega | decide | exact inR64 (by omega) (by omega) | (refine ⟨?_, ?_⟩ <;> first | omega | decide | exact inR64 (by omega) (by omega))))
  · (try cbv) <;> (repeat' (first | exact trivial | exact rfl | apply And.intro | exact fun _ => rfl | (intro _ hle; first | refine chunk_le hA rfl hle rfl ?_ | refine cat_le hA ?_ | refine upd_le hA ?_ | (try cbv))))
  cbv
  refine FS.run hA (fn := Try.f59) (body := bodyOf Try.f59) (by rw [hP]; rfl) rfl rfl rfl hT rfl ?_
  intro l
  cbv
  clear c1 c2 c3 k1 k2 hN hs hca
  refine LS.leU hT hA 32 (fun _ => []) [] (fun j => [(0, .cells 76 [.sl 1 1 (.l 0) (.s N), .mp 2, .bs ar, .int .i64 (cj j)]), (2, .wm 64 (Lj j)), (27, .cells 3 [.int .i64 (aj j)]), (30, .cells 23 [By (nj j) (fj j)])]) (fun j => j ≤ k ∧ j < m) (fun j => m - j) 0 [] rfl rfl ?_ ?_ ?_
  · (try cbv) <;> (repeat' (first | exact trivial | exact rfl | apply And.intro | exact fun _ => rfl | (intro _ hle; first | refine chunk_le hA rfl hle rfl ?_ | refine cat_le hA ?_ | refine upd_le hA ?_ | (try cbv))))
    all_goals first | exact n0 | exact f0 _ | exact a0 | exact L0 | exact ca0
  · exact ⟨Nat.zero_le _, m1⟩
  · intro R hR j hj
    have hnj := nS j hj.2
    have haj := aS j hj.2
    cbv
    by_cases hl : j + 1 = m
    · refine ⟨⟨(by (subst hA; (try simp only [natCast_eq] at *); (try (simp only [Ar.real, NV.val, Int.ofNat_eq_natCast, Int.toNat_natCast])); first | done | omega | decide | exact inR64 (by omega) (by omega) | (refine ⟨?_, ?_⟩ <;> first | omega | decide | exact inR64 (by omega) (by omega)))), (by (subst hA; (try simp only [natCast_eq] at *); (try (simp only [Ar.real, NV.val, Int.ofNat_eq_natCast, Int.toNat_natCast])); first | done | omega | decide | exact inR64 (by omega) (by omega) | (refine ⟨?_, ?_⟩ <;> first | omega | decide | exact inR64 (by omega) (by omega)))), (by (subst hA; (try simp only [natCast_eq] at *); (try (simp only [Ar.real, NV.val, Int.ofNat_eq_natCast, Int.toNat_natCast])); first | done | omega | decide | exact inR64 (by omega) (by omega) | (refine ⟨?_, ?_⟩ <;> first | omega | decide | exact inR64 (by omega) (by omega)))), (by (subst hA; (try simp only [natCast_eq] at *); (try (simp only [Ar.real, NV.val, Int.ofNat_eq_natCast, Int.toNat_natCast])); first | done | omega | decide | exact inR64 (by omega) (by omega) | (refine ⟨?_, ?_⟩ <;> first | omega | decide | exact inR64 (by omega) (by omega))))⟩, ⟨(by (subst hA; (try simp only [natCast_eq] at *); (try (simp only [Ar.real, NV.val, Int.ofNat_eq_natCast, Int.toNat_natCast])); first | done | omega | decide | exact inR64 (by omega) (by omega) | (refine ⟨?_, ?_⟩ <;> first | omega | decide | exact inR64 (by omega) (by omega)))), (by (subst hA; (try simp only [natCast_eq] at *); (try (simp only [Ar.real, NV.val, Int.ofNat_eq_natCast, Int.toNat_natCast])); first | done | omega | decide | exact inR64 (by omega) (by omega) | (refine ⟨?_, ?_⟩ <;> first | omega | decide | exact inR64 (by omega) (by omega)))), (by (subst hA; (try simp only [natCast_eq] at *); (try (simp only [Ar.real, NV.val, Int.ofNat_eq_natCast, Int.toNat_natCast])); first | done | omega | decide | exact inR64 (by omega) (by omega) | (refine ⟨?_, ?_⟩ <;> first | omega | decide | exact inR64 (by omega) (by omega))))⟩, ?_⟩
      refine OS.did (copy_did (S := fun _ => 0) (S' := zj j) hSl rfl rfl rfl rfl (fun e _ => ⟨_, rfl, rfl⟩) rfl (Ints.shift hA (.l 0) (Ints.base .u8 (fj j) (nj j)) (by (subst hA; (try simp only [natCast_eq] at *); (try (simp only [Ar.real, NV.val, Int.ofNat_eq_natCast, Int.toNat_natCast])); first | done | omega | decide | exact inR64 (by omega) (by omega) | (refine ⟨?_, ?_⟩ <;> first | omega | decide | exact inR64 (by omega) (by omega))))) (by decide) (fun i hi => by
        rw [zS j i]
        by_cases q : i < nj j ∧ i < 62
        · rw [if_pos q, if_pos (by subst hA; simp only [Ar.real, NV.val]; split <;> omega)]
          show fj j i = fj j (0 + (i - 0))
          rw [Nat.sub_zero, Nat.zero_add]
        · rw [if_neg q, if_neg (by subst hA; simp only [Ar.real, NV.val]; split <;> omega)])) ?_
      cbv
      refine ⟨⟨(by (subst hA; (try simp only [natCast_eq] at *); (try (simp only [Ar.real, NV.val, Int.ofNat_eq_natCast, Int.toNat_natCast])); first | done | omega | decide | exact inR64 (by omega) (by omega) | (refine ⟨?_, ?_⟩ <;> first | omega | decide | exact inR64 (by omega) (by omega)))), (by (subst hA; (try simp only [natCast_eq] at *); (try (simp only [Ar.real, NV.val, Int.ofNat_eq_natCast, Int.toNat_natCast])); first | done | omega | decide | exact inR64 (by omega) (by omega) | (refine ⟨?_, ?_⟩ <;> first | omega | decide | exact inR64 (by omega) (by omega)))), (by (subst hA; (try simp only [natCast_eq] at *); (try (simp only [Ar.real, NV.val, Int.ofNat_eq_natCast, Int.toNat_natCast])); first | done | omega | decide | exact inR64 (by omega) (by omega) | (refine ⟨?_, ?_⟩ <;> first | omega | decide | exact inR64 (by omega) (by omega))))⟩, ?_⟩
      have k3 : A.gt (A.i2 (A.subN (nj j) (A.nat (A.min (A.i2 (nj j)) 62)))) 0 = false := by subst hA; simp only [Ar.real]; simp; split <;> omega
      repeat' (first | (refine ⟨fun h => absurd (h.symm.trans k3) (by decide), fun _ => ?_⟩; cbv) | (refine ⟨fun _ => ?_, fun h => absurd (h.symm.trans k3) (by decide)⟩; cbv))
      have hp : ∀ e, ltNV A e (.l 64) → leL (leSV A 4) (updF A 1 (.l 63) 0 [.lit .u8 2] (updF A 1 (.l 62) 0 [.int .u8 (A.conv .u8 (A.min (A.i2 (nj j)) 62))] fun e => [.int .u8 (zj j e.val)]) e) [.int .u8 (pj j e.val)] := fun e he => by
        refine Ints.le hA (Ints.updl hA 63 (v := 2) rfl (Ints.updl hA 62 (v := A.conv .u8 (A.min (A.i2 (nj j)) 62)) rfl (Ints.base .u8 (zj j) 64))) he (Nat.le_refl _) ?_
        have hlt : e.val < 64 := ltNV_real.1 (hA ▸ he)
        have hv : A.conv .u8 (A.min (A.i2 (nj j)) 62) = ((min (nj j) 62 : Nat) : Int) := by subst hA; exact conv62 (nj j)
        show (if e.val = 63 then 2 else if e.val = 62 then A.conv .u8 (A.min (A.i2 (nj j)) 62) else zj j e.val) = pj j e.val
        rw [pS j e.val hlt, zS, hv]
        by_cases q1 : e.val < 62
        · rw [if_neg (by omega), if_neg (by omega), if_pos q1]
          by_cases q2 : e.val < nj j
          · rw [if_pos ⟨q2, q1⟩, if_pos q2]
          · rw [if_neg (fun q => q2 q.1), if_neg q2]
        · rw [if_neg q1]
          by_cases q2 : e.val = 62
          · rw [if_neg (by omega), if_pos q2, if_pos q2]
          · rw [if_pos (by omega), if_neg q2, if_neg (by omega)]
      refine OS.yield hA (i := 31) hT rfl rfl rfl rfl rfl rfl ?_
      cbv
      by_cases hjk : j < k
      · skip
        refine CS.frzA hA (by (try cbv) <;> (repeat' (first | exact trivial | exact rfl | apply And.intro | exact fun _ => rfl | (intro _ hle; first | refine chunk_le hA rfl hle rfl ?_ | refine cat_le hA ?_ | refine upd_le hA ?_ | (try cbv)))); all_goals (subst hA; (try simp only [natCast_eq] at *); (try (simp only [Ar.real, NV.val, Int.ofNat_eq_natCast, Int.toNat_natCast])); first | done | omega | decide | exact inR64 (by omega) (by omega) | (refine ⟨?_, ?_⟩ <;> first | omega | decide | exact inR64 (by omega) (by omega)))) ?_
        cbv
        refine CS.le hA (cw j hjk) [(0, 0), (1, 1), (2, 2)] rfl rfl rfl ?_ ?_ ?_
        · (try cbv) <;> (repeat' (first | exact trivial | exact rfl | apply And.intro | exact fun _ => rfl | (intro _ hle; first | exact hp _ hle | refine chunk_le hA rfl hle rfl ?_ | refine cat_le hA ?_ | refine upd_le hA ?_ | refine int_le ?_ | skip)))
        · (try cbv) <;> (repeat' (first | exact trivial | exact rfl | apply And.intro | exact fun _ => rfl | (intro _ hle; first | refine chunk_le hA rfl hle rfl ?_ | refine cat_le hA ?_ | refine upd_le hA ?_ | (try cbv))))
        cbv
        have k4 : A.eq (A.i2 (A.subN (nj j) (A.nat (A.min (A.i2 (nj j)) 62)))) 0 = true := by subst hA; simp only [Ar.real]; simp; split <;> omega
        refine ⟨(by (subst hA; (try simp only [natCast_eq] at *); (try (simp only [Ar.real, NV.val, Int.ofNat_eq_natCast, Int.toNat_natCast])); first | done | omega | decide | exact inR64 (by omega) (by omega) | (refine ⟨?_, ?_⟩ <;> first | omega | decide | exact inR64 (by omega) (by omega)))), ?_⟩
        repeat' (first | (refine ⟨fun h => absurd (h.symm.trans k4) (by decide), fun _ => ?_⟩; cbv) | (refine ⟨fun _ => ?_, fun h => absurd (h.symm.trans k4) (by decide)⟩; cbv))
        clear hR
        have hk' : k = j + 1 := by omega
        have he' : at' = ((first + m : Nat) : Int) ∧ e' = 0 := by
          rcases he with he | he
          · exact he.2
          · omega
        have ha' : aj j + 1 = at' := by rw [← haj.1, hl, am, he'.1]
        rw [hk'] at Lk ck
        refine Fin.le hA 3 [] (.tup [.int .i64 at', .int .i64 e']) (DH N S L' ar ca') 3 rfl rfl rfl ?_ ?_ (by rw [← hK]; exact ⟨rfl, rfl, rfl⟩)
        · (try cbv) <;> (repeat' (first | exact trivial | exact rfl | apply And.intro | exact fun _ => rfl | (intro _ hle; first | refine chunk_le hA rfl hle rfl ?_ | refine cat_le hA ?_ | refine upd_le hA ?_ | (try cbv))))
          · subst hA
            exact ha'
          · exact he'.2.symm
        · (try cbv) <;> (repeat' (first | exact trivial | exact rfl | apply And.intro | exact fun _ => rfl | (intro _ hle; first | refine chunk_le hA rfl hle rfl ?_ | refine cat_le hA ?_ | refine upd_le hA ?_ | (try cbv))))
          all_goals first | exact Lk | exact ck
      · have hjk : j = k := by omega
        have hkm' : k < m := by omega
        have he' : at' = 0 ∧ e' = 6 := by omega
        subst hjk
        refine CS.frzA hA (by (try cbv) <;> (repeat' (first | exact trivial | exact rfl | apply And.intro | exact fun _ => rfl | (intro _ hle; first | refine chunk_le hA rfl hle rfl ?_ | refine cat_le hA ?_ | refine upd_le hA ?_ | (try cbv)))); all_goals (subst hA; (try simp only [natCast_eq] at *); (try (simp only [Ar.real, NV.val, Int.ofNat_eq_natCast, Int.toNat_natCast])); first | done | omega | decide | exact inR64 (by omega) (by omega) | (refine ⟨?_, ?_⟩ <;> first | omega | decide | exact inR64 (by omega) (by omega)))) ?_
        cbv
        refine CS.le hA (cz hkm') [(0, 0), (1, 1), (2, 2)] rfl rfl rfl ?_ ?_ ?_
        · (try cbv) <;> (repeat' (first | exact trivial | exact rfl | apply And.intro | exact fun _ => rfl | (intro _ hle; first | exact hp _ hle | refine chunk_le hA rfl hle rfl ?_ | refine cat_le hA ?_ | refine upd_le hA ?_ | refine int_le ?_ | skip)))
        · (try cbv) <;> (repeat' (first | exact trivial | exact rfl | apply And.intro | exact fun _ => rfl | (intro _ hle; first | refine chunk_le hA rfl hle rfl ?_ | refine cat_le hA ?_ | refine upd_le hA ?_ | (try cbv))))
        cbv
        clear hR
        refine Fin.le hA 3 [] (.tup [.int .i64 at', .int .i64 e']) (DH N S L' ar ca') 3 rfl rfl rfl ?_ ?_ (by rw [← hK]; exact ⟨rfl, rfl, rfl⟩)
        · (try cbv) <;> (repeat' (first | exact trivial | exact rfl | apply And.intro | exact fun _ => rfl | (intro _ hle; first | refine chunk_le hA rfl hle rfl ?_ | refine cat_le hA ?_ | refine upd_le hA ?_ | (try cbv))))
          · exact he'.1.symm
          · exact he'.2.symm
        · (try cbv) <;> (repeat' (first | exact trivial | exact rfl | apply And.intro | exact fun _ => rfl | (intro _ hle; first | refine chunk_le hA rfl hle rfl ?_ | refine cat_le hA ?_ | refine upd_le hA ?_ | (try cbv))))
          all_goals first | exact Lk | exact ck
    · refine ⟨⟨(by (subst hA; (try simp only [natCast_eq] at *); (try (simp only [Ar.real, NV.val, Int.ofNat_eq_natCast, Int.toNat_natCast])); first | done | omega | decide | exact inR64 (by omega) (by omega) | (refine ⟨?_, ?_⟩ <;> first | omega | decide | exact inR64 (by omega) (by omega)))), (by (subst hA; (try simp only [natCast_eq] at *); (try (simp only [Ar.real, NV.val, Int.ofNat_eq_natCast, Int.toNat_natCast])); first | done | omega | decide | exact inR64 (by omega) (by omega) | (refine ⟨?_, ?_⟩ <;> first | omega | decide | exact inR64 (by omega) (by omega)))), (by (subst hA; (try simp only [natCast_eq] at *); (try (simp only [Ar.real, NV.val, Int.ofNat_eq_natCast, Int.toNat_natCast])); first | done | omega | decide | exact inR64 (by omega) (by omega) | (refine ⟨?_, ?_⟩ <;> first | omega | decide | exact inR64 (by omega) (by omega)))), (by (subst hA; (try simp only [natCast_eq] at *); (try (simp only [Ar.real, NV.val, Int.ofNat_eq_natCast, Int.toNat_natCast])); first | done | omega | decide | exact inR64 (by omega) (by omega) | (refine ⟨?_, ?_⟩ <;> first | omega | decide | exact inR64 (by omega) (by omega))))⟩, ⟨(by (subst hA; (try simp only [natCast_eq] at *); (try (simp only [Ar.real, NV.val, Int.ofNat_eq_natCast, Int.toNat_natCast])); first | done | omega | decide | exact inR64 (by omega) (by omega) | (refine ⟨?_, ?_⟩ <;> first | omega | decide | exact inR64 (by omega) (by omega)))), (by (subst hA; (try simp only [natCast_eq] at *); (try (simp only [Ar.real, NV.val, Int.ofNat_eq_natCast, Int.toNat_natCast])); first | done | omega | decide | exact inR64 (by omega) (by omega) | (refine ⟨?_, ?_⟩ <;> first | omega | decide | exact inR64 (by omega) (by omega)))), (by (subst hA; (try simp only [natCast_eq] at *); (try (simp only [Ar.real, NV.val, Int.ofNat_eq_natCast, Int.toNat_natCast])); first | done | omega | decide | exact inR64 (by omega) (by omega) | (refine ⟨?_, ?_⟩ <;> first | omega | decide | exact inR64 (by omega) (by omega))))⟩, ?_⟩
      refine OS.did (copy_did (S := fun _ => 0) (S' := zj j) hSl rfl rfl rfl rfl (fun e _ => ⟨_, rfl, rfl⟩) rfl (Ints.shift hA (.l 0) (Ints.base .u8 (fj j) (nj j)) (by (subst hA; (try simp only [natCast_eq] at *); (try (simp only [Ar.real, NV.val, Int.ofNat_eq_natCast, Int.toNat_natCast])); first | done | omega | decide | exact inR64 (by omega) (by omega) | (refine ⟨?_, ?_⟩ <;> first | omega | decide | exact inR64 (by omega) (by omega))))) (by decide) (fun i hi => by
        rw [zS j i]
        by_cases q : i < nj j ∧ i < 62
        · rw [if_pos q, if_pos (by subst hA; simp only [Ar.real, NV.val]; split <;> omega)]
          show fj j i = fj j (0 + (i - 0))
          rw [Nat.sub_zero, Nat.zero_add]
        · rw [if_neg q, if_neg (by subst hA; simp only [Ar.real, NV.val]; split <;> omega)])) ?_
      cbv
      refine ⟨⟨(by (subst hA; (try simp only [natCast_eq] at *); (try (simp only [Ar.real, NV.val, Int.ofNat_eq_natCast, Int.toNat_natCast])); first | done | omega | decide | exact inR64 (by omega) (by omega) | (refine ⟨?_, ?_⟩ <;> first | omega | decide | exact inR64 (by omega) (by omega)))), (by (subst hA; (try simp only [natCast_eq] at *); (try (simp only [Ar.real, NV.val, Int.ofNat_eq_natCast, Int.toNat_natCast])); first | done | omega | decide | exact inR64 (by omega) (by omega) | (refine ⟨?_, ?_⟩ <;> first | omega | decide | exact inR64 (by omega) (by omega)))), (by (subst hA; (try simp only [natCast_eq] at *); (try (simp only [Ar.real, NV.val, Int.ofNat_eq_natCast, Int.toNat_natCast])); first | done | omega | decide | exact inR64 (by omega) (by omega) | (refine ⟨?_, ?_⟩ <;> first | omega | decide | exact inR64 (by omega) (by omega))))⟩, ?_⟩
      have k3 : A.gt (A.i2 (A.subN (nj j) (A.nat (A.min (A.i2 (nj j)) 62)))) 0 = true := by subst hA; simp only [Ar.real]; simp; split <;> omega
      repeat' (first | (refine ⟨fun h => absurd (h.symm.trans k3) (by decide), fun _ => ?_⟩; cbv) | (refine ⟨fun _ => ?_, fun h => absurd (h.symm.trans k3) (by decide)⟩; cbv))
      have hp : ∀ e, ltNV A e (.l 64) → leL (leSV A 4) (updF A 1 (.l 63) 0 [.lit .u8 1] (updF A 1 (.l 63) 0 [.lit .u8 2] (updF A 1 (.l 62) 0 [.int .u8 (A.conv .u8 (A.min (A.i2 (nj j)) 62))] fun e => [.int .u8 (zj j e.val)])) e) [.int .u8 (pj j e.val)] := fun e he => by
        refine Ints.le hA (Ints.updl hA 63 (v := 1) rfl (Ints.updl hA 63 (v := 2) rfl (Ints.updl hA 62 (v := A.conv .u8 (A.min (A.i2 (nj j)) 62)) rfl (Ints.base .u8 (zj j) 64)))) he (Nat.le_refl _) ?_
        have hlt : e.val < 64 := ltNV_real.1 (hA ▸ he)
        have hv : A.conv .u8 (A.min (A.i2 (nj j)) 62) = ((min (nj j) 62 : Nat) : Int) := by subst hA; exact conv62 (nj j)
        show (if e.val = 63 then 1 else if e.val = 63 then 2 else if e.val = 62 then A.conv .u8 (A.min (A.i2 (nj j)) 62) else zj j e.val) = pj j e.val
        rw [pS j e.val hlt, zS, hv]
        by_cases q1 : e.val < 62
        · rw [if_neg (by omega), if_neg (by omega), if_neg (by omega), if_pos q1]
          by_cases q2 : e.val < nj j
          · rw [if_pos ⟨q2, q1⟩, if_pos q2]
          · rw [if_neg (fun q => q2 q.1), if_neg q2]
        · rw [if_neg q1]
          by_cases q2 : e.val = 62
          · rw [if_neg (by omega), if_neg (by omega), if_pos q2, if_pos q2]
          · rw [if_pos (by omega), if_neg q2, if_pos (by omega)]
      refine OS.yield hA (i := 31) hT rfl rfl rfl rfl rfl rfl ?_
      cbv
      by_cases hjk : j < k
      · skip
        refine CS.frzA hA (by (try cbv) <;> (repeat' (first | exact trivial | exact rfl | apply And.intro | exact fun _ => rfl | (intro _ hle; first | refine chunk_le hA rfl hle rfl ?_ | refine cat_le hA ?_ | refine upd_le hA ?_ | (try cbv)))); all_goals (subst hA; (try simp only [natCast_eq] at *); (try (simp only [Ar.real, NV.val, Int.ofNat_eq_natCast, Int.toNat_natCast])); first | done | omega | decide | exact inR64 (by omega) (by omega) | (refine ⟨?_, ?_⟩ <;> first | omega | decide | exact inR64 (by omega) (by omega)))) ?_
        cbv
        refine CS.le hA (cw j hjk) [(0, 0), (1, 1), (2, 2)] rfl rfl rfl ?_ ?_ ?_
        · (try cbv) <;> (repeat' (first | exact trivial | exact rfl | apply And.intro | exact fun _ => rfl | (intro _ hle; first | exact hp _ hle | refine chunk_le hA rfl hle rfl ?_ | refine cat_le hA ?_ | refine upd_le hA ?_ | refine int_le ?_ | skip)))
        · (try cbv) <;> (repeat' (first | exact trivial | exact rfl | apply And.intro | exact fun _ => rfl | (intro _ hle; first | refine chunk_le hA rfl hle rfl ?_ | refine cat_le hA ?_ | refine upd_le hA ?_ | (try cbv))))
        cbv
        have k4 : A.eq (A.i2 (A.subN (nj j) (A.nat (A.min (A.i2 (nj j)) 62)))) 0 = false := by subst hA; simp only [Ar.real]; simp; split <;> omega
        refine ⟨(by (subst hA; (try simp only [natCast_eq] at *); (try (simp only [Ar.real, NV.val, Int.ofNat_eq_natCast, Int.toNat_natCast])); first | done | omega | decide | exact inR64 (by omega) (by omega) | (refine ⟨?_, ?_⟩ <;> first | omega | decide | exact inR64 (by omega) (by omega)))), ?_⟩
        repeat' (first | (refine ⟨fun h => absurd (h.symm.trans k4) (by decide), fun _ => ?_⟩; cbv) | (refine ⟨fun _ => ?_, fun h => absurd (h.symm.trans k4) (by decide)⟩; cbv))
        refine hR _ _ ⟨j + 1, 32, [], rfl, rfl, ?_, ⟨hjk, by omega⟩, (by show m - (j + 1) < m - j; omega)⟩
        clear hR
        have hbig : 62 < nj j := by omega
        have e62 : A.nat (A.min (A.i2 (nj j)) 62) = 62 := by subst hA; simp only [Ar.real]; split <;> omega
        (try cbv) <;> (repeat' (first | exact trivial | exact rfl | apply And.intro | exact fun _ => rfl | (intro _ hle; first | refine chunk_le hA rfl hle rfl ?_ | refine cat_le hA ?_ | refine upd_le hA ?_ | refine int_le ?_ | skip)))
        · have q : A.subN (nj j) (A.nat (A.min (A.i2 (nj j)) 62)) = nj (j + 1) := by
            rw [e62]
            subst hA
            show nj j - 62 = nj (j + 1)
            omega
          exact q
        · rw [e62, fS]
          subst hA
          congr 1
        · subst hA
          exact haj.1.symm
      · have hjk : j = k := by omega
        have hkm' : k < m := by omega
        have he' : at' = 0 ∧ e' = 6 := by omega
        subst hjk
        refine CS.frzA hA (by (try cbv) <;> (repeat' (first | exact trivial | exact rfl | apply And.intro | exact fun _ => rfl | (intro _ hle; first | refine chunk_le hA rfl hle rfl ?_ | refine cat_le hA ?_ | refine upd_le hA ?_ | (try cbv)))); all_goals (subst hA; (try simp only [natCast_eq] at *); (try (simp only [Ar.real, NV.val, Int.ofNat_eq_natCast, Int.toNat_natCast])); first | done | omega | decide | exact inR64 (by omega) (by omega) | (refine ⟨?_, ?_⟩ <;> first | omega | decide | exact inR64 (by omega) (by omega)))) ?_
        cbv
        refine CS.le hA (cz hkm') [(0, 0), (1, 1), (2, 2)] rfl rfl rfl ?_ ?_ ?_
        · (try cbv) <;> (repeat' (first | exact trivial | exact rfl | apply And.intro | exact fun _ => rfl | (intro _ hle; first | exact hp _ hle | refine chunk_le hA rfl hle rfl ?_ | refine cat_le hA ?_ | refine upd_le hA ?_ | refine int_le ?_ | skip)))
        · (try cbv) <;> (repeat' (first | exact trivial | exact rfl | apply And.intro | exact fun _ => rfl | (intro _ hle; first | refine chunk_le hA rfl hle rfl ?_ | refine cat_le hA ?_ | refine upd_le hA ?_ | (try cbv))))
        cbv
        clear hR
        refine Fin.le hA 3 [] (.tup [.int .i64 at', .int .i64 e']) (DH N S L' ar ca') 3 rfl rfl rfl ?_ ?_ (by rw [← hK]; exact ⟨rfl, rfl, rfl⟩)
        · (try cbv) <;> (repeat' (first | exact trivial | exact rfl | apply And.intro | exact fun _ => rfl | (intro _ hle; first | refine chunk_le hA rfl hle rfl ?_ | refine cat_le hA ?_ | refine upd_le hA ?_ | (try cbv))))
          · exact he'.1.symm
          · exact he'.2.symm
        · (try cbv) <;> (repeat' (first | exact trivial | exact rfl | apply And.intro | exact fun _ => rfl | (intro _ hle; first | refine chunk_le hA rfl hle rfl ?_ | refine cat_le hA ?_ | refine upd_le hA ?_ | (try cbv))))
          all_goals first | exact Lk | exact ck
end Go.Proofs.Ytnjjgipblimbfaa.Dsk
