/-
  Disks: a flush.
-/
import Derived.Test.YtnjjgipblimbfaaDskF9
import Derived.Test.YtnjjgipblimbfaaDskM
set_option linter.unusedVariables false
set_option linter.unusedSimpArgs false
namespace Go.Proofs.Ytnjjgipblimbfaa.Dsk
open Go.Eng
open Go.DskLaw (q64 secV FlInv FlInv.start FlInv.fin FlInv.step left_mem left_less)
set_option maxRecDepth 100000
set_option maxHeartbeats 4000000
set_option linter.unusedVariables false

/-- A disk whose map is open. -/
abbrev DN (N : Nat) (S : Nat → Int) (mb : Nat) (o : Obj) (ar : Bool) (ca : Int) : Hl :=
  [(0, .cells 76 [.sl 1 1 (.l 0) (.s N), .mp 2, .bs ar, .int .i64 ca]), (1, .row 5 1 (.s N) (fun e => [.int .u8 (S e.val)])), (2, .num mb o)]
theorem at_num {P : Program} {G : Gl} (hP : P = Try.prog) {N s i o mb : Nat} {ob : Obj} {S : Nat → Int} {ar : Bool} {ca : Int} (hN : N = 64 * s) (hs : s ≤ 4096) (hi : i < s) (ho : o = 64 * i) :
    FnTr P G 41 [.ptr 0 0, .int .i64 (i : Int)] (DN N S mb ob ar ca) 3 (Gives (.sl 1 1 (.s o) (.l 64)) (DN N S mb ob ar ca) 3) := by
  have hT : T.Ok P := hP ▸ T_ok
  refine FnTr.intro (fn := Try.f41) (c := bodyOf Try.f41) (by rw [hP]; rfl) rfl rfl hT ?_
  generalize hA : Ar.real = A
  generalize hK : Gives _ _ _ = K
  cbv
  refine ⟨(by (subst hA; (try simp only [natCast_eq] at *); (try (simp only [Ar.real, NV.val, Int.ofNat_eq_natCast, Int.toNat_natCast])); first | done | omega | decide | exact inR64 (by omega) (by omega) | (refine ⟨?_, ?_⟩ <;> first | omega | decide | exact inR64 (by omega) (by omega)))), (by (subst hA; (try simp only [natCast_eq] at *); (try (simp only [Ar.real, NV.val, Int.ofNat_eq_natCast, Int.toNat_natCast])); first | done | omega | decide | exact inR64 (by omega) (by omega) | (refine ⟨?_, ?_⟩ <;> first | omega | decide | exact inR64 (by omega) (by omega)))), (by (subst hA; (try simp only [natCast_eq] at *); (try (simp only [Ar.real, NV.val, Int.ofNat_eq_natCast, Int.toNat_natCast])); first | done | omega | decide | exact inR64 (by omega) (by omega) | (refine ⟨?_, ?_⟩ <;> first | omega | decide | exact inR64 (by omega) (by omega)))), ⟨(by (subst hA; (try simp only [natCast_eq] at *); (try (simp only [Ar.real, NV.val, Int.ofNat_eq_natCast, Int.toNat_natCast])); first | done | omega | decide | exact inR64 (by omega) (by omega) | (refine ⟨?_, ?_⟩ <;> first | omega | decide | exact inR64 (by omega) (by omega)))), (by (subst hA; (try simp only [natCast_eq] at *); (try (simp only [Ar.real, NV.val, Int.ofNat_eq_natCast, Int.toNat_natCast])); first | done | omega | decide | exact inR64 (by omega) (by omega) | (refine ⟨?_, ?_⟩ <;> first | omega | decide | exact inR64 (by omega) (by omega)))), (by (subst hA; (try simp only [natCast_eq] at *); (try (simp only [Ar.real, NV.val, Int.ofNat_eq_natCast, Int.toNat_natCast])); first | done | omega | decide | exact inR64 (by omega) (by omega) | (refine ⟨?_, ?_⟩ <;> first | omega | decide | exact inR64 (by omega) (by omega)))), (by (subst hA; (try simp only [natCast_eq] at *); (try (simp only [Ar.real, NV.val, Int.ofNat_eq_natCast, Int.toNat_natCast])); first | done | omega | decide | exact inR64 (by omega) (by omega) | (refine ⟨?_, ?_⟩ <;> first | omega | decide | exact inR64 (by omega) (by omega))))⟩, ?_⟩
  refine Fin.le hA 3 [] (.sl 1 1 (.s o) (.l 64)) (DN N S mb ob ar ca) 3 rfl rfl rfl ?_ ?_ (by rw [← hK]; exact ⟨rfl, rfl, rfl⟩)
  · (try cbv) <;> (repeat' (first | exact trivial | exact rfl | apply And.intro | exact fun _ => rfl | (intro _ hle; first | refine chunk_le hA rfl hle rfl ?_ | refine cat_le hA ?_ | refine upd_le hA ?_ | (try cbv))))
    all_goals (subst hA; (try simp only [natCast_eq] at *); (try (simp only [Ar.real, NV.val, Int.ofNat_eq_natCast, Int.toNat_natCast])); first | done | omega | decide | exact inR64 (by omega) (by omega) | (refine ⟨?_, ?_⟩ <;> first | omega | decide | exact inR64 (by omega) (by omega)))
  · (try cbv) <;> (repeat' (first | exact trivial | exact rfl | apply And.intro | exact fun _ => rfl | (intro _ hle; first | refine chunk_le hA rfl hle rfl ?_ | refine cat_le hA ?_ | refine upd_le hA ?_ | (try cbv))))

theorem flush_nil {P : Program} {G : Gl} (hP : P = Try.prog) : FnTr P G 17 [.nilp] [] 0 (Gives (.lit .i64 7) [] 0) := by
  have c1 := asked_nil (P := P) (G := G) (i := 0) hP
  have hT : T.Ok P := hP ▸ T_ok
  refine FnTr.intro (fn := Try.f17) (c := bodyOf Try.f17) (by rw [hP]; rfl) rfl rfl hT ?_
  generalize hA : Ar.real = A
  generalize hK : Gives _ _ _ = K
  cbv
  refine CS.le hA (c1) [] rfl rfl rfl ?_ ?_ ?_
  · (try cbv) <;> (repeat' (first | exact trivial | exact rfl | apply And.intro | exact fun _ => rfl | (intro _ hle; first | refine chunk_le hA rfl hle rfl ?_ | refine cat_le hA ?_ | refine upd_le hA ?_ | (try cbv)))) <;> (try (subst hA; (try simp only [natCast_eq] at *); (try (simp only [Ar.real, NV.val, Int.ofNat_eq_natCast, Int.toNat_natCast])); first | done | omega | decide | exact inR64 (by omega) (by omega) | (refine ⟨?_, ?_⟩ <;> first | omega | decide | exact inR64 (by omega) (by omega))))
  · (try cbv) <;> (repeat' (first | exact trivial | exact rfl | apply And.intro | exact fun _ => rfl | (intro _ hle; first | refine chunk_le hA rfl hle rfl ?_ | refine cat_le hA ?_ | refine upd_le hA ?_ | (try cbv))))
  cbv
  refine Fin.le hA 0 [] (.lit .i64 7) ([]) 0 rfl rfl rfl ?_ ?_ (by rw [← hK]; exact ⟨rfl, rfl, rfl⟩)
  · (try cbv) <;> (repeat' (first | exact trivial | exact rfl | apply And.intro | exact fun _ => rfl | (intro _ hle; first | refine chunk_le hA rfl hle rfl ?_ | refine cat_le hA ?_ | refine upd_le hA ?_ | (try cbv))))
  · (try cbv) <;> (repeat' (first | exact trivial | exact rfl | apply And.intro | exact fun _ => rfl | (intro _ hle; first | refine chunk_le hA rfl hle rfl ?_ | refine cat_le hA ?_ | refine upd_le hA ?_ | (try cbv))))
theorem flush_off {P : Program} {G : Gl} (hP : P = Try.prog) {N : Nat} {S : Nat → Int} {L : Int → Option (Nat → Int)} {ar : Bool} {ca : Int} (h : ar = true ∧ ca = 0) :
    FnTr P G 17 [.ptr 0 0] (DH N S L ar ca) 3 (Gives (.lit .i64 6) (DH N S L ar ca) 3) := by
  have c1 := asked_off (P := P) (G := G) (N := N) (S := S) (L := L) (ar := ar) (i := 0) (ca := ca) hP h
  have hT : T.Ok P := hP ▸ T_ok
  refine FnTr.intro (fn := Try.f17) (c := bodyOf Try.f17) (by rw [hP]; rfl) rfl rfl hT ?_
  generalize hA : Ar.real = A
  generalize hK : Gives _ _ _ = K
  cbv
  refine CS.le hA (c1) [(0, 0), (1, 1), (2, 2)] rfl rfl rfl ?_ ?_ ?_
  · (try cbv) <;> (repeat' (first | exact trivial | exact rfl | apply And.intro | exact fun _ => rfl | (intro _ hle; first | refine chunk_le hA rfl hle rfl ?_ | refine cat_le hA ?_ | refine upd_le hA ?_ | (try cbv)))) <;> (try (subst hA; (try simp only [natCast_eq] at *); (try (simp only [Ar.real, NV.val, Int.ofNat_eq_natCast, Int.toNat_natCast])); first | done | omega | decide | exact inR64 (by omega) (by omega) | (refine ⟨?_, ?_⟩ <;> first | omega | decide | exact inR64 (by omega) (by omega))))
  · (try cbv) <;> (repeat' (first | exact trivial | exact rfl | apply And.intro | exact fun _ => rfl | (intro _ hle; first | refine chunk_le hA rfl hle rfl ?_ | refine cat_le hA ?_ | refine upd_le hA ?_ | (try cbv))))
  cbv
  refine Fin.le hA 3 [] (.lit .i64 6) (DH N S L ar ca) 3 rfl rfl rfl ?_ ?_ (by rw [← hK]; exact ⟨rfl, rfl, rfl⟩)
  · (try cbv) <;> (repeat' (first | exact trivial | exact rfl | apply And.intro | exact fun _ => rfl | (intro _ hle; first | refine chunk_le hA rfl hle rfl ?_ | refine cat_le hA ?_ | refine upd_le hA ?_ | (try cbv))))
  · (try cbv) <;> (repeat' (first | exact trivial | exact rfl | apply And.intro | exact fun _ => rfl | (intro _ hle; first | refine chunk_le hA rfl hle rfl ?_ | refine cat_le hA ?_ | refine upd_le hA ?_ | (try cbv))))
theorem flush_ok {P : Program} {G : Gl} (hP : P = Try.prog) {N s : Nat} {S S' : Nat → Int} {L L' : Int → Option (Nat → Int)} {ar : Bool} {ca ca' : Int} (h : ¬ (ar = true ∧ ca = 0)) (hN : N = 64 * s) (hs : 1 ≤ s ∧ s ≤ 4096) (hc : ca' = if ar then ca - 1 else ca) (hca : 0 ≤ ca ∧ ca ≤ 9223372036854775807)
    (hk : ∀ k g, L k = some g → 0 ≤ k ∧ k < (s : Int)) (hS : ∀ x, x < N → S' x = secV S L (x / 64) (x % 64)) (hL : ∀ k, L' k = none) :
    FnTr P G 17 [.ptr 0 0] (DH N S L ar ca) 3 (Gives (.lit .i64 0) (DH N S' L' ar ca') 3) := by
  have c1 := asked_ok (P := P) (G := G) (S := S) (L := L) (ar := ar) (ca := ca) (i := 0) hP h hN hs.2 (by omega)
  have hM : MapTy P _ 64 := hP ▸ map_ty
  have hAr : ArrTy P _ 64 := hP ▸ arr_ty
  have hSl : SlTy P _ := hP ▸ sl_ty
  have hT : T.Ok P := hP ▸ T_ok
  refine FnTr.intro (fn := Try.f17) (c := bodyOf Try.f17) (by rw [hP]; rfl) rfl rfl hT ?_
  generalize hA : Ar.real = A
  generalize hK : Gives _ _ _ = K
  cbv
  refine CS.le hA (c1) [(0, 0), (1, 1), (2, 2)] rfl rfl rfl ?_ ?_ ?_
  · (try cbv) <;> (repeat' (first | exact trivial | exact rfl | apply And.intro | exact fun _ => rfl | (intro _ hle; first | refine chunk_le hA rfl hle rfl ?_ | refine cat_le hA ?_ | refine upd_le hA ?_ | (try cbv)))) <;> (try (subst hA; (try simp only [natCast_eq] at *); (try (simp only [Ar.real, NV.val, Int.ofNat_eq_natCast, Int.toNat_natCast])); first | done | omega | decide | exact inR64 (by omega) (by omega) | (refine ⟨?_, ?_⟩ <;> first | omega | decide | exact inR64 (by omega) (by omega))))
  · (try cbv) <;> (repeat' (first | exact trivial | exact rfl | apply And.intro | exact fun _ => rfl | (intro _ hle; first | refine chunk_le hA rfl hle rfl ?_ | refine cat_le hA ?_ | refine upd_le hA ?_ | (try cbv))))
  cbv
  refine OS.range (sz := 64) hM rfl rfl rfl ?_
  intro mb es c hmap
  cbv
  have c2 := done_fn (P := P) (G := G) (N := N) (S := S') (L := L') (ar := ar) hP hc hca
  refine LS.leU hT hA 16 (fun _ => []) [] (fun (Z : Array Nat × (Nat → Int)) => [(1, .row 5 1 (.s N) (fun e => [.int .u8 (Z.2 e.val)])), (15, .obj (.mapIter (some mb) c Z.1 c))]) (fun Z => FlInv N S L es Z.1 Z.2) (fun Z => (leftOf es Z.1).size) (#[], S) [] rfl rfl ?_ ?_ ?_
  · (try cbv) <;> (repeat' (first | exact trivial | exact rfl | apply And.intro | exact fun _ => rfl | (intro _ hle; first | refine chunk_le hA rfl hle rfl ?_ | refine cat_le hA ?_ | refine upd_le hA ?_ | refine int_le ?_ | skip)))
  · exact FlInv.start
  · intro R hR Z hZ
    obtain ⟨seen, Sc⟩ := Z
    cbv
    refine OS.next (sz := 64) (i := 2) hmap rfl rfl rfl rfl (fun h0 => ?_) (fun e he seen' hse => ?_)
    · have hSc : ∀ x, x < N → Sc x = S' x := fun x hx => (hZ.fin hmap h0 x hx).trans (hS x hx).symm
      clear hR hZ hS
      have hp2 : ∀ e, ltNV A e (.s N) → leL (leSV A 4) [.int .u8 (Sc e.val)] [.int .u8 (S' e.val)] := fun e he => by
        refine int_le ?_
        exact hSc _ (by subst hA; exact ltNV_real.1 he)
      cbv
      refine OS.did (clear_did (sz := 64) hM rfl rfl rfl rfl trivial) ?_
      cbv
      refine CS.le hA c2 [(0, 0), (1, 1), (2, 2)] rfl rfl rfl ?_ ?_ ?_
      · (try cbv) <;> (repeat' (first | exact trivial | exact rfl | apply And.intro | exact fun _ => rfl | (intro _ hle; first | refine chunk_le hA rfl hle rfl ?_ | refine cat_le hA ?_ | refine upd_le hA ?_ | (try cbv))))
      · (try cbv) <;> (repeat' (first | exact trivial | exact rfl | apply And.intro | exact fun _ => rfl | (intro _ hle; first | exact hp2 _ hle | refine chunk_le hA rfl hle rfl ?_ | refine cat_le hA ?_ | refine upd_le hA ?_ | refine int_le ?_ | skip)))
        exact fun k => (hL k).symm
      cbv
      refine Fin.le hA 3 [] (.lit .i64 0) (DH N S' L' ar ca') 3 rfl rfl rfl ?_ ?_ (by rw [← hK]; exact ⟨rfl, rfl, rfl⟩)
      · (try cbv) <;> (repeat' (first | exact trivial | exact rfl | apply And.intro | exact fun _ => rfl | (intro _ hle; first | refine chunk_le hA rfl hle rfl ?_ | refine cat_le hA ?_ | refine upd_le hA ?_ | (try cbv))))
      · (try cbv) <;> (repeat' (first | exact trivial | exact rfl | apply And.intro | exact fun _ => rfl | (intro _ hle; first | refine chunk_le hA rfl hle rfl ?_ | refine cat_le hA ?_ | refine upd_le hA ?_ | (try cbv))))
    · obtain ⟨hes, hnew⟩ := left_mem he
      obtain ⟨k, g, hke, hLk, hval⟩ := hmap.ent e hes
      obtain ⟨q, rfl⟩ : ∃ q : Nat, k = (q : Int) := ⟨k.toNat, by have := hk k g hLk; omega⟩
      have hq : q < s := by have := hk _ g hLk; simp only [natCast_eq] at this; omega
      obtain ⟨o, ho⟩ : ∃ o, o = 64 * q := ⟨_, rfl⟩
      obtain ⟨Sc', hSc'⟩ : ∃ Sc' : Nat → Int, Sc' = fun x => if o ≤ x ∧ x < o + 64 then g (x - o) else Sc x := ⟨_, rfl⟩
      have hSe : ∀ x, Sc' x = if o ≤ x ∧ x < o + 64 then g (x - o) else Sc x := fun x => by rw [hSc']
      have hZ' : FlInv N S L es (seen.push e.born) Sc' := hZ.step hmap hes hke hLk (fun x _ => by rw [hSe, ho])
      rw [← hse] at hZ'
      have hls : (leftOf es seen').size < (leftOf es seen).size := by rw [hse]; exact left_less he
      have a1 := at_num (P := P) (G := G) (mb := mb) (ob := .map es c) (S := Sc) (ar := ar) (ca := ca) hP hN hs.2 hq ho
      clear hZ hSc'
      cbv
      refine OS.did (entry_did (i := 2) hmap hse rfl rfl rfl rfl hes hke hval) ?_
      cbv
      refine DS.runK hA hT (by rw [hP]; exact P_mixed) 4 rfl ?_
      cbv
      refine CD.pass hA (a1) [(0, 0), (1, 1), (2, 2)] [] rfl ⟨rfl, rfl, rfl, rfl, ?_, ?_⟩ rfl (.inl rfl) ?_
      · (try cbv) <;> (repeat' (first | exact trivial | exact rfl | apply And.intro | exact fun _ => rfl | (intro _ hle; first | refine chunk_le hA rfl hle rfl ?_ | refine cat_le hA ?_ | refine upd_le hA ?_ | (try cbv)))) <;> (try (subst hA; (try simp only [natCast_eq] at *); (try (simp only [Ar.real, NV.val, Int.ofNat_eq_natCast, Int.toNat_natCast])); first | done | omega | decide | exact inR64 (by omega) (by omega) | (refine ⟨?_, ?_⟩ <;> first | omega | decide | exact inR64 (by omega) (by omega))))
      · (try cbv) <;> (repeat' (first | exact trivial | exact rfl | apply And.intro | exact fun _ => rfl | (intro _ hle; first | refine chunk_le hA rfl hle rfl ?_ | refine cat_le hA ?_ | refine upd_le hA ?_ | (try cbv))))
      cbv
      refine OD.did [20] rfl (sliceArr_did (g := g) (.l 64) hAr rfl rfl rfl rfl rfl) rfl ?_
      cbv
      refine OD.did [1] rfl (copy_did (S := Sc) (S' := Sc') hSl rfl rfl rfl rfl (Ints.base .u8 Sc N) rfl (Ints.base .u8 g 64) (show o + 64 ≤ N by omega) (fun i hi => by rw [hSe]; rfl)) rfl ?_
      cbv
      refine DF.fin (by kernel_rfl) (by kernel_rfl) ?_
      cbv
      refine hR _ _ ⟨(seen', Sc'), 16, [], rfl, rfl, ?_, hZ', hls⟩
      clear hR
      (try cbv) <;> (repeat' (first | exact trivial | exact rfl | apply And.intro | exact fun _ => rfl | (intro _ hle; first | refine chunk_le hA rfl hle rfl ?_ | refine cat_le hA ?_ | refine upd_le hA ?_ | refine int_le ?_ | skip)))
      all_goals (subst hA; (try simp only [natCast_eq] at *); (try (simp only [Ar.real, NV.val, Int.ofNat_eq_natCast, Int.toNat_natCast])); first | done | omega | decide | exact inR64 (by omega) (by omega) | (refine ⟨?_, ?_⟩ <;> first | omega | decide | exact inR64 (by omega) (by omega)))
end Go.Proofs.Ytnjjgipblimbfaa.Dsk
