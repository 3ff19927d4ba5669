/-
  Rings: copies, places, how many there are.
-/
import Derived.Test.YtkaobalnjimniaaRngT
set_option linter.unusedVariables false
set_option linter.unusedSimpArgs false
namespace Go.Proofs.Ytkaobalnjimniaa.Rng
open Go.Eng
open Go.RngLaw (Sn sn zSn rgP manyC firstC)
set_option maxRecDepth 100000
set_option linter.unusedVariables false

theorem clone_fn {P : Program} {G : Gl} (hP : P = Try.prog) {n : Nat} {f : Nat → Int} (hn : n ≤ 1000000) :
    FnTr P G 66 [.ro 1 (.s n) (fun e => [.int .i64 (f e.val)])] [] 0 (Gives (.ro 1 (.s n) (fun e => [.int .i64 (f e.val)])) [] 1) := by
  have h1 : FnTr P G 66 [.ro 1 (.s n) (fun e => [.int .i64 (f e.val)])] [] 0 (Gives (.sl 0 1 (.l 0) (.s n)) [(0, .row 3 1 (.s n) (fun e => [.int .i64 (f e.val)]))] 1) := by
    have hT : T.Ok P := hP ▸ T_ok
    refine FnTr.intro (fn := Try.f66) (c := bodyOf Try.f66) (by rw [hP]; rfl) rfl rfl hT ?_
    generalize hA : Ar.real = A
    generalize hK : Gives _ _ _ = K
    cbv
    refine ⟨fun h0 => ?_, ?_⟩
    · cbv
      refine Fin.leG hA 0 [] [(0, .row 3 1 (.s n) (fun e => [.int .i64 (f e.val)]))] (.sl 0 1 (.l 0) (.s n)) _ 1 rfl rfl rfl ?_ ?_ ?_ (by rw [← hK]; exact ⟨rfl, rfl, rfl⟩)
      · (try cbv) <;> (repeat' (first | exact trivial | exact rfl | apply And.intro | (intro _ hle; first | refine chunk_le hA rfl hle rfl ?_ | refine cat_le hA ?_ | refine upd_le hA ?_ | (try cbv))))
        exact h0
      · (try cbv) <;> (repeat' (first | exact trivial | exact rfl | apply And.intro | (intro _ hle; first | refine chunk_le hA rfl hle rfl ?_ | refine cat_le hA ?_ | refine upd_le hA ?_ | (try cbv))))
        exact h0
      · (try cbv) <;> (repeat' (first | exact trivial | exact rfl | apply And.intro | (intro _ hle; first | refine chunk_le hA rfl hle rfl ?_ | refine cat_le hA ?_ | refine upd_le hA ?_ | (try cbv))))
    · refine ⟨?_, Fin.le hA 0 [(4, 0)] (.sl 0 1 (.l 0) (.s n)) _ 1 rfl rfl rfl ?_ ?_ (by rw [← hK]; exact ⟨rfl, rfl, rfl⟩)⟩
      · subst hA; simp only [Ar.real, NV.val, Int.ofNat_eq_natCast, Int.toNat_natCast]
        omega
      · (try cbv) <;> (repeat' (first | exact trivial | exact rfl | apply And.intro | (intro _ hle; first | refine chunk_le hA rfl hle rfl ?_ | refine cat_le hA ?_ | refine upd_le hA ?_ | (try cbv))))
      · (try cbv) <;> (repeat' (first | exact trivial | exact rfl | apply And.intro | (intro _ hle; first | refine chunk_le hA rfl hle rfl ?_ | refine cat_le hA ?_ | refine upd_le hA ?_ | (try cbv))))
  generalize hA : Ar.real = A
  refine FnTr.dat hA h1 _ _ ?_
  cbv
  refine ⟨⟨?_, trivial⟩, fun e _ => ⟨rfl, trivial⟩, trivial⟩
  subst hA; simp only [Ar.real, NV.val, Int.ofNat_eq_natCast, Int.toNat_natCast]
  omega

theorem copied_fn {P : Program} {G : Gl} (hP : P = Try.prog) {s : Sn} (hn : s.xl ≤ 1000000) :
    FnTr P G 64 [.agg (sn s)] [] 0 (Gives (.agg (sn s)) [] 3) := by
  have c1 := clone_fn (P := P) (G := G) (n := s.xl) (f := s.x) hP hn
  have hT : T.Ok P := hP ▸ T_ok
  refine FnTr.intro (fn := Try.f64) (c := bodyOf Try.f64) (by rw [hP]; rfl) rfl rfl hT ?_
  generalize hA : Ar.real = A
  generalize hK : Gives _ _ _ = K
  cbv
  refine CS.le hA (c1) [] rfl rfl rfl ?_ ?_ ?_
  · (try cbv) <;> (repeat' (first | exact trivial | exact rfl | apply And.intro | (intro _ hle; first | refine chunk_le hA rfl hle rfl ?_ | refine cat_le hA ?_ | refine upd_le hA ?_ | (try cbv)))) <;> (try (subst hA; (try simp only [natCast_eq] at *); (simp only [Ar.real, NV.val, Int.ofNat_eq_natCast, Int.toNat_natCast]); first | done | omega | decide | exact inR64 (by omega) (by omega) | (refine ⟨?_, ?_⟩ <;> first | omega | decide | exact inR64 (by omega) (by omega))))
  · (try cbv) <;> (repeat' (first | exact trivial | exact rfl | apply And.intro | (intro _ hle; first | refine chunk_le hA rfl hle rfl ?_ | refine cat_le hA ?_ | refine upd_le hA ?_ | (try cbv))))
  cbv
  refine Fin.le hA 0 [] (.agg (sn s)) ([]) 3 rfl rfl rfl ?_ ?_ (by rw [← hK]; exact ⟨rfl, rfl, rfl⟩)
  · (try cbv) <;> (repeat' (first | exact trivial | exact rfl | apply And.intro | (intro _ hle; first | refine chunk_le hA rfl hle rfl ?_ | refine cat_le hA ?_ | refine upd_le hA ?_ | (try cbv))))
  · (try cbv) <;> (repeat' (first | exact trivial | exact rfl | apply And.intro | (intro _ hle; first | refine chunk_le hA rfl hle rfl ?_ | refine cat_le hA ?_ | refine upd_le hA ?_ | (try cbv))))

theorem place_fn {P : Program} {G : Gl} (hP : P = Try.prog) {room a m i r : Nat} {pl : Nat → Sn} (hr : 0 < room) (h : room ≤ 1000 ∧ a ≤ 1000 ∧ i ≤ 1000) (hi : r = (a + i) % room) :
    FnTr P G 65 [.rp [.ro 5 (.s room) (fun e => sn (pl e.val)), .int .i64 (a : Int), .int .i64 (m : Int)], .int .i64 (i : Int)] [] 0 (Gives (.int .i64 (r : Int)) [] 0) := by
  have hT : T.Ok P := hP ▸ T_ok
  refine FnTr.intro (fn := Try.f65) (c := bodyOf Try.f65) (by rw [hP]; rfl) rfl rfl hT ?_
  generalize hA : Ar.real = A
  generalize hK : Gives _ _ _ = K
  cbv
  refine DS.runK hA hT (by rw [hP]; exact P_mixed) 1 rfl ?_
  cbv
  refine ⟨(by (subst hA; (try simp only [natCast_eq] at *); (simp only [Ar.real, NV.val, Int.ofNat_eq_natCast, Int.toNat_natCast]); first | done | omega | decide | exact inR64 (by omega) (by omega) | (refine ⟨?_, ?_⟩ <;> first | omega | decide | exact inR64 (by omega) (by omega)))), (by (subst hA; (try simp only [natCast_eq] at *); (simp only [Ar.real, NV.val, Int.ofNat_eq_natCast, Int.toNat_natCast]); first | done | omega | decide | exact inR64 (by omega) (by omega) | (refine ⟨?_, ?_⟩ <;> first | omega | decide | exact inR64 (by omega) (by omega)))), ?_⟩
  refine DF.fin (by kernel_rfl) (by kernel_rfl) ?_
  cbv
  refine Fin.le hA 0 [] (.int .i64 (r : Int)) ([]) 0 rfl rfl rfl ?_ ?_ (by rw [← hK]; exact ⟨rfl, rfl, rfl⟩)
  · (try cbv) <;> (repeat' (first | exact trivial | exact rfl | apply And.intro | (intro _ hle; first | refine chunk_le hA rfl hle rfl ?_ | refine cat_le hA ?_ | refine upd_le hA ?_ | (try cbv))))
    subst hA
    simp only [Ar.real, Int.ofNat_eq_natCast]
    rw [hi]
    rfl
  · (try cbv) <;> (repeat' (first | exact trivial | exact rfl | apply And.intro | (intro _ hle; first | refine chunk_le hA rfl hle rfl ?_ | refine cat_le hA ?_ | refine upd_le hA ?_ | (try cbv))))

theorem len_fn {P : Program} {G : Gl} (hP : P = Try.prog) {room a m : Nat} {pl : Nat → Sn} :
    FnTr P G 17 [.rp [.ro 5 (.s room) (fun e => sn (pl e.val)), .int .i64 (a : Int), .int .i64 (m : Int)]] [] 0 (Gives (.int .i64 (m : Int)) [] 0) := by
  have hT : T.Ok P := hP ▸ T_ok
  refine FnTr.intro (fn := Try.f17) (c := bodyOf Try.f17) (by rw [hP]; rfl) rfl rfl hT ?_
  generalize hA : Ar.real = A
  generalize hK : Gives _ _ _ = K
  cbv
  refine Fin.le hA 0 [] (.int .i64 (m : Int)) ([]) 0 rfl rfl rfl ?_ ?_ (by rw [← hK]; exact ⟨rfl, rfl, rfl⟩)
  · (try cbv) <;> (repeat' (first | exact trivial | exact rfl | apply And.intro | (intro _ hle; first | refine chunk_le hA rfl hle rfl ?_ | refine cat_le hA ?_ | refine upd_le hA ?_ | (try cbv))))
  · (try cbv) <;> (repeat' (first | exact trivial | exact rfl | apply And.intro | (intro _ hle; first | refine chunk_le hA rfl hle rfl ?_ | refine cat_le hA ?_ | refine upd_le hA ?_ | (try cbv))))
theorem len_nil {P : Program} {G : Gl} (hP : P = Try.prog) : FnTr P G 17 [.nilp] [] 0 (Gives (.lit .i64 0) [] 0) := by
  have hT : T.Ok P := hP ▸ T_ok
  refine FnTr.intro (fn := Try.f17) (c := bodyOf Try.f17) (by rw [hP]; rfl) rfl rfl hT ?_
  generalize hA : Ar.real = A
  generalize hK : Gives _ _ _ = K
  cbv
  refine Fin.le hA 0 [] (.lit .i64 0) ([]) 0 rfl rfl rfl ?_ ?_ (by rw [← hK]; exact ⟨rfl, rfl, rfl⟩)
  · (try cbv) <;> (repeat' (first | exact trivial | exact rfl | apply And.intro | (intro _ hle; first | refine chunk_le hA rfl hle rfl ?_ | refine cat_le hA ?_ | refine upd_le hA ?_ | (try cbv))))
  · (try cbv) <;> (repeat' (first | exact trivial | exact rfl | apply And.intro | (intro _ hle; first | refine chunk_le hA rfl hle rfl ?_ | refine cat_le hA ?_ | refine upd_le hA ?_ | (try cbv))))
theorem room_fn {P : Program} {G : Gl} (hP : P = Try.prog) {room a m : Nat} {pl : Nat → Sn} :
    FnTr P G 18 [.rp [.ro 5 (.s room) (fun e => sn (pl e.val)), .int .i64 (a : Int), .int .i64 (m : Int)]] [] 0 (Gives (.int .i64 (room : Int)) [] 0) := by
  have hT : T.Ok P := hP ▸ T_ok
  refine FnTr.intro (fn := Try.f18) (c := bodyOf Try.f18) (by rw [hP]; rfl) rfl rfl hT ?_
  generalize hA : Ar.real = A
  generalize hK : Gives _ _ _ = K
  cbv
  refine Fin.le hA 0 [] (.int .i64 (room : Int)) ([]) 0 rfl rfl rfl ?_ ?_ (by rw [← hK]; exact ⟨rfl, rfl, rfl⟩)
  · (try cbv) <;> (repeat' (first | exact trivial | exact rfl | apply And.intro | (intro _ hle; first | refine chunk_le hA rfl hle rfl ?_ | refine cat_le hA ?_ | refine upd_le hA ?_ | (try cbv))))
    (subst hA; (try simp only [natCast_eq] at *); (simp only [Ar.real, NV.val, Int.ofNat_eq_natCast, Int.toNat_natCast]); first | done | omega | decide | exact inR64 (by omega) (by omega) | (refine ⟨?_, ?_⟩ <;> first | omega | decide | exact inR64 (by omega) (by omega)))
  · (try cbv) <;> (repeat' (first | exact trivial | exact rfl | apply And.intro | (intro _ hle; first | refine chunk_le hA rfl hle rfl ?_ | refine cat_le hA ?_ | refine upd_le hA ?_ | (try cbv))))
end Go.Proofs.Ytkaobalnjimniaa.Rng
