/-
  Rings: a new one; one thing put in.
-/
import Derived.Test.YtkaobalnjimniaaRngF1
set_option linter.unusedVariables false
set_option linter.unusedSimpArgs false
namespace Go.Proofs.Ytkaobalnjimniaa.Rng
open Go.Eng
open Go.RngLaw (Sn sn zSn rgP manyC firstC)
set_option maxRecDepth 100000
set_option maxHeartbeats 4000000
set_option linter.unusedVariables false

/-- A ring as own blocks. -/
abbrev RH (i j : Nat) (room a m : Nat) (pl : Nat → Sn) : Hl := [(i, .cells 84 [.sl j 5 (.l 0) (.s room), .int .i64 (a : Int), .int .i64 (m : Int)]), (j, .row 34 5 (.s room) (fun e => sn (pl e.val)))]

theorem new_bad {P : Program} {G : Gl} (hP : P = Try.prog) {r : Int} (h : ¬ (1 ≤ r ∧ r ≤ 256)) :
    FnTr P G 16 [.int .i64 r] [] 0 (Gives (.tup [.nilp, .lit .i64 1]) [] 2) := by
  have hT : T.Ok P := hP ▸ T_ok
  refine FnTr.intro (fn := Try.f16) (c := bodyOf Try.f16) (by rw [hP]; rfl) rfl rfl hT ?_
  generalize hA : Ar.real = A
  generalize hK : Gives _ _ _ = K
  cbv
  refine ⟨fun h1 => ?_, fun h1 => ?_⟩
  · cbv
    refine ⟨fun h2 => ?_, fun h2 => by exfalso; subst hA; simp [Ar.real] at h1 h2; omega⟩
    cbv
    refine Fin.le hA 0 [] (.tup [.nilp, .lit .i64 1]) ([]) 2 rfl rfl rfl ?_ ?_ (by rw [← hK]; exact ⟨rfl, rfl, rfl⟩)
    · (try cbv) <;> (repeat' (first | exact trivial | exact rfl | apply And.intro | (intro _ hle; first | refine chunk_le hA rfl hle rfl ?_ | refine cat_le hA ?_ | refine upd_le hA ?_ | (try cbv))))
    · (try cbv) <;> (repeat' (first | exact trivial | exact rfl | apply And.intro | (intro _ hle; first | refine chunk_le hA rfl hle rfl ?_ | refine cat_le hA ?_ | refine upd_le hA ?_ | (try cbv))))
  · cbv
    refine Fin.le hA 0 [] (.tup [.nilp, .lit .i64 1]) ([]) 2 rfl rfl rfl ?_ ?_ (by rw [← hK]; exact ⟨rfl, rfl, rfl⟩)
    · (try cbv) <;> (repeat' (first | exact trivial | exact rfl | apply And.intro | (intro _ hle; first | refine chunk_le hA rfl hle rfl ?_ | refine cat_le hA ?_ | refine upd_le hA ?_ | (try cbv))))
    · (try cbv) <;> (repeat' (first | exact trivial | exact rfl | apply And.intro | (intro _ hle; first | refine chunk_le hA rfl hle rfl ?_ | refine cat_le hA ?_ | refine upd_le hA ?_ | (try cbv))))
theorem new_fn {P : Program} {G : Gl} (hP : P = Try.prog) {r : Int} {room : Nat} {pl : Nat → Sn} (h : 1 ≤ r ∧ r ≤ 256) (hr : (room : Int) = r) (hz : ∀ i, pl i = zSn) :
    FnTr P G 16 [.int .i64 r] [] 0 (Gives (.tup [.ptr 0 0, .lit .i64 0]) (RH 0 1 room 0 0 pl) 2) := by
  have hT : T.Ok P := hP ▸ T_ok
  refine FnTr.intro (fn := Try.f16) (c := bodyOf Try.f16) (by rw [hP]; rfl) rfl rfl hT ?_
  generalize hA : Ar.real = A
  generalize hK : Gives _ _ _ = K
  cbv
  refine ⟨fun h1 => ?_, fun h1 => by exfalso; subst hA; simp [Ar.real] at h1; omega⟩
  cbv
  refine ⟨fun h2 => by exfalso; subst hA; simp [Ar.real] at h1 h2; omega, fun h2 => ?_⟩
  cbv
  refine ⟨⟨(by (subst hA; (try simp only [natCast_eq] at *); (simp only [Ar.real, NV.val, Int.ofNat_eq_natCast, Int.toNat_natCast]); first | done | omega | decide | exact inR64 (by omega) (by omega) | (refine ⟨?_, ?_⟩ <;> first | omega | decide | exact inR64 (by omega) (by omega)))), (by (subst hA; (try simp only [natCast_eq] at *); (simp only [Ar.real, NV.val, Int.ofNat_eq_natCast, Int.toNat_natCast]); first | done | omega | decide | exact inR64 (by omega) (by omega) | (refine ⟨?_, ?_⟩ <;> first | omega | decide | exact inR64 (by omega) (by omega)))), (by (subst hA; (try simp only [natCast_eq] at *); (simp only [Ar.real, NV.val, Int.ofNat_eq_natCast, Int.toNat_natCast]); first | done | omega | decide | exact inR64 (by omega) (by omega) | (refine ⟨?_, ?_⟩ <;> first | omega | decide | exact inR64 (by omega) (by omega)))), (by (subst hA; (try simp only [natCast_eq] at *); (simp only [Ar.real, NV.val, Int.ofNat_eq_natCast, Int.toNat_natCast]); first | done | omega | decide | exact inR64 (by omega) (by omega) | (refine ⟨?_, ?_⟩ <;> first | omega | decide | exact inR64 (by omega) (by omega))))⟩, ?_⟩
  refine Fin.le hA 0 [(12, 0), (9, 1)] (.tup [.ptr 0 0, .lit .i64 0]) (RH 0 1 room 0 0 pl) 2 rfl rfl rfl ?_ ?_ (by rw [← hK]; exact ⟨rfl, rfl, rfl⟩)
  · (try cbv) <;> (repeat' (first | exact trivial | exact rfl | apply And.intro | (intro _ hle; first | refine chunk_le hA rfl hle rfl ?_ | refine cat_le hA ?_ | refine upd_le hA ?_ | (try cbv))))
  · (try cbv) <;> (repeat' (first | exact trivial | exact rfl | apply And.intro | (intro _ hle; first | refine chunk_le hA rfl hle rfl ?_ | refine cat_le hA ?_ | refine upd_le hA ?_ | refine int_le ?_ | skip)))
    all_goals first
      | ((subst hA; (try simp only [natCast_eq] at *); (simp only [Ar.real, NV.val, Int.ofNat_eq_natCast, Int.toNat_natCast]); first | done | omega | decide | exact inR64 (by omega) (by omega) | (refine ⟨?_, ?_⟩ <;> first | omega | decide | exact inR64 (by omega) (by omega))); done)
      | (show (0 : Int) = _; rw [hz]; rfl)
      | (show _ = (0 : Nat); rw [hz]; rfl)
      | (show false = _; rw [hz]; rfl)

/-- There is room. -/
theorem push_room {P : Program} {G : Gl} (hP : P = Try.prog) {room a m r m' : Nat} {pl pl' : Nat → Sn} {s z : Sn} (h : room ≤ 1000 ∧ a ≤ 1000 ∧ m < room) (hr : r = (a + m) % room) (hm : m' = m + 1) (hpl : ∀ i, pl' i = if i = r then s else pl i) (hz : z = zSn) :
    FnTr P G 63 [.ptr 0 0, .agg (sn s)] (RH 0 1 room a m pl) 2 (Gives (.tup [.agg (sn z), .bl false]) (RH 0 1 room a m' pl') 40) := by
  have hrr : r < room := by rw [hr]; exact Nat.mod_lt _ (by omega)
  have c1 := place_fn (P := P) (G := G) (room := room) (a := a) (m := m) (i := m) (r := r) (pl := pl) hP (by omega) (by omega) hr
  clear hr
  have hT : T.Ok P := hP ▸ T_ok
  refine FnTr.intro (fn := Try.f63) (c := bodyOf Try.f63) (by rw [hP]; rfl) rfl rfl hT ?_
  generalize hA : Ar.real = A
  generalize hK : Gives _ _ _ = K
  cbv
  refine DS.runK hA hT (by rw [hP]; exact P_mixed) 2 rfl ?_
  cbv
  refine DF.fin (by kernel_rfl) (by kernel_rfl) ?_
  cbv
  refine ⟨fun h1 => ?_, fun h1 => by exfalso; subst hA; simp [Ar.real] at h1; omega⟩
  cbv
  refine DS.runK hA hT (by rw [hP]; exact P_mixed) 2 rfl ?_
  cbv
  refine CD.pass hA c1 [] [0, 1] rfl ⟨rfl, rfl, rfl, rfl, ?_, ?_⟩ rfl (.inr ⟨rfl, trivial⟩) ?_
  · (try cbv) <;> (repeat' (first | exact trivial | exact rfl | apply And.intro | (intro _ hle; first | refine chunk_le hA rfl hle rfl ?_ | refine cat_le hA ?_ | refine upd_le hA ?_ | (try cbv))))
    all_goals (subst hA; (try simp only [natCast_eq] at *); (simp only [Ar.real, NV.val, Int.ofNat_eq_natCast, Int.toNat_natCast]); first | done | omega | decide | exact inR64 (by omega) (by omega) | (refine ⟨?_, ?_⟩ <;> first | omega | decide | exact inR64 (by omega) (by omega)))
  · (try cbv) <;> (repeat' (first | exact trivial | exact rfl | apply And.intro | (intro _ hle; first | refine chunk_le hA rfl hle rfl ?_ | refine cat_le hA ?_ | refine upd_le hA ?_ | (try cbv))))
  cbv
  refine ⟨(by (subst hA; (try simp only [natCast_eq] at *); (simp only [Ar.real, NV.val, Int.ofNat_eq_natCast, Int.toNat_natCast]); first | done | omega | decide | exact inR64 (by omega) (by omega) | (refine ⟨?_, ?_⟩ <;> first | omega | decide | exact inR64 (by omega) (by omega)))), (by (subst hA; (try simp only [natCast_eq] at *); (simp only [Ar.real, NV.val, Int.ofNat_eq_natCast, Int.toNat_natCast]); first | done | omega | decide | exact inR64 (by omega) (by omega) | (refine ⟨?_, ?_⟩ <;> first | omega | decide | exact inR64 (by omega) (by omega)))), ?_⟩
  refine DF.fin (by kernel_rfl) (by kernel_rfl) ?_
  cbv
  have hup : ∀ e, ltNV A e (.s room) → leL (leSV A 4) (updF A 5 (.s (A.nat (Int.ofNat r))) 0 [.int .i64 s.id, .ro 1 (.s s.xl) (fun e => [.int .i64 (s.x e.val)]), .int .i64 s.p, .int .i64 s.q, .bs s.b] (fun e => sn (pl e.val)) e) (sn (pl' e.val)) := fun e he => by
    rw [show A.nat (Int.ofNat r) = r from by subst hA; rfl]
    exact Go.RngLaw.sn_upd hA (hpl _)
  refine ⟨(by (subst hA; (try simp only [natCast_eq] at *); (simp only [Ar.real, NV.val, Int.ofNat_eq_natCast, Int.toNat_natCast]); first | done | omega | decide | exact inR64 (by omega) (by omega) | (refine ⟨?_, ?_⟩ <;> first | omega | decide | exact inR64 (by omega) (by omega)))), ?_⟩
  refine Fin.le hA 2 [] (.tup [.agg (sn z), .bl false]) (RH 0 1 room a m' pl') 40 rfl rfl rfl ?_ ?_ (by rw [← hK]; exact ⟨rfl, rfl, rfl⟩)
  · (try cbv) <;> (repeat' (first | exact trivial | exact rfl | apply And.intro | (intro _ hle; first | refine chunk_le hA rfl hle rfl ?_ | refine cat_le hA ?_ | refine upd_le hA ?_ | (try cbv))))
    all_goals first | (show (0 : Int) = _; rw [hz]; rfl) | (show _ = (0 : Nat); rw [hz]; rfl) | (show false = _; rw [hz]; rfl)
  · (try cbv) <;> (repeat' (first | exact trivial | exact rfl | apply And.intro | (intro _ hle; first | exact hup _ hle | refine chunk_le hA rfl hle rfl ?_ | refine cat_le hA ?_ | refine upd_le hA ?_ | refine int_le ?_ | skip)))
    all_goals first | ((subst hA; (try simp only [natCast_eq] at *); (simp only [Ar.real, NV.val, Int.ofNat_eq_natCast, Int.toNat_natCast]); first | done | omega | decide | exact inR64 (by omega) (by omega) | (refine ⟨?_, ?_⟩ <;> first | omega | decide | exact inR64 (by omega) (by omega))); done) | (subst hA; rw [hm]; rfl)

/-- There is none. -/
theorem push_full {P : Program} {G : Gl} (hP : P = Try.prog) {room a a' : Nat} {pl pl' : Nat → Sn} {s z : Sn} (h : room ≤ 1000 ∧ a < room) (hr : a' = (a + 1) % room) (hpl : ∀ i, pl' i = if i = a then s else pl i) (hz : z = pl a) :
    FnTr P G 63 [.ptr 0 0, .agg (sn s)] (RH 0 1 room a room pl) 2 (Gives (.tup [.agg (sn z), .bl true]) (RH 0 1 room a' room pl') 40) := by
  have c1 := place_fn (P := P) (G := G) (room := room) (a := a) (m := room) (i := 1) (r := a') (pl := pl') hP (by omega) (by omega) hr
  clear hr
  have hT : T.Ok P := hP ▸ T_ok
  refine FnTr.intro (fn := Try.f63) (c := bodyOf Try.f63) (by rw [hP]; rfl) rfl rfl hT ?_
  generalize hA : Ar.real = A
  generalize hK : Gives _ _ _ = K
  cbv
  refine DS.runK hA hT (by rw [hP]; exact P_mixed) 2 rfl ?_
  cbv
  refine DF.fin (by kernel_rfl) (by kernel_rfl) ?_
  cbv
  refine ⟨fun h1 => by exfalso; subst hA; simp [Ar.real] at h1, fun h1 => ?_⟩
  cbv
  have hup : ∀ e, ltNV A e (.s room) → leL (leSV A 4) (updF A 5 (.s (A.nat (Int.ofNat a))) 0 [.int .i64 s.id, .ro 1 (.s s.xl) (fun e => [.int .i64 (s.x e.val)]), .int .i64 s.p, .int .i64 s.q, .bs s.b] (fun e => sn (pl e.val)) e) (sn (pl' e.val)) := fun e he => by
    rw [show A.nat (Int.ofNat a) = a from by subst hA; rfl]
    exact Go.RngLaw.sn_upd hA (hpl _)
  have hup' : ∀ e, ltNV A e (.s room) → leL (leSV A 2) (updF A 5 (.s (A.nat (Int.ofNat a))) 0 [.int .i64 s.id, .ro 1 (.s s.xl) (fun e => [.int .i64 (s.x e.val)]), .int .i64 s.p, .int .i64 s.q, .bs s.b] (fun e => sn (pl e.val)) (addNV A (.l 0) e)) (sn (pl' e.val)) := fun e he => by
    rw [show A.nat (Int.ofNat a) = a from by subst hA; rfl]
    exact Go.RngLaw.sn_upd hA (hpl _)
  refine DS.runK hA hT (by rw [hP]; exact P_mixed) 2 rfl ?_
  cbv
  refine ⟨(by (subst hA; (try simp only [natCast_eq] at *); (simp only [Ar.real, NV.val, Int.ofNat_eq_natCast, Int.toNat_natCast]); first | done | omega | decide | exact inR64 (by omega) (by omega) | (refine ⟨?_, ?_⟩ <;> first | omega | decide | exact inR64 (by omega) (by omega)))), (by (subst hA; (try simp only [natCast_eq] at *); (simp only [Ar.real, NV.val, Int.ofNat_eq_natCast, Int.toNat_natCast]); first | done | omega | decide | exact inR64 (by omega) (by omega) | (refine ⟨?_, ?_⟩ <;> first | omega | decide | exact inR64 (by omega) (by omega)))), ?_⟩
  refine DF.fin (by kernel_rfl) (by kernel_rfl) ?_
  cbv
  refine DS.runK hA hT (by rw [hP]; exact P_mixed) 2 rfl ?_
  cbv
  refine ⟨(by (subst hA; (try simp only [natCast_eq] at *); (simp only [Ar.real, NV.val, Int.ofNat_eq_natCast, Int.toNat_natCast]); first | done | omega | decide | exact inR64 (by omega) (by omega) | (refine ⟨?_, ?_⟩ <;> first | omega | decide | exact inR64 (by omega) (by omega)))), (by (subst hA; (try simp only [natCast_eq] at *); (simp only [Ar.real, NV.val, Int.ofNat_eq_natCast, Int.toNat_natCast]); first | done | omega | decide | exact inR64 (by omega) (by omega) | (refine ⟨?_, ?_⟩ <;> first | omega | decide | exact inR64 (by omega) (by omega)))), ?_⟩
  refine DF.fin (by kernel_rfl) (by kernel_rfl) ?_
  cbv
  refine CS.lend hA c1 [] [0, 1] 1 rfl ⟨rfl, rfl, rfl, rfl, ?_, ?_⟩ rfl (.inr ⟨rfl, trivial⟩) ?_
  · (try cbv) <;> (repeat' (first | exact trivial | exact rfl | apply And.intro | (intro _ hle; first | exact hup' _ hle | refine chunk_le hA rfl hle rfl ?_ | refine cat_le hA ?_ | refine upd_le hA ?_ | refine int_le ?_ | skip)))
    all_goals (subst hA; (try simp only [natCast_eq] at *); (simp only [Ar.real, NV.val, Int.ofNat_eq_natCast, Int.toNat_natCast]); first | done | omega | decide | exact inR64 (by omega) (by omega) | (refine ⟨?_, ?_⟩ <;> first | omega | decide | exact inR64 (by omega) (by omega)))
  · (try cbv) <;> (repeat' (first | exact trivial | exact rfl | apply And.intro | (intro _ hle; first | refine chunk_le hA rfl hle rfl ?_ | refine cat_le hA ?_ | refine upd_le hA ?_ | (try cbv))))
  cbv
  refine Fin.le hA 2 [] (.tup [.agg (sn z), .bl true]) (RH 0 1 room a' room pl') 40 rfl rfl rfl ?_ ?_ (by rw [← hK]; exact ⟨rfl, rfl, rfl⟩)
  · (try cbv) <;> (repeat' (first | exact trivial | exact rfl | apply And.intro | (intro _ hle; first | refine chunk_le hA rfl hle rfl ?_ | refine cat_le hA ?_ | refine upd_le hA ?_ | (try cbv))))
    all_goals (subst hA; rw [hz]; rfl)
  · (try cbv) <;> (repeat' (first | exact trivial | exact rfl | apply And.intro | (intro _ hle; first | exact hup _ hle | refine chunk_le hA rfl hle rfl ?_ | refine cat_le hA ?_ | refine upd_le hA ?_ | refine int_le ?_ | skip)))
    all_goals first | ((subst hA; (try simp only [natCast_eq] at *); (simp only [Ar.real, NV.val, Int.ofNat_eq_natCast, Int.toNat_natCast]); first | done | omega | decide | exact inR64 (by omega) (by omega) | (refine ⟨?_, ?_⟩ <;> first | omega | decide | exact inR64 (by omega) (by omega))); done) | rfl
end Go.Proofs.Ytkaobalnjimniaa.Rng
