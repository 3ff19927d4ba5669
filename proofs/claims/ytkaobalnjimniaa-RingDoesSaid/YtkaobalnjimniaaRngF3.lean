/-
  Rings: an event put in; one of them, all of them.
-/
import Derived.Test.YtkaobalnjimniaaRngF2
import Derived.Test.YtkaobalnjimniaaEngThree
set_option linter.unusedVariables false
set_option linter.unusedSimpArgs false
namespace Go.Proofs.Ytkaobalnjimniaa.Rng
open Go.Eng
open Go.RngLaw (Sn sn zSn rgP manyC firstC)
set_option maxRecDepth 100000
set_option maxHeartbeats 4000000
set_option linter.unusedVariables false

/-- What a push makes of a ring. -/
def PushIs (room a m a' m' : Nat) (pl pl' : Nat → Sn) (s z : Sn) (b : Bool) : Prop :=
  (m < room ∧ b = false ∧ a' = a ∧ m' = m + 1 ∧ z = zSn ∧ ∀ i, pl' i = if i = (a + m) % room then s else pl i) ∨
  (m = room ∧ b = true ∧ m' = m ∧ a' = (a + 1) % room ∧ z = pl a ∧ ∀ i, pl' i = if i = a then s else pl i)
theorem pushIs_at (h : Nat → Sn) (room c : Nat) (hr : 0 < room) : PushIs room (firstC room c) (manyC room c) (firstC room (c + 1)) (manyC room (c + 1)) (rgP h room c) (rgP h room (c + 1)) (h c) (if c < room then zSn else h (c - room)) (decide (room ≤ c)) := by
  by_cases hc : c < room
  · refine .inl ⟨?_, ?_, ?_, ?_, ?_, ?_⟩
    · unfold manyC; omega
    · simp; omega
    · rw [Go.RngLaw.firstC_zero (by omega), Go.RngLaw.firstC_zero (by omega)]
    · unfold manyC; omega
    · rw [if_pos hc]
    · intro i
      unfold manyC
      rw [Go.RngLaw.place_next c hc]; rfl
  · refine .inr ⟨?_, ?_, ?_, ?_, ?_, ?_⟩
    · unfold manyC; omega
    · simp; omega
    · unfold manyC; omega
    · exact (Go.RngLaw.first_next c (by omega)).symm
    · rw [if_neg hc, Go.RngLaw.first_full c (by omega)]
      have := Go.RngLaw.rgP_at h room hr c (c - room) (by omega) (by omega)
      rw [← this]
      congr 1
      have e : c % room = (c - room + room) % room := by congr 1; omega
      rw [e, Nat.add_mod_right]
    · intro i
      rw [Go.RngLaw.first_full c (by omega)]; rfl

theorem Push_fn {P : Program} {G : Gl} (hP : P = Try.prog) {room a m a' m' : Nat} {pl pl' : Nat → Sn} {s z : Sn} {b : Bool} (h : room ≤ 1000 ∧ a < room ∧ s.xl ≤ 1000000) (hp : PushIs room a m a' m' pl pl' s z b) :
    FnTr P G 20 [.ptr 0 0, .agg (sn s)] (RH 0 1 room a m pl) 2 (Gives (.tup [.agg (sn z), .bl b]) (RH 0 1 room a' m' pl') 300) := by
  have c1 := copied_fn (P := P) (G := G) (s := s) hP h.2.2
  have c2 : FnTr P G 63 [.ptr 0 0, .agg (sn s)] (RH 0 1 room a m pl) 2 (Gives (.tup [.agg (sn z), .bl b]) (RH 0 1 room a' m' pl') 40) := by
    rcases hp with ⟨h1, rfl, rfl, rfl, h2, h3⟩ | ⟨rfl, rfl, rfl, h2, h3, h4⟩
    · exact push_room hP (by omega) rfl rfl h3 h2
    · exact push_full hP (by omega) h2 h4 h3
  clear hp
  have hT : T.Ok P := hP ▸ T_ok
  refine FnTr.intro (fn := Try.f20) (c := bodyOf Try.f20) (by rw [hP]; rfl) rfl rfl hT ?_
  generalize hA : Ar.real = A
  generalize hK : Gives _ _ _ = K
  cbv
  refine DS.runK hA hT (by rw [hP]; exact P_mixed) 40 rfl ?_
  cbv
  refine CD.pass hA c1 [] [] rfl ⟨rfl, rfl, rfl, rfl, ?_, ?_⟩ rfl (.inl rfl) ?_
  · (try cbv) <;> (repeat' (first | exact trivial | exact rfl | apply And.intro | (intro _ hle; first | refine chunk_le hA rfl hle rfl ?_ | refine cat_le hA ?_ | refine upd_le hA ?_ | (try cbv))))
  · (try cbv) <;> (repeat' (first | exact trivial | exact rfl | apply And.intro | (intro _ hle; first | refine chunk_le hA rfl hle rfl ?_ | refine cat_le hA ?_ | refine upd_le hA ?_ | (try cbv))))
  cbv
  refine CD.pass hA c2 [(0, 0), (1, 1)] [] rfl ⟨rfl, rfl, rfl, rfl, ?_, ?_⟩ rfl (.inl rfl) ?_
  · (try cbv) <;> (repeat' (first | exact trivial | exact rfl | apply And.intro | (intro _ hle; first | refine chunk_le hA rfl hle rfl ?_ | refine cat_le hA ?_ | refine upd_le hA ?_ | (try cbv))))
  · (try cbv) <;> (repeat' (first | exact trivial | exact rfl | apply And.intro | (intro _ hle; first | refine chunk_le hA rfl hle rfl ?_ | refine cat_le hA ?_ | refine upd_le hA ?_ | refine int_le ?_ | skip)))
  cbv
  refine DF.fin (by kernel_rfl) (by kernel_rfl) ?_
  cbv
  refine Fin.le hA 2 [] (.tup [.agg (sn z), .bl b]) (RH 0 1 room a' m' pl') 300 rfl rfl rfl ?_ ?_ (by rw [← hK]; exact ⟨rfl, rfl, rfl⟩)
  · (try cbv) <;> (repeat' (first | exact trivial | exact rfl | apply And.intro | (intro _ hle; first | refine chunk_le hA rfl hle rfl ?_ | refine cat_le hA ?_ | refine upd_le hA ?_ | (try cbv))))
  · (try cbv) <;> (repeat' (first | exact trivial | exact rfl | apply And.intro | (intro _ hle; first | refine chunk_le hA rfl hle rfl ?_ | refine cat_le hA ?_ | refine upd_le hA ?_ | refine int_le ?_ | skip)))

abbrev RG (room a m : Nat) (pl : Nat → Sn) : SV := .rp [.ro 5 (.s room) (fun e => sn (pl e.val)), .int .i64 (a : Int), .int .i64 (m : Int)]

theorem at_ok {P : Program} {G : Gl} (hP : P = Try.prog) {room a m i r : Nat} {pl : Nat → Sn} {w : Sn} (h : room ≤ 1000 ∧ a < room ∧ m ≤ room ∧ i < m) (hr : r = (a + i) % room) (hw : w = pl r) (hx : w.xl ≤ 1000000) :
    FnTr P G 24 [.ptr 0 0, .int .i64 (i : Int)] (RH 0 1 room a m pl) 2 (Gives (.tup [.agg (sn w), .lit .i64 0]) (RH 0 1 room a m pl) 90) := by
  have hrr : r < room := by rw [hr]; exact Nat.mod_lt _ (by omega)
  have c1 := place_fn (P := P) (G := G) (room := room) (a := a) (m := m) (i := i) (r := r) (pl := pl) hP (by omega) (by omega) hr
  have c2 := copied_fn (P := P) (G := G) (s := w) hP hx
  clear hr
  have hT : T.Ok P := hP ▸ T_ok
  refine FnTr.intro (fn := Try.f24) (c := bodyOf Try.f24) (by rw [hP]; rfl) rfl rfl hT ?_
  generalize hA : Ar.real = A
  generalize hK : Gives _ _ _ = K
  cbv
  refine ⟨fun h1 => ?_, fun h1 => by exfalso; (subst hA; simp only [Ar.real, NV.val, Int.ofNat_eq_natCast, Int.toNat_natCast, decide_eq_true_eq, decide_eq_false_iff_not, Bool.not_true, Bool.not_false, beq_iff_eq, bne_iff_ne, beq_eq_false_iff_ne, bne_eq_false_iff_eq, ne_eq, Bool.not_eq_true', Bool.not_eq_false', natCast_eq] at *; first | contradiction | omega | (generalize Int.tmod _ _ = qtm at *; omega))⟩
  cbv
  refine ⟨fun h2 => by exfalso; (subst hA; simp only [Ar.real, NV.val, Int.ofNat_eq_natCast, Int.toNat_natCast, decide_eq_true_eq, decide_eq_false_iff_not, Bool.not_true, Bool.not_false, beq_iff_eq, bne_iff_ne, beq_eq_false_iff_ne, bne_eq_false_iff_eq, ne_eq, Bool.not_eq_true', Bool.not_eq_false', natCast_eq] at *; first | contradiction | omega | (generalize Int.tmod _ _ = qtm at *; omega)), fun h2 => ?_⟩
  cbv
  refine DS.runK hA hT (by rw [hP]; exact P_mixed) 4 rfl ?_
  cbv
  refine CD.pass hA c1 [] [0, 1] rfl ⟨rfl, rfl, rfl, rfl, ?_, ?_⟩ rfl (.inr ⟨rfl, trivial⟩) ?_
  · (try cbv) <;> (repeat' (first | exact trivial | exact rfl | apply And.intro | (intro _ hle; first | refine chunk_le hA rfl hle rfl ?_ | refine cat_le hA ?_ | refine upd_le hA ?_ | (try cbv))))
    all_goals (subst hA; (try simp only [natCast_eq] at *); (simp only [Ar.real, NV.val, Int.ofNat_eq_natCast, Int.toNat_natCast]); first | done | omega | decide | exact inR64 (by omega) (by omega) | (refine ⟨?_, ?_⟩ <;> first | omega | decide | exact inR64 (by omega) (by omega)))
  · (try cbv) <;> (repeat' (first | exact trivial | exact rfl | apply And.intro | (intro _ hle; first | refine chunk_le hA rfl hle rfl ?_ | refine cat_le hA ?_ | refine upd_le hA ?_ | (try cbv))))
  cbv
  refine ⟨(by (subst hA; (try simp only [natCast_eq] at *); (simp only [Ar.real, NV.val, Int.ofNat_eq_natCast, Int.toNat_natCast]); first | done | omega | decide | exact inR64 (by omega) (by omega) | (refine ⟨?_, ?_⟩ <;> first | omega | decide | exact inR64 (by omega) (by omega)))), (by (subst hA; (try simp only [natCast_eq] at *); (simp only [Ar.real, NV.val, Int.ofNat_eq_natCast, Int.toNat_natCast]); first | done | omega | decide | exact inR64 (by omega) (by omega) | (refine ⟨?_, ?_⟩ <;> first | omega | decide | exact inR64 (by omega) (by omega)))), ?_⟩
  refine CD.pass hA c2 [] [] rfl ⟨rfl, rfl, rfl, rfl, ?_, ?_⟩ rfl (.inl rfl) ?_
  · (try cbv) <;> (repeat' (first | exact trivial | exact rfl | apply And.intro | (intro _ hle; first | refine chunk_le hA rfl hle rfl ?_ | refine cat_le hA ?_ | refine upd_le hA ?_ | (try cbv))))
    all_goals (subst hA; rw [hw]; rfl)
  · (try cbv) <;> (repeat' (first | exact trivial | exact rfl | apply And.intro | (intro _ hle; first | refine chunk_le hA rfl hle rfl ?_ | refine cat_le hA ?_ | refine upd_le hA ?_ | (try cbv))))
  cbv
  refine DF.fin (by kernel_rfl) (by kernel_rfl) ?_
  cbv
  refine Fin.le hA 2 [] (.tup [.agg (sn w), .lit .i64 0]) (RH 0 1 room a m pl) 90 rfl rfl rfl ?_ ?_ (by rw [← hK]; exact ⟨rfl, rfl, rfl⟩)
  · (try cbv) <;> (repeat' (first | exact trivial | exact rfl | apply And.intro | (intro _ hle; first | refine chunk_le hA rfl hle rfl ?_ | refine cat_le hA ?_ | refine upd_le hA ?_ | (try cbv))))
  · (try cbv) <;> (repeat' (first | exact trivial | exact rfl | apply And.intro | (intro _ hle; first | refine chunk_le hA rfl hle rfl ?_ | refine cat_le hA ?_ | refine upd_le hA ?_ | refine int_le ?_ | skip)))
theorem at_bad {P : Program} {G : Gl} (hP : P = Try.prog) {room a m : Nat} {i : Int} {pl : Nat → Sn} {w : Sn} (h : i < 0 ∨ (m : Int) ≤ i) (hw : w = zSn) :
    FnTr P G 24 [.ptr 0 0, .int .i64 i] (RH 0 1 room a m pl) 2 (Gives (.tup [.agg (sn w), .lit .i64 4]) (RH 0 1 room a m pl) 90) := by
  have hT : T.Ok P := hP ▸ T_ok
  refine FnTr.intro (fn := Try.f24) (c := bodyOf Try.f24) (by rw [hP]; rfl) rfl rfl hT ?_
  generalize hA : Ar.real = A
  generalize hK : Gives _ _ _ = K
  cbv
  refine ⟨fun h1 => ?_, fun h1 => ?_⟩
  · cbv
    refine ⟨fun h2 => ?_, fun h2 => by exfalso; (subst hA; simp only [Ar.real, NV.val, Int.ofNat_eq_natCast, Int.toNat_natCast, decide_eq_true_eq, decide_eq_false_iff_not, Bool.not_true, Bool.not_false, beq_iff_eq, bne_iff_ne, beq_eq_false_iff_ne, bne_eq_false_iff_eq, ne_eq, Bool.not_eq_true', Bool.not_eq_false', natCast_eq] at *; first | contradiction | omega | (generalize Int.tmod _ _ = qtm at *; omega))⟩
    cbv
    refine Fin.le hA 2 [] (.tup [.agg (sn w), .lit .i64 4]) (RH 0 1 room a m pl) 90 rfl rfl rfl ?_ ?_ (by rw [← hK]; exact ⟨rfl, rfl, rfl⟩)
    · (try cbv) <;> (repeat' (first | exact trivial | exact rfl | apply And.intro | (intro _ hle; first | refine chunk_le hA rfl hle rfl ?_ | refine cat_le hA ?_ | refine upd_le hA ?_ | (try cbv))))
      all_goals first | (show (0 : Int) = _; rw [hw]; rfl) | (show _ = (0 : Nat); rw [hw]; rfl) | (show false = _; rw [hw]; rfl)
    · (try cbv) <;> (repeat' (first | exact trivial | exact rfl | apply And.intro | (intro _ hle; first | refine chunk_le hA rfl hle rfl ?_ | refine cat_le hA ?_ | refine upd_le hA ?_ | refine int_le ?_ | skip)))
  · cbv
    refine Fin.le hA 2 [] (.tup [.agg (sn w), .lit .i64 4]) (RH 0 1 room a m pl) 90 rfl rfl rfl ?_ ?_ (by rw [← hK]; exact ⟨rfl, rfl, rfl⟩)
    · (try cbv) <;> (repeat' (first | exact trivial | exact rfl | apply And.intro | (intro _ hle; first | refine chunk_le hA rfl hle rfl ?_ | refine cat_le hA ?_ | refine upd_le hA ?_ | (try cbv))))
      all_goals first | (show (0 : Int) = _; rw [hw]; rfl) | (show _ = (0 : Nat); rw [hw]; rfl) | (show false = _; rw [hw]; rfl)
    · (try cbv) <;> (repeat' (first | exact trivial | exact rfl | apply And.intro | (intro _ hle; first | refine chunk_le hA rfl hle rfl ?_ | refine cat_le hA ?_ | refine upd_le hA ?_ | refine int_le ?_ | skip)))
theorem at_nil {P : Program} {G : Gl} (hP : P = Try.prog) {w : Sn} (hw : w = zSn) :
    FnTr P G 24 [.nilp, .lit .i64 0] [] 0 (Gives (.tup [.agg (sn w), .lit .i64 7]) [] 90) := by
  have hT : T.Ok P := hP ▸ T_ok
  refine FnTr.intro (fn := Try.f24) (c := bodyOf Try.f24) (by rw [hP]; rfl) rfl rfl hT ?_
  generalize hA : Ar.real = A
  generalize hK : Gives _ _ _ = K
  cbv
  refine Fin.le hA 0 [] (.tup [.agg (sn w), .lit .i64 7]) ([]) 90 rfl rfl rfl ?_ ?_ (by rw [← hK]; exact ⟨rfl, rfl, rfl⟩)
  · (try cbv) <;> (repeat' (first | exact trivial | exact rfl | apply And.intro | (intro _ hle; first | refine chunk_le hA rfl hle rfl ?_ | refine cat_le hA ?_ | refine upd_le hA ?_ | (try cbv))))
    all_goals first | (show (0 : Int) = _; rw [hw]; rfl) | (show _ = (0 : Nat); rw [hw]; rfl) | (show false = _; rw [hw]; rfl)
  · (try cbv) <;> (repeat' (first | exact trivial | exact rfl | apply And.intro | (intro _ hle; first | refine chunk_le hA rfl hle rfl ?_ | refine cat_le hA ?_ | refine upd_le hA ?_ | (try cbv))))
end Go.Proofs.Ytkaobalnjimniaa.Rng
