/-
  Rings: what must come of every program.
-/
import Derived.Test.YtkaobalnjimniaaRngF8
set_option linter.unusedVariables false
set_option linter.unusedSimpArgs false
namespace Go.Proofs.Ytkaobalnjimniaa.Rng
open Go.Eng
open Go.RngLaw (Sn sn zSn rgP manyC firstC)
set_option maxRecDepth 100000
set_option maxHeartbeats 4000000
set_option linter.unusedVariables false

theorem lives_fn {P : Program} {G : Gl} (hP : P = Try.prog) :
    FnTr P G 15 [] [] 0 (Gives (.bl true) [] 0) := by
  obtain ⟨x1, hx1⟩ : ∃ q, q = ofL [1] := ⟨_, rfl⟩
  obtain ⟨x2, hx2⟩ : ∃ q, q = ofL [2] := ⟨_, rfl⟩
  obtain ⟨x3, hx3⟩ : ∃ q, q = ofL [3] := ⟨_, rfl⟩
  have y1 : ∀ i, x1 i = [1].getD i 0 := fun i => by rw [hx1]; rfl
  have y2 : ∀ i, x2 i = [2].getD i 0 := fun i => by rw [hx2]; rfl
  have y3 : ∀ i, x3 i = [3].getD i 0 := fun i => by rw [hx3]; rfl
  obtain ⟨s7, h7⟩ : ∃ s : Sn, s = ⟨7, 1, x1, 0, 0, false⟩ := ⟨_, rfl⟩
  obtain ⟨s8, h8⟩ : ∃ s : Sn, s = ⟨8, 1, x2, 0, 0, false⟩ := ⟨_, rfl⟩
  obtain ⟨s9, h9⟩ : ∃ s : Sn, s = ⟨9, 1, x3, 0, 0, false⟩ := ⟨_, rfl⟩
  obtain ⟨h, hh⟩ : ∃ h : Nat → Sn, h = fun i => if i = 0 then s7 else if i = 1 then s8 else s9 := ⟨_, rfl⟩
  have hh0 : h 0 = s7 := by rw [hh]; rfl
  have hh1 : h 1 = s8 := by rw [hh]; rfl
  have hh2 : h 2 = s9 := by rw [hh]; rfl
  obtain ⟨z, hz⟩ : ∃ z, z = zSn := ⟨_, rfl⟩
  have p0 : PushIs 2 0 0 0 1 (rgP h 2 0) (rgP h 2 1) s7 z false := by rw [hz, ← hh0]; exact pushIs_at h 2 0 (by omega)
  have p1 : PushIs 2 0 1 0 2 (rgP h 2 1) (rgP h 2 2) s8 z false := by rw [hz, ← hh1]; exact pushIs_at h 2 1 (by omega)
  have p2 : PushIs 2 0 2 1 2 (rgP h 2 2) (rgP h 2 3) s9 s7 true := by rw [← hh2, ← hh0]; exact pushIs_at h 2 2 (by omega)
  have q3 : rgP h 2 3 0 = s9 := by rw [← hh2]; rfl
  have q4 : rgP h 2 3 1 = s8 := by rw [← hh1]; rfl
  obtain ⟨pl0, e0⟩ : ∃ pl, pl = rgP h 2 0 := ⟨_, rfl⟩
  obtain ⟨pl1, e1⟩ : ∃ pl, pl = rgP h 2 1 := ⟨_, rfl⟩
  obtain ⟨pl2, e2⟩ : ∃ pl, pl = rgP h 2 2 := ⟨_, rfl⟩
  obtain ⟨pl3, e3⟩ : ∃ pl, pl = rgP h 2 3 := ⟨_, rfl⟩
  have hz0 : ∀ i, pl0 i = zSn := fun i => by rw [e0]; rfl
  rw [← e0, ← e1] at p0; rw [← e1, ← e2] at p1; rw [← e2, ← e3] at p2; rw [← e3] at q3 q4
  obtain ⟨g, hg⟩ : ∃ g : Nat → Sn, g = fun i => if i = 0 then s8 else s9 := ⟨_, rfl⟩
  have hgp : ∀ i, i < 2 → g i = pl3 ((1 + i) % 2) := fun i hi => by
    have : i = 0 ∨ i = 1 := by omega
    rcases this with rfl | rfl
    · rw [hg]; exact q4.symm
    · rw [hg]; exact q3.symm
  have hgx : ∀ i, i < 2 → (g i).xl ≤ 1000000 := fun i hi => by
    have : i = 0 ∨ i = 1 := by omega
    rcases this with rfl | rfl
    · rw [hg]; show s8.xl ≤ _; rw [h8]; show 1 ≤ _; omega
    · rw [hg]; show s9.xl ≤ _; rw [h9]; show 1 ≤ _; omega
  have c0 := new_fn (P := P) (G := G) (r := 2) (room := 2) (pl := pl0) hP (by omega) (by omega) hz0
  have c1 := Push_fn (P := P) (G := G) hP ⟨by omega, by omega, by rw [h7]; show 1 ≤ _; omega⟩ p0
  have c2 := Push_fn (P := P) (G := G) hP ⟨by omega, by omega, by rw [h8]; show 1 ≤ _; omega⟩ p1
  have c3 := Push_fn (P := P) (G := G) hP ⟨by omega, by omega, by rw [h9]; show 1 ≤ _; omega⟩ p2
  have c4 := at_ok (P := P) (G := G) (room := 2) (a := 1) (m := 2) (i := 1) (r := 0) (pl := pl3) (w := s9) hP (by omega) rfl q3.symm (by rw [h9]; show 1 ≤ _; omega)
  have c5 := find_fn (P := P) (G := G) (room := 2) (a := 1) (m := 2) (pl := pl3) (g := g) (id := 8) (r := 0) (ok := true) hP (by omega) hgp (.inl ⟨rfl, 0, by omega, by rw [hg]; show s8.id = 8; rw [h8], rfl, fun j h1 h2 => by
    obtain rfl : j = 1 := by omega
    rw [hg]; show s9.id ≠ 8; rw [h9]; show (9 : Int) ≠ 8; omega⟩)
  have c6 := at_nil (P := P) (G := G) hP hz
  have c7 := new_bad (P := P) (G := G) (r := 0) hP (by omega)
  have c8 := len_fn (P := P) (G := G) (room := 2) (a := 1) (m := 2) (pl := pl3) hP
  have c9 := room_fn (P := P) (G := G) (room := 2) (a := 1) (m := 2) (pl := pl3) hP
  have c10 := all_fn (P := P) (G := G) (room := 2) (a := 1) (m := 2) (pl := pl3) (g := g) hP (by omega) hgp hgx
  have c11 := points_fn (P := P) (G := G) (room := 2) (a := 1) (m := 2) (pl := pl3) (g := g) hP (by omega) hgp hgx
  have c12 := len_nil (P := P) (G := G) hP
  have s7e : s7.id = 7 ∧ s7.xl = 1 ∧ s7.x = x1 ∧ s7.p = 0 ∧ s7.q = 0 ∧ s7.b = false := by rw [h7]; exact ⟨rfl, rfl, rfl, rfl, rfl, rfl⟩
  have s8e : s8.id = 8 ∧ s8.xl = 1 ∧ s8.x = x2 ∧ s8.p = 0 ∧ s8.q = 0 ∧ s8.b = false := by rw [h8]; exact ⟨rfl, rfl, rfl, rfl, rfl, rfl⟩
  have s9e : s9.id = 9 ∧ s9.xl = 1 ∧ s9.x = x3 ∧ s9.p = 0 ∧ s9.q = 0 ∧ s9.b = false := by rw [h9]; exact ⟨rfl, rfl, rfl, rfl, rfl, rfl⟩
  clear hx1 hx2 hx3 h7 h8 h9 hh hh0 hh1 hh2 hz p0 p1 p2 q3 q4 e0 e1 e2 e3 hz0 hg hgp hgx
  have hT : T.Ok P := hP ▸ T_ok
  refine FnTr.intro (fn := Try.f15) (c := bodyOf Try.f15) (by rw [hP]; rfl) rfl rfl hT ?_
  generalize hA : Ar.real = A
  generalize hK : Gives _ _ _ = K
  cbv
  refine CS.le hA c0 [] rfl rfl rfl ?_ ?_ ?_
  · (try cbv) <;> (repeat' (first | exact trivial | exact rfl | apply And.intro | (intro _ hle; first | refine chunk_le hA rfl hle rfl ?_ | refine cat_le hA ?_ | refine upd_le hA ?_ | (try cbv))))
  · (try cbv) <;> (repeat' (first | exact trivial | exact rfl | apply And.intro | (intro _ hle; first | refine chunk_le hA rfl hle rfl ?_ | refine cat_le hA ?_ | refine upd_le hA ?_ | (try cbv))))
  cbv
  refine CS.frz hA [15] (by (try cbv) <;> (repeat' (first | exact trivial | exact rfl | apply And.intro | (intro _ hle; first | refine chunk_le hA rfl hle rfl ?_ | refine cat_le hA ?_ | refine upd_le hA ?_ | (try cbv)))); all_goals (subst hA; (try simp only [natCast_eq] at *); (simp only [Ar.real, NV.val, Int.ofNat_eq_natCast, Int.toNat_natCast]); first | done | omega | decide | exact inR64 (by omega) (by omega) | (refine ⟨?_, ?_⟩ <;> first | omega | decide | exact inR64 (by omega) (by omega)))) ?_
  cbv
  refine CS.le hA c1 [(1, 0), (2, 1)] rfl rfl rfl ?_ ?_ ?_
  · (try cbv) <;> (repeat' (first | exact trivial | exact rfl | apply And.intro | (intro _ hle; first | refine chunk_le hA rfl hle rfl ?_ | refine cat_le hA ?_ | refine upd_le hA ?_ | (try cbv))))
    all_goals first
      | exact s7e.1.symm
      | exact s7e.2.1.symm
      | exact s7e.2.2.2.1.symm
      | exact s7e.2.2.2.2.1.symm
      | exact s7e.2.2.2.2.2.symm
      | (rw [s7e.2.2.1]; exact y1 _)
  · (try cbv) <;> (repeat' (first | exact trivial | exact rfl | apply And.intro | (intro _ hle; first | refine chunk_le hA rfl hle rfl ?_ | refine cat_le hA ?_ | refine upd_le hA ?_ | refine int_le ?_ | skip)))
  cbv
  refine CS.frz hA [324] (by (try cbv) <;> (repeat' (first | exact trivial | exact rfl | apply And.intro | (intro _ hle; first | refine chunk_le hA rfl hle rfl ?_ | refine cat_le hA ?_ | refine upd_le hA ?_ | (try cbv)))); all_goals (subst hA; (try simp only [natCast_eq] at *); (simp only [Ar.real, NV.val, Int.ofNat_eq_natCast, Int.toNat_natCast]); first | done | omega | decide | exact inR64 (by omega) (by omega) | (refine ⟨?_, ?_⟩ <;> first | omega | decide | exact inR64 (by omega) (by omega)))) ?_
  cbv
  refine CS.le hA c2 [(1, 0), (2, 1)] rfl rfl rfl ?_ ?_ ?_
  · (try cbv) <;> (repeat' (first | exact trivial | exact rfl | apply And.intro | (intro _ hle; first | refine chunk_le hA rfl hle rfl ?_ | refine cat_le hA ?_ | refine upd_le hA ?_ | (try cbv))))
    all_goals first
      | exact s8e.1.symm
      | exact s8e.2.1.symm
      | exact s8e.2.2.2.1.symm
      | exact s8e.2.2.2.2.1.symm
      | exact s8e.2.2.2.2.2.symm
      | (rw [s8e.2.2.1]; exact y2 _)
  · (try cbv) <;> (repeat' (first | exact trivial | exact rfl | apply And.intro | (intro _ hle; first | refine chunk_le hA rfl hle rfl ?_ | refine cat_le hA ?_ | refine upd_le hA ?_ | refine int_le ?_ | skip)))
  cbv
  refine CS.frz hA [633] (by (try cbv) <;> (repeat' (first | exact trivial | exact rfl | apply And.intro | (intro _ hle; first | refine chunk_le hA rfl hle rfl ?_ | refine cat_le hA ?_ | refine upd_le hA ?_ | (try cbv)))); all_goals (subst hA; (try simp only [natCast_eq] at *); (simp only [Ar.real, NV.val, Int.ofNat_eq_natCast, Int.toNat_natCast]); first | done | omega | decide | exact inR64 (by omega) (by omega) | (refine ⟨?_, ?_⟩ <;> first | omega | decide | exact inR64 (by omega) (by omega)))) ?_
  cbv
  refine CS.le hA c3 [(1, 0), (2, 1)] rfl rfl rfl ?_ ?_ ?_
  · (try cbv) <;> (repeat' (first | exact trivial | exact rfl | apply And.intro | (intro _ hle; first | refine chunk_le hA rfl hle rfl ?_ | refine cat_le hA ?_ | refine upd_le hA ?_ | (try cbv))))
    all_goals first
      | exact s9e.1.symm
      | exact s9e.2.1.symm
      | exact s9e.2.2.2.1.symm
      | exact s9e.2.2.2.2.1.symm
      | exact s9e.2.2.2.2.2.symm
      | (rw [s9e.2.2.1]; exact y3 _)
  · (try cbv) <;> (repeat' (first | exact trivial | exact rfl | apply And.intro | (intro _ hle; first | refine chunk_le hA rfl hle rfl ?_ | refine cat_le hA ?_ | refine upd_le hA ?_ | refine int_le ?_ | skip)))
  cbv
  refine CS.le hA c4 [(1, 0), (2, 1)] rfl rfl rfl ?_ ?_ ?_
  · (try cbv) <;> (repeat' (first | exact trivial | exact rfl | apply And.intro | (intro _ hle; first | refine chunk_le hA rfl hle rfl ?_ | refine cat_le hA ?_ | refine upd_le hA ?_ | (try cbv))))
  · (try cbv) <;> (repeat' (first | exact trivial | exact rfl | apply And.intro | (intro _ hle; first | refine chunk_le hA rfl hle rfl ?_ | refine cat_le hA ?_ | refine upd_le hA ?_ | refine int_le ?_ | skip)))
  cbv
  refine CS.lend hA (FnTr.res hA c5 (.tup [.lit .i64 0, .bl true]) ⟨rfl, rfl, trivial⟩) [] [1, 2] 1 rfl ⟨rfl, rfl, rfl, rfl, ?_, ?_⟩ rfl (.inr ⟨rfl, trivial⟩) ?_
  · (try cbv) <;> (repeat' (first | exact trivial | exact rfl | apply And.intro | (intro _ hle; first | refine chunk_le hA rfl hle rfl ?_ | refine cat_le hA ?_ | refine upd_le hA ?_ | (try cbv))))
    all_goals (subst hA; (try simp only [natCast_eq] at *); (simp only [Ar.real, NV.val, Int.ofNat_eq_natCast, Int.toNat_natCast]); first | done | omega | decide | exact inR64 (by omega) (by omega) | (refine ⟨?_, ?_⟩ <;> first | omega | decide | exact inR64 (by omega) (by omega)))
  · (try cbv) <;> (repeat' (first | exact trivial | exact rfl | apply And.intro | (intro _ hle; first | refine chunk_le hA rfl hle rfl ?_ | refine cat_le hA ?_ | refine upd_le hA ?_ | (try cbv))))
  cbv
  refine CS.le hA c6 [] rfl rfl rfl ?_ ?_ ?_
  · (try cbv) <;> (repeat' (first | exact trivial | exact rfl | apply And.intro | (intro _ hle; first | refine chunk_le hA rfl hle rfl ?_ | refine cat_le hA ?_ | refine upd_le hA ?_ | (try cbv))))
  · (try cbv) <;> (repeat' (first | exact trivial | exact rfl | apply And.intro | (intro _ hle; first | refine chunk_le hA rfl hle rfl ?_ | refine cat_le hA ?_ | refine upd_le hA ?_ | (try cbv))))
  cbv
  refine CS.le hA (c7) [] rfl rfl rfl ?_ ?_ ?_
  · (try cbv) <;> (repeat' (first | exact trivial | exact rfl | apply And.intro | (intro _ hle; first | refine chunk_le hA rfl hle rfl ?_ | refine cat_le hA ?_ | refine upd_le hA ?_ | (try cbv)))) <;> (try (subst hA; (try simp only [natCast_eq] at *); (simp only [Ar.real, NV.val, Int.ofNat_eq_natCast, Int.toNat_natCast]); first | done | omega | decide | exact inR64 (by omega) (by omega) | (refine ⟨?_, ?_⟩ <;> first | omega | decide | exact inR64 (by omega) (by omega))))
  · (try cbv) <;> (repeat' (first | exact trivial | exact rfl | apply And.intro | (intro _ hle; first | refine chunk_le hA rfl hle rfl ?_ | refine cat_le hA ?_ | refine upd_le hA ?_ | (try cbv))))
  cbv
  have k1 : A.eq s7.id 7 = true := by subst hA; simpa [Ar.real] using s7e.1
  have k2 : A.eq s9.id 9 = true := by subst hA; simpa [Ar.real] using s9e.1
  repeat' (first | (refine ⟨fun h => absurd (h.symm.trans k1) (by decide), fun _ => ?_⟩; cbv) | (refine ⟨fun _ => ?_, fun h => absurd (h.symm.trans k1) (by decide)⟩; cbv) | (refine ⟨fun h => absurd (h.symm.trans k2) (by decide), fun _ => ?_⟩; cbv) | (refine ⟨fun _ => ?_, fun h => absurd (h.symm.trans k2) (by decide)⟩; cbv))
  refine CS.lend hA (FnTr.res hA c8 (.lit .i64 2) rfl) [] [1, 2] 1 rfl ⟨rfl, rfl, rfl, rfl, ?_, ?_⟩ rfl (.inr ⟨rfl, trivial⟩) ?_
  · (try cbv) <;> (repeat' (first | exact trivial | exact rfl | apply And.intro | (intro _ hle; first | refine chunk_le hA rfl hle rfl ?_ | refine cat_le hA ?_ | refine upd_le hA ?_ | (try cbv))))
    all_goals (subst hA; (try simp only [natCast_eq] at *); (simp only [Ar.real, NV.val, Int.ofNat_eq_natCast, Int.toNat_natCast]); first | done | omega | decide | exact inR64 (by omega) (by omega) | (refine ⟨?_, ?_⟩ <;> first | omega | decide | exact inR64 (by omega) (by omega)))
  · (try cbv) <;> (repeat' (first | exact trivial | exact rfl | apply And.intro | (intro _ hle; first | refine chunk_le hA rfl hle rfl ?_ | refine cat_le hA ?_ | refine upd_le hA ?_ | (try cbv))))
  cbv
  refine CS.lend hA (FnTr.res hA c9 (.lit .i64 2) rfl) [] [1, 2] 1 rfl ⟨rfl, rfl, rfl, rfl, ?_, ?_⟩ rfl (.inr ⟨rfl, trivial⟩) ?_
  · (try cbv) <;> (repeat' (first | exact trivial | exact rfl | apply And.intro | (intro _ hle; first | refine chunk_le hA rfl hle rfl ?_ | refine cat_le hA ?_ | refine upd_le hA ?_ | (try cbv))))
    all_goals (subst hA; (try simp only [natCast_eq] at *); (simp only [Ar.real, NV.val, Int.ofNat_eq_natCast, Int.toNat_natCast]); first | done | omega | decide | exact inR64 (by omega) (by omega) | (refine ⟨?_, ?_⟩ <;> first | omega | decide | exact inR64 (by omega) (by omega)))
  · (try cbv) <;> (repeat' (first | exact trivial | exact rfl | apply And.intro | (intro _ hle; first | refine chunk_le hA rfl hle rfl ?_ | refine cat_le hA ?_ | refine upd_le hA ?_ | (try cbv))))
  cbv
  refine CS.le hA (FnTr.res hA c10 (.ro 5 (.l 2) (fun e => sn (g e.val))) (by (try cbv) <;> (repeat' (first | exact trivial | exact rfl | apply And.intro | (intro _ hle; first | refine chunk_le hA rfl hle rfl ?_ | refine cat_le hA ?_ | refine upd_le hA ?_ | (try cbv)))))) [(1, 0), (2, 1)] rfl rfl rfl ?_ ?_ ?_
  · (try cbv) <;> (repeat' (first | exact trivial | exact rfl | apply And.intro | (intro _ hle; first | refine chunk_le hA rfl hle rfl ?_ | refine cat_le hA ?_ | refine upd_le hA ?_ | (try cbv))))
  · (try cbv) <;> (repeat' (first | exact trivial | exact rfl | apply And.intro | (intro _ hle; first | refine chunk_le hA rfl hle rfl ?_ | refine cat_le hA ?_ | refine upd_le hA ?_ | refine int_le ?_ | skip)))
  cbv
  refine CS.le hA (FnTr.res hA c11 (.ro 1 (.l 2) (fun e => [.ro 1 (.s (g e.val).xl) (fun x => [.int .i64 ((g e.val).x x.val)])])) (by (try cbv) <;> (repeat' (first | exact trivial | exact rfl | apply And.intro | (intro _ hle; first | refine chunk_le hA rfl hle rfl ?_ | refine cat_le hA ?_ | refine upd_le hA ?_ | (try cbv)))))) [(1, 0), (2, 1)] rfl rfl rfl ?_ ?_ ?_
  · (try cbv) <;> (repeat' (first | exact trivial | exact rfl | apply And.intro | (intro _ hle; first | refine chunk_le hA rfl hle rfl ?_ | refine cat_le hA ?_ | refine upd_le hA ?_ | (try cbv))))
  · (try cbv) <;> (repeat' (first | exact trivial | exact rfl | apply And.intro | (intro _ hle; first | refine chunk_le hA rfl hle rfl ?_ | refine cat_le hA ?_ | refine upd_le hA ?_ | refine int_le ?_ | skip)))
  cbv
  refine CS.le hA c12 [] rfl rfl rfl ?_ ?_ ?_
  · (try cbv) <;> (repeat' (first | exact trivial | exact rfl | apply And.intro | (intro _ hle; first | refine chunk_le hA rfl hle rfl ?_ | refine cat_le hA ?_ | refine upd_le hA ?_ | (try cbv))))
  · (try cbv) <;> (repeat' (first | exact trivial | exact rfl | apply And.intro | (intro _ hle; first | refine chunk_le hA rfl hle rfl ?_ | refine cat_le hA ?_ | refine upd_le hA ?_ | (try cbv))))
  cbv
  refine Fin.le hA 0 [] (.bl true) ([]) 0 rfl rfl rfl ?_ ?_ (by rw [← hK]; exact ⟨rfl, rfl, rfl⟩)
  · (try cbv) <;> (repeat' (first | exact trivial | exact rfl | apply And.intro | (intro _ hle; first | refine chunk_le hA rfl hle rfl ?_ | refine cat_le hA ?_ | refine upd_le hA ?_ | (try cbv))))
  · (try cbv) <;> (repeat' (first | exact trivial | exact rfl | apply And.intro | (intro _ hle; first | refine chunk_le hA rfl hle rfl ?_ | refine cat_le hA ?_ | refine upd_le hA ?_ | (try cbv))))
end Go.Proofs.Ytkaobalnjimniaa.Rng
