/-
  Vectors: what must come of every program.
-/
import Derived.Test.YtkaobalnjimniaaVecH6
import Derived.Test.YtkaobalnjimniaaEngThree
set_option linter.unusedVariables false
set_option linter.unusedSimpArgs false
namespace Go.Proofs.Ytkaobalnjimniaa.Vec
open Go.Eng
open Go.VecLaw (lowV topV dotV gapV OS openV)
set_option maxRecDepth 100000
set_option maxHeartbeats 4000000
set_option linter.unusedVariables false

/-- The elements of a literal that are no numbers. -/
theorem chunk_two {A : Ar} {cs : List SV} (h : intsOf cs = none) {e : NV} (he : e.val < cs.length) : chunkS A 1 cs e = [cs.getD e.val .any] := by
  have h1 : chunk 1 cs e = [cs.getD e.val .any] := by
    unfold chunk
    rw [Nat.mul_one, List.drop_eq_getElem_cons he]
    simp only [List.take_succ_cons, List.take_zero, List.getD_eq_getElem?_getD, List.getElem?_eq_getElem he, Option.getD_some]
  cases e with
  | l k => exact h1
  | s k =>
    show (match intsOf cs with | some (kd, ns) => [SV.int kd (A.sel k ns)] | none => chunk 1 cs (.s k)) = _
    rw [h]; exact h1

theorem lives_fn {P : Program} {G : Gl} (hP : P = Try.prog) :
    FnTr P G 42 [] [] 0 (Gives (.bl true) [] 0) := by
  obtain ⟨a1, ha1⟩ : ∃ q, q = ofL [2, -1] := ⟨_, rfl⟩
  obtain ⟨a2, ha2⟩ : ∃ q, q = ofL [5, 7] := ⟨_, rfl⟩
  obtain ⟨l0, hl0⟩ : ∃ q, q = ofL [1, 5] := ⟨_, rfl⟩
  obtain ⟨l1, hl1⟩ : ∃ q, q = ofL [3, 2] := ⟨_, rfl⟩
  obtain ⟨a3, ha3⟩ : ∃ q, q = ofL [1, 1] := ⟨_, rfl⟩
  obtain ⟨a4, ha4⟩ : ∃ q, q = ofL [3, 3] := ⟨_, rfl⟩
  obtain ⟨a5, ha5⟩ : ∃ q, q = ofL [1, 2] := ⟨_, rfl⟩
  obtain ⟨a6, ha6⟩ : ∃ q, q = ofL [3, 5] := ⟨_, rfl⟩
  obtain ⟨a7, ha7⟩ : ∃ q, q = ofL [0, 4] := ⟨_, rfl⟩
  obtain ⟨a8, ha8⟩ : ∃ q, q = ofL [0] := ⟨_, rfl⟩
  obtain ⟨g, hg⟩ : ∃ g : Nat → Nat → Int, g = fun i => if i = 0 then l0 else l1 := ⟨_, rfl⟩
  obtain ⟨ln, hln⟩ : ∃ ln : Nat → Nat, ln = fun _ => 2 := ⟨_, rfl⟩
  have e1 : ∀ i, a1 i = [2, -1].getD i 0 := fun i => by rw [ha1]; rfl
  have e2 : ∀ i, a2 i = [5, 7].getD i 0 := fun i => by rw [ha2]; rfl
  have e3 : ∀ i, a3 i = [1, 1].getD i 0 := fun i => by rw [ha3]; rfl
  have e4 : ∀ i, a4 i = [3, 3].getD i 0 := fun i => by rw [ha4]; rfl
  have e5 : ∀ i, a5 i = [1, 2].getD i 0 := fun i => by rw [ha5]; rfl
  have e6 : ∀ i, a6 i = [3, 5].getD i 0 := fun i => by rw [ha6]; rfl
  have e7 : ∀ i, a7 i = [0, 4].getD i 0 := fun i => by rw [ha7]; rfl
  have e8 : ∀ i, a8 i = [0].getD i 0 := fun i => by rw [ha8]; rfl
  have e9 : ∀ i, l0 i = [1, 5].getD i 0 := fun i => by rw [hl0]; rfl
  have e10 : ∀ i, l1 i = [3, 2].getD i 0 := fun i => by rw [hl1]; rfl
  have g0 : g 0 = l0 := by rw [hg]; rfl
  have g1 : g 1 = l1 := by rw [hg]; rfl
  have hln0 : ln 0 = 2 := by rw [hln]
  have hln1 : ln 1 = 2 := by rw [hln]
  have hlx : ∀ i, i < 2 → ln i ≤ 9223372036854775807 := fun i hi => by rw [hln]; show 2 ≤ _; omega
  have c1 := dot_fn (P := P) (G := G) (n := 2) (m := 2) (f := a1) (g := a2) (r := 3) (er := 0) hP (by omega) (by omega) (.inl ⟨by rw [ha1, ha2]; unfold DotOk PartsP VecP In32; decide, rfl, by rw [ha1, ha2]; decide⟩)
  have hall : AllP 2 ln g 2 := by rw [hln, hg, hl0, hl1]; unfold AllP VecP In32; decide
  have c2 := box_fn (P := P) (G := G) (k := 2) (d := 2) (len := ln) (g := g) (dim := 2) (er := 0) (lo := fun j => lowV (fun i => g i j) 1) (hi := fun j => topV (fun i => g i j) 1) hP (by omega) hlx (.inl ⟨hall, rfl, rfl, fun _ => ⟨rfl, rfl⟩⟩)
  obtain ⟨lo, hlo⟩ : ∃ lo : Nat → Int, lo = fun j => lowV (fun i => g i j) 1 := ⟨_, rfl⟩
  obtain ⟨hi, hhi⟩ : ∃ hi : Nat → Int, hi = fun j => topV (fun i => g i j) 1 := ⟨_, rfl⟩
  have c2 : FnTr P G 50 [LSv 2 ln g, .int .i64 2] [] 0 (Gives (.tup [.ro 1 (.s 2) (fun e => [.int .i64 (lo e.val)]), .ro 1 (.s 2) (fun e => [.int .i64 (hi e.val)]), .int .i64 0]) [] 4) := by rw [hlo, hhi]; exact c2
  have c3 := reach_fn (P := P) (G := G) (n := 2) (k := 2) (f := a3) (len := ln) (g := g) (r1 := 5) (r2 := 6) (er := 0) hP (by omega) (by omega) hlx (.inl ⟨by rw [hln, hg, hl0, hl1, ha3]; unfold ReachOk DotOk PartsP VecP In32; decide, rfl, by rw [hg, hl0, hl1, ha3]; decide, by rw [hg, hl0, hl1, ha3]; decide⟩)
  have c4 := gap_fn (P := P) (G := G) (n := 2) (m := 2) (f := l0) (g := l1) (r := 5) (er := 0) hP (by omega) (by omega) (.inl ⟨by rw [hl0, hl1]; unfold GapOk VecP In32; decide, rfl, by rw [hl0, hl1]; decide⟩)
  have c5 := near_fn (P := P) (G := G) (k := 2) (m := 2) (len := ln) (g := g) (x := a4) (r1 := 1) (r2 := 1) (er := 0) hP (by omega) hlx (by omega) (.inl ⟨by rw [hln, hg, hl0, hl1, ha4]; unfold NearOk GapOk VecP In32; decide, rfl, by rw [hln, hg, hl0, hl1, ha4]; decide, by rw [hln, hg, hl0, hl1, ha4]; decide⟩)
  have c6 := same_fn (P := P) (G := G) (n := 2) (m := 2) (f := lo) (g := a5) (r := true) hP (by omega) (by omega) ⟨fun _ => by rw [hlo, hg, hl0, hl1, ha5]; decide, fun _ => rfl⟩
  have c7 := same_fn (P := P) (G := G) (n := 2) (m := 2) (f := hi) (g := a6) (r := true) hP (by omega) (by omega) ⟨fun _ => by rw [hhi, hg, hl0, hl1, ha6]; decide, fun _ => rfl⟩
  have c8 := is_fn (P := P) (G := G) (n := 2) (f := l0) (dim := 2) (r := true) hP (by omega) ⟨fun _ => by rw [hl0]; unfold VecP In32; decide, fun _ => rfl⟩
  have c9 := is_fn (P := P) (G := G) (n := 2) (f := l0) (dim := 3) (r := false) hP (by omega) ⟨fun h => by (cases h), fun h => by have := h.1; omega⟩
  have c10 := parts_fn (P := P) (G := G) (n := 2) (f := a7) (dim := 2) (r := true) hP (by omega) ⟨fun _ => by rw [ha7]; unfold PartsP; decide, fun _ => rfl⟩
  have c11 := parts_fn (P := P) (G := G) (n := 1) (f := a8) (dim := 1) (r := false) hP (by omega) ⟨fun h => by (cases h), fun h => absurd h (by rw [ha8]; unfold PartsP; decide)⟩
  have c12 := vin_fn (P := P) (G := G) (n := 2) (m := 2) (p := 2) (lo := lo) (hi := hi) (v := l0) (r := true) hP (by omega) ⟨fun _ => by rw [hlo, hhi, hg, hl0, hl1]; unfold InP; decide, fun _ => rfl⟩
  have c13 := open_fn (P := P) (G := G) (n := 2) (m := 2) (k := 2) (c := 2) (f := lo) (g := hi) (a := (openV lo hi 2).a) hP (by omega) (by omega) rfl (by omega) (openV lo hi 2) rfl (by rw [hlo, hhi, hg, hl0, hl1]; decide) (fun _ => rfl)
  obtain ⟨op, hop⟩ : ∃ op, op = (openV lo hi 2).a := ⟨_, rfl⟩
  rw [← hop] at c13
  have c14 := order_fn (P := P) (G := G) (n := 2) (m := 2) (f := l0) (g := l1) (r := -1) hP (by omega) (by omega) (by rw [hl0, hl1]; unfold OrdIs; decide)
  have hrow : ∀ {A : Ar}, Ar.real = A → ∀ e : NV, ltNV A e (.l 2) → leL (leSV A 3) (chunkS A 1 [.ro 1 (.l 2) (fun e => chunkS A 1 [.lit .i64 1, .lit .i64 5] (addNV A (.l 0) e)), .ro 1 (.l 2) (fun e => chunkS A 1 [.lit .i64 3, .lit .i64 2] (addNV A (.l 0) e))] (addNV A (.l 0) e)) [.ro 1 (.s (ln e.val)) (fun x => [.int .i64 (g e.val x.val)])] := fun {A} hA e he => by
    have h2 : e.val < 2 := by subst hA; exact ltNV_real.1 he
    rw [show addNV A (.l 0) e = e from rfl, chunk_two rfl h2]
    have h3 : e.val = 0 ∨ e.val = 1 := by omega
    rcases h3 with h3 | h3 <;> rw [h3]
    · refine ⟨⟨hln0.symm, fun x hx => ?_⟩, trivial⟩
      exact chunk_le hA rfl hx rfl (by rw [g0]; exact e9 _)
    · refine ⟨⟨hln1.symm, fun x hx => ?_⟩, trivial⟩
      exact chunk_le hA rfl hx rfl (by rw [g1]; exact e10 _)
  clear ha1 ha2 ha3 ha4 ha5 ha6 ha7 ha8 hall hlo hhi hop hg hln hl0 hl1 hlx
  have hT : T.Ok P := hP ▸ T_ok
  refine FnTr.intro (fn := Try.f42) (c := bodyOf Try.f42) (by rw [hP]; rfl) rfl rfl hT ?_
  generalize hA : Ar.real = A
  generalize hK : Gives _ _ _ = K
  cbv
  have hr := hrow hA
  clear hrow
  refine CS.frzA hA (by (try cbv) <;> (repeat' (first | exact trivial | exact rfl | apply And.intro | (intro _ hle; first | refine chunk_le hA rfl hle rfl ?_ | refine cat_le hA ?_ | refine upd_le hA ?_ | (try cbv)))); all_goals (subst hA; (try simp only [natCast_eq] at *); (simp only [Ar.real, NV.val, Int.ofNat_eq_natCast, Int.toNat_natCast]); first | done | omega | decide | exact inR64 (by omega) (by omega) | (refine ⟨?_, ?_⟩ <;> first | omega | decide | exact inR64 (by omega) (by omega)))) ?_
  cbv
  refine CS.leR hA c1 (.tup [.lit .i64 3, .lit .i64 0]) [] rfl rfl rfl ?_ ?_ ?_ ?_
  · (try cbv) <;> (repeat' (first | exact trivial | exact rfl | apply And.intro | (intro _ hle; first | refine chunk_le hA rfl hle rfl ?_ | refine cat_le hA ?_ | refine upd_le hA ?_ | (try cbv))))
    · exact e1 _
    · exact e2 _
  · (try cbv) <;> (repeat' (first | exact trivial | exact rfl | apply And.intro | (intro _ hle; first | refine chunk_le hA rfl hle rfl ?_ | refine cat_le hA ?_ | refine upd_le hA ?_ | (try cbv))))
  · (try cbv) <;> (repeat' (first | exact trivial | exact rfl | apply And.intro | (intro _ hle; first | refine chunk_le hA rfl hle rfl ?_ | refine cat_le hA ?_ | refine upd_le hA ?_ | (try cbv))))
  cbv
  refine ⟨(by (subst hA; (try simp only [natCast_eq] at *); (simp only [Ar.real, NV.val, Int.ofNat_eq_natCast, Int.toNat_natCast]); first | done | omega | decide | exact inR64 (by omega) (by omega) | (refine ⟨?_, ?_⟩ <;> first | omega | decide | exact inR64 (by omega) (by omega)))), ?_⟩
  refine CS.frzA hA (by (try cbv) <;> (repeat' (first | exact trivial | exact rfl | apply And.intro | (intro _ hle; first | refine chunk_le hA rfl hle rfl ?_ | refine cat_le hA ?_ | refine upd_le hA ?_ | (try cbv)))); all_goals (subst hA; (try simp only [natCast_eq] at *); (simp only [Ar.real, NV.val, Int.ofNat_eq_natCast, Int.toNat_natCast]); first | done | omega | decide | exact inR64 (by omega) (by omega) | (refine ⟨?_, ?_⟩ <;> first | omega | decide | exact inR64 (by omega) (by omega)))) ?_
  cbv
  refine CS.leR hA c2 (.tup [.ro 1 (.l 2) (fun e => [.int .i64 (lo e.val)]), .ro 1 (.l 2) (fun e => [.int .i64 (hi e.val)]), .lit .i64 0]) [] rfl rfl rfl ?_ ?_ ?_ ?_
  · (try cbv) <;> (repeat' (first | exact trivial | exact rfl | apply And.intro | (intro _ hle; first | exact hr _ hle | refine chunk_le hA rfl hle rfl ?_ | refine cat_le hA ?_ | refine upd_le hA ?_ | refine int_le ?_ | skip)))
  · (try cbv) <;> (repeat' (first | exact trivial | exact rfl | apply And.intro | (intro _ hle; first | refine chunk_le hA rfl hle rfl ?_ | refine cat_le hA ?_ | refine upd_le hA ?_ | (try cbv))))
  · (try cbv) <;> (repeat' (first | exact trivial | exact rfl | apply And.intro | (intro _ hle; first | refine chunk_le hA rfl hle rfl ?_ | refine cat_le hA ?_ | refine upd_le hA ?_ | (try cbv))))
  cbv
  refine CS.frzA hA (by (try cbv) <;> (repeat' (first | exact trivial | exact rfl | apply And.intro | (intro _ hle; first | refine chunk_le hA rfl hle rfl ?_ | refine cat_le hA ?_ | refine upd_le hA ?_ | (try cbv)))); all_goals (subst hA; (try simp only [natCast_eq] at *); (simp only [Ar.real, NV.val, Int.ofNat_eq_natCast, Int.toNat_natCast]); first | done | omega | decide | exact inR64 (by omega) (by omega) | (refine ⟨?_, ?_⟩ <;> first | omega | decide | exact inR64 (by omega) (by omega)))) ?_
  cbv
  refine CS.leR hA c3 (.tup [.lit .i64 5, .lit .i64 6, .lit .i64 0]) [] rfl rfl rfl ?_ ?_ ?_ ?_
  · (try cbv) <;> (repeat' (first | exact trivial | exact rfl | apply And.intro | (intro _ hle; first | exact hr _ hle | refine chunk_le hA rfl hle rfl ?_ | refine cat_le hA ?_ | refine upd_le hA ?_ | refine int_le ?_ | skip)))
    exact e3 _
  · (try cbv) <;> (repeat' (first | exact trivial | exact rfl | apply And.intro | (intro _ hle; first | refine chunk_le hA rfl hle rfl ?_ | refine cat_le hA ?_ | refine upd_le hA ?_ | (try cbv))))
  · (try cbv) <;> (repeat' (first | exact trivial | exact rfl | apply And.intro | (intro _ hle; first | refine chunk_le hA rfl hle rfl ?_ | refine cat_le hA ?_ | refine upd_le hA ?_ | (try cbv))))
  cbv
  refine DS.runK hA hT (by rw [hP]; exact P_mixed) 4 rfl ?_
  cbv
  refine CD.pass hA (FnTr.res hA c4 (.tup [.lit .i64 5, .lit .i64 0]) ⟨rfl, rfl, trivial⟩) [] [] rfl ⟨rfl, rfl, rfl, rfl, ?_, ?_⟩ rfl (.inl rfl) ?_
  · (try cbv) <;> (repeat' (first | exact trivial | exact rfl | apply And.intro | (intro _ hle; first | refine chunk_le hA rfl hle rfl ?_ | refine cat_le hA ?_ | refine upd_le hA ?_ | (try cbv))))
    · exact e9 _
    · exact e10 _
  · (try cbv) <;> (repeat' (first | exact trivial | exact rfl | apply And.intro | (intro _ hle; first | refine chunk_le hA rfl hle rfl ?_ | refine cat_le hA ?_ | refine upd_le hA ?_ | (try cbv))))
  cbv
  refine DF.fin (by kernel_rfl) (by kernel_rfl) ?_
  cbv
  refine CS.frzA hA (by (try cbv) <;> (repeat' (first | exact trivial | exact rfl | apply And.intro | (intro _ hle; first | refine chunk_le hA rfl hle rfl ?_ | refine cat_le hA ?_ | refine upd_le hA ?_ | (try cbv)))); all_goals (subst hA; (try simp only [natCast_eq] at *); (simp only [Ar.real, NV.val, Int.ofNat_eq_natCast, Int.toNat_natCast]); first | done | omega | decide | exact inR64 (by omega) (by omega) | (refine ⟨?_, ?_⟩ <;> first | omega | decide | exact inR64 (by omega) (by omega)))) ?_
  cbv
  refine CS.leR hA c5 (.tup [.lit .i64 1, .lit .i64 1, .lit .i64 0]) [] rfl rfl rfl ?_ ?_ ?_ ?_
  · (try cbv) <;> (repeat' (first | exact trivial | exact rfl | apply And.intro | (intro _ hle; first | exact hr _ hle | refine chunk_le hA rfl hle rfl ?_ | refine cat_le hA ?_ | refine upd_le hA ?_ | refine int_le ?_ | skip)))
    exact e4 _
  · (try cbv) <;> (repeat' (first | exact trivial | exact rfl | apply And.intro | (intro _ hle; first | refine chunk_le hA rfl hle rfl ?_ | refine cat_le hA ?_ | refine upd_le hA ?_ | (try cbv))))
  · (try cbv) <;> (repeat' (first | exact trivial | exact rfl | apply And.intro | (intro _ hle; first | refine chunk_le hA rfl hle rfl ?_ | refine cat_le hA ?_ | refine upd_le hA ?_ | (try cbv))))
  cbv
  refine DS.runK hA hT (by rw [hP]; exact P_mixed) 4 rfl ?_
  cbv
  refine CD.pass hA (FnTr.res hA c6 (.bl true) rfl) [] [128] rfl ⟨rfl, rfl, rfl, rfl, ?_, ?_⟩ rfl (.inr ⟨rfl, trivial⟩) ?_
  · (try cbv) <;> (repeat' (first | exact trivial | exact rfl | apply And.intro | (intro _ hle; first | refine chunk_le hA rfl hle rfl ?_ | refine cat_le hA ?_ | refine upd_le hA ?_ | (try cbv))))
    · (subst hA; (try simp only [natCast_eq] at *); (simp only [Ar.real, NV.val, Int.ofNat_eq_natCast, Int.toNat_natCast]); first | done | omega | decide | exact inR64 (by omega) (by omega) | (refine ⟨?_, ?_⟩ <;> first | omega | decide | exact inR64 (by omega) (by omega)))
    · exact e5 _
  · (try cbv) <;> (repeat' (first | exact trivial | exact rfl | apply And.intro | (intro _ hle; first | refine chunk_le hA rfl hle rfl ?_ | refine cat_le hA ?_ | refine upd_le hA ?_ | (try cbv))))
  cbv
  refine CD.pass hA (FnTr.res hA c7 (.bl true) rfl) [] [148] rfl ⟨rfl, rfl, rfl, rfl, ?_, ?_⟩ rfl (.inr ⟨rfl, trivial⟩) ?_
  · (try cbv) <;> (repeat' (first | exact trivial | exact rfl | apply And.intro | (intro _ hle; first | refine chunk_le hA rfl hle rfl ?_ | refine cat_le hA ?_ | refine upd_le hA ?_ | (try cbv))))
    · (subst hA; (try simp only [natCast_eq] at *); (simp only [Ar.real, NV.val, Int.ofNat_eq_natCast, Int.toNat_natCast]); first | done | omega | decide | exact inR64 (by omega) (by omega) | (refine ⟨?_, ?_⟩ <;> first | omega | decide | exact inR64 (by omega) (by omega)))
    · exact e6 _
  · (try cbv) <;> (repeat' (first | exact trivial | exact rfl | apply And.intro | (intro _ hle; first | refine chunk_le hA rfl hle rfl ?_ | refine cat_le hA ?_ | refine upd_le hA ?_ | (try cbv))))
  cbv
  refine CD.pass hA (FnTr.res hA c8 (.bl true) rfl) [] [] rfl ⟨rfl, rfl, rfl, rfl, ?_, ?_⟩ rfl (.inl rfl) ?_
  · (try cbv) <;> (repeat' (first | exact trivial | exact rfl | apply And.intro | (intro _ hle; first | refine chunk_le hA rfl hle rfl ?_ | refine cat_le hA ?_ | refine upd_le hA ?_ | (try cbv))))
    exact e9 _
  · (try cbv) <;> (repeat' (first | exact trivial | exact rfl | apply And.intro | (intro _ hle; first | refine chunk_le hA rfl hle rfl ?_ | refine cat_le hA ?_ | refine upd_le hA ?_ | (try cbv))))
  cbv
  refine CD.pass hA (FnTr.res hA c9 (.bl false) rfl) [] [] rfl ⟨rfl, rfl, rfl, rfl, ?_, ?_⟩ rfl (.inl rfl) ?_
  · (try cbv) <;> (repeat' (first | exact trivial | exact rfl | apply And.intro | (intro _ hle; first | refine chunk_le hA rfl hle rfl ?_ | refine cat_le hA ?_ | refine upd_le hA ?_ | (try cbv))))
    exact e9 _
  · (try cbv) <;> (repeat' (first | exact trivial | exact rfl | apply And.intro | (intro _ hle; first | refine chunk_le hA rfl hle rfl ?_ | refine cat_le hA ?_ | refine upd_le hA ?_ | (try cbv))))
  cbv
  refine CD.pass hA (FnTr.res hA c10 (.bl true) rfl) [] [360] rfl ⟨rfl, rfl, rfl, rfl, ?_, ?_⟩ rfl (.inr ⟨rfl, trivial⟩) ?_
  · (try cbv) <;> (repeat' (first | exact trivial | exact rfl | apply And.intro | (intro _ hle; first | refine chunk_le hA rfl hle rfl ?_ | refine cat_le hA ?_ | refine upd_le hA ?_ | (try cbv))))
    · (subst hA; (try simp only [natCast_eq] at *); (simp only [Ar.real, NV.val, Int.ofNat_eq_natCast, Int.toNat_natCast]); first | done | omega | decide | exact inR64 (by omega) (by omega) | (refine ⟨?_, ?_⟩ <;> first | omega | decide | exact inR64 (by omega) (by omega)))
    · exact e7 _
  · (try cbv) <;> (repeat' (first | exact trivial | exact rfl | apply And.intro | (intro _ hle; first | refine chunk_le hA rfl hle rfl ?_ | refine cat_le hA ?_ | refine upd_le hA ?_ | (try cbv))))
  cbv
  refine CD.pass hA (FnTr.res hA c11 (.bl false) rfl) [] [376] rfl ⟨rfl, rfl, rfl, rfl, ?_, ?_⟩ rfl (.inr ⟨rfl, trivial⟩) ?_
  · (try cbv) <;> (repeat' (first | exact trivial | exact rfl | apply And.intro | (intro _ hle; first | refine chunk_le hA rfl hle rfl ?_ | refine cat_le hA ?_ | refine upd_le hA ?_ | (try cbv))))
    · (subst hA; (try simp only [natCast_eq] at *); (simp only [Ar.real, NV.val, Int.ofNat_eq_natCast, Int.toNat_natCast]); first | done | omega | decide | exact inR64 (by omega) (by omega) | (refine ⟨?_, ?_⟩ <;> first | omega | decide | exact inR64 (by omega) (by omega)))
    · exact e8 _
  · (try cbv) <;> (repeat' (first | exact trivial | exact rfl | apply And.intro | (intro _ hle; first | refine chunk_le hA rfl hle rfl ?_ | refine cat_le hA ?_ | refine upd_le hA ?_ | (try cbv))))
  cbv
  refine CD.pass hA (FnTr.res hA c12 (.bl true) rfl) [] [] rfl ⟨rfl, rfl, rfl, rfl, ?_, ?_⟩ rfl (.inl rfl) ?_
  · (try cbv) <;> (repeat' (first | exact trivial | exact rfl | apply And.intro | (intro _ hle; first | refine chunk_le hA rfl hle rfl ?_ | refine cat_le hA ?_ | refine upd_le hA ?_ | (try cbv))))
    exact e9 _
  · (try cbv) <;> (repeat' (first | exact trivial | exact rfl | apply And.intro | (intro _ hle; first | refine chunk_le hA rfl hle rfl ?_ | refine cat_le hA ?_ | refine upd_le hA ?_ | (try cbv))))
  cbv
  refine CD.pass hA (FnTr.res hA c13 (.ro 1 (.l 2) (fun e => [.int .i64 (op e.val)])) (by (try cbv) <;> (repeat' (first | exact trivial | exact rfl | apply And.intro | (intro _ hle; first | refine chunk_le hA rfl hle rfl ?_ | refine cat_le hA ?_ | refine upd_le hA ?_ | (try cbv)))))) [] [] rfl ⟨rfl, rfl, rfl, rfl, ?_, ?_⟩ rfl (.inl rfl) ?_
  · (try cbv) <;> (repeat' (first | exact trivial | exact rfl | apply And.intro | (intro _ hle; first | refine chunk_le hA rfl hle rfl ?_ | refine cat_le hA ?_ | refine upd_le hA ?_ | (try cbv))))
  · (try cbv) <;> (repeat' (first | exact trivial | exact rfl | apply And.intro | (intro _ hle; first | refine chunk_le hA rfl hle rfl ?_ | refine cat_le hA ?_ | refine upd_le hA ?_ | (try cbv))))
  cbv
  refine CD.pass hA (FnTr.res hA c14 (.lit .i64 (-1)) rfl) [] [] rfl ⟨rfl, rfl, rfl, rfl, ?_, ?_⟩ rfl (.inl rfl) ?_
  · (try cbv) <;> (repeat' (first | exact trivial | exact rfl | apply And.intro | (intro _ hle; first | refine chunk_le hA rfl hle rfl ?_ | refine cat_le hA ?_ | refine upd_le hA ?_ | (try cbv))))
    · exact e9 _
    · exact e10 _
  · (try cbv) <;> (repeat' (first | exact trivial | exact rfl | apply And.intro | (intro _ hle; first | refine chunk_le hA rfl hle rfl ?_ | refine cat_le hA ?_ | refine upd_le hA ?_ | (try cbv))))
  cbv
  refine DF.fin (by kernel_rfl) (by kernel_rfl) ?_
  cbv
  refine Fin.le hA 0 [] (.bl true) ([]) 0 rfl rfl rfl ?_ ?_ (by rw [← hK]; exact ⟨rfl, rfl, rfl⟩)
  · (try cbv) <;> (repeat' (first | exact trivial | exact rfl | apply And.intro | (intro _ hle; first | refine chunk_le hA rfl hle rfl ?_ | refine cat_le hA ?_ | refine upd_le hA ?_ | (try cbv))))
  · (try cbv) <;> (repeat' (first | exact trivial | exact rfl | apply And.intro | (intro _ hle; first | refine chunk_le hA rfl hle rfl ?_ | refine cat_le hA ?_ | refine upd_le hA ?_ | (try cbv))))
end Go.Proofs.Ytkaobalnjimniaa.Vec
