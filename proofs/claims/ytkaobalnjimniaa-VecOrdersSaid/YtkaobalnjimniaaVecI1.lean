/-
  Vectors: the law VecDots, as the code runs it.
-/
import Derived.Test.YtkaobalnjimniaaVecH7
set_option linter.unusedVariables false
set_option linter.unusedSimpArgs false
namespace Go.Proofs.Ytkaobalnjimniaa.Vec
open Go.Eng
open Go.VecLaw (lowV topV dotV gapV OS openV)
set_option maxRecDepth 100000
set_option maxHeartbeats 4000000
set_option linter.unusedVariables false

theorem vecP_ex (n : Nat) (f : Nat → Int) (dim : Int) : ∃ r : Bool, r = true ↔ VecP n f dim := by
  by_cases h : VecP n f dim
  · exact ⟨true, fun _ => h, fun _ => rfl⟩
  · exact ⟨false, fun h => by (cases h), fun h' => absurd h' h⟩
theorem partsP_ex (n : Nat) (f : Nat → Int) (dim : Int) : ∃ r : Bool, r = true ↔ PartsP n f dim := by
  by_cases h : PartsP n f dim
  · exact ⟨true, fun _ => h, fun _ => rfl⟩
  · exact ⟨false, fun h => by (cases h), fun h' => absurd h' h⟩
theorem upd_lit {A : Ar} (hA : Ar.real = A) {p : Nat} {f : Nat → Int} {v : Int} {kd : IntKind} {e : NV} {x : Int} {d : Nat} (hx : x = if e.val = p then v else f e.val) :
    leL (leSV A (d + 1)) (updF A 1 (.s p) 0 [.lit kd v] (fun e => [.int kd (f e.val)]) e) [.int kd x] := by
  subst hA
  have h1 : ∀ k, leL (leSV Ar.real (d + 1)) [mergeSV Ar.real 4 (Ar.real.beqN k p) (.lit kd v) (.int kd (f k))] [.int kd (if k = p then v else f k)] := by
    intro k
    have e1 : mergeSV Ar.real 4 (Ar.real.beqN k p) (.lit kd v) (.int kd (f k)) = .int kd (if k = p then v else f k) := by
      simp only [mergeSV, intOfSV, kEq_refl, Ar.real]
      by_cases h : k = p <;> simp [h]
    rw [e1]
    simp only [leL, leSV, kEq_refl]
    exact ⟨trivial, trivial⟩
  subst hx
  cases e with
  | l k => exact h1 k
  | s k => exact h1 k

theorem upd_eq {p : Nat} {f : Nat → Int} {v : Int} {kd : IntKind} : updF Ar.real 1 (.s p) 0 [.lit kd v] (fun e => [.int kd (f e.val)]) = fun e => [.int kd (if e.val = p then v else f e.val)] := by
  have h1 : ∀ k, mergeSV Ar.real 4 (Ar.real.beqN k p) (.lit kd v) (.int kd (f k)) = .int kd (if k = p then v else f k) := by
    intro k
    simp only [mergeSV, intOfSV, kEq_refl, Ar.real]
    by_cases h : k = p <;> simp [h]
  funext e
  cases e with
  | l k => show [mergeSV Ar.real 4 (Ar.real.beqN k p) (.lit kd v) (.int kd (f k))] = _; rw [h1]; rfl
  | s k => show [mergeSV Ar.real 4 (Ar.real.beqN k p) (.lit kd v) (.int kd (f k))] = _; rw [h1]; rfl
theorem upd_back {A : Ar} (hA : Ar.real = A) {p : Nat} {f : Nat → Int} {v w : Int} {kd : IntKind} {e : NV} {x : Int} {d : Nat} (hx : x = if e.val = p then v else f e.val) :
    leL (leSV A (d + 1)) (updF A 1 (.s p) 0 [.lit kd v] (updF A 1 (.s p) 0 [.lit kd w] (fun e => [.int kd (f e.val)])) e) [.int kd x] := by
  have h2 : updF A 1 (.s p) 0 [.lit kd w] (fun e => [.int kd (f e.val)]) = fun e => [.int kd ((fun j => if j = p then w else f j) e.val)] := by subst hA; exact upd_eq
  rw [h2]
  have h3 : x = if e.val = p then v else (fun j => if j = p then w else f j) e.val := by rw [hx]; show _ = if e.val = p then v else if e.val = p then w else f e.val; split <;> rfl
  exact upd_lit (p := p) (f := fun j => if j = p then w else f j) (v := v) hA h3
theorem dot_unit (m : Nat) (g u : Nat → Int) (i : Nat) (hi : i < m) (hu : ∀ j, u j = if j = i then 1 else 0) (h : VecP m g m) : DotIs m u m g (g i) 0 := by
  refine .inl ⟨⟨⟨h.1, fun j hj => by rw [hu]; split <;> omega, i, hi, by rw [hu, if_pos rfl]; omega⟩, h⟩, rfl, ?_⟩
  rw [Go.VecLaw.dotV_unit g i u hu m, if_pos hi]

theorem dots_law {P : Program} {G : Gl} (hP : P = Try.prog) {n m : Nat} {f g : Nat → Int} {dim : Int} (hn : n ≤ 9223372036854775807) (hm : m ≤ 9223372036854775807) :
    FnTr P G 9 [.ro 1 (.s n) (fun e => [.int .i64 (f e.val)]), .ro 1 (.s m) (fun e => [.int .i64 (g e.val)]), .int .i64 dim] [] 0 (Gives (.bl true) [] 90) := by
  obtain ⟨r, er, hd⟩ := dotIs_ex n f m g
  obtain ⟨b1, hb1⟩ := vecP_ex m g dim
  obtain ⟨b2, hb2⟩ := partsP_ex n f dim
  obtain ⟨b3, hb3⟩ := vecP_ex m g m
  have cl := lives_fn (P := P) (G := G) hP
  have c1 := dot_fn (P := P) (G := G) hP hn hm hd
  have c2 := refdot_fn (P := P) (G := G) hP hn hm hd
  have c3 := is_fn (P := P) (G := G) hP hm hb1
  have c4 := refis_fn (P := P) (G := G) hP hm hb1
  have c5 := parts_fn (P := P) (G := G) hP hn hb2
  have c6 := refparts_fn (P := P) (G := G) hP hn hb2
  have c7 := refis_fn (P := P) (G := G) hP hm hb3
  have hr : -68719476736 ≤ r ∧ r ≤ 68719476736 := by
    rcases hd with ⟨⟨h1, h2⟩, _, h3⟩ | ⟨_, _, h3⟩
    · have := Go.VecLaw.dotV_range f g n (fun i hi => h1.2.1 i hi) (fun i hi => by have := h2.1.2.2; exact h2.2 i (by omega)) n (Nat.le_refl _)
      have := h1.1.2.1
      omega
    · omega
  obtain ⟨z, hz⟩ : ∃ z : Nat → Int, ∀ j, z j = 0 := ⟨_, fun _ => rfl⟩
  obtain ⟨u, hu⟩ : ∃ u : Nat → Nat → Int, ∀ i j, u i j = if j = i then 1 else 0 := ⟨_, fun _ _ => rfl⟩
  have c8 : ∀ i, i < m → b3 = true → FnTr P G 43 [.ro 1 (.s m) (fun e => [.int .i64 (u i e.val)]), .ro 1 (.s m) (fun e => [.int .i64 (g e.val)])] [] 0 (Gives (.tup [.int .i64 (g i), .int .i64 0]) [] 1) := fun i hi h =>
    dot_fn hP hm hm (dot_unit m g (u i) i hi (hu i) (hb3.1 h))
  have c9 : ∀ i, ∃ r er, FnTr P G 43 [.ro 1 (.s m) (fun e => [.int .i64 (u i e.val)]), .ro 1 (.s m) (fun e => [.int .i64 (g e.val)])] [] 0 (Gives (.tup [.int .i64 r, .int .i64 er]) [] 1) := fun i => by
    obtain ⟨r, er, h⟩ := dotIs_ex m (u i) m g
    exact ⟨r, er, dot_fn hP hm hm h⟩
  clear hd hb1 hb2 hb3
  have hT : T.Ok P := hP ▸ T_ok
  refine FnTr.intro (fn := Try.f9) (c := bodyOf Try.f9) (by rw [hP]; rfl) rfl rfl hT ?_
  generalize hA : Ar.real = A
  generalize hK : Gives _ _ _ = K
  cbv
  have k1 : A.ne r r = false := by subst hA; simp [Ar.real]
  have k2 : A.ne er er = false := by subst hA; simp [Ar.real]
  have k3 : A.gt r 68719476736 = false := by subst hA; simp [Ar.real]; omega
  have k4 : A.lt r (-68719476736) = false := by subst hA; simp [Ar.real]; omega
  have k5 : A.not (A.eqB b1 b1) = false := by subst hA; simp [Ar.real]
  have k6 : A.not (A.eqB b2 b2) = false := by subst hA; simp [Ar.real]
  refine ⟨fun h1 => ?_, fun h1 => ?_⟩
  · cbv
    refine ⟨fun h2 => ?_, fun h2 => ?_⟩
    · cbv
      refine CS.le hA (cl) [] rfl rfl rfl ?_ ?_ ?_
      · (try cbv) <;> (repeat' (first | exact trivial | exact rfl | apply And.intro | (intro _ hle; first | refine chunk_le hA rfl hle rfl ?_ | refine cat_le hA ?_ | refine upd_le hA ?_ | (try cbv)))) <;> (try (subst hA; (try simp only [natCast_eq] at *); (simp only [Ar.real, NV.val, Int.ofNat_eq_natCast, Int.toNat_natCast]); first | done | omega | decide | exact inR64 (by omega) (by omega) | (refine ⟨?_, ?_⟩ <;> first | omega | decide | exact inR64 (by omega) (by omega))))
      · (try cbv) <;> (repeat' (first | exact trivial | exact rfl | apply And.intro | (intro _ hle; first | refine chunk_le hA rfl hle rfl ?_ | refine cat_le hA ?_ | refine upd_le hA ?_ | (try cbv))))
      cbv
      refine Fin.le hA 0 [] (.bl true) ([]) 90 rfl rfl rfl ?_ ?_ (by rw [← hK]; exact ⟨rfl, rfl, rfl⟩)
      · (try cbv) <;> (repeat' (first | exact trivial | exact rfl | apply And.intro | (intro _ hle; first | refine chunk_le hA rfl hle rfl ?_ | refine cat_le hA ?_ | refine upd_le hA ?_ | (try cbv))))
      · (try cbv) <;> (repeat' (first | exact trivial | exact rfl | apply And.intro | (intro _ hle; first | refine chunk_le hA rfl hle rfl ?_ | refine cat_le hA ?_ | refine upd_le hA ?_ | (try cbv))))
    · have hm30 : m ≤ 30 := by subst hA; simp [Ar.real] at h2; omega
      cbv
      refine CS.le hA (c1) [] rfl rfl rfl ?_ ?_ ?_
      · (try cbv) <;> (repeat' (first | exact trivial | exact rfl | apply And.intro | (intro _ hle; first | refine chunk_le hA rfl hle rfl ?_ | refine cat_le hA ?_ | refine upd_le hA ?_ | (try cbv)))) <;> (try (subst hA; (try simp only [natCast_eq] at *); (simp only [Ar.real, NV.val, Int.ofNat_eq_natCast, Int.toNat_natCast]); first | done | omega | decide | exact inR64 (by omega) (by omega) | (refine ⟨?_, ?_⟩ <;> first | omega | decide | exact inR64 (by omega) (by omega))))
      · (try cbv) <;> (repeat' (first | exact trivial | exact rfl | apply And.intro | (intro _ hle; first | refine chunk_le hA rfl hle rfl ?_ | refine cat_le hA ?_ | refine upd_le hA ?_ | (try cbv))))
      cbv
      refine CS.le hA (c2) [] rfl rfl rfl ?_ ?_ ?_
      · (try cbv) <;> (repeat' (first | exact trivial | exact rfl | apply And.intro | (intro _ hle; first | refine chunk_le hA rfl hle rfl ?_ | refine cat_le hA ?_ | refine upd_le hA ?_ | (try cbv)))) <;> (try (subst hA; (try simp only [natCast_eq] at *); (simp only [Ar.real, NV.val, Int.ofNat_eq_natCast, Int.toNat_natCast]); first | done | omega | decide | exact inR64 (by omega) (by omega) | (refine ⟨?_, ?_⟩ <;> first | omega | decide | exact inR64 (by omega) (by omega))))
      · (try cbv) <;> (repeat' (first | exact trivial | exact rfl | apply And.intro | (intro _ hle; first | refine chunk_le hA rfl hle rfl ?_ | refine cat_le hA ?_ | refine upd_le hA ?_ | (try cbv))))
      cbv
      refine CS.le hA (c3) [] rfl rfl rfl ?_ ?_ ?_
      · (try cbv) <;> (repeat' (first | exact trivial | exact rfl | apply And.intro | (intro _ hle; first | refine chunk_le hA rfl hle rfl ?_ | refine cat_le hA ?_ | refine upd_le hA ?_ | (try cbv)))) <;> (try (subst hA; (try simp only [natCast_eq] at *); (simp only [Ar.real, NV.val, Int.ofNat_eq_natCast, Int.toNat_natCast]); first | done | omega | decide | exact inR64 (by omega) (by omega) | (refine ⟨?_, ?_⟩ <;> first | omega | decide | exact inR64 (by omega) (by omega))))
      · (try cbv) <;> (repeat' (first | exact trivial | exact rfl | apply And.intro | (intro _ hle; first | refine chunk_le hA rfl hle rfl ?_ | refine cat_le hA ?_ | refine upd_le hA ?_ | (try cbv))))
      cbv
      refine CS.le hA (c4) [] rfl rfl rfl ?_ ?_ ?_
      · (try cbv) <;> (repeat' (first | exact trivial | exact rfl | apply And.intro | (intro _ hle; first | refine chunk_le hA rfl hle rfl ?_ | refine cat_le hA ?_ | refine upd_le hA ?_ | (try cbv)))) <;> (try (subst hA; (try simp only [natCast_eq] at *); (simp only [Ar.real, NV.val, Int.ofNat_eq_natCast, Int.toNat_natCast]); first | done | omega | decide | exact inR64 (by omega) (by omega) | (refine ⟨?_, ?_⟩ <;> first | omega | decide | exact inR64 (by omega) (by omega))))
      · (try cbv) <;> (repeat' (first | exact trivial | exact rfl | apply And.intro | (intro _ hle; first | refine chunk_le hA rfl hle rfl ?_ | refine cat_le hA ?_ | refine upd_le hA ?_ | (try cbv))))
      cbv
      repeat' (first | (refine ⟨fun h => absurd (h.symm.trans k5) (by decide), fun _ => ?_⟩; cbv) | (refine ⟨fun _ => ?_, fun h => absurd (h.symm.trans k5) (by decide)⟩; cbv))
      refine CS.le hA (c5) [] rfl rfl rfl ?_ ?_ ?_
      · (try cbv) <;> (repeat' (first | exact trivial | exact rfl | apply And.intro | (intro _ hle; first | refine chunk_le hA rfl hle rfl ?_ | refine cat_le hA ?_ | refine upd_le hA ?_ | (try cbv)))) <;> (try (subst hA; (try simp only [natCast_eq] at *); (simp only [Ar.real, NV.val, Int.ofNat_eq_natCast, Int.toNat_natCast]); first | done | omega | decide | exact inR64 (by omega) (by omega) | (refine ⟨?_, ?_⟩ <;> first | omega | decide | exact inR64 (by omega) (by omega))))
      · (try cbv) <;> (repeat' (first | exact trivial | exact rfl | apply And.intro | (intro _ hle; first | refine chunk_le hA rfl hle rfl ?_ | refine cat_le hA ?_ | refine upd_le hA ?_ | (try cbv))))
      cbv
      refine CS.le hA (c6) [] rfl rfl rfl ?_ ?_ ?_
      · (try cbv) <;> (repeat' (first | exact trivial | exact rfl | apply And.intro | (intro _ hle; first | refine chunk_le hA rfl hle rfl ?_ | refine cat_le hA ?_ | refine upd_le hA ?_ | (try cbv)))) <;> (try (subst hA; (try simp only [natCast_eq] at *); (simp only [Ar.real, NV.val, Int.ofNat_eq_natCast, Int.toNat_natCast]); first | done | omega | decide | exact inR64 (by omega) (by omega) | (refine ⟨?_, ?_⟩ <;> first | omega | decide | exact inR64 (by omega) (by omega))))
      · (try cbv) <;> (repeat' (first | exact trivial | exact rfl | apply And.intro | (intro _ hle; first | refine chunk_le hA rfl hle rfl ?_ | refine cat_le hA ?_ | refine upd_le hA ?_ | (try cbv))))
      cbv
      repeat' (first | (refine ⟨fun h => absurd (h.symm.trans k6) (by decide), fun _ => ?_⟩; cbv) | (refine ⟨fun _ => ?_, fun h => absurd (h.symm.trans k6) (by decide)⟩; cbv) | (refine ⟨fun h => absurd (h.symm.trans k1) (by decide), fun _ => ?_⟩; cbv) | (refine ⟨fun _ => ?_, fun h => absurd (h.symm.trans k1) (by decide)⟩; cbv) | (refine ⟨fun h => absurd (h.symm.trans k2) (by decide), fun _ => ?_⟩; cbv) | (refine ⟨fun _ => ?_, fun h => absurd (h.symm.trans k2) (by decide)⟩; cbv) | (refine ⟨fun h => absurd (h.symm.trans k3) (by decide), fun _ => ?_⟩; cbv) | (refine ⟨fun _ => ?_, fun h => absurd (h.symm.trans k3) (by decide)⟩; cbv) | (refine ⟨fun h => absurd (h.symm.trans k4) (by decide), fun _ => ?_⟩; cbv) | (refine ⟨fun _ => ?_, fun h => absurd (h.symm.trans k4) (by decide)⟩; cbv))
      refine ⟨⟨(by (subst hA; (try simp only [natCast_eq] at *); (simp only [Ar.real, NV.val, Int.ofNat_eq_natCast, Int.toNat_natCast]); first | done | omega | decide | exact inR64 (by omega) (by omega) | (refine ⟨?_, ?_⟩ <;> first | omega | decide | exact inR64 (by omega) (by omega)))), (by (subst hA; (try simp only [natCast_eq] at *); (simp only [Ar.real, NV.val, Int.ofNat_eq_natCast, Int.toNat_natCast]); first | done | omega | decide | exact inR64 (by omega) (by omega) | (refine ⟨?_, ?_⟩ <;> first | omega | decide | exact inR64 (by omega) (by omega)))), (by (subst hA; (try simp only [natCast_eq] at *); (simp only [Ar.real, NV.val, Int.ofNat_eq_natCast, Int.toNat_natCast]); first | done | omega | decide | exact inR64 (by omega) (by omega) | (refine ⟨?_, ?_⟩ <;> first | omega | decide | exact inR64 (by omega) (by omega)))), (by (subst hA; (try simp only [natCast_eq] at *); (simp only [Ar.real, NV.val, Int.ofNat_eq_natCast, Int.toNat_natCast]); first | done | omega | decide | exact inR64 (by omega) (by omega) | (refine ⟨?_, ?_⟩ <;> first | omega | decide | exact inR64 (by omega) (by omega))))⟩, ?_⟩
      refine LS.clr [72] ?_
      refine LS.le hT hA 0 (fun (i : Nat) => [(11, .sl 0 1 (.l 0) (.s m)), (12, .int .i64 (i : Int))]) (fun _ => [(0, .row 3 1 (.s m) (fun e => [.int .i64 (z e.val)]))]) (fun i => i ≤ m) (fun i => m - i) 0 [(57, 0)] rfl rfl ?_ ?_ ?_
      · (try cbv) <;> (repeat' (first | exact trivial | exact rfl | apply And.intro | (intro _ hle; first | refine chunk_le hA rfl hle rfl ?_ | refine cat_le hA ?_ | refine upd_le hA ?_ | refine int_le ?_ | skip)))
        all_goals first | ((subst hA; (try simp only [natCast_eq] at *); (simp only [Ar.real, NV.val, Int.ofNat_eq_natCast, Int.toNat_natCast]); first | done | omega | decide | exact inR64 (by omega) (by omega) | (refine ⟨?_, ?_⟩ <;> first | omega | decide | exact inR64 (by omega) (by omega))); done) | exact (hz _).symm
      · exact Nat.zero_le _
      · intro R hR i hi
        cbv
        refine ⟨fun h3 => ?_, fun h3 => ?_⟩
        · have him : i < m := by subst hA; simp [Ar.real] at h3; omega
          have a1 := c8 i him
          obtain ⟨r', er', a2⟩ := c9 i
          have kz : A.nat (Int.ofNat i) = i := by subst hA; rfl
          have u1 : ∀ {e : NV} {d : Nat}, leL (leSV A (d + 1)) (updF A 1 (.s (A.nat (Int.ofNat i))) 0 [.lit .i64 1] (fun e => [.int .i64 (z e.val)]) e) [.int .i64 (u i e.val)] := fun {e d} => by
            rw [kz]; exact upd_lit hA (by rw [hu, hz])
          have u2 : ∀ {e : NV} {d : Nat}, leL (leSV A (d + 1)) (updF A 1 (.s (A.nat (Int.ofNat i))) 0 [.lit .i64 0] (updF A 1 (.s (A.nat (Int.ofNat i))) 0 [.lit .i64 1] (fun e => [.int .i64 (z e.val)])) e) [.int .i64 (z e.val)] := fun {e d} => by
            rw [kz]; exact upd_back hA (by rw [hz, ite_self])
          have u1' : ∀ {d : Nat} (e : NV), ltNV A e (.s m) → leL (leSV A (d + 1)) (updF A 1 (.s (A.nat (Int.ofNat i))) 0 [.lit .i64 1] (fun e => [.int .i64 (z e.val)]) (addNV A (.l 0) e)) [.int .i64 (u i e.val)] := fun e _ => u1
          have u2' : ∀ {d : Nat} (e : NV), ltNV A e (.s m) → leL (leSV A (d + 1)) (updF A 1 (.s (A.nat (Int.ofNat i))) 0 [.lit .i64 0] (updF A 1 (.s (A.nat (Int.ofNat i))) 0 [.lit .i64 1] (fun e => [.int .i64 (z e.val)])) e) [.int .i64 (z e.val)] := fun e _ => u2
          have k7 : A.ne (g i) (g i) = false := by subst hA; simp [Ar.real]
          have k8 : A.ne (g (A.nat (Int.ofNat i))) (g i) = false := by rw [kz]; exact k7
          have k9 : A.ne (g i) (g (A.nat (Int.ofNat i))) = false := by rw [kz]; exact k7
          clear c8 c9 hu
          cbv
          refine ⟨fun h4 => ?_, fun h4 => ?_⟩
          · cbv
            refine ⟨(by (subst hA; (try simp only [natCast_eq] at *); (simp only [Ar.real, NV.val, Int.ofNat_eq_natCast, Int.toNat_natCast]); first | done | omega | decide | exact inR64 (by omega) (by omega) | (refine ⟨?_, ?_⟩ <;> first | omega | decide | exact inR64 (by omega) (by omega)))), (by (subst hA; (try simp only [natCast_eq] at *); (simp only [Ar.real, NV.val, Int.ofNat_eq_natCast, Int.toNat_natCast]); first | done | omega | decide | exact inR64 (by omega) (by omega) | (refine ⟨?_, ?_⟩ <;> first | omega | decide | exact inR64 (by omega) (by omega)))), ?_⟩
            cases b3 with
            | true =>
              refine CS.lend hA (FnTr.res hA (a1 rfl) (.tup [.int .i64 (g i), .lit .i64 0]) ⟨rfl, rfl, trivial⟩) [] [0] 1 rfl ⟨rfl, rfl, rfl, rfl, ?_, ?_⟩ rfl (.inr ⟨rfl, trivial⟩) ?_
              · (try cbv) <;> (repeat' (first | exact trivial | exact rfl | apply And.intro | (intro _ hle; first | exact u1' _ hle | refine chunk_le hA rfl hle rfl ?_ | refine cat_le hA ?_ | refine upd_le hA ?_ | refine int_le ?_ | skip)))
                all_goals (subst hA; (try simp only [natCast_eq] at *); (simp only [Ar.real, NV.val, Int.ofNat_eq_natCast, Int.toNat_natCast]); first | done | omega | decide | exact inR64 (by omega) (by omega) | (refine ⟨?_, ?_⟩ <;> first | omega | decide | exact inR64 (by omega) (by omega)))
              · (try cbv) <;> (repeat' (first | exact trivial | exact rfl | apply And.intro | (intro _ hle; first | refine chunk_le hA rfl hle rfl ?_ | refine cat_le hA ?_ | refine upd_le hA ?_ | (try cbv))))
              cbv
              refine ⟨(by (subst hA; (try simp only [natCast_eq] at *); (simp only [Ar.real, NV.val, Int.ofNat_eq_natCast, Int.toNat_natCast]); first | done | omega | decide | exact inR64 (by omega) (by omega) | (refine ⟨?_, ?_⟩ <;> first | omega | decide | exact inR64 (by omega) (by omega)))), (by (subst hA; (try simp only [natCast_eq] at *); (simp only [Ar.real, NV.val, Int.ofNat_eq_natCast, Int.toNat_natCast]); first | done | omega | decide | exact inR64 (by omega) (by omega) | (refine ⟨?_, ?_⟩ <;> first | omega | decide | exact inR64 (by omega) (by omega)))), ?_⟩
              refine CS.leR hA (c7) (.bl true) [] rfl rfl rfl ?_ ?_ ?_ ?_
              · (try cbv) <;> (repeat' (first | exact trivial | exact rfl | apply And.intro | (intro _ hle; first | refine chunk_le hA rfl hle rfl ?_ | refine cat_le hA ?_ | refine upd_le hA ?_ | (try cbv)))) <;> (try (subst hA; (try simp only [natCast_eq] at *); (simp only [Ar.real, NV.val, Int.ofNat_eq_natCast, Int.toNat_natCast]); first | done | omega | decide | exact inR64 (by omega) (by omega) | (refine ⟨?_, ?_⟩ <;> first | omega | decide | exact inR64 (by omega) (by omega))))
              · (try cbv) <;> (repeat' (first | exact trivial | exact rfl | apply And.intro | (intro _ hle; first | refine chunk_le hA rfl hle rfl ?_ | refine cat_le hA ?_ | refine upd_le hA ?_ | (try cbv)))) <;> (try (subst hA; (try simp only [natCast_eq] at *); (simp only [Ar.real, NV.val, Int.ofNat_eq_natCast, Int.toNat_natCast]); first | done | omega | decide | exact inR64 (by omega) (by omega) | (refine ⟨?_, ?_⟩ <;> first | omega | decide | exact inR64 (by omega) (by omega))))
              · (try cbv) <;> (repeat' (first | exact trivial | exact rfl | apply And.intro | (intro _ hle; first | refine chunk_le hA rfl hle rfl ?_ | refine cat_le hA ?_ | refine upd_le hA ?_ | (try cbv))))
              cbv
              refine ⟨(by (subst hA; (try simp only [natCast_eq] at *); (simp only [Ar.real, NV.val, Int.ofNat_eq_natCast, Int.toNat_natCast]); first | done | omega | decide | exact inR64 (by omega) (by omega) | (refine ⟨?_, ?_⟩ <;> first | omega | decide | exact inR64 (by omega) (by omega)))), ?_⟩
              repeat' (first | (refine ⟨fun h => absurd (h.symm.trans k7) (by decide), fun _ => ?_⟩; cbv) | (refine ⟨fun _ => ?_, fun h => absurd (h.symm.trans k7) (by decide)⟩; cbv) | (refine ⟨fun h => absurd (h.symm.trans k8) (by decide), fun _ => ?_⟩; cbv) | (refine ⟨fun _ => ?_, fun h => absurd (h.symm.trans k8) (by decide)⟩; cbv) | (refine ⟨fun h => absurd (h.symm.trans k9) (by decide), fun _ => ?_⟩; cbv) | (refine ⟨fun _ => ?_, fun h => absurd (h.symm.trans k9) (by decide)⟩; cbv))
              refine ⟨(by (subst hA; (try simp only [natCast_eq] at *); (simp only [Ar.real, NV.val, Int.ofNat_eq_natCast, Int.toNat_natCast]); first | done | omega | decide | exact inR64 (by omega) (by omega) | (refine ⟨?_, ?_⟩ <;> first | omega | decide | exact inR64 (by omega) (by omega)))), hR _ _ ⟨i + 1, 0, [(0, 0)], rfl, rfl, ?_, him, (by show m - (i + 1) < m - i; omega)⟩⟩
              clear hR
              (try cbv) <;> (repeat' (first | exact trivial | exact rfl | apply And.intro | (intro _ hle; first | exact u2' _ hle | refine chunk_le hA rfl hle rfl ?_ | refine cat_le hA ?_ | refine upd_le hA ?_ | refine int_le ?_ | skip)))
              all_goals first | ((subst hA; (try simp only [natCast_eq] at *); (simp only [Ar.real, NV.val, Int.ofNat_eq_natCast, Int.toNat_natCast]); first | done | omega | decide | exact inR64 (by omega) (by omega) | (refine ⟨?_, ?_⟩ <;> first | omega | decide | exact inR64 (by omega) (by omega))); done) | trace_state
            | false =>
              refine CS.lend hA a2 [] [0] 1 rfl ⟨rfl, rfl, rfl, rfl, ?_, ?_⟩ rfl (.inr ⟨rfl, trivial⟩) ?_
              · (try cbv) <;> (repeat' (first | exact trivial | exact rfl | apply And.intro | (intro _ hle; first | exact u1' _ hle | refine chunk_le hA rfl hle rfl ?_ | refine cat_le hA ?_ | refine upd_le hA ?_ | refine int_le ?_ | skip)))
                all_goals (subst hA; (try simp only [natCast_eq] at *); (simp only [Ar.real, NV.val, Int.ofNat_eq_natCast, Int.toNat_natCast]); first | done | omega | decide | exact inR64 (by omega) (by omega) | (refine ⟨?_, ?_⟩ <;> first | omega | decide | exact inR64 (by omega) (by omega)))
              · (try cbv) <;> (repeat' (first | exact trivial | exact rfl | apply And.intro | (intro _ hle; first | refine chunk_le hA rfl hle rfl ?_ | refine cat_le hA ?_ | refine upd_le hA ?_ | (try cbv))))
              cbv
              refine ⟨(by (subst hA; (try simp only [natCast_eq] at *); (simp only [Ar.real, NV.val, Int.ofNat_eq_natCast, Int.toNat_natCast]); first | done | omega | decide | exact inR64 (by omega) (by omega) | (refine ⟨?_, ?_⟩ <;> first | omega | decide | exact inR64 (by omega) (by omega)))), (by (subst hA; (try simp only [natCast_eq] at *); (simp only [Ar.real, NV.val, Int.ofNat_eq_natCast, Int.toNat_natCast]); first | done | omega | decide | exact inR64 (by omega) (by omega) | (refine ⟨?_, ?_⟩ <;> first | omega | decide | exact inR64 (by omega) (by omega)))), ?_⟩
              refine CS.leR hA (c7) (.bl false) [] rfl rfl rfl ?_ ?_ ?_ ?_
              · (try cbv) <;> (repeat' (first | exact trivial | exact rfl | apply And.intro | (intro _ hle; first | refine chunk_le hA rfl hle rfl ?_ | refine cat_le hA ?_ | refine upd_le hA ?_ | (try cbv)))) <;> (try (subst hA; (try simp only [natCast_eq] at *); (simp only [Ar.real, NV.val, Int.ofNat_eq_natCast, Int.toNat_natCast]); first | done | omega | decide | exact inR64 (by omega) (by omega) | (refine ⟨?_, ?_⟩ <;> first | omega | decide | exact inR64 (by omega) (by omega))))
              · (try cbv) <;> (repeat' (first | exact trivial | exact rfl | apply And.intro | (intro _ hle; first | refine chunk_le hA rfl hle rfl ?_ | refine cat_le hA ?_ | refine upd_le hA ?_ | (try cbv)))) <;> (try (subst hA; (try simp only [natCast_eq] at *); (simp only [Ar.real, NV.val, Int.ofNat_eq_natCast, Int.toNat_natCast]); first | done | omega | decide | exact inR64 (by omega) (by omega) | (refine ⟨?_, ?_⟩ <;> first | omega | decide | exact inR64 (by omega) (by omega))))
              · (try cbv) <;> (repeat' (first | exact trivial | exact rfl | apply And.intro | (intro _ hle; first | refine chunk_le hA rfl hle rfl ?_ | refine cat_le hA ?_ | refine upd_le hA ?_ | (try cbv))))
              cbv
              refine ⟨(by (subst hA; (try simp only [natCast_eq] at *); (simp only [Ar.real, NV.val, Int.ofNat_eq_natCast, Int.toNat_natCast]); first | done | omega | decide | exact inR64 (by omega) (by omega) | (refine ⟨?_, ?_⟩ <;> first | omega | decide | exact inR64 (by omega) (by omega)))), hR _ _ ⟨i + 1, 0, [(0, 0)], rfl, rfl, ?_, him, (by show m - (i + 1) < m - i; omega)⟩⟩
              clear hR
              (try cbv) <;> (repeat' (first | exact trivial | exact rfl | apply And.intro | (intro _ hle; first | exact u2' _ hle | refine chunk_le hA rfl hle rfl ?_ | refine cat_le hA ?_ | refine upd_le hA ?_ | refine int_le ?_ | skip)))
              all_goals first | ((subst hA; (try simp only [natCast_eq] at *); (simp only [Ar.real, NV.val, Int.ofNat_eq_natCast, Int.toNat_natCast]); first | done | omega | decide | exact inR64 (by omega) (by omega) | (refine ⟨?_, ?_⟩ <;> first | omega | decide | exact inR64 (by omega) (by omega))); done) | trace_state
          · clear hR
            cbv
            refine CS.le hA (cl) [] rfl rfl rfl ?_ ?_ ?_
            · (try cbv) <;> (repeat' (first | exact trivial | exact rfl | apply And.intro | (intro _ hle; first | refine chunk_le hA rfl hle rfl ?_ | refine cat_le hA ?_ | refine upd_le hA ?_ | (try cbv)))) <;> (try (subst hA; (try simp only [natCast_eq] at *); (simp only [Ar.real, NV.val, Int.ofNat_eq_natCast, Int.toNat_natCast]); first | done | omega | decide | exact inR64 (by omega) (by omega) | (refine ⟨?_, ?_⟩ <;> first | omega | decide | exact inR64 (by omega) (by omega))))
            · (try cbv) <;> (repeat' (first | exact trivial | exact rfl | apply And.intro | (intro _ hle; first | refine chunk_le hA rfl hle rfl ?_ | refine cat_le hA ?_ | refine upd_le hA ?_ | (try cbv))))
            cbv
            refine Fin.le hA 0 [] (.bl true) ([]) 90 rfl rfl rfl ?_ ?_ (by rw [← hK]; exact ⟨rfl, rfl, rfl⟩)
            · (try cbv) <;> (repeat' (first | exact trivial | exact rfl | apply And.intro | (intro _ hle; first | refine chunk_le hA rfl hle rfl ?_ | refine cat_le hA ?_ | refine upd_le hA ?_ | (try cbv))))
            · (try cbv) <;> (repeat' (first | exact trivial | exact rfl | apply And.intro | (intro _ hle; first | refine chunk_le hA rfl hle rfl ?_ | refine cat_le hA ?_ | refine upd_le hA ?_ | (try cbv))))
        · clear hR
          cbv
          refine CS.le hA (cl) [] rfl rfl rfl ?_ ?_ ?_
          · (try cbv) <;> (repeat' (first | exact trivial | exact rfl | apply And.intro | (intro _ hle; first | refine chunk_le hA rfl hle rfl ?_ | refine cat_le hA ?_ | refine upd_le hA ?_ | (try cbv)))) <;> (try (subst hA; (try simp only [natCast_eq] at *); (simp only [Ar.real, NV.val, Int.ofNat_eq_natCast, Int.toNat_natCast]); first | done | omega | decide | exact inR64 (by omega) (by omega) | (refine ⟨?_, ?_⟩ <;> first | omega | decide | exact inR64 (by omega) (by omega))))
          · (try cbv) <;> (repeat' (first | exact trivial | exact rfl | apply And.intro | (intro _ hle; first | refine chunk_le hA rfl hle rfl ?_ | refine cat_le hA ?_ | refine upd_le hA ?_ | (try cbv))))
          cbv
          refine Fin.le hA 0 [] (.bl true) ([]) 90 rfl rfl rfl ?_ ?_ (by rw [← hK]; exact ⟨rfl, rfl, rfl⟩)
          · (try cbv) <;> (repeat' (first | exact trivial | exact rfl | apply And.intro | (intro _ hle; first | refine chunk_le hA rfl hle rfl ?_ | refine cat_le hA ?_ | refine upd_le hA ?_ | (try cbv))))
          · (try cbv) <;> (repeat' (first | exact trivial | exact rfl | apply And.intro | (intro _ hle; first | refine chunk_le hA rfl hle rfl ?_ | refine cat_le hA ?_ | refine upd_le hA ?_ | (try cbv))))
  · cbv
    refine CS.le hA (cl) [] rfl rfl rfl ?_ ?_ ?_
    · (try cbv) <;> (repeat' (first | exact trivial | exact rfl | apply And.intro | (intro _ hle; first | refine chunk_le hA rfl hle rfl ?_ | refine cat_le hA ?_ | refine upd_le hA ?_ | (try cbv)))) <;> (try (subst hA; (try simp only [natCast_eq] at *); (simp only [Ar.real, NV.val, Int.ofNat_eq_natCast, Int.toNat_natCast]); first | done | omega | decide | exact inR64 (by omega) (by omega) | (refine ⟨?_, ?_⟩ <;> first | omega | decide | exact inR64 (by omega) (by omega))))
    · (try cbv) <;> (repeat' (first | exact trivial | exact rfl | apply And.intro | (intro _ hle; first | refine chunk_le hA rfl hle rfl ?_ | refine cat_le hA ?_ | refine upd_le hA ?_ | (try cbv))))
    cbv
    refine Fin.le hA 0 [] (.bl true) ([]) 90 rfl rfl rfl ?_ ?_ (by rw [← hK]; exact ⟨rfl, rfl, rfl⟩)
    · (try cbv) <;> (repeat' (first | exact trivial | exact rfl | apply And.intro | (intro _ hle; first | refine chunk_le hA rfl hle rfl ?_ | refine cat_le hA ?_ | refine upd_le hA ?_ | (try cbv))))
    · (try cbv) <;> (repeat' (first | exact trivial | exact rfl | apply And.intro | (intro _ hle; first | refine chunk_le hA rfl hle rfl ?_ | refine cat_le hA ?_ | refine upd_le hA ?_ | (try cbv))))
end Go.Proofs.Ytkaobalnjimniaa.Vec
