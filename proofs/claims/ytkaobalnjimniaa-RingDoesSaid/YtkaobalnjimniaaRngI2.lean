/-
  Rings: the law RingLast, as the code runs it.
-/
import Derived.Test.YtkaobalnjimniaaRngI1
set_option linter.unusedVariables false
set_option linter.unusedSimpArgs false
namespace Go.Proofs.Ytkaobalnjimniaa.Rng
open Go.Eng
open Go.RngLaw (Sn sn zSn rgP manyC firstC)
set_option maxRecDepth 100000
set_option maxHeartbeats 4000000
set_option linter.unusedVariables false

theorem last_law {P : Program} {G : Gl} (hP : P = Try.prog) {r : Int} {n : Nat} {l : Nat → Sn} (hr : 0 ≤ r ∧ r ≤ 255) (hn : n ≤ 9223372036854775807) :
    FnTr P G 4 [.int .u8 r, SnS n l] [] 0 (Gives (.bl true) [] 900) := by
  obtain ⟨mu, hmu⟩ := muchS_ex n l 300
  have cl := lives_fn (P := P) (G := G) hP
  have cm := muchs_fn (P := P) (G := G) hP hn hmu
  cases mu with
  | true =>
    clear hmu
    have hT : T.Ok P := hP ▸ T_ok
    refine FnTr.intro (fn := Try.f4) (c := bodyOf Try.f4) (by rw [hP]; rfl) rfl rfl hT ?_
    generalize hA : Ar.real = A
    generalize hK : Gives _ _ _ = K
    cbv
    refine CS.leR hA (cm) (.bl true) [] rfl rfl rfl ?_ ?_ ?_ ?_
    · (try cbv) <;> (repeat' (first | exact trivial | exact rfl | apply And.intro | (intro _ hle; first | refine chunk_le hA rfl hle rfl ?_ | refine cat_le hA ?_ | refine upd_le hA ?_ | (try cbv)))) <;> (try (subst hA; (try simp only [natCast_eq] at *); (simp only [Ar.real, NV.val, Int.ofNat_eq_natCast, Int.toNat_natCast]); first | done | omega | decide | exact inR64 (by omega) (by omega) | (refine ⟨?_, ?_⟩ <;> first | omega | decide | exact inR64 (by omega) (by omega))))
    · (try cbv) <;> (repeat' (first | exact trivial | exact rfl | apply And.intro | (intro _ hle; first | refine chunk_le hA rfl hle rfl ?_ | refine cat_le hA ?_ | refine upd_le hA ?_ | (try cbv)))) <;> (try (subst hA; (try simp only [natCast_eq] at *); (simp only [Ar.real, NV.val, Int.ofNat_eq_natCast, Int.toNat_natCast]); first | done | omega | decide | exact inR64 (by omega) (by omega) | (refine ⟨?_, ?_⟩ <;> first | omega | decide | exact inR64 (by omega) (by omega))))
    · (try cbv) <;> (repeat' (first | exact trivial | exact rfl | apply And.intro | (intro _ hle; first | refine chunk_le hA rfl hle rfl ?_ | refine cat_le hA ?_ | refine upd_le hA ?_ | (try cbv))))
    cbv
    refine CS.le hA (cl) [] rfl rfl rfl ?_ ?_ ?_
    · (try cbv) <;> (repeat' (first | exact trivial | exact rfl | apply And.intro | (intro _ hle; first | refine chunk_le hA rfl hle rfl ?_ | refine cat_le hA ?_ | refine upd_le hA ?_ | (try cbv)))) <;> (try (subst hA; (try simp only [natCast_eq] at *); (simp only [Ar.real, NV.val, Int.ofNat_eq_natCast, Int.toNat_natCast]); first | done | omega | decide | exact inR64 (by omega) (by omega) | (refine ⟨?_, ?_⟩ <;> first | omega | decide | exact inR64 (by omega) (by omega))))
    · (try cbv) <;> (repeat' (first | exact trivial | exact rfl | apply And.intro | (intro _ hle; first | refine chunk_le hA rfl hle rfl ?_ | refine cat_le hA ?_ | refine upd_le hA ?_ | (try cbv))))
    cbv
    refine Fin.le hA 0 [] (.bl true) ([]) 900 rfl rfl rfl ?_ ?_ (by rw [← hK]; exact ⟨rfl, rfl, rfl⟩)
    · (try cbv) <;> (repeat' (first | exact trivial | exact rfl | apply And.intro | (intro _ hle; first | refine chunk_le hA rfl hle rfl ?_ | refine cat_le hA ?_ | refine upd_le hA ?_ | (try cbv))))
    · (try cbv) <;> (repeat' (first | exact trivial | exact rfl | apply And.intro | (intro _ hle; first | refine chunk_le hA rfl hle rfl ?_ | refine cat_le hA ?_ | refine upd_le hA ?_ | (try cbv))))
  | false =>
  have hn100 : n ≤ 300 := Decidable.byContradiction fun h => by have := hmu.2 (.inl (by omega)); cases this
  have hx : ∀ i, i < n → (l i).xl ≤ 20 := fun i hi => Decidable.byContradiction fun h => by have := hmu.2 (.inr ⟨i, hi, by omega⟩); cases this
  clear hmu
  obtain ⟨R, hR⟩ : ∃ R : Nat, (R : Int) = 1 + r := ⟨(1 + r).toNat, by omega⟩
  have hR0 : 0 < R := by omega
  have hR256 : R ≤ 256 := by omega
  obtain ⟨M, a, PL, NF, z, b, hrun⟩ := run_ex R hR0 l
  have hM100 : ∀ c, M c ≤ 256 := fun c => by have := hrun.mle c; omega
  have hnx : ∀ c i, c ≤ n → i < M c → (NF c i).xl ≤ 20 := fun c i hc hi => by
    rw [hrun.nf]; rw [hrun.mc] at hi; exact hx _ (by omega)
  have c0 := new_fn (P := P) (G := G) (r := 1 + r) (room := R) (pl := PL 0) hP (by omega) hR hrun.p0
  have c2 : ∀ c, c < n → FnTr P G 20 [.ptr 0 0, .agg (sn (l c))] (RH 0 1 R (a c) (M c) (PL c)) 2 (Gives (.tup [.agg (sn (z c)), .bl (b c)]) (RH 0 1 R (a (c + 1)) (M (c + 1)) (PL (c + 1))) 300) := fun c hc =>
    Push_fn hP ⟨by omega, hrun.alt c, by have := hx c hc; omega⟩ (hrun.push c)
  have c4 := len_fn (P := P) (G := G) (room := R) (a := a n) (m := M n) (pl := PL n) hP
  have c5 := all_fn (P := P) (G := G) (room := R) (a := a n) (m := M n) (pl := PL n) (g := NF n) hP ⟨by omega, hrun.alt n, hrun.mle n⟩ (hrun.get n) (fun i hi => by have := hnx n i (Nat.le_refl _) hi; omega)
  have c6 := sameall_fn (P := P) (G := G) (n := M n) (f := NF n) (g := NF n) hP (by have := hM100 n; omega) (fun i hi => ⟨SameS.refl _, by have := hnx n i (Nat.le_refl _) hi; omega, by have := hnx n i (Nat.le_refl _) hi; omega⟩)
  have hm0 := hrun.m0
  have ha0 := hrun.a0
  have hmn := hrun.mc n
  have hnf := hrun.nf n
  obtain ⟨r1, hr1⟩ : ∃ r1 : Int, r1 = 1 + r := ⟨_, rfl⟩
  rw [← hr1] at c0
  have hT : T.Ok P := hP ▸ T_ok
  refine FnTr.intro (fn := Try.f4) (c := bodyOf Try.f4) (by rw [hP]; rfl) rfl rfl hT ?_
  generalize hA : Ar.real = A
  generalize hK : Gives _ _ _ = K
  cbv
  have k0 : A.add 1 (A.conv .i64 r) = r1 := by
    subst hA
    have : IntKind.i64.wrap r = r := by rw [IntKind.wrap_i64]; omega
    show 1 + IntKind.i64.wrap r = r1
    rw [this, hr1]
  refine CS.leR hA (cm) (.bl false) [] rfl rfl rfl ?_ ?_ ?_ ?_
  · (try cbv) <;> (repeat' (first | exact trivial | exact rfl | apply And.intro | (intro _ hle; first | refine chunk_le hA rfl hle rfl ?_ | refine cat_le hA ?_ | refine upd_le hA ?_ | (try cbv)))) <;> (try (subst hA; (try simp only [natCast_eq] at *); (simp only [Ar.real, NV.val, Int.ofNat_eq_natCast, Int.toNat_natCast]); first | done | omega | decide | exact inR64 (by omega) (by omega) | (refine ⟨?_, ?_⟩ <;> first | omega | decide | exact inR64 (by omega) (by omega))))
  · (try cbv) <;> (repeat' (first | exact trivial | exact rfl | apply And.intro | (intro _ hle; first | refine chunk_le hA rfl hle rfl ?_ | refine cat_le hA ?_ | refine upd_le hA ?_ | (try cbv)))) <;> (try (subst hA; (try simp only [natCast_eq] at *); (simp only [Ar.real, NV.val, Int.ofNat_eq_natCast, Int.toNat_natCast]); first | done | omega | decide | exact inR64 (by omega) (by omega) | (refine ⟨?_, ?_⟩ <;> first | omega | decide | exact inR64 (by omega) (by omega))))
  · (try cbv) <;> (repeat' (first | exact trivial | exact rfl | apply And.intro | (intro _ hle; first | refine chunk_le hA rfl hle rfl ?_ | refine cat_le hA ?_ | refine upd_le hA ?_ | (try cbv))))
  cbv
  have k1 : A.inR .i64 (A.add 1 (A.conv .i64 r)) := by rw [k0]; subst hA; exact inR64 (by omega) (by omega)
  refine ⟨k1, ?_⟩
  refine CS.le hA c0 [] rfl rfl rfl ?_ ?_ ?_
  · (try cbv) <;> (repeat' (first | exact trivial | exact rfl | apply And.intro | (intro _ hle; first | refine chunk_le hA rfl hle rfl ?_ | refine cat_le hA ?_ | refine upd_le hA ?_ | (try cbv))))
    exact k0
  · (try cbv) <;> (repeat' (first | exact trivial | exact rfl | apply And.intro | (intro _ hle; first | refine chunk_le hA rfl hle rfl ?_ | refine cat_le hA ?_ | refine upd_le hA ?_ | (try cbv))))
  cbv
  refine LS.le hT hA 9 (fun (c : Nat) => [(8, .int .i64 (c : Int))]) (fun c => RH 7 8 R (a c) (M c) (PL c)) (fun c => c ≤ n) (fun c => n - c) 0 [] rfl rfl ?_ ?_ ?_
  · (try cbv) <;> (repeat' (first | exact trivial | exact rfl | apply And.intro | (intro _ hle; first | refine chunk_le hA rfl hle rfl ?_ | refine cat_le hA ?_ | refine upd_le hA ?_ | refine int_le ?_ | skip)))
    all_goals first | ((subst hA; (try simp only [natCast_eq] at *); (simp only [Ar.real, NV.val, Int.ofNat_eq_natCast, Int.toNat_natCast]); first | done | omega | decide | exact inR64 (by omega) (by omega) | (refine ⟨?_, ?_⟩ <;> first | omega | decide | exact inR64 (by omega) (by omega))); done) | exact hm0 | exact hm0.symm | (rw [ha0]; rfl) | (rw [hm0]; rfl)
  · exact Nat.zero_le _
  · intro W hW c hc
    cbv
    refine ⟨fun q1 => ?_, fun q1 => ?_⟩
    · have hcn : c < n := by clear hx hrun hM100 hnx c2 c4 c5 c6 hnf; subst hA; simp [Ar.real] at q1; omega
      have a2 := c2 c hcn
      clear hx hrun hM100 hnx c2 c4 c5 c6 hnf
      cbv
      refine ⟨(by (subst hA; (try simp only [natCast_eq] at *); (simp only [Ar.real, NV.val, Int.ofNat_eq_natCast, Int.toNat_natCast]); first | done | omega | decide | exact inR64 (by omega) (by omega) | (refine ⟨?_, ?_⟩ <;> first | omega | decide | exact inR64 (by omega) (by omega)))), ?_⟩
      refine CS.le hA (FnTr.res hA a2 (.tup [.agg (sn (z c)), .bs (b c)]) (by (try cbv) <;> (repeat' (first | exact trivial | exact rfl | apply And.intro | (intro _ hle; first | refine chunk_le hA rfl hle rfl ?_ | refine cat_le hA ?_ | refine upd_le hA ?_ | (try cbv)))))) [(7, 0), (8, 1)] rfl rfl rfl ?_ ?_ ?_
      · (try cbv) <;> (repeat' (first | exact trivial | exact rfl | apply And.intro | (intro _ hle; first | refine chunk_le hA rfl hle rfl ?_ | refine cat_le hA ?_ | refine upd_le hA ?_ | (try cbv))))
        all_goals (subst hA; rfl)
      · (try cbv) <;> (repeat' (first | exact trivial | exact rfl | apply And.intro | (intro _ hle; first | refine chunk_le hA rfl hle rfl ?_ | refine cat_le hA ?_ | refine upd_le hA ?_ | refine int_le ?_ | skip)))
      cbv
      refine ⟨(by (subst hA; (try simp only [natCast_eq] at *); (simp only [Ar.real, NV.val, Int.ofNat_eq_natCast, Int.toNat_natCast]); first | done | omega | decide | exact inR64 (by omega) (by omega) | (refine ⟨?_, ?_⟩ <;> first | omega | decide | exact inR64 (by omega) (by omega)))), hW _ _ ⟨c + 1, 9, [], rfl, rfl, ?_, hcn, (by show n - (c + 1) < n - c; omega)⟩⟩
      clear hW
      (try cbv) <;> (repeat' (first | exact trivial | exact rfl | apply And.intro | (intro _ hle; first | refine chunk_le hA rfl hle rfl ?_ | refine cat_le hA ?_ | refine upd_le hA ?_ | refine int_le ?_ | skip)))
      all_goals (subst hA; (try simp only [natCast_eq] at *); (simp only [Ar.real, NV.val, Int.ofNat_eq_natCast, Int.toNat_natCast]); first | done | omega | decide | exact inR64 (by omega) (by omega) | (refine ⟨?_, ?_⟩ <;> first | omega | decide | exact inR64 (by omega) (by omega)))
    · have hcn : c = n := by clear hx hrun hM100 hnx c2 c4 c5 c6 hnf; subst hA; simp [Ar.real] at q1; omega
      subst hcn
      clear hW hx hrun hM100 hnx c2
      have hfin : ∀ (s : Nat), s = c - min c R → True := fun _ _ => trivial
      by_cases hcR : R < c
      · have k2 : A.gt (A.i2 c) (A.add 1 (A.conv .i64 r)) = true := by rw [k0]; subst hA; simp only [natCast_eq] at *; simp [Ar.real]; omega
        have k3 : A.sub (A.i2 c) (A.add 1 (A.conv .i64 r)) = ((c - R : Nat) : Int) := by rw [k0]; subst hA; simp only [natCast_eq] at *; simp only [Ar.real]; omega
        have k4 : A.inR .i64 (A.sub (A.i2 c) (A.add 1 (A.conv .i64 r))) := by rw [k3]; subst hA; exact inR64 (by omega) (by omega)
        have k5 : A.nat (A.sub (A.i2 c) (A.add 1 (A.conv .i64 r))) = c - R := by rw [k3]; subst hA; rfl
        have k6 : A.eq (Int.ofNat (M c)) (A.sub (A.i2 c) (A.sub (A.i2 c) (A.add 1 (A.conv .i64 r)))) = true := by rw [k3]; subst hA; simp only [natCast_eq] at *; simp only [Ar.real]; simp; omega
        have k7 : A.inR .i64 (A.sub (A.i2 c) (A.sub (A.i2 c) (A.add 1 (A.conv .i64 r)))) := by rw [k3]; subst hA; exact inR64 (by simp only [Ar.real]; omega) (by simp only [Ar.real]; omega)
        have k8 : A.nn (A.sub (A.i2 c) (A.add 1 (A.conv .i64 r))) := by rw [k3]; subst hA; show (0 : Int) ≤ _; omega
        cbv
        repeat' (first | (refine ⟨fun h => absurd (h.symm.trans k2) (by decide), fun _ => ?_⟩; cbv) | (refine ⟨fun _ => ?_, fun h => absurd (h.symm.trans k2) (by decide)⟩; cbv))
        refine ⟨k4, ?_⟩
        refine DS.runK hA hT (by rw [hP]; exact P_mixed) 4 rfl ?_
        cbv
        refine CD.pass hA c5 [(7, 0), (8, 1)] [] rfl ⟨rfl, rfl, rfl, rfl, ?_, ?_⟩ rfl (.inl rfl) ?_
        · (try cbv) <;> (repeat' (first | exact trivial | exact rfl | apply And.intro | (intro _ hle; first | refine chunk_le hA rfl hle rfl ?_ | refine cat_le hA ?_ | refine upd_le hA ?_ | (try cbv))))
        · (try cbv) <;> (repeat' (first | exact trivial | exact rfl | apply And.intro | (intro _ hle; first | refine chunk_le hA rfl hle rfl ?_ | refine cat_le hA ?_ | refine upd_le hA ?_ | refine int_le ?_ | skip)))
        cbv
        have klen : A.subN c (A.nat (A.sub (A.i2 c) (A.add 1 (A.conv .i64 r)))) = M c := by rw [k5]; subst hA; show c - (c - R) = M c; rw [hmn]; omega
        have hel : ∀ e : NV, ltNV A e (.s (A.subN c (A.nat (A.sub (A.i2 c) (A.add 1 (A.conv .i64 r)))))) → l (addNV A (.s (A.nat (A.sub (A.i2 c) (A.add 1 (A.conv .i64 r))))) e).val = NF c e.val := fun e _ => by
          rw [k5, hnf]; subst hA; rw [addNV_val]; show l (c - R + e.val) = _; congr 1; omega
        have k9 : A.leN (A.nat (A.sub (A.i2 c) (A.add 1 (A.conv .i64 r)))) c := by rw [k5]; subst hA; show c - R ≤ c; omega
        refine ⟨⟨k8, k9, by subst hA; exact Nat.le_refl _⟩, ?_⟩
        refine CD.pass hA (FnTr.res hA c6 (.bl true) rfl) [] [] rfl ⟨rfl, rfl, rfl, rfl, ?_, ?_⟩ rfl (.inl rfl) ?_
        · (try cbv) <;> (repeat' (first | exact trivial | exact rfl | apply And.intro | (intro _ hle; first | refine chunk_le hA rfl hle rfl ?_ | refine cat_le hA ?_ | refine upd_le hA ?_ | (try cbv))))
          all_goals first
            | exact klen
            | exact congrArg Sn.id (hel _ (by assumption))
            | exact congrArg Sn.xl (hel _ (by assumption))
            | exact congrArg (fun s => Sn.x s _) (hel _ (by assumption))
            | exact congrArg Sn.p (hel _ (by assumption))
            | exact congrArg Sn.q (hel _ (by assumption))
            | exact congrArg Sn.b (hel _ (by assumption))
            | ((subst hA; (try simp only [natCast_eq] at *); (simp only [Ar.real, NV.val, Int.ofNat_eq_natCast, Int.toNat_natCast]); first | done | omega | decide | exact inR64 (by omega) (by omega) | (refine ⟨?_, ?_⟩ <;> first | omega | decide | exact inR64 (by omega) (by omega))); done)
            | trace_state
        · (try cbv) <;> (repeat' (first | exact trivial | exact rfl | apply And.intro | (intro _ hle; first | refine chunk_le hA rfl hle rfl ?_ | refine cat_le hA ?_ | refine upd_le hA ?_ | (try cbv))))
        cbv
        refine CD.pass hA c4 [] [7, 8] rfl ⟨rfl, rfl, rfl, rfl, ?_, ?_⟩ rfl (.inr ⟨rfl, trivial⟩) ?_
        · (try cbv) <;> (repeat' (first | exact trivial | exact rfl | apply And.intro | (intro _ hle; first | refine chunk_le hA rfl hle rfl ?_ | refine cat_le hA ?_ | refine upd_le hA ?_ | (try cbv))))
          all_goals (subst hA; (try simp only [natCast_eq] at *); (simp only [Ar.real, NV.val, Int.ofNat_eq_natCast, Int.toNat_natCast]); first | done | omega | decide | exact inR64 (by omega) (by omega) | (refine ⟨?_, ?_⟩ <;> first | omega | decide | exact inR64 (by omega) (by omega)))
        · (try cbv) <;> (repeat' (first | exact trivial | exact rfl | apply And.intro | (intro _ hle; first | refine chunk_le hA rfl hle rfl ?_ | refine cat_le hA ?_ | refine upd_le hA ?_ | (try cbv))))
        cbv
        refine ⟨k7, ?_⟩
        repeat' (first | (refine ⟨fun h => absurd (h.symm.trans k6) (by decide), fun _ => ?_⟩; cbv) | (refine ⟨fun _ => ?_, fun h => absurd (h.symm.trans k6) (by decide)⟩; cbv))
        refine CD.pass hA cl [] [] rfl ⟨rfl, rfl, rfl, rfl, ?_, ?_⟩ rfl (.inl rfl) ?_
        · (try cbv) <;> (repeat' (first | exact trivial | exact rfl | apply And.intro | (intro _ hle; first | refine chunk_le hA rfl hle rfl ?_ | refine cat_le hA ?_ | refine upd_le hA ?_ | (try cbv))))
        · (try cbv) <;> (repeat' (first | exact trivial | exact rfl | apply And.intro | (intro _ hle; first | refine chunk_le hA rfl hle rfl ?_ | refine cat_le hA ?_ | refine upd_le hA ?_ | (try cbv))))
        cbv
        refine DF.fin (by kernel_rfl) (by kernel_rfl) ?_
        cbv
        refine Fin.le hA 0 [] (.bl true) ([]) 900 rfl rfl rfl ?_ ?_ (by rw [← hK]; exact ⟨rfl, rfl, rfl⟩)
        · (try cbv) <;> (repeat' (first | exact trivial | exact rfl | apply And.intro | (intro _ hle; first | refine chunk_le hA rfl hle rfl ?_ | refine cat_le hA ?_ | refine upd_le hA ?_ | (try cbv))))
        · (try cbv) <;> (repeat' (first | exact trivial | exact rfl | apply And.intro | (intro _ hle; first | refine chunk_le hA rfl hle rfl ?_ | refine cat_le hA ?_ | refine upd_le hA ?_ | (try cbv))))
      · have k2 : A.gt (A.i2 c) (A.add 1 (A.conv .i64 r)) = false := by rw [k0]; subst hA; simp only [natCast_eq] at *; simp [Ar.real]; omega
        have k6 : A.eq (Int.ofNat (M c)) (A.sub (A.i2 c) 0) = true := by subst hA; simp only [Ar.real]; simp; omega
        have klen : A.subN c 0 = M c := by subst hA; show c - 0 = M c; rw [hmn]; omega
        have hel : ∀ e : NV, ltNV A e (.s (A.subN c 0)) → l (addNV A (.l 0) e).val = NF c e.val := fun e _ => by
          rw [hnf]; show l e.val = _; congr 1; omega
        cbv
        repeat' (first | (refine ⟨fun h => absurd (h.symm.trans k2) (by decide), fun _ => ?_⟩; cbv) | (refine ⟨fun _ => ?_, fun h => absurd (h.symm.trans k2) (by decide)⟩; cbv))
        refine DS.runK hA hT (by rw [hP]; exact P_mixed) 4 rfl ?_
        cbv
        refine CD.pass hA c5 [(7, 0), (8, 1)] [] rfl ⟨rfl, rfl, rfl, rfl, ?_, ?_⟩ rfl (.inl rfl) ?_
        · (try cbv) <;> (repeat' (first | exact trivial | exact rfl | apply And.intro | (intro _ hle; first | refine chunk_le hA rfl hle rfl ?_ | refine cat_le hA ?_ | refine upd_le hA ?_ | (try cbv))))
        · (try cbv) <;> (repeat' (first | exact trivial | exact rfl | apply And.intro | (intro _ hle; first | refine chunk_le hA rfl hle rfl ?_ | refine cat_le hA ?_ | refine upd_le hA ?_ | refine int_le ?_ | skip)))
        cbv
        refine ⟨⟨(by (subst hA; (try simp only [natCast_eq] at *); (simp only [Ar.real, NV.val, Int.ofNat_eq_natCast, Int.toNat_natCast]); first | done | omega | decide | exact inR64 (by omega) (by omega) | (refine ⟨?_, ?_⟩ <;> first | omega | decide | exact inR64 (by omega) (by omega)))), (by (subst hA; (try simp only [natCast_eq] at *); (simp only [Ar.real, NV.val, Int.ofNat_eq_natCast, Int.toNat_natCast]); first | done | omega | decide | exact inR64 (by omega) (by omega) | (refine ⟨?_, ?_⟩ <;> first | omega | decide | exact inR64 (by omega) (by omega))))⟩, ?_⟩
        refine CD.pass hA (FnTr.res hA c6 (.bl true) rfl) [] [] rfl ⟨rfl, rfl, rfl, rfl, ?_, ?_⟩ rfl (.inl rfl) ?_
        · (try cbv) <;> (repeat' (first | exact trivial | exact rfl | apply And.intro | (intro _ hle; first | refine chunk_le hA rfl hle rfl ?_ | refine cat_le hA ?_ | refine upd_le hA ?_ | (try cbv))))
          all_goals first
            | exact klen
            | exact congrArg Sn.id (hel _ (by assumption))
            | exact congrArg Sn.xl (hel _ (by assumption))
            | exact congrArg (fun s => Sn.x s _) (hel _ (by assumption))
            | exact congrArg Sn.p (hel _ (by assumption))
            | exact congrArg Sn.q (hel _ (by assumption))
            | exact congrArg Sn.b (hel _ (by assumption))
            | ((subst hA; (try simp only [natCast_eq] at *); (simp only [Ar.real, NV.val, Int.ofNat_eq_natCast, Int.toNat_natCast]); first | done | omega | decide | exact inR64 (by omega) (by omega) | (refine ⟨?_, ?_⟩ <;> first | omega | decide | exact inR64 (by omega) (by omega))); done)
            | trace_state
        · (try cbv) <;> (repeat' (first | exact trivial | exact rfl | apply And.intro | (intro _ hle; first | refine chunk_le hA rfl hle rfl ?_ | refine cat_le hA ?_ | refine upd_le hA ?_ | (try cbv))))
        cbv
        refine CD.pass hA c4 [] [7, 8] rfl ⟨rfl, rfl, rfl, rfl, ?_, ?_⟩ rfl (.inr ⟨rfl, trivial⟩) ?_
        · (try cbv) <;> (repeat' (first | exact trivial | exact rfl | apply And.intro | (intro _ hle; first | refine chunk_le hA rfl hle rfl ?_ | refine cat_le hA ?_ | refine upd_le hA ?_ | (try cbv))))
          all_goals (subst hA; (try simp only [natCast_eq] at *); (simp only [Ar.real, NV.val, Int.ofNat_eq_natCast, Int.toNat_natCast]); first | done | omega | decide | exact inR64 (by omega) (by omega) | (refine ⟨?_, ?_⟩ <;> first | omega | decide | exact inR64 (by omega) (by omega)))
        · (try cbv) <;> (repeat' (first | exact trivial | exact rfl | apply And.intro | (intro _ hle; first | refine chunk_le hA rfl hle rfl ?_ | refine cat_le hA ?_ | refine upd_le hA ?_ | (try cbv))))
        cbv
        refine ⟨(by (subst hA; (try simp only [natCast_eq] at *); (simp only [Ar.real, NV.val, Int.ofNat_eq_natCast, Int.toNat_natCast]); first | done | omega | decide | exact inR64 (by omega) (by omega) | (refine ⟨?_, ?_⟩ <;> first | omega | decide | exact inR64 (by omega) (by omega)))), ?_⟩
        repeat' (first | (refine ⟨fun h => absurd (h.symm.trans k6) (by decide), fun _ => ?_⟩; cbv) | (refine ⟨fun _ => ?_, fun h => absurd (h.symm.trans k6) (by decide)⟩; cbv))
        refine CD.pass hA cl [] [] rfl ⟨rfl, rfl, rfl, rfl, ?_, ?_⟩ rfl (.inl rfl) ?_
        · (try cbv) <;> (repeat' (first | exact trivial | exact rfl | apply And.intro | (intro _ hle; first | refine chunk_le hA rfl hle rfl ?_ | refine cat_le hA ?_ | refine upd_le hA ?_ | (try cbv))))
        · (try cbv) <;> (repeat' (first | exact trivial | exact rfl | apply And.intro | (intro _ hle; first | refine chunk_le hA rfl hle rfl ?_ | refine cat_le hA ?_ | refine upd_le hA ?_ | (try cbv))))
        cbv
        refine DF.fin (by kernel_rfl) (by kernel_rfl) ?_
        cbv
        refine Fin.le hA 0 [] (.bl true) ([]) 900 rfl rfl rfl ?_ ?_ (by rw [← hK]; exact ⟨rfl, rfl, rfl⟩)
        · (try cbv) <;> (repeat' (first | exact trivial | exact rfl | apply And.intro | (intro _ hle; first | refine chunk_le hA rfl hle rfl ?_ | refine cat_le hA ?_ | refine upd_le hA ?_ | (try cbv))))
        · (try cbv) <;> (repeat' (first | exact trivial | exact rfl | apply And.intro | (intro _ hle; first | refine chunk_le hA rfl hle rfl ?_ | refine cat_le hA ?_ | refine upd_le hA ?_ | (try cbv))))
end Go.Proofs.Ytkaobalnjimniaa.Rng
