/-
  Records on sectors: what a piece uses.
-/
import Derived.Test.YtnjjgipblimbfaaDskF4
set_option linter.unusedVariables false
set_option linter.unusedSimpArgs false
namespace Go.Proofs.Ytnjjgipblimbfaa.Dsk
open Go.Eng
open Go.DskLaw (q64 secV needN pcs padOk isB)
set_option maxRecDepth 100000
set_option maxHeartbeats 4000000
set_option linter.unusedVariables false

theorem wrap_by {x : Int} (h : 0 ≤ x ∧ x ≤ 255) : IntKind.i64.wrap x = x := by
  simp [IntKind.wrap, IntKind.bits, IntKind.signed]; omega

/-- Not a piece. -/
theorem used_bad {P : Program} {G : Gl} (hP : P = Try.prog) {m : Nat} {v : Nat → Int} (hm : m = 64) (hv : isB v) (h : ¬ padOk v) :
    FnTr P G 57 [By m v] [] 0 (Gives (.tup [.nils, .bl false, .bl false]) [] 0) := by
  have h62 := hv 62 (by omega)
  have h63 := hv 63 (by omega)
  have hw := wrap_by h62
  by_cases h0 : 62 < v 62
  · skip
    have hT : T.Ok P := hP ▸ T_ok
    refine FnTr.intro (fn := Try.f57) (c := bodyOf Try.f57) (by rw [hP]; rfl) rfl rfl hT ?_
    generalize hA : Ar.real = A
    generalize hK : Gives _ _ _ = K
    cbv
    refine DS.runK hA hT (by rw [hP]; exact P_mixed) 1 rfl ?_
    cbv
    refine ⟨(by (subst hA; (try simp only [natCast_eq] at *); (try (simp only [Ar.real, NV.val, Int.ofNat_eq_natCast, Int.toNat_natCast])); first | done | omega | decide | exact inR64 (by omega) (by omega) | (refine ⟨?_, ?_⟩ <;> first | omega | decide | exact inR64 (by omega) (by omega)))), (by (subst hA; (try simp only [natCast_eq] at *); (try (simp only [Ar.real, NV.val, Int.ofNat_eq_natCast, Int.toNat_natCast])); first | done | omega | decide | exact inR64 (by omega) (by omega) | (refine ⟨?_, ?_⟩ <;> first | omega | decide | exact inR64 (by omega) (by omega)))), ?_⟩
    refine DF.fin (by kernel_rfl) (by kernel_rfl) ?_
    cbv
    have k1 : A.gt (A.conv .i64 (v 62)) 62 = true := by subst hA; show decide (IntKind.i64.wrap (v 62) > 62) = true; rw [hw]; simpa using h0
    repeat' (first | (refine ⟨fun h => absurd (h.symm.trans k1) (by decide), fun _ => ?_⟩; cbv) | (refine ⟨fun _ => ?_, fun h => absurd (h.symm.trans k1) (by decide)⟩; cbv))
    refine Fin.le hA 0 [] (.tup [.nils, .bl false, .bl false]) ([]) 0 rfl rfl rfl ?_ ?_ (by rw [← hK]; exact ⟨rfl, rfl, rfl⟩)
    · (try cbv) <;> (repeat' (first | exact trivial | exact rfl | apply And.intro | exact fun _ => rfl | (intro _ hle; first | refine chunk_le hA rfl hle rfl ?_ | refine cat_le hA ?_ | refine upd_le hA ?_ | (try cbv))))
    · (try cbv) <;> (repeat' (first | exact trivial | exact rfl | apply And.intro | exact fun _ => rfl | (intro _ hle; first | refine chunk_le hA rfl hle rfl ?_ | refine cat_le hA ?_ | refine upd_le hA ?_ | (try cbv))))
  · obtain ⟨n, hn⟩ : ∃ n, n = (v 62).toNat := ⟨_, rfl⟩
    obtain ⟨q, hq⟩ : ∃ q, q = 62 - n := ⟨_, rfl⟩
    obtain ⟨w, hw2⟩ : ∃ w : Nat → Int, w = fun x => v (n + x) := ⟨_, rfl⟩
    have c1 := blank_fn (P := P) (G := G) (n := q) (f := w) (r := false) hP (by omega) ⟨fun e => (by cases e), fun e => by
      exfalso
      refine h ⟨by omega, fun x hx1 hx2 => ?_⟩
      rw [← hn] at hx1
      have := e (x - n) (by omega)
      rw [hw2] at this
      simp only [] at this
      rwa [show n + (x - n) = x by omega] at this⟩
    have hwv : ∀ x, w x = v (n + x) := fun x => by rw [hw2]
    clear h hw2
    have hT : T.Ok P := hP ▸ T_ok
    refine FnTr.intro (fn := Try.f57) (c := bodyOf Try.f57) (by rw [hP]; rfl) rfl rfl hT ?_
    generalize hA : Ar.real = A
    generalize hK : Gives _ _ _ = K
    cbv
    refine DS.runK hA hT (by rw [hP]; exact P_mixed) 1 rfl ?_
    cbv
    refine ⟨(by (subst hA; (try simp only [natCast_eq] at *); (try (simp only [Ar.real, NV.val, Int.ofNat_eq_natCast, Int.toNat_natCast])); first | done | omega | decide | exact inR64 (by omega) (by omega) | (refine ⟨?_, ?_⟩ <;> first | omega | decide | exact inR64 (by omega) (by omega)))), (by (subst hA; (try simp only [natCast_eq] at *); (try (simp only [Ar.real, NV.val, Int.ofNat_eq_natCast, Int.toNat_natCast])); first | done | omega | decide | exact inR64 (by omega) (by omega) | (refine ⟨?_, ?_⟩ <;> first | omega | decide | exact inR64 (by omega) (by omega)))), ?_⟩
    refine DF.fin (by kernel_rfl) (by kernel_rfl) ?_
    cbv
    have kc : A.conv .i64 (v 62) = v 62 := by subst hA; exact hw
    have k1 : A.gt (A.conv .i64 (v 62)) 62 = false := by rw [kc]; subst hA; simp [Ar.real]; omega
    repeat' (first | (refine ⟨fun h => absurd (h.symm.trans k1) (by decide), fun _ => ?_⟩; cbv) | (refine ⟨fun _ => ?_, fun h => absurd (h.symm.trans k1) (by decide)⟩; cbv))
    have kn : A.nat (A.conv .i64 (v 62)) = n := by rw [kc]; subst hA; exact hn.symm
    refine ⟨⟨?_, ?_, ?_, ?_⟩, ?_⟩
    · have : A.nn (A.conv .i64 (v 62)) := by rw [kc]; subst hA; exact h62.1
      exact this
    · subst hA
      show 0 ≤ (62 : Int)
      decide
    · have : A.leN (A.nat (A.conv .i64 (v 62))) 62 := by rw [kn]; subst hA; show n ≤ 62; omega
      exact this
    · subst hA
      show 62 ≤ m
      omega
    have hp : ∀ e, ltNV A e (.s (A.subN 62 (A.nat (A.conv .i64 (v 62))))) → leL (leSV A 4) [.int .u8 (v (addNV A (.s (A.nat (A.conv .i64 (v 62)))) e).val)] [.int .u8 (w e.val)] := fun e he => by
      rw [kn]
      refine int_le ?_
      rw [hwv]
      subst hA
      cases e <;> rfl
    refine CS.leR hA c1 (.bl false) [] rfl rfl rfl ?_ ?_ ?_ ?_
    · (try cbv) <;> (repeat' (first | exact trivial | exact rfl | apply And.intro | exact fun _ => rfl | (intro _ hle; first | exact hp _ hle | refine chunk_le hA rfl hle rfl ?_ | refine cat_le hA ?_ | refine upd_le hA ?_ | refine int_le ?_ | skip)))
      have : A.subN 62 (A.nat (A.conv .i64 (v 62))) = q := by rw [kn, hq]; subst hA; rfl
      exact this
    · (try cbv) <;> (repeat' (first | exact trivial | exact rfl | apply And.intro | exact fun _ => rfl | (intro _ hle; first | refine chunk_le hA rfl hle rfl ?_ | refine cat_le hA ?_ | refine upd_le hA ?_ | (try cbv))))
    · (try cbv) <;> (repeat' (first | exact trivial | exact rfl | apply And.intro | exact fun _ => rfl | (intro _ hle; first | refine chunk_le hA rfl hle rfl ?_ | refine cat_le hA ?_ | refine upd_le hA ?_ | (try cbv))))
    cbv
    refine Fin.le hA 0 [] (.tup [.nils, .bl false, .bl false]) ([]) 0 rfl rfl rfl ?_ ?_ (by rw [← hK]; exact ⟨rfl, rfl, rfl⟩)
    · (try cbv) <;> (repeat' (first | exact trivial | exact rfl | apply And.intro | exact fun _ => rfl | (intro _ hle; first | refine chunk_le hA rfl hle rfl ?_ | refine cat_le hA ?_ | refine upd_le hA ?_ | (try cbv))))
    · (try cbv) <;> (repeat' (first | exact trivial | exact rfl | apply And.intro | exact fun _ => rfl | (intro _ hle; first | refine chunk_le hA rfl hle rfl ?_ | refine cat_le hA ?_ | refine upd_le hA ?_ | (try cbv))))
/-- A piece behind which the record goes on. -/
theorem used_on {P : Program} {G : Gl} (hP : P = Try.prog) {m n : Nat} {v : Nat → Int} {r : Bool} (hm : m = 64) (hv : isB v) (h : padOk v) (hn : n = (v 62).toNat) (h1 : v 63 = 1) (hr : r = true ↔ n = 62) :
    FnTr P G 57 [By m v] [] 0 (Gives (.tup [By n v, .bl true, .bs r]) [] 0) := by
  have h62 := hv 62 (by omega)
  have h63 := hv 63 (by omega)
  have hw := wrap_by h62
  have hle := h.1
  obtain ⟨q, hq⟩ : ∃ q, q = 62 - n := ⟨_, rfl⟩
  obtain ⟨w, hw2⟩ : ∃ w : Nat → Int, w = fun x => v (n + x) := ⟨_, rfl⟩
  have c1 := blank_fn (P := P) (G := G) (n := q) (f := w) (r := true) hP (by omega) ⟨fun _ x hx => by rw [hw2]; exact h.2 _ (by omega) (by omega), fun _ => rfl⟩
  have hwv : ∀ x, w x = v (n + x) := fun x => by rw [hw2]
  clear h hw2
  have hT : T.Ok P := hP ▸ T_ok
  refine FnTr.intro (fn := Try.f57) (c := bodyOf Try.f57) (by rw [hP]; rfl) rfl rfl hT ?_
  generalize hA : Ar.real = A
  generalize hK : Gives _ _ _ = K
  cbv
  refine DS.runK hA hT (by rw [hP]; exact P_mixed) 1 rfl ?_
  cbv
  refine ⟨(by (subst hA; (try simp only [natCast_eq] at *); (try (simp only [Ar.real, NV.val, Int.ofNat_eq_natCast, Int.toNat_natCast])); first | done | omega | decide | exact inR64 (by omega) (by omega) | (refine ⟨?_, ?_⟩ <;> first | omega | decide | exact inR64 (by omega) (by omega)))), (by (subst hA; (try simp only [natCast_eq] at *); (try (simp only [Ar.real, NV.val, Int.ofNat_eq_natCast, Int.toNat_natCast])); first | done | omega | decide | exact inR64 (by omega) (by omega) | (refine ⟨?_, ?_⟩ <;> first | omega | decide | exact inR64 (by omega) (by omega)))), ?_⟩
  refine DF.fin (by kernel_rfl) (by kernel_rfl) ?_
  cbv
  have kc : A.conv .i64 (v 62) = v 62 := by subst hA; exact hw
  have k1 : A.gt (A.conv .i64 (v 62)) 62 = false := by rw [kc]; subst hA; simp [Ar.real]; omega
  repeat' (first | (refine ⟨fun h => absurd (h.symm.trans k1) (by decide), fun _ => ?_⟩; cbv) | (refine ⟨fun _ => ?_, fun h => absurd (h.symm.trans k1) (by decide)⟩; cbv))
  have kn : A.nat (A.conv .i64 (v 62)) = n := by rw [kc]; subst hA; exact hn.symm
  refine ⟨⟨?_, ?_, ?_, ?_⟩, ?_⟩
  · have : A.nn (A.conv .i64 (v 62)) := by rw [kc]; subst hA; exact h62.1
    exact this
  · subst hA
    show 0 ≤ (62 : Int)
    decide
  · have : A.leN (A.nat (A.conv .i64 (v 62))) 62 := by rw [kn]; subst hA; show n ≤ 62; omega
    exact this
  · subst hA
    show 62 ≤ m
    omega
  have hp : ∀ e, ltNV A e (.s (A.subN 62 (A.nat (A.conv .i64 (v 62))))) → leL (leSV A 4) [.int .u8 (v (addNV A (.s (A.nat (A.conv .i64 (v 62)))) e).val)] [.int .u8 (w e.val)] := fun e he => by
    rw [kn]
    refine int_le ?_
    rw [hwv]
    subst hA
    cases e <;> rfl
  refine CS.leR hA c1 (.bl true) [] rfl rfl rfl ?_ ?_ ?_ ?_
  · (try cbv) <;> (repeat' (first | exact trivial | exact rfl | apply And.intro | exact fun _ => rfl | (intro _ hle; first | exact hp _ hle | refine chunk_le hA rfl hle rfl ?_ | refine cat_le hA ?_ | refine upd_le hA ?_ | refine int_le ?_ | skip)))
    have : A.subN 62 (A.nat (A.conv .i64 (v 62))) = q := by rw [kn, hq]; subst hA; rfl
    exact this
  · (try cbv) <;> (repeat' (first | exact trivial | exact rfl | apply And.intro | exact fun _ => rfl | (intro _ hle; first | refine chunk_le hA rfl hle rfl ?_ | refine cat_le hA ?_ | refine upd_le hA ?_ | (try cbv))))
  · (try cbv) <;> (repeat' (first | exact trivial | exact rfl | apply And.intro | exact fun _ => rfl | (intro _ hle; first | refine chunk_le hA rfl hle rfl ?_ | refine cat_le hA ?_ | refine upd_le hA ?_ | (try cbv))))
  cbv
  have k2 : A.eq (v 63) 1 = true := by subst hA; simpa [Ar.real] using h1
  repeat' (first | (refine ⟨fun h => absurd (h.symm.trans k2) (by decide), fun _ => ?_⟩; cbv) | (refine ⟨fun _ => ?_, fun h => absurd (h.symm.trans k2) (by decide)⟩; cbv))
  refine ⟨⟨?_, ?_, ?_⟩, ?_⟩
  · have : A.nn (A.conv .i64 (v 62)) := by rw [kc]; subst hA; exact h62.1
    exact this
  · have : A.leN 0 (A.nat (A.conv .i64 (v 62))) := by subst hA; exact Nat.zero_le _
    exact this
  · have : A.leN (A.nat (A.conv .i64 (v 62))) m := by rw [kn]; subst hA; show n ≤ m; omega
    exact this
  have hpn : A.subN (A.nat (A.conv .i64 (v 62))) 0 = n := by rw [kn]; subst hA; rfl
  have k3 : A.eq (A.conv .i64 (v 62)) 62 = r := by
    rw [kc]
    subst hA
    rw [Bool.eq_iff_iff, hr]
    simp only [Ar.real, beq_iff_eq]
    omega
  refine Fin.le hA 0 [] (.tup [By n v, .bl true, .bs r]) ([]) 0 rfl rfl rfl ?_ ?_ (by rw [← hK]; exact ⟨rfl, rfl, rfl⟩)
  · (try cbv) <;> (repeat' (first | exact trivial | exact rfl | apply And.intro | exact fun _ => rfl | (intro _ hle; first | refine chunk_le hA rfl hle rfl ?_ | refine cat_le hA ?_ | refine upd_le hA ?_ | refine int_le ?_ | skip)))
    · exact hpn
    · exact k3
  · (try cbv) <;> (repeat' (first | exact trivial | exact rfl | apply And.intro | exact fun _ => rfl | (intro _ hle; first | refine chunk_le hA rfl hle rfl ?_ | refine cat_le hA ?_ | refine upd_le hA ?_ | (try cbv))))
/-- A last piece, or none. -/
theorem used_end {P : Program} {G : Gl} (hP : P = Try.prog) {m n : Nat} {v : Nat → Int} {r : Bool} (hm : m = 64) (hv : isB v) (h : padOk v) (hn : n = (v 62).toNat) (h1 : v 63 ≠ 1) (hr : r = true ↔ v 63 = 2) :
    FnTr P G 57 [By m v] [] 0 (Gives (.tup [By n v, .bl false, .bs r]) [] 0) := by
  have h62 := hv 62 (by omega)
  have h63 := hv 63 (by omega)
  have hw := wrap_by h62
  have hle := h.1
  obtain ⟨q, hq⟩ : ∃ q, q = 62 - n := ⟨_, rfl⟩
  obtain ⟨w, hw2⟩ : ∃ w : Nat → Int, w = fun x => v (n + x) := ⟨_, rfl⟩
  have c1 := blank_fn (P := P) (G := G) (n := q) (f := w) (r := true) hP (by omega) ⟨fun _ x hx => by rw [hw2]; exact h.2 _ (by omega) (by omega), fun _ => rfl⟩
  have hwv : ∀ x, w x = v (n + x) := fun x => by rw [hw2]
  clear h hw2
  have hT : T.Ok P := hP ▸ T_ok
  refine FnTr.intro (fn := Try.f57) (c := bodyOf Try.f57) (by rw [hP]; rfl) rfl rfl hT ?_
  generalize hA : Ar.real = A
  generalize hK : Gives _ _ _ = K
  cbv
  refine DS.runK hA hT (by rw [hP]; exact P_mixed) 1 rfl ?_
  cbv
  refine ⟨(by (subst hA; (try simp only [natCast_eq] at *); (try (simp only [Ar.real, NV.val, Int.ofNat_eq_natCast, Int.toNat_natCast])); first | done | omega | decide | exact inR64 (by omega) (by omega) | (refine ⟨?_, ?_⟩ <;> first | omega | decide | exact inR64 (by omega) (by omega)))), (by (subst hA; (try simp only [natCast_eq] at *); (try (simp only [Ar.real, NV.val, Int.ofNat_eq_natCast, Int.toNat_natCast])); first | done | omega | decide | exact inR64 (by omega) (by omega) | (refine ⟨?_, ?_⟩ <;> first | omega | decide | exact inR64 (by omega) (by omega)))), ?_⟩
  refine DF.fin (by kernel_rfl) (by kernel_rfl) ?_
  cbv
  have kc : A.conv .i64 (v 62) = v 62 := by subst hA; exact hw
  have k1 : A.gt (A.conv .i64 (v 62)) 62 = false := by rw [kc]; subst hA; simp [Ar.real]; omega
  repeat' (first | (refine ⟨fun h => absurd (h.symm.trans k1) (by decide), fun _ => ?_⟩; cbv) | (refine ⟨fun _ => ?_, fun h => absurd (h.symm.trans k1) (by decide)⟩; cbv))
  have kn : A.nat (A.conv .i64 (v 62)) = n := by rw [kc]; subst hA; exact hn.symm
  refine ⟨⟨?_, ?_, ?_, ?_⟩, ?_⟩
  · have : A.nn (A.conv .i64 (v 62)) := by rw [kc]; subst hA; exact h62.1
    exact this
  · subst hA
    show 0 ≤ (62 : Int)
    decide
  · have : A.leN (A.nat (A.conv .i64 (v 62))) 62 := by rw [kn]; subst hA; show n ≤ 62; omega
    exact this
  · subst hA
    show 62 ≤ m
    omega
  have hp : ∀ e, ltNV A e (.s (A.subN 62 (A.nat (A.conv .i64 (v 62))))) → leL (leSV A 4) [.int .u8 (v (addNV A (.s (A.nat (A.conv .i64 (v 62)))) e).val)] [.int .u8 (w e.val)] := fun e he => by
    rw [kn]
    refine int_le ?_
    rw [hwv]
    subst hA
    cases e <;> rfl
  refine CS.leR hA c1 (.bl true) [] rfl rfl rfl ?_ ?_ ?_ ?_
  · (try cbv) <;> (repeat' (first | exact trivial | exact rfl | apply And.intro | exact fun _ => rfl | (intro _ hle; first | exact hp _ hle | refine chunk_le hA rfl hle rfl ?_ | refine cat_le hA ?_ | refine upd_le hA ?_ | refine int_le ?_ | skip)))
    have : A.subN 62 (A.nat (A.conv .i64 (v 62))) = q := by rw [kn, hq]; subst hA; rfl
    exact this
  · (try cbv) <;> (repeat' (first | exact trivial | exact rfl | apply And.intro | exact fun _ => rfl | (intro _ hle; first | refine chunk_le hA rfl hle rfl ?_ | refine cat_le hA ?_ | refine upd_le hA ?_ | (try cbv))))
  · (try cbv) <;> (repeat' (first | exact trivial | exact rfl | apply And.intro | exact fun _ => rfl | (intro _ hle; first | refine chunk_le hA rfl hle rfl ?_ | refine cat_le hA ?_ | refine upd_le hA ?_ | (try cbv))))
  cbv
  have k2 : A.eq (v 63) 1 = false := by subst hA; simpa [Ar.real] using h1
  repeat' (first | (refine ⟨fun h => absurd (h.symm.trans k2) (by decide), fun _ => ?_⟩; cbv) | (refine ⟨fun _ => ?_, fun h => absurd (h.symm.trans k2) (by decide)⟩; cbv))
  refine ⟨⟨?_, ?_, ?_⟩, ?_⟩
  · have : A.nn (A.conv .i64 (v 62)) := by rw [kc]; subst hA; exact h62.1
    exact this
  · have : A.leN 0 (A.nat (A.conv .i64 (v 62))) := by subst hA; exact Nat.zero_le _
    exact this
  · have : A.leN (A.nat (A.conv .i64 (v 62))) m := by rw [kn]; subst hA; show n ≤ m; omega
    exact this
  have hpn : A.subN (A.nat (A.conv .i64 (v 62))) 0 = n := by rw [kn]; subst hA; rfl
  have k3 : A.eq (v 63) 2 = r := by
    subst hA
    rw [Bool.eq_iff_iff, hr]
    simp only [Ar.real, beq_iff_eq]
  refine Fin.le hA 0 [] (.tup [By n v, .bl false, .bs r]) ([]) 0 rfl rfl rfl ?_ ?_ (by rw [← hK]; exact ⟨rfl, rfl, rfl⟩)
  · (try cbv) <;> (repeat' (first | exact trivial | exact rfl | apply And.intro | exact fun _ => rfl | (intro _ hle; first | refine chunk_le hA rfl hle rfl ?_ | refine cat_le hA ?_ | refine upd_le hA ?_ | refine int_le ?_ | skip)))
    · exact hpn
    · exact k3
  · (try cbv) <;> (repeat' (first | exact trivial | exact rfl | apply And.intro | exact fun _ => rfl | (intro _ hle; first | refine chunk_le hA rfl hle rfl ?_ | refine cat_le hA ?_ | refine upd_le hA ?_ | (try cbv))))
end Go.Proofs.Ytnjjgipblimbfaa.Dsk
