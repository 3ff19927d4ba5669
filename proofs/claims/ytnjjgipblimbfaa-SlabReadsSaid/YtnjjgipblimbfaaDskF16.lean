/-
  The document's records on sectors: what a sector uses; the record at a place; all of a run.
-/
import Derived.Test.YtnjjgipblimbfaaDskF15
set_option linter.unusedVariables false
set_option linter.unusedSimpArgs false
namespace Go.Proofs.Ytnjjgipblimbfaa.Dsk
open Go.Eng
open Go.DskLaw (q64 secV needN pcs padOk isB usedP getP scanP getP_next scanP_none scanP_some usedP_none1 usedP_on usedP_none2 usedP_end usedP_none3 getP_stop getP_none getP_long getP_empty getP_on getP_end)
set_option maxRecDepth 100000
set_option maxHeartbeats 4000000
set_option linter.unusedVariables false

theorem refrun_fn {P : Program} {G : Gl} (hP : P = Try.prog) {s a b : Int} {r : Bool} (hr : r = true ↔ 0 ≤ a ∧ a ≤ b ∧ b ≤ s) : FnTr P G 60 [.int .i64 s, .int .i64 a, .int .i64 b] [] 0 (Gives (.bs r) [] 0) := by
  by_cases h1 : 0 ≤ a
  · by_cases h2 : a ≤ b
    · skip
      have hT : T.Ok P := hP ▸ T_ok
      refine FnTr.intro (fn := Try.f60) (c := bodyOf Try.f60) (by rw [hP]; rfl) rfl rfl hT ?_
      generalize hA : Ar.real = A
      generalize hK : Gives _ _ _ = K
      cbv
      have k1 : A.ge a 0 = true := by subst hA; simp [Ar.real]; omega
      have k2 : A.ge b a = true := by subst hA; simp [Ar.real]; omega
      first | refine testR k1 rfl ?_ | refine testL k1 rfl ?_
      cbv
      first | refine testR k2 rfl ?_ | refine testL k2 rfl ?_
      cbv
      refine Fin.le hA 0 [] (.bs r) ([]) 0 rfl rfl rfl ?_ ?_ (by rw [← hK]; exact ⟨rfl, rfl, rfl⟩)
      · (try cbv) <;> (repeat' (first | exact trivial | exact rfl | apply And.intro | exact fun _ => rfl | (intro _ hle; first | refine chunk_le hA rfl hle rfl ?_ | refine cat_le hA ?_ | refine upd_le hA ?_ | (try cbv))))
        subst hA
        rw [Bool.eq_iff_iff, hr]; simp [Ar.real]; omega
      · (try cbv) <;> (repeat' (first | exact trivial | exact rfl | apply And.intro | exact fun _ => rfl | (intro _ hle; first | refine chunk_le hA rfl hle rfl ?_ | refine cat_le hA ?_ | refine upd_le hA ?_ | (try cbv))))
    · skip
      have hT : T.Ok P := hP ▸ T_ok
      refine FnTr.intro (fn := Try.f60) (c := bodyOf Try.f60) (by rw [hP]; rfl) rfl rfl hT ?_
      generalize hA : Ar.real = A
      generalize hK : Gives _ _ _ = K
      cbv
      have k1 : A.ge a 0 = true := by subst hA; simp [Ar.real]; omega
      have k2 : A.ge b a = false := by subst hA; simp [Ar.real]; omega
      first | refine testR k1 rfl ?_ | refine testL k1 rfl ?_
      cbv
      first | refine testR k2 rfl ?_ | refine testL k2 rfl ?_
      cbv
      refine Fin.le hA 0 [] (.bs r) ([]) 0 rfl rfl rfl ?_ ?_ (by rw [← hK]; exact ⟨rfl, rfl, rfl⟩)
      · (try cbv) <;> (repeat' (first | exact trivial | exact rfl | apply And.intro | exact fun _ => rfl | (intro _ hle; first | refine chunk_le hA rfl hle rfl ?_ | refine cat_le hA ?_ | refine upd_le hA ?_ | (try cbv))))
        subst hA
        rw [Bool.eq_iff_iff, hr]; simp; omega
      · (try cbv) <;> (repeat' (first | exact trivial | exact rfl | apply And.intro | exact fun _ => rfl | (intro _ hle; first | refine chunk_le hA rfl hle rfl ?_ | refine cat_le hA ?_ | refine upd_le hA ?_ | (try cbv))))
  · skip
    have hT : T.Ok P := hP ▸ T_ok
    refine FnTr.intro (fn := Try.f60) (c := bodyOf Try.f60) (by rw [hP]; rfl) rfl rfl hT ?_
    generalize hA : Ar.real = A
    generalize hK : Gives _ _ _ = K
    cbv
    have k1 : A.ge a 0 = false := by subst hA; simp [Ar.real]; omega
    first | refine testR k1 rfl ?_ | refine testL k1 rfl ?_
    cbv
    refine Fin.le hA 0 [] (.bs r) ([]) 0 rfl rfl rfl ?_ ?_ (by rw [← hK]; exact ⟨rfl, rfl, rfl⟩)
    · (try cbv) <;> (repeat' (first | exact trivial | exact rfl | apply And.intro | exact fun _ => rfl | (intro _ hle; first | refine chunk_le hA rfl hle rfl ?_ | refine cat_le hA ?_ | refine upd_le hA ?_ | (try cbv))))
      subst hA
      rw [Bool.eq_iff_iff, hr]; simp; omega
    · (try cbv) <;> (repeat' (first | exact trivial | exact rfl | apply And.intro | exact fun _ => rfl | (intro _ hle; first | refine chunk_le hA rfl hle rfl ?_ | refine cat_le hA ?_ | refine upd_le hA ?_ | (try cbv))))
def UsedIs (v : Nat → Int) (a b : Int) : Prop := (usedP v = none ∧ a = 0 ∧ b = 0) ∨ ∃ m on, usedP v = some (m, on) ∧ a = ((m : Nat) : Int) ∧ b = if on then 1 else 2
theorem UsedIs.none {v : Nat → Int} {a b : Int} (h : UsedIs v a b) (hu : usedP v = none) : a = 0 ∧ b = 0 := by
  rcases h with h | ⟨m, on, h, _⟩
  · exact h.2
  · rw [hu] at h; cases h
theorem UsedIs.some {v : Nat → Int} {a b : Int} {m : Nat} {on : Bool} (h : UsedIs v a b) (hu : usedP v = some (m, on)) : a = (m : Int) ∧ b = if on then 1 else 2 := by
  rcases h with h | ⟨m', on', h, h1, h2⟩
  · rw [hu] at h; cases h.1
  · rw [hu] at h; cases h; exact ⟨h1, h2⟩
theorem refused_fn {P : Program} {G : Gl} (hP : P = Try.prog) {n : Nat} {v : Nat → Int} {a b : Int} (hn : n = 64) (hv : isB v) (h : UsedIs v a b) : FnTr P G 62 [By n v] [] 0 (Gives (.tup [.int .i64 a, .int .u8 b]) [] 0) := by
  have h62 := hv 62 (by omega)
  have h63 := hv 63 (by omega)
  have hw : IntKind.i64.wrap (v 62) = v 62 := by rw [IntKind.wrap_i64]; omega
  by_cases e1 : v 63 ≠ 1 ∧ v 63 ≠ 2
  · obtain ⟨rfl, rfl⟩ := h.none (by
      by_cases q : padOk v
      · exact usedP_none3 q e1.1 e1.2
      · exact usedP_none1 q)
    have hT : T.Ok P := hP ▸ T_ok
    refine FnTr.intro (fn := Try.f62) (c := bodyOf Try.f62) (by rw [hP]; rfl) rfl rfl hT ?_
    generalize hA : Ar.real = A
    generalize hK : Gives _ _ _ = K
    cbv
    refine ⟨(by (subst hA; (try simp only [natCast_eq] at *); (try (simp only [Ar.real, NV.val, Int.ofNat_eq_natCast, Int.toNat_natCast])); first | done | omega | decide | exact inR64 (by omega) (by omega) | (refine ⟨?_, ?_⟩ <;> first | omega | decide | exact inR64 (by omega) (by omega)))), (by (subst hA; (try simp only [natCast_eq] at *); (try (simp only [Ar.real, NV.val, Int.ofNat_eq_natCast, Int.toNat_natCast])); first | done | omega | decide | exact inR64 (by omega) (by omega) | (refine ⟨?_, ?_⟩ <;> first | omega | decide | exact inR64 (by omega) (by omega)))), ?_⟩
    have k1 : A.ne (v 63) 1 = true := by subst hA; simp [Ar.real]; exact e1.1
    have k2 : A.ne (v 63) 2 = true := by subst hA; simp [Ar.real]; exact e1.2
    first | refine testR k1 rfl ?_ | refine testL k1 rfl ?_
    cbv
    first | refine testR k2 rfl ?_ | refine testL k2 rfl ?_
    cbv
    refine Fin.le hA 0 [] (.tup [.int .i64 0, .int .u8 0]) ([]) 0 rfl rfl rfl ?_ ?_ (by rw [← hK]; exact ⟨rfl, rfl, rfl⟩)
    · (try cbv) <;> (repeat' (first | exact trivial | exact rfl | apply And.intro | exact fun _ => rfl | (intro _ hle; first | refine chunk_le hA rfl hle rfl ?_ | refine cat_le hA ?_ | refine upd_le hA ?_ | (try cbv))))
    · (try cbv) <;> (repeat' (first | exact trivial | exact rfl | apply And.intro | exact fun _ => rfl | (intro _ hle; first | refine chunk_le hA rfl hle rfl ?_ | refine cat_le hA ?_ | refine upd_le hA ?_ | (try cbv))))
  by_cases e2 : 62 < v 62
  · obtain ⟨rfl, rfl⟩ := h.none (usedP_none1 fun q => by have := q.1; omega)
    by_cases e3 : v 63 = 1
    · skip
      have hT : T.Ok P := hP ▸ T_ok
      refine FnTr.intro (fn := Try.f62) (c := bodyOf Try.f62) (by rw [hP]; rfl) rfl rfl hT ?_
      generalize hA : Ar.real = A
      generalize hK : Gives _ _ _ = K
      cbv
      refine ⟨(by (subst hA; (try simp only [natCast_eq] at *); (try (simp only [Ar.real, NV.val, Int.ofNat_eq_natCast, Int.toNat_natCast])); first | done | omega | decide | exact inR64 (by omega) (by omega) | (refine ⟨?_, ?_⟩ <;> first | omega | decide | exact inR64 (by omega) (by omega)))), (by (subst hA; (try simp only [natCast_eq] at *); (try (simp only [Ar.real, NV.val, Int.ofNat_eq_natCast, Int.toNat_natCast])); first | done | omega | decide | exact inR64 (by omega) (by omega) | (refine ⟨?_, ?_⟩ <;> first | omega | decide | exact inR64 (by omega) (by omega)))), ?_⟩
      have kc : A.conv .i64 (v 62) = v 62 := by subst hA; exact hw
      have k1 : A.ne (v 63) 1 = false := by subst hA; simp [Ar.real]; exact e3
      have k3 : A.gt (A.conv .i64 (v 62)) 62 = true := by rw [kc]; subst hA; simp [Ar.real]; omega
      first | refine testR k1 rfl ?_ | refine testL k1 rfl ?_
      cbv
      first | refine testR k3 rfl ?_ | refine testL k3 rfl ?_
      cbv
      refine Fin.le hA 0 [] (.tup [.int .i64 0, .int .u8 0]) ([]) 0 rfl rfl rfl ?_ ?_ (by rw [← hK]; exact ⟨rfl, rfl, rfl⟩)
      · (try cbv) <;> (repeat' (first | exact trivial | exact rfl | apply And.intro | exact fun _ => rfl | (intro _ hle; first | refine chunk_le hA rfl hle rfl ?_ | refine cat_le hA ?_ | refine upd_le hA ?_ | (try cbv))))
      · (try cbv) <;> (repeat' (first | exact trivial | exact rfl | apply And.intro | exact fun _ => rfl | (intro _ hle; first | refine chunk_le hA rfl hle rfl ?_ | refine cat_le hA ?_ | refine upd_le hA ?_ | (try cbv))))
    · have e4 : v 63 = 2 := by omega
      have hT : T.Ok P := hP ▸ T_ok
      refine FnTr.intro (fn := Try.f62) (c := bodyOf Try.f62) (by rw [hP]; rfl) rfl rfl hT ?_
      generalize hA : Ar.real = A
      generalize hK : Gives _ _ _ = K
      cbv
      refine ⟨(by (subst hA; (try simp only [natCast_eq] at *); (try (simp only [Ar.real, NV.val, Int.ofNat_eq_natCast, Int.toNat_natCast])); first | done | omega | decide | exact inR64 (by omega) (by omega) | (refine ⟨?_, ?_⟩ <;> first | omega | decide | exact inR64 (by omega) (by omega)))), (by (subst hA; (try simp only [natCast_eq] at *); (try (simp only [Ar.real, NV.val, Int.ofNat_eq_natCast, Int.toNat_natCast])); first | done | omega | decide | exact inR64 (by omega) (by omega) | (refine ⟨?_, ?_⟩ <;> first | omega | decide | exact inR64 (by omega) (by omega)))), ?_⟩
      have kc : A.conv .i64 (v 62) = v 62 := by subst hA; exact hw
      have k1 : A.ne (v 63) 1 = true := by subst hA; simp [Ar.real]; exact e3
      have k2 : A.ne (v 63) 2 = false := by subst hA; simp [Ar.real]; exact e4
      have k3 : A.gt (A.conv .i64 (v 62)) 62 = true := by rw [kc]; subst hA; simp [Ar.real]; omega
      first | refine testR k1 rfl ?_ | refine testL k1 rfl ?_
      cbv
      first | refine testR k2 rfl ?_ | refine testL k2 rfl ?_
      cbv
      first | refine testR k3 rfl ?_ | refine testL k3 rfl ?_
      cbv
      refine Fin.le hA 0 [] (.tup [.int .i64 0, .int .u8 0]) ([]) 0 rfl rfl rfl ?_ ?_ (by rw [← hK]; exact ⟨rfl, rfl, rfl⟩)
      · (try cbv) <;> (repeat' (first | exact trivial | exact rfl | apply And.intro | exact fun _ => rfl | (intro _ hle; first | refine chunk_le hA rfl hle rfl ?_ | refine cat_le hA ?_ | refine upd_le hA ?_ | (try cbv))))
      · (try cbv) <;> (repeat' (first | exact trivial | exact rfl | apply And.intro | exact fun _ => rfl | (intro _ hle; first | refine chunk_le hA rfl hle rfl ?_ | refine cat_le hA ?_ | refine upd_le hA ?_ | (try cbv))))
  by_cases e3 : v 63 = 1 ∧ v 62 < 62
  · obtain ⟨rfl, rfl⟩ := h.none (by
      by_cases q : padOk v
      · exact usedP_none2 q e3.1 (by omega)
      · exact usedP_none1 q)
    have hT : T.Ok P := hP ▸ T_ok
    refine FnTr.intro (fn := Try.f62) (c := bodyOf Try.f62) (by rw [hP]; rfl) rfl rfl hT ?_
    generalize hA : Ar.real = A
    generalize hK : Gives _ _ _ = K
    cbv
    refine ⟨(by (subst hA; (try simp only [natCast_eq] at *); (try (simp only [Ar.real, NV.val, Int.ofNat_eq_natCast, Int.toNat_natCast])); first | done | omega | decide | exact inR64 (by omega) (by omega) | (refine ⟨?_, ?_⟩ <;> first | omega | decide | exact inR64 (by omega) (by omega)))), (by (subst hA; (try simp only [natCast_eq] at *); (try (simp only [Ar.real, NV.val, Int.ofNat_eq_natCast, Int.toNat_natCast])); first | done | omega | decide | exact inR64 (by omega) (by omega) | (refine ⟨?_, ?_⟩ <;> first | omega | decide | exact inR64 (by omega) (by omega)))), ?_⟩
    have kc : A.conv .i64 (v 62) = v 62 := by subst hA; exact hw
    have k1 : A.ne (v 63) 1 = false := by subst hA; simp [Ar.real]; exact e3.1
    have k3 : A.gt (A.conv .i64 (v 62)) 62 = false := by rw [kc]; subst hA; simp [Ar.real]; omega
    have k4 : A.eq (v 63) 1 = true := by subst hA; simp [Ar.real]; exact e3.1
    have k5 : A.lt (A.conv .i64 (v 62)) 62 = true := by rw [kc]; subst hA; simp [Ar.real]; omega
    first | refine testR k1 rfl ?_ | refine testL k1 rfl ?_
    cbv
    first | refine testR k3 rfl ?_ | refine testL k3 rfl ?_
    cbv
    first | refine testR k4 rfl ?_ | refine testL k4 rfl ?_
    cbv
    first | refine testR k5 rfl ?_ | refine testL k5 rfl ?_
    cbv
    refine Fin.le hA 0 [] (.tup [.int .i64 0, .int .u8 0]) ([]) 0 rfl rfl rfl ?_ ?_ (by rw [← hK]; exact ⟨rfl, rfl, rfl⟩)
    · (try cbv) <;> (repeat' (first | exact trivial | exact rfl | apply And.intro | exact fun _ => rfl | (intro _ hle; first | refine chunk_le hA rfl hle rfl ?_ | refine cat_le hA ?_ | refine upd_le hA ?_ | (try cbv))))
    · (try cbv) <;> (repeat' (first | exact trivial | exact rfl | apply And.intro | exact fun _ => rfl | (intro _ hle; first | refine chunk_le hA rfl hle rfl ?_ | refine cat_le hA ?_ | refine upd_le hA ?_ | (try cbv))))
  obtain ⟨m, hm⟩ : ∃ m : Nat, v 62 = (m : Int) := ⟨(v 62).toNat, by omega⟩
  have hm62 : m ≤ 62 := by omega
  have hsome : (∀ x, m ≤ x → x < 62 → v x = 0) → a = (m : Int) ∧ b = v 63 := fun hz => by
    have hp : padOk v := ⟨by omega, fun x q1 q2 => hz x (by omega) q2⟩
    by_cases q : v 63 = 1
    · have := h.some (usedP_on hp q (by omega))
      rw [this.1, this.2, q]; exact ⟨by omega, rfl⟩
    · have := h.some (usedP_end hp q (by omega))
      rw [this.1, this.2, show v 63 = 2 by omega]; exact ⟨by omega, rfl⟩
  have hnone : ∀ x, m ≤ x → x < 62 → v x ≠ 0 → a = 0 ∧ b = 0 := fun x q1 q2 q3 => h.none (usedP_none1 fun q => q3 (q.2 x (by omega) q2))
  have hcase : (v 63 = 1 ∧ m = 62) ∨ (v 63 ≠ 1 ∧ v 63 = 2) := by omega
  clear h
  rcases hcase with hc | hc
  · skip
    have hT : T.Ok P := hP ▸ T_ok
    refine FnTr.intro (fn := Try.f62) (c := bodyOf Try.f62) (by rw [hP]; rfl) rfl rfl hT ?_
    generalize hA : Ar.real = A
    generalize hK : Gives _ _ _ = K
    cbv
    refine ⟨(by (subst hA; (try simp only [natCast_eq] at *); (try (simp only [Ar.real, NV.val, Int.ofNat_eq_natCast, Int.toNat_natCast])); first | done | omega | decide | exact inR64 (by omega) (by omega) | (refine ⟨?_, ?_⟩ <;> first | omega | decide | exact inR64 (by omega) (by omega)))), (by (subst hA; (try simp only [natCast_eq] at *); (try (simp only [Ar.real, NV.val, Int.ofNat_eq_natCast, Int.toNat_natCast])); first | done | omega | decide | exact inR64 (by omega) (by omega) | (refine ⟨?_, ?_⟩ <;> first | omega | decide | exact inR64 (by omega) (by omega)))), ?_⟩
    have kc : A.conv .i64 (v 62) = (m : Int) := by subst hA; show IntKind.i64.wrap (v 62) = _; rw [hw]; exact hm
    have k1 : A.ne (v 63) 1 = false := by subst hA; simp [Ar.real]; exact hc.1
    have k3 : A.gt (A.conv .i64 (v 62)) 62 = false := by rw [kc]; subst hA; simp [Ar.real]; omega
    have k4 : A.eq (v 63) 1 = true := by subst hA; simp [Ar.real]; exact hc.1
    have k5 : A.lt (A.conv .i64 (v 62)) 62 = false := by rw [kc]; subst hA; simp [Ar.real]; omega
    first | refine testR k1 rfl ?_ | refine testL k1 rfl ?_
    cbv
    first | refine testR k3 rfl ?_ | refine testL k3 rfl ?_
    cbv
    first | refine testR k4 rfl ?_ | refine testL k4 rfl ?_
    cbv
    first | refine testR k5 rfl ?_ | refine testL k5 rfl ?_
    cbv
    refine LS.rounds hA 1 hT ?_
    cbv
    have k6 : A.lt (A.conv .i64 (v 62)) 62 = false := k5
    first | refine testR k6 rfl ?_ | refine testL k6 rfl ?_
    cbv
    obtain ⟨ha, hb⟩ := hsome (fun x q1 q2 => by omega)
    refine Fin.le hA 0 [] (.tup [.int .i64 a, .int .u8 b]) ([]) 0 rfl rfl rfl ?_ ?_ (by rw [← hK]; exact ⟨rfl, rfl, rfl⟩)
    · (try cbv) <;> (repeat' (first | exact trivial | exact rfl | apply And.intro | exact fun _ => rfl | (intro _ hle; first | refine chunk_le hA rfl hle rfl ?_ | refine cat_le hA ?_ | refine upd_le hA ?_ | (try cbv))))
      · exact kc.trans ha.symm
      · exact hb.symm
    · (try cbv) <;> (repeat' (first | exact trivial | exact rfl | apply And.intro | exact fun _ => rfl | (intro _ hle; first | refine chunk_le hA rfl hle rfl ?_ | refine cat_le hA ?_ | refine upd_le hA ?_ | (try cbv))))
  · skip
    have hT : T.Ok P := hP ▸ T_ok
    refine FnTr.intro (fn := Try.f62) (c := bodyOf Try.f62) (by rw [hP]; rfl) rfl rfl hT ?_
    generalize hA : Ar.real = A
    generalize hK : Gives _ _ _ = K
    cbv
    refine ⟨(by (subst hA; (try simp only [natCast_eq] at *); (try (simp only [Ar.real, NV.val, Int.ofNat_eq_natCast, Int.toNat_natCast])); first | done | omega | decide | exact inR64 (by omega) (by omega) | (refine ⟨?_, ?_⟩ <;> first | omega | decide | exact inR64 (by omega) (by omega)))), (by (subst hA; (try simp only [natCast_eq] at *); (try (simp only [Ar.real, NV.val, Int.ofNat_eq_natCast, Int.toNat_natCast])); first | done | omega | decide | exact inR64 (by omega) (by omega) | (refine ⟨?_, ?_⟩ <;> first | omega | decide | exact inR64 (by omega) (by omega)))), ?_⟩
    have kc : A.conv .i64 (v 62) = (m : Int) := by subst hA; show IntKind.i64.wrap (v 62) = _; rw [hw]; exact hm
    have k1 : A.ne (v 63) 1 = true := by subst hA; simp [Ar.real]; exact hc.1
    have k2 : A.ne (v 63) 2 = false := by subst hA; simp [Ar.real]; exact hc.2
    have k3 : A.gt (A.conv .i64 (v 62)) 62 = false := by rw [kc]; subst hA; simp [Ar.real]; omega
    have k4 : A.eq (v 63) 1 = false := by subst hA; simp [Ar.real]; exact hc.1
    first | refine testR k1 rfl ?_ | refine testL k1 rfl ?_
    cbv
    first | refine testR k2 rfl ?_ | refine testL k2 rfl ?_
    cbv
    first | refine testR k3 rfl ?_ | refine testL k3 rfl ?_
    cbv
    first | refine testR k4 rfl ?_ | refine testL k4 rfl ?_
    cbv
    refine LS.le hT hA 0 (fun (i : Nat) => [(6, .int .i64 (i : Int))]) (fun _ => []) (fun i => m ≤ i ∧ i ≤ 62 ∧ ∀ x, m ≤ x → x < i → v x = 0) (fun i => 62 - i) m [] rfl rfl ?_ ?_ ?_
    · (try cbv) <;> (repeat' (first | exact trivial | exact rfl | apply And.intro | exact fun _ => rfl | (intro _ hle; first | refine chunk_le hA rfl hle rfl ?_ | refine cat_le hA ?_ | refine upd_le hA ?_ | refine int_le ?_ | skip)))
      all_goals exact kc
    · exact ⟨Nat.le_refl _, hm62, fun x q1 q2 => by omega⟩
    · intro R hR i hi
      obtain ⟨hi1, hi2, hi3⟩ := hi
      cbv
      refine ⟨fun q1 => ?_, fun q1 => ?_⟩
      · have him : i < 62 := by clear hR; subst hA; simp [Ar.real] at q1; omega
        have hvi := hv i (by omega)
        have kn : A.nat (Int.ofNat i) = i := by clear hR; subst hA; rfl
        cbv
        refine ⟨(by (subst hA; (try simp only [natCast_eq] at *); (try (simp only [Ar.real, NV.val, Int.ofNat_eq_natCast, Int.toNat_natCast])); first | done | omega | decide | exact inR64 (by omega) (by omega) | (refine ⟨?_, ?_⟩ <;> first | omega | decide | exact inR64 (by omega) (by omega)))), ?_⟩
        by_cases hz : v i = 0
        · have k7 : A.ne (v (A.nat (Int.ofNat i))) 0 = false := by rw [kn, hz]; clear hR; subst hA; rfl
          first | refine testR k7 rfl ?_ | refine testL k7 rfl ?_
          cbv
          refine ⟨(by (subst hA; (try simp only [natCast_eq] at *); (try (simp only [Ar.real, NV.val, Int.ofNat_eq_natCast, Int.toNat_natCast])); first | done | omega | decide | exact inR64 (by omega) (by omega) | (refine ⟨?_, ?_⟩ <;> first | omega | decide | exact inR64 (by omega) (by omega)))), hR _ _ ⟨i + 1, 0, [], rfl, rfl, ?_, ⟨by omega, by omega, fun x q2 q3 => ?_⟩, (by show 62 - (i + 1) < 62 - i; omega)⟩⟩
          · clear hR
            (try cbv) <;> (repeat' (first | exact trivial | exact rfl | apply And.intro | exact fun _ => rfl | (intro _ hle; first | refine chunk_le hA rfl hle rfl ?_ | refine cat_le hA ?_ | refine upd_le hA ?_ | refine int_le ?_ | skip)))
            all_goals (subst hA; (try simp only [natCast_eq] at *); (try (simp only [Ar.real, NV.val, Int.ofNat_eq_natCast, Int.toNat_natCast])); first | done | omega | decide | exact inR64 (by omega) (by omega) | (refine ⟨?_, ?_⟩ <;> first | omega | decide | exact inR64 (by omega) (by omega)))
          · rcases Nat.lt_or_ge x i with e | e
            · exact hi3 x q2 e
            · rw [show x = i by omega]; exact hz
        · have k7 : A.ne (v (A.nat (Int.ofNat i))) 0 = true := by rw [kn]; clear hR; subst hA; simp [Ar.real]; exact hz
          obtain ⟨ha, hb⟩ := hnone i hi1 him hz
          clear hR
          first | refine testR k7 rfl ?_ | refine testL k7 rfl ?_
          cbv
          refine Fin.le hA 0 [] (.tup [.int .i64 a, .int .u8 b]) ([]) 0 rfl rfl rfl ?_ ?_ (by rw [← hK]; exact ⟨rfl, rfl, rfl⟩)
          · (try cbv) <;> (repeat' (first | exact trivial | exact rfl | apply And.intro | exact fun _ => rfl | (intro _ hle; first | refine chunk_le hA rfl hle rfl ?_ | refine cat_le hA ?_ | refine upd_le hA ?_ | (try cbv))))
            · exact ha.symm
            · exact hb.symm
          · (try cbv) <;> (repeat' (first | exact trivial | exact rfl | apply And.intro | exact fun _ => rfl | (intro _ hle; first | refine chunk_le hA rfl hle rfl ?_ | refine cat_le hA ?_ | refine upd_le hA ?_ | (try cbv))))
      · have him : i = 62 := by clear hR; subst hA; simp [Ar.real] at q1; omega
        clear hR
        obtain ⟨ha, hb⟩ := hsome (fun x q2 q3 => hi3 x q2 (by omega))
        cbv
        refine Fin.le hA 0 [] (.tup [.int .i64 a, .int .u8 b]) ([]) 0 rfl rfl rfl ?_ ?_ (by rw [← hK]; exact ⟨rfl, rfl, rfl⟩)
        · (try cbv) <;> (repeat' (first | exact trivial | exact rfl | apply And.intro | exact fun _ => rfl | (intro _ hle; first | refine chunk_le hA rfl hle rfl ?_ | refine cat_le hA ?_ | refine upd_le hA ?_ | (try cbv))))
          · exact kc.trans ha.symm
          · exact hb.symm
        · (try cbv) <;> (repeat' (first | exact trivial | exact rfl | apply And.intro | exact fun _ => rfl | (intro _ hle; first | refine chunk_le hA rfl hle rfl ?_ | refine cat_le hA ?_ | refine upd_le hA ?_ | (try cbv))))

theorem refget_arg {P : Program} {G : Gl} (hP : P = Try.prog) {s : Nat} {S L : Nat → Nat → Int} {W : Nat → Bool} {c a b : Int} (h : a < 0 ∨ b < a ∨ (s : Int) < b) :
    FnTr P G 44 [RD s S L W c, .int .i64 a, .int .i64 b] [] 0 (Gives (.tup [.nils, .lit .i64 0, .lit .i64 1]) [] 600) := by
  have c1 := refrun_fn (P := P) (G := G) (s := (s : Int)) (a := a) (b := b) (r := false) hP ⟨fun q => (by cases q), fun q => by omega⟩
  have hT : T.Ok P := hP ▸ T_ok
  refine FnTr.intro (fn := Try.f44) (c := bodyOf Try.f44) (by rw [hP]; rfl) rfl rfl hT ?_
  generalize hA : Ar.real = A
  generalize hK : Gives _ _ _ = K
  cbv
  refine CS.leR hA (c1) (.bl false) [] rfl rfl rfl ?_ ?_ ?_ ?_
  · (try cbv) <;> (repeat' (first | exact trivial | exact rfl | apply And.intro | exact fun _ => rfl | (intro _ hle; first | refine chunk_le hA rfl hle rfl ?_ | refine cat_le hA ?_ | refine upd_le hA ?_ | (try cbv)))) <;> (try (subst hA; (try simp only [natCast_eq] at *); (try (simp only [Ar.real, NV.val, Int.ofNat_eq_natCast, Int.toNat_natCast])); first | done | omega | decide | exact inR64 (by omega) (by omega) | (refine ⟨?_, ?_⟩ <;> first | omega | decide | exact inR64 (by omega) (by omega))))
  · (try cbv) <;> (repeat' (first | exact trivial | exact rfl | apply And.intro | exact fun _ => rfl | (intro _ hle; first | refine chunk_le hA rfl hle rfl ?_ | refine cat_le hA ?_ | refine upd_le hA ?_ | (try cbv)))) <;> (try (subst hA; (try simp only [natCast_eq] at *); (try (simp only [Ar.real, NV.val, Int.ofNat_eq_natCast, Int.toNat_natCast])); first | done | omega | decide | exact inR64 (by omega) (by omega) | (refine ⟨?_, ?_⟩ <;> first | omega | decide | exact inR64 (by omega) (by omega))))
  · (try cbv) <;> (repeat' (first | exact trivial | exact rfl | apply And.intro | exact fun _ => rfl | (intro _ hle; first | refine chunk_le hA rfl hle rfl ?_ | refine cat_le hA ?_ | refine upd_le hA ?_ | (try cbv))))
  cbv
  refine Fin.le hA 0 [] (.tup [.nils, .lit .i64 0, .lit .i64 1]) ([]) 600 rfl rfl rfl ?_ ?_ (by rw [← hK]; exact ⟨rfl, rfl, rfl⟩)
  · (try cbv) <;> (repeat' (first | exact trivial | exact rfl | apply And.intro | exact fun _ => rfl | (intro _ hle; first | refine chunk_le hA rfl hle rfl ?_ | refine cat_le hA ?_ | refine upd_le hA ?_ | (try cbv))))
  · (try cbv) <;> (repeat' (first | exact trivial | exact rfl | apply And.intro | exact fun _ => rfl | (intro _ hle; first | refine chunk_le hA rfl hle rfl ?_ | refine cat_le hA ?_ | refine upd_le hA ?_ | (try cbv))))
theorem refget_off {P : Program} {G : Gl} (hP : P = Try.prog) {s : Nat} {S L : Nat → Nat → Int} {W : Nat → Bool} {c a b : Int} (h : 0 ≤ a ∧ a ≤ b ∧ b ≤ (s : Int)) (hc : c = 0) :
    FnTr P G 44 [RD s S L W c, .int .i64 a, .int .i64 b] [] 0 (Gives (.tup [.nils, .lit .i64 0, .lit .i64 6]) [] 600) := by
  have c1 := refrun_fn (P := P) (G := G) (s := (s : Int)) (a := a) (b := b) (r := true) hP ⟨fun _ => h, fun _ => rfl⟩
  have c2 := refoff_fn (P := P) (G := G) (s := s) (S := S) (L := L) (W := W) (c := c) (r := true) hP ⟨fun _ => hc, fun _ => rfl⟩
  have hT : T.Ok P := hP ▸ T_ok
  refine FnTr.intro (fn := Try.f44) (c := bodyOf Try.f44) (by rw [hP]; rfl) rfl rfl hT ?_
  generalize hA : Ar.real = A
  generalize hK : Gives _ _ _ = K
  cbv
  refine CS.leR hA (c1) (.bl true) [] rfl rfl rfl ?_ ?_ ?_ ?_
  · (try cbv) <;> (repeat' (first | exact trivial | exact rfl | apply And.intro | exact fun _ => rfl | (intro _ hle; first | refine chunk_le hA rfl hle rfl ?_ | refine cat_le hA ?_ | refine upd_le hA ?_ | (try cbv)))) <;> (try (subst hA; (try simp only [natCast_eq] at *); (try (simp only [Ar.real, NV.val, Int.ofNat_eq_natCast, Int.toNat_natCast])); first | done | omega | decide | exact inR64 (by omega) (by omega) | (refine ⟨?_, ?_⟩ <;> first | omega | decide | exact inR64 (by omega) (by omega))))
  · (try cbv) <;> (repeat' (first | exact trivial | exact rfl | apply And.intro | exact fun _ => rfl | (intro _ hle; first | refine chunk_le hA rfl hle rfl ?_ | refine cat_le hA ?_ | refine upd_le hA ?_ | (try cbv)))) <;> (try (subst hA; (try simp only [natCast_eq] at *); (try (simp only [Ar.real, NV.val, Int.ofNat_eq_natCast, Int.toNat_natCast])); first | done | omega | decide | exact inR64 (by omega) (by omega) | (refine ⟨?_, ?_⟩ <;> first | omega | decide | exact inR64 (by omega) (by omega))))
  · (try cbv) <;> (repeat' (first | exact trivial | exact rfl | apply And.intro | exact fun _ => rfl | (intro _ hle; first | refine chunk_le hA rfl hle rfl ?_ | refine cat_le hA ?_ | refine upd_le hA ?_ | (try cbv))))
  cbv
  refine CS.leR hA (c2) (.bl true) [] rfl rfl rfl ?_ ?_ ?_ ?_
  · (try cbv) <;> (repeat' (first | exact trivial | exact rfl | apply And.intro | exact fun _ => rfl | (intro _ hle; first | refine chunk_le hA rfl hle rfl ?_ | refine cat_le hA ?_ | refine upd_le hA ?_ | (try cbv)))) <;> (try (subst hA; (try simp only [natCast_eq] at *); (try (simp only [Ar.real, NV.val, Int.ofNat_eq_natCast, Int.toNat_natCast])); first | done | omega | decide | exact inR64 (by omega) (by omega) | (refine ⟨?_, ?_⟩ <;> first | omega | decide | exact inR64 (by omega) (by omega))))
  · (try cbv) <;> (repeat' (first | exact trivial | exact rfl | apply And.intro | exact fun _ => rfl | (intro _ hle; first | refine chunk_le hA rfl hle rfl ?_ | refine cat_le hA ?_ | refine upd_le hA ?_ | (try cbv)))) <;> (try (subst hA; (try simp only [natCast_eq] at *); (try (simp only [Ar.real, NV.val, Int.ofNat_eq_natCast, Int.toNat_natCast])); first | done | omega | decide | exact inR64 (by omega) (by omega) | (refine ⟨?_, ?_⟩ <;> first | omega | decide | exact inR64 (by omega) (by omega))))
  · (try cbv) <;> (repeat' (first | exact trivial | exact rfl | apply And.intro | exact fun _ => rfl | (intro _ hle; first | refine chunk_le hA rfl hle rfl ?_ | refine cat_le hA ?_ | refine upd_le hA ?_ | (try cbv))))
  cbv
  refine Fin.le hA 0 [] (.tup [.nils, .lit .i64 0, .lit .i64 6]) ([]) 600 rfl rfl rfl ?_ ?_ (by rw [← hK]; exact ⟨rfl, rfl, rfl⟩)
  · (try cbv) <;> (repeat' (first | exact trivial | exact rfl | apply And.intro | exact fun _ => rfl | (intro _ hle; first | refine chunk_le hA rfl hle rfl ?_ | refine cat_le hA ?_ | refine upd_le hA ?_ | (try cbv))))
  · (try cbv) <;> (repeat' (first | exact trivial | exact rfl | apply And.intro | exact fun _ => rfl | (intro _ hle; first | refine chunk_le hA rfl hle rfl ?_ | refine cat_le hA ?_ | refine upd_le hA ?_ | (try cbv))))
theorem refget_own {P : Program} {G : Gl} {K : SV → Hl → Nat → Prop} (hP : P = Try.prog) {s first fin : Nat} {S L : Nat → Nat → Int} {f0 : Nat → Int} {W : Nat → Bool} {c : Int} {V : Nat → Nat → Int} {R0 : Option (Nat × (Nat → Int) × Nat)} (hs : s ≤ 4096)
    (h : first ≤ fin ∧ fin ≤ s) (ho : c ≠ 0) (hV : ∀ i, i < s → V i = L i ∧ isB (V i)) (hR0 : getP V first fin (fin - first) first 0 f0 = R0)
    (hK1 : ∀ n f next, R0 = some (n, f, next) → K (.tup [.sl 1 1 (.l 0) (.s n), .int .i64 (next : Int), .lit .i64 0]) [(1, .row 5 1 (.s n) (fun e => [.int .u8 (f e.val)]))] 600)
    (hK0 : R0 = none → K (.tup [.nils, .lit .i64 0, .lit .i64 4]) [] 600) :
    FnTr P G 44 [RD s S L W c, .int .i64 (first : Int), .int .i64 (fin : Int)] [] 0 K := by
  have c1 := refrun_fn (P := P) (G := G) (s := (s : Int)) (a := (first : Int)) (b := (fin : Int)) (r := true) hP ⟨fun _ => (by omega), fun _ => rfl⟩
  have c2 := refoff_fn (P := P) (G := G) (s := s) (S := S) (L := L) (W := W) (c := c) (r := false) hP ⟨fun q => (by cases q), fun q => absurd q ho⟩
  have c3 : ∀ i, i < s → FnTr P G 53 [RD s S L W c, .int .i64 (i : Int)] [] 0 (Gives (.tup [.ro 1 (.s 64) (fun e => [.int .u8 (V i e.val)]), .lit .i64 0]) [] 2) := fun i hi => refread_ok hP ho hi (hV i hi).1
  obtain ⟨m64, h64⟩ : ∃ m, m = 64 := ⟨_, rfl⟩
  have hB : ∀ i, i < s → isB (V i) := fun i hi => (hV i hi).2
  clear hV
  have hT : T.Ok P := hP ▸ T_ok
  refine FnTr.intro (fn := Try.f44) (c := bodyOf Try.f44) (by rw [hP]; rfl) rfl rfl hT ?_
  generalize hA : Ar.real = A
  cbv
  refine CS.leR hA (c1) (.bl true) [] rfl rfl rfl ?_ ?_ ?_ ?_
  · (try cbv) <;> (repeat' (first | exact trivial | exact rfl | apply And.intro | exact fun _ => rfl | (intro _ hle; first | refine chunk_le hA rfl hle rfl ?_ | refine cat_le hA ?_ | refine upd_le hA ?_ | (try cbv)))) <;> (try (subst hA; (try simp only [natCast_eq] at *); (try (simp only [Ar.real, NV.val, Int.ofNat_eq_natCast, Int.toNat_natCast])); first | done | omega | decide | exact inR64 (by omega) (by omega) | (refine ⟨?_, ?_⟩ <;> first | omega | decide | exact inR64 (by omega) (by omega))))
  · (try cbv) <;> (repeat' (first | exact trivial | exact rfl | apply And.intro | exact fun _ => rfl | (intro _ hle; first | refine chunk_le hA rfl hle rfl ?_ | refine cat_le hA ?_ | refine upd_le hA ?_ | (try cbv)))) <;> (try (subst hA; (try simp only [natCast_eq] at *); (try (simp only [Ar.real, NV.val, Int.ofNat_eq_natCast, Int.toNat_natCast])); first | done | omega | decide | exact inR64 (by omega) (by omega) | (refine ⟨?_, ?_⟩ <;> first | omega | decide | exact inR64 (by omega) (by omega))))
  · (try cbv) <;> (repeat' (first | exact trivial | exact rfl | apply And.intro | exact fun _ => rfl | (intro _ hle; first | refine chunk_le hA rfl hle rfl ?_ | refine cat_le hA ?_ | refine upd_le hA ?_ | (try cbv))))
  cbv
  refine CS.leR hA (c2) (.bl false) [] rfl rfl rfl ?_ ?_ ?_ ?_
  · (try cbv) <;> (repeat' (first | exact trivial | exact rfl | apply And.intro | exact fun _ => rfl | (intro _ hle; first | refine chunk_le hA rfl hle rfl ?_ | refine cat_le hA ?_ | refine upd_le hA ?_ | (try cbv)))) <;> (try (subst hA; (try simp only [natCast_eq] at *); (try (simp only [Ar.real, NV.val, Int.ofNat_eq_natCast, Int.toNat_natCast])); first | done | omega | decide | exact inR64 (by omega) (by omega) | (refine ⟨?_, ?_⟩ <;> first | omega | decide | exact inR64 (by omega) (by omega))))
  · (try cbv) <;> (repeat' (first | exact trivial | exact rfl | apply And.intro | exact fun _ => rfl | (intro _ hle; first | refine chunk_le hA rfl hle rfl ?_ | refine cat_le hA ?_ | refine upd_le hA ?_ | (try cbv)))) <;> (try (subst hA; (try simp only [natCast_eq] at *); (try (simp only [Ar.real, NV.val, Int.ofNat_eq_natCast, Int.toNat_natCast])); first | done | omega | decide | exact inR64 (by omega) (by omega) | (refine ⟨?_, ?_⟩ <;> first | omega | decide | exact inR64 (by omega) (by omega))))
  · (try cbv) <;> (repeat' (first | exact trivial | exact rfl | apply And.intro | exact fun _ => rfl | (intro _ hle; first | refine chunk_le hA rfl hle rfl ?_ | refine cat_le hA ?_ | refine upd_le hA ?_ | (try cbv))))
  cbv
  clear c1 c2
  refine LS.ghost 5 1 (.l 0) (fun _ => [.int .u8 0]) rfl ?_
  refine LS.le3 hT hA 1 (fun (x : Nat) (n : Nat) (_ : Nat → Int) => [(9, .sl 1 1 (.l 0) (.s n)), (10, .int .i64 (x : Int))]) (fun _ n f => [(1, .row 5 1 (.s n) (fun e => [.int .u8 (f e.val)])), (0, .cells 44 [Rw64 s S, Rw64 s L, .ro 1 (.s s) (fun e => [.bs (W e.val)]), .int .i64 c])]) (fun x n f => first ≤ x ∧ x ≤ fin ∧ n ≤ 65536 ∧ getP V first fin (fin - x) x n f = R0) (fun x _ _ => fin - x) first 0 f0 [(15, 1)] rfl rfl ?_ ?_ ?_
  · (try cbv) <;> (repeat' (first | exact trivial | exact rfl | apply And.intro | exact fun _ => rfl | (intro _ hle; first | refine chunk_le hA rfl hle rfl ?_ | refine cat_le hA ?_ | refine upd_le hA ?_ | refine int_le ?_ | skip)))
    all_goals (exfalso; subst hA; exact absurd (ltNV_real.1 hle) (Nat.not_lt_zero _))
  · exact ⟨Nat.le_refl _, h.1, by omega, hR0⟩
  · intro R hR x n f hx
    cbv
    refine ⟨fun h1 => ?_, fun h1 => ?_⟩
    · have hxf : x < fin := by clear c3 hK1 hK0 hB hR0 hx hR; subst hA; simpa [Ar.real] using h1
      have c4 := c3 x (by omega)
      have hb := hB x (by omega)
      have hgp := hx.2.2.2
      have hn := hx.2.2.1
      clear c3 hB
      obtain ⟨f', hf'⟩ : ∃ f' : Nat → Int, f' = fun i => if i < n then f i else V x (i - n) := ⟨_, rfl⟩
      have hfe : ∀ i, f' i = if i < n then f i else V x (i - n) := fun i => by rw [hf']
      cbv
      refine CS.le hA (c4) [] rfl rfl rfl ?_ ?_ ?_
      · (try cbv) <;> (repeat' (first | exact trivial | exact rfl | apply And.intro | exact fun _ => rfl | (intro _ hle; first | refine chunk_le hA rfl hle rfl ?_ | refine cat_le hA ?_ | refine upd_le hA ?_ | (try cbv)))) <;> (try (subst hA; (try simp only [natCast_eq] at *); (try (simp only [Ar.real, NV.val, Int.ofNat_eq_natCast, Int.toNat_natCast])); first | done | omega | decide | exact inR64 (by omega) (by omega) | (refine ⟨?_, ?_⟩ <;> first | omega | decide | exact inR64 (by omega) (by omega))))
      · (try cbv) <;> (repeat' (first | exact trivial | exact rfl | apply And.intro | exact fun _ => rfl | (intro _ hle; first | refine chunk_le hA rfl hle rfl ?_ | refine cat_le hA ?_ | refine upd_le hA ?_ | (try cbv))))
      cbv
      cases hu : usedP (V x) with
      | none =>
        have a1 := refused_fn (P := P) (G := G) (n := m64) (v := V x) (a := 0) (b := 0) hP h64 hb (.inl ⟨hu, rfl, rfl⟩)
        have hr0 : R0 = none := hgp.symm.trans (getP_none hxf hu)
        clear hR hK1
        refine CS.leR hA (a1) (.tup [.lit .i64 0, .lit .u8 0]) [] rfl rfl rfl ?_ ?_ ?_ ?_
        · (try cbv) <;> (repeat' (first | exact trivial | exact rfl | apply And.intro | exact fun _ => rfl | (intro _ hle; first | refine chunk_le hA rfl hle rfl ?_ | refine cat_le hA ?_ | refine upd_le hA ?_ | (try cbv)))) <;> (try (subst hA; (try simp only [natCast_eq] at *); (try (simp only [Ar.real, NV.val, Int.ofNat_eq_natCast, Int.toNat_natCast])); first | done | omega | decide | exact inR64 (by omega) (by omega) | (refine ⟨?_, ?_⟩ <;> first | omega | decide | exact inR64 (by omega) (by omega))))
        · (try cbv) <;> (repeat' (first | exact trivial | exact rfl | apply And.intro | exact fun _ => rfl | (intro _ hle; first | refine chunk_le hA rfl hle rfl ?_ | refine cat_le hA ?_ | refine upd_le hA ?_ | (try cbv)))) <;> (try (subst hA; (try simp only [natCast_eq] at *); (try (simp only [Ar.real, NV.val, Int.ofNat_eq_natCast, Int.toNat_natCast])); first | done | omega | decide | exact inR64 (by omega) (by omega) | (refine ⟨?_, ?_⟩ <;> first | omega | decide | exact inR64 (by omega) (by omega))))
        · (try cbv) <;> (repeat' (first | exact trivial | exact rfl | apply And.intro | exact fun _ => rfl | (intro _ hle; first | refine chunk_le hA rfl hle rfl ?_ | refine cat_le hA ?_ | refine upd_le hA ?_ | (try cbv))))
        cbv
        refine Fin.le hA 0 [] (.tup [.nils, .lit .i64 0, .lit .i64 4]) [] 600 rfl rfl rfl ?_ ?_ (hK0 hr0)
        · (try cbv) <;> (repeat' (first | exact trivial | exact rfl | apply And.intro | exact fun _ => rfl | (intro _ hle; first | refine chunk_le hA rfl hle rfl ?_ | refine cat_le hA ?_ | refine upd_le hA ?_ | (try cbv))))
        · (try cbv) <;> (repeat' (first | exact trivial | exact rfl | apply And.intro | exact fun _ => rfl | (intro _ hle; first | refine chunk_le hA rfl hle rfl ?_ | refine cat_le hA ?_ | refine upd_le hA ?_ | (try cbv))))
      | some r =>
        obtain ⟨m, on⟩ := r
        obtain ⟨nm, hnm⟩ : ∃ q, q = n + m := ⟨_, rfl⟩
        have hm62 : m ≤ 62 := by
          clear hR hK1 hK0
          unfold usedP at hu
          split at hu
          · rename_i q
            have := q.1
            split at hu
            · split at hu
              · cases hu; omega
              · cases hu
            · split at hu
              · cases hu; omega
              · cases hu
          · cases hu
        cases on with
        | true =>
          have a1 := refused_fn (P := P) (G := G) (n := m64) (v := V x) (a := (m : Int)) (b := 1) hP h64 hb (.inr ⟨m, true, hu, rfl, rfl⟩)
          refine CS.leR hA (a1) (.tup [.int .i64 (m : Int), .lit .u8 1]) [] rfl rfl rfl ?_ ?_ ?_ ?_
          · (try cbv) <;> (repeat' (first | exact trivial | exact rfl | apply And.intro | exact fun _ => rfl | (intro _ hle; first | refine chunk_le hA rfl hle rfl ?_ | refine cat_le hA ?_ | refine upd_le hA ?_ | (try cbv)))) <;> (try (subst hA; (try simp only [natCast_eq] at *); (try (simp only [Ar.real, NV.val, Int.ofNat_eq_natCast, Int.toNat_natCast])); first | done | omega | decide | exact inR64 (by omega) (by omega) | (refine ⟨?_, ?_⟩ <;> first | omega | decide | exact inR64 (by omega) (by omega))))
          · (try cbv) <;> (repeat' (first | exact trivial | exact rfl | apply And.intro | exact fun _ => rfl | (intro _ hle; first | refine chunk_le hA rfl hle rfl ?_ | refine cat_le hA ?_ | refine upd_le hA ?_ | (try cbv)))) <;> (try (subst hA; (try simp only [natCast_eq] at *); (try (simp only [Ar.real, NV.val, Int.ofNat_eq_natCast, Int.toNat_natCast])); first | done | omega | decide | exact inR64 (by omega) (by omega) | (refine ⟨?_, ?_⟩ <;> first | omega | decide | exact inR64 (by omega) (by omega))))
          · (try cbv) <;> (repeat' (first | exact trivial | exact rfl | apply And.intro | exact fun _ => rfl | (intro _ hle; first | refine chunk_le hA rfl hle rfl ?_ | refine cat_le hA ?_ | refine upd_le hA ?_ | (try cbv))))
          cbv
          have hap : A.addN n (A.subN (A.nat (Int.ofNat m)) 0) = nm := by clear hR; subst hA; rw [hnm]; rfl
          refine ⟨(by (subst hA; (try simp only [natCast_eq] at *); (try (simp only [Ar.real, NV.val, Int.ofNat_eq_natCast, Int.toNat_natCast])); first | done | omega | decide | exact inR64 (by omega) (by omega) | (refine ⟨?_, ?_⟩ <;> first | omega | decide | exact inR64 (by omega) (by omega)))), ⟨(by (subst hA; (try simp only [natCast_eq] at *); (try (simp only [Ar.real, NV.val, Int.ofNat_eq_natCast, Int.toNat_natCast])); first | done | omega | decide | exact inR64 (by omega) (by omega) | (refine ⟨?_, ?_⟩ <;> first | omega | decide | exact inR64 (by omega) (by omega)))), (by (subst hA; (try simp only [natCast_eq] at *); (try (simp only [Ar.real, NV.val, Int.ofNat_eq_natCast, Int.toNat_natCast])); first | done | omega | decide | exact inR64 (by omega) (by omega) | (refine ⟨?_, ?_⟩ <;> first | omega | decide | exact inR64 (by omega) (by omega))))⟩, ?_⟩
          by_cases e3 : 65536 < n + m
          · have hr0 : R0 = none := hgp.symm.trans (getP_long hxf hu e3)
            have k1 : A.gt (A.i2 (A.addN n (A.subN (A.nat (Int.ofNat m)) 0))) 65536 = true := by rw [hap]; clear hR; subst hA; simp [Ar.real]; omega
            clear hR hK1
            first | refine testR k1 rfl ?_ | refine testL k1 rfl ?_
            cbv
            refine Fin.le hA 0 [] (.tup [.nils, .lit .i64 0, .lit .i64 4]) [] 600 rfl rfl rfl ?_ ?_ (hK0 hr0)
            · (try cbv) <;> (repeat' (first | exact trivial | exact rfl | apply And.intro | exact fun _ => rfl | (intro _ hle; first | refine chunk_le hA rfl hle rfl ?_ | refine cat_le hA ?_ | refine upd_le hA ?_ | (try cbv))))
            · (try cbv) <;> (repeat' (first | exact trivial | exact rfl | apply And.intro | exact fun _ => rfl | (intro _ hle; first | refine chunk_le hA rfl hle rfl ?_ | refine cat_le hA ?_ | refine upd_le hA ?_ | (try cbv))))
          · have hr1 := hgp.symm.trans (getP_on hxf hu e3)
            rw [← hf', ← hnm] at hr1
            have k1 : A.gt (A.i2 (A.addN n (A.subN (A.nat (Int.ofNat m)) 0))) 65536 = false := by rw [hap]; clear hR; subst hA; simp [Ar.real]; omega
            first | refine testR k1 rfl ?_ | refine testL k1 rfl ?_
            cbv
            refine ⟨(by (subst hA; (try simp only [natCast_eq] at *); (try (simp only [Ar.real, NV.val, Int.ofNat_eq_natCast, Int.toNat_natCast])); first | done | omega | decide | exact inR64 (by omega) (by omega) | (refine ⟨?_, ?_⟩ <;> first | omega | decide | exact inR64 (by omega) (by omega)))), hR _ _ _ _ ⟨x + 1, nm, f', 1, [(26, 1)], rfl, rfl, ?_, ⟨by omega, by omega, by omega, hr1.symm⟩, (by show fin - (x + 1) < fin - x; omega)⟩⟩
            clear hR
            (try cbv) <;> (repeat' (first | exact trivial | exact rfl | apply And.intro | exact fun _ => rfl | (intro _ hle; first | refine chunk_le hA rfl hle rfl ?_ | refine cat_le hA ?_ | refine upd_le hA ?_ | refine int_le ?_ | skip)))
            all_goals first | exact hfe _ | exact hap | (subst hA; (try simp only [natCast_eq] at *); (try (simp only [Ar.real, NV.val, Int.ofNat_eq_natCast, Int.toNat_natCast])); first | done | omega | decide | exact inR64 (by omega) (by omega) | (refine ⟨?_, ?_⟩ <;> first | omega | decide | exact inR64 (by omega) (by omega)))
        | false =>
          have a1 := refused_fn (P := P) (G := G) (n := m64) (v := V x) (a := (m : Int)) (b := 2) hP h64 hb (.inr ⟨m, false, hu, rfl, rfl⟩)
          clear hR
          refine CS.leR hA (a1) (.tup [.int .i64 (m : Int), .lit .u8 2]) [] rfl rfl rfl ?_ ?_ ?_ ?_
          · (try cbv) <;> (repeat' (first | exact trivial | exact rfl | apply And.intro | exact fun _ => rfl | (intro _ hle; first | refine chunk_le hA rfl hle rfl ?_ | refine cat_le hA ?_ | refine upd_le hA ?_ | (try cbv)))) <;> (try (subst hA; (try simp only [natCast_eq] at *); (try (simp only [Ar.real, NV.val, Int.ofNat_eq_natCast, Int.toNat_natCast])); first | done | omega | decide | exact inR64 (by omega) (by omega) | (refine ⟨?_, ?_⟩ <;> first | omega | decide | exact inR64 (by omega) (by omega))))
          · (try cbv) <;> (repeat' (first | exact trivial | exact rfl | apply And.intro | exact fun _ => rfl | (intro _ hle; first | refine chunk_le hA rfl hle rfl ?_ | refine cat_le hA ?_ | refine upd_le hA ?_ | (try cbv)))) <;> (try (subst hA; (try simp only [natCast_eq] at *); (try (simp only [Ar.real, NV.val, Int.ofNat_eq_natCast, Int.toNat_natCast])); first | done | omega | decide | exact inR64 (by omega) (by omega) | (refine ⟨?_, ?_⟩ <;> first | omega | decide | exact inR64 (by omega) (by omega))))
          · (try cbv) <;> (repeat' (first | exact trivial | exact rfl | apply And.intro | exact fun _ => rfl | (intro _ hle; first | refine chunk_le hA rfl hle rfl ?_ | refine cat_le hA ?_ | refine upd_le hA ?_ | (try cbv))))
          cbv
          have hap : A.addN n (A.subN (A.nat (Int.ofNat m)) 0) = nm := by subst hA; rw [hnm]; rfl
          refine ⟨(by (subst hA; (try simp only [natCast_eq] at *); (try (simp only [Ar.real, NV.val, Int.ofNat_eq_natCast, Int.toNat_natCast])); first | done | omega | decide | exact inR64 (by omega) (by omega) | (refine ⟨?_, ?_⟩ <;> first | omega | decide | exact inR64 (by omega) (by omega)))), ⟨(by (subst hA; (try simp only [natCast_eq] at *); (try (simp only [Ar.real, NV.val, Int.ofNat_eq_natCast, Int.toNat_natCast])); first | done | omega | decide | exact inR64 (by omega) (by omega) | (refine ⟨?_, ?_⟩ <;> first | omega | decide | exact inR64 (by omega) (by omega)))), (by (subst hA; (try simp only [natCast_eq] at *); (try (simp only [Ar.real, NV.val, Int.ofNat_eq_natCast, Int.toNat_natCast])); first | done | omega | decide | exact inR64 (by omega) (by omega) | (refine ⟨?_, ?_⟩ <;> first | omega | decide | exact inR64 (by omega) (by omega))))⟩, ?_⟩
          by_cases e3 : 65536 < n + m
          · have hr0 : R0 = none := hgp.symm.trans (getP_long hxf hu e3)
            have k1 : A.gt (A.i2 (A.addN n (A.subN (A.nat (Int.ofNat m)) 0))) 65536 = true := by rw [hap]; subst hA; simp [Ar.real]; omega
            clear hK1
            first | refine testR k1 rfl ?_ | refine testL k1 rfl ?_
            cbv
            refine Fin.le hA 0 [] (.tup [.nils, .lit .i64 0, .lit .i64 4]) [] 600 rfl rfl rfl ?_ ?_ (hK0 hr0)
            · (try cbv) <;> (repeat' (first | exact trivial | exact rfl | apply And.intro | exact fun _ => rfl | (intro _ hle; first | refine chunk_le hA rfl hle rfl ?_ | refine cat_le hA ?_ | refine upd_le hA ?_ | (try cbv))))
            · (try cbv) <;> (repeat' (first | exact trivial | exact rfl | apply And.intro | exact fun _ => rfl | (intro _ hle; first | refine chunk_le hA rfl hle rfl ?_ | refine cat_le hA ?_ | refine upd_le hA ?_ | (try cbv))))
          · have k1 : A.gt (A.i2 (A.addN n (A.subN (A.nat (Int.ofNat m)) 0))) 65536 = false := by rw [hap]; subst hA; simp [Ar.real]; omega
            by_cases e4 : m = 0
            · have k2 : A.eq (Int.ofNat m) 0 = true := by subst hA; simp [Ar.real]; omega
              by_cases e5 : first < x
              · have hr0 : R0 = none := hgp.symm.trans (getP_empty hxf hu e4 e5)
                have k3 : A.gt (Int.ofNat x) (Int.ofNat first) = true := by subst hA; simp [Ar.real]; omega
                first | refine testR k1 rfl ?_ | refine testL k1 rfl ?_
                cbv
                first | refine testR k2 rfl ?_ | refine testL k2 rfl ?_
                cbv
                first | refine testR k3 rfl ?_ | refine testL k3 rfl ?_
                cbv
                refine Fin.le hA 0 [] (.tup [.nils, .lit .i64 0, .lit .i64 4]) [] 600 rfl rfl rfl ?_ ?_ (hK0 hr0)
                · (try cbv) <;> (repeat' (first | exact trivial | exact rfl | apply And.intro | exact fun _ => rfl | (intro _ hle; first | refine chunk_le hA rfl hle rfl ?_ | refine cat_le hA ?_ | refine upd_le hA ?_ | (try cbv))))
                · (try cbv) <;> (repeat' (first | exact trivial | exact rfl | apply And.intro | exact fun _ => rfl | (intro _ hle; first | refine chunk_le hA rfl hle rfl ?_ | refine cat_le hA ?_ | refine upd_le hA ?_ | (try cbv))))
              · have hr1 := hgp.symm.trans (getP_end hxf hu (by omega) (by omega))
                rw [← hf', ← hnm] at hr1
                have k3 : A.gt (Int.ofNat x) (Int.ofNat first) = false := by subst hA; simp [Ar.real]; omega
                first | refine testR k1 rfl ?_ | refine testL k1 rfl ?_
                cbv
                first | refine testR k2 rfl ?_ | refine testL k2 rfl ?_
                cbv
                first | refine testR k3 rfl ?_ | refine testL k3 rfl ?_
                cbv
                refine ⟨(by (subst hA; (try simp only [natCast_eq] at *); (try (simp only [Ar.real, NV.val, Int.ofNat_eq_natCast, Int.toNat_natCast])); first | done | omega | decide | exact inR64 (by omega) (by omega) | (refine ⟨?_, ?_⟩ <;> first | omega | decide | exact inR64 (by omega) (by omega)))), ?_⟩
                refine Fin.le hA 1 [(26, 1)] (.tup [.sl 1 1 (.l 0) (.s nm), .int .i64 ((x + 1 : Nat) : Int), .lit .i64 0]) [(1, .row 5 1 (.s nm) (fun e => [.int .u8 (f' e.val)]))] 600 rfl rfl rfl ?_ ?_ (hK1 _ _ _ hr1)
                · (try cbv) <;> (repeat' (first | exact trivial | exact rfl | apply And.intro | exact fun _ => rfl | (intro _ hle; first | refine chunk_le hA rfl hle rfl ?_ | refine cat_le hA ?_ | refine upd_le hA ?_ | refine int_le ?_ | skip)))
                  all_goals first | exact hap | (subst hA; (try simp only [natCast_eq] at *); (try (simp only [Ar.real, NV.val, Int.ofNat_eq_natCast, Int.toNat_natCast])); first | done | omega | decide | exact inR64 (by omega) (by omega) | (refine ⟨?_, ?_⟩ <;> first | omega | decide | exact inR64 (by omega) (by omega)))
                · (try cbv) <;> (repeat' (first | exact trivial | exact rfl | apply And.intro | exact fun _ => rfl | (intro _ hle; first | refine chunk_le hA rfl hle rfl ?_ | refine cat_le hA ?_ | refine upd_le hA ?_ | refine int_le ?_ | skip)))
                  all_goals first | exact hfe _ | exact hap | (subst hA; (try simp only [natCast_eq] at *); (try (simp only [Ar.real, NV.val, Int.ofNat_eq_natCast, Int.toNat_natCast])); first | done | omega | decide | exact inR64 (by omega) (by omega) | (refine ⟨?_, ?_⟩ <;> first | omega | decide | exact inR64 (by omega) (by omega)))
            · have hr1 := hgp.symm.trans (getP_end hxf hu (by omega) (by omega))
              rw [← hf', ← hnm] at hr1
              have k2 : A.eq (Int.ofNat m) 0 = false := by subst hA; simp [Ar.real]; omega
              first | refine testR k1 rfl ?_ | refine testL k1 rfl ?_
              cbv
              first | refine testR k2 rfl ?_ | refine testL k2 rfl ?_
              cbv
              refine ⟨(by (subst hA; (try simp only [natCast_eq] at *); (try (simp only [Ar.real, NV.val, Int.ofNat_eq_natCast, Int.toNat_natCast])); first | done | omega | decide | exact inR64 (by omega) (by omega) | (refine ⟨?_, ?_⟩ <;> first | omega | decide | exact inR64 (by omega) (by omega)))), ?_⟩
              refine Fin.le hA 1 [(26, 1)] (.tup [.sl 1 1 (.l 0) (.s nm), .int .i64 ((x + 1 : Nat) : Int), .lit .i64 0]) [(1, .row 5 1 (.s nm) (fun e => [.int .u8 (f' e.val)]))] 600 rfl rfl rfl ?_ ?_ (hK1 _ _ _ hr1)
              · (try cbv) <;> (repeat' (first | exact trivial | exact rfl | apply And.intro | exact fun _ => rfl | (intro _ hle; first | refine chunk_le hA rfl hle rfl ?_ | refine cat_le hA ?_ | refine upd_le hA ?_ | refine int_le ?_ | skip)))
                all_goals first | exact hap | (subst hA; (try simp only [natCast_eq] at *); (try (simp only [Ar.real, NV.val, Int.ofNat_eq_natCast, Int.toNat_natCast])); first | done | omega | decide | exact inR64 (by omega) (by omega) | (refine ⟨?_, ?_⟩ <;> first | omega | decide | exact inR64 (by omega) (by omega)))
              · (try cbv) <;> (repeat' (first | exact trivial | exact rfl | apply And.intro | exact fun _ => rfl | (intro _ hle; first | refine chunk_le hA rfl hle rfl ?_ | refine cat_le hA ?_ | refine upd_le hA ?_ | refine int_le ?_ | skip)))
                all_goals first | exact hfe _ | exact hap | (subst hA; (try simp only [natCast_eq] at *); (try (simp only [Ar.real, NV.val, Int.ofNat_eq_natCast, Int.toNat_natCast])); first | done | omega | decide | exact inR64 (by omega) (by omega) | (refine ⟨?_, ?_⟩ <;> first | omega | decide | exact inR64 (by omega) (by omega)))
    · have hxf : ¬ x < fin := by clear c3 hK1 hK0 hB hR0 hx hR; subst hA; simpa [Ar.real] using h1
      have hr0 : R0 = none := hx.2.2.2.symm.trans (getP_stop (by omega) _)
      clear c3 hR hK1
      cbv
      refine Fin.le hA 0 [] (.tup [.nils, .lit .i64 0, .lit .i64 4]) [] 600 rfl rfl rfl ?_ ?_ (hK0 hr0)
      · (try cbv) <;> (repeat' (first | exact trivial | exact rfl | apply And.intro | exact fun _ => rfl | (intro _ hle; first | refine chunk_le hA rfl hle rfl ?_ | refine cat_le hA ?_ | refine upd_le hA ?_ | (try cbv))))
      · (try cbv) <;> (repeat' (first | exact trivial | exact rfl | apply And.intro | exact fun _ => rfl | (intro _ hle; first | refine chunk_le hA rfl hle rfl ?_ | refine cat_le hA ?_ | refine upd_le hA ?_ | (try cbv))))

theorem refget_none {P : Program} {G : Gl} (hP : P = Try.prog) {s first fin : Nat} {S L : Nat → Nat → Int} {f0 : Nat → Int} {W : Nat → Bool} {c : Int} {V : Nat → Nat → Int} (hs : s ≤ 4096)
    (h : first ≤ fin ∧ fin ≤ s) (ho : c ≠ 0) (hV : ∀ i, i < s → V i = L i ∧ isB (V i)) (hR0 : getP V first fin (fin - first) first 0 f0 = none) :
    FnTr P G 44 [RD s S L W c, .int .i64 (first : Int), .int .i64 (fin : Int)] [] 0 (Gives (.tup [.nils, .lit .i64 0, .lit .i64 4]) [] 600) :=
  refget_own hP hs h ho hV hR0 (fun n f next e => by cases e) (fun _ => ⟨rfl, rfl, rfl⟩)
theorem refget_fn {P : Program} {G : Gl} (hP : P = Try.prog) {s first fin n next : Nat} {S L : Nat → Nat → Int} {f0 f : Nat → Int} {W : Nat → Bool} {c : Int} {V : Nat → Nat → Int} (hs : s ≤ 4096)
    (h : first ≤ fin ∧ fin ≤ s) (ho : c ≠ 0) (hV : ∀ i, i < s → V i = L i ∧ isB (V i)) (hR0 : getP V first fin (fin - first) first 0 f0 = some (n, f, next)) :
    FnTr P G 44 [RD s S L W c, .int .i64 (first : Int), .int .i64 (fin : Int)] [] 0 (Gives (.tup [By n f, .int .i64 (next : Int), .lit .i64 0]) [] 600) := by
  have h1 : FnTr P G 44 [RD s S L W c, .int .i64 (first : Int), .int .i64 (fin : Int)] [] 0 (Gives (.tup [.sl 1 1 (.l 0) (.s n), .int .i64 (next : Int), .lit .i64 0]) [(1, .row 5 1 (.s n) (fun e => [.int .u8 (f e.val)]))] 600) :=
    refget_own hP hs h ho hV hR0 (fun n f next e => by cases e; exact ⟨rfl, rfl, rfl⟩) (fun e => by cases e)
  generalize hA : Ar.real = A
  refine FnTr.dat hA h1 _ _ ?_
  (try cbv) <;> (repeat' (first | exact trivial | exact rfl | apply And.intro | exact fun _ => rfl | (intro _ hle; first | refine chunk_le hA rfl hle rfl ?_ | refine cat_le hA ?_ | refine upd_le hA ?_ | refine int_le ?_ | skip)))
  all_goals (subst hA; (try simp only [natCast_eq] at *); (try (simp only [Ar.real, NV.val, Int.ofNat_eq_natCast, Int.toNat_natCast])); first | done | omega | decide | exact inR64 (by omega) (by omega) | (refine ⟨?_, ?_⟩ <;> first | omega | decide | exact inR64 (by omega) (by omega)))
theorem refscan_bad {P : Program} {G : Gl} (hP : P = Try.prog) {s : Nat} {S L : Nat → Nat → Int} {W : Nat → Bool} {c a b : Int} {r : Int} (h : ((a < 0 ∨ b < a ∨ (s : Int) < b) ∧ r = 1) ∨ ((0 ≤ a ∧ a ≤ b ∧ b ≤ (s : Int)) ∧ c = 0 ∧ r = 6)) :
    FnTr P G 49 [RD s S L W c, .int .i64 a, .int .i64 b] [] 0 (Gives (.tup [.nils, .lit .i64 0, .int .i64 r]) [] 900) := by
  rcases h with ⟨h, rfl⟩ | ⟨h, hc, rfl⟩
  · have c1 := refget_arg (P := P) (G := G) (S := S) (L := L) (W := W) (c := c) hP h
    have hT : T.Ok P := hP ▸ T_ok
    refine FnTr.intro (fn := Try.f49) (c := bodyOf Try.f49) (by rw [hP]; rfl) rfl rfl hT ?_
    generalize hA : Ar.real = A
    generalize hK : Gives _ _ _ = K
    cbv
    refine LS.rounds hA 1 hT ?_
    cbv
    refine CS.le hA (c1) [] rfl rfl rfl ?_ ?_ ?_
    · (try cbv) <;> (repeat' (first | exact trivial | exact rfl | apply And.intro | exact fun _ => rfl | (intro _ hle; first | refine chunk_le hA rfl hle rfl ?_ | refine cat_le hA ?_ | refine upd_le hA ?_ | (try cbv)))) <;> (try (subst hA; (try simp only [natCast_eq] at *); (try (simp only [Ar.real, NV.val, Int.ofNat_eq_natCast, Int.toNat_natCast])); first | done | omega | decide | exact inR64 (by omega) (by omega) | (refine ⟨?_, ?_⟩ <;> first | omega | decide | exact inR64 (by omega) (by omega))))
    · (try cbv) <;> (repeat' (first | exact trivial | exact rfl | apply And.intro | exact fun _ => rfl | (intro _ hle; first | refine chunk_le hA rfl hle rfl ?_ | refine cat_le hA ?_ | refine upd_le hA ?_ | (try cbv))))
    cbv
    refine Fin.le hA 0 [] (.tup [.nils, .lit .i64 0, .int .i64 1]) ([]) 900 rfl rfl rfl ?_ ?_ (by rw [← hK]; exact ⟨rfl, rfl, rfl⟩)
    · (try cbv) <;> (repeat' (first | exact trivial | exact rfl | apply And.intro | exact fun _ => rfl | (intro _ hle; first | refine chunk_le hA rfl hle rfl ?_ | refine cat_le hA ?_ | refine upd_le hA ?_ | (try cbv))))
    · (try cbv) <;> (repeat' (first | exact trivial | exact rfl | apply And.intro | exact fun _ => rfl | (intro _ hle; first | refine chunk_le hA rfl hle rfl ?_ | refine cat_le hA ?_ | refine upd_le hA ?_ | (try cbv))))
  · have c1 := refget_off (P := P) (G := G) (S := S) (L := L) (W := W) (c := c) hP h hc
    have hT : T.Ok P := hP ▸ T_ok
    refine FnTr.intro (fn := Try.f49) (c := bodyOf Try.f49) (by rw [hP]; rfl) rfl rfl hT ?_
    generalize hA : Ar.real = A
    generalize hK : Gives _ _ _ = K
    cbv
    refine LS.rounds hA 1 hT ?_
    cbv
    refine CS.le hA (c1) [] rfl rfl rfl ?_ ?_ ?_
    · (try cbv) <;> (repeat' (first | exact trivial | exact rfl | apply And.intro | exact fun _ => rfl | (intro _ hle; first | refine chunk_le hA rfl hle rfl ?_ | refine cat_le hA ?_ | refine upd_le hA ?_ | (try cbv)))) <;> (try (subst hA; (try simp only [natCast_eq] at *); (try (simp only [Ar.real, NV.val, Int.ofNat_eq_natCast, Int.toNat_natCast])); first | done | omega | decide | exact inR64 (by omega) (by omega) | (refine ⟨?_, ?_⟩ <;> first | omega | decide | exact inR64 (by omega) (by omega))))
    · (try cbv) <;> (repeat' (first | exact trivial | exact rfl | apply And.intro | exact fun _ => rfl | (intro _ hle; first | refine chunk_le hA rfl hle rfl ?_ | refine cat_le hA ?_ | refine upd_le hA ?_ | (try cbv))))
    cbv
    refine Fin.le hA 0 [] (.tup [.nils, .lit .i64 0, .int .i64 6]) ([]) 900 rfl rfl rfl ?_ ?_ (by rw [← hK]; exact ⟨rfl, rfl, rfl⟩)
    · (try cbv) <;> (repeat' (first | exact trivial | exact rfl | apply And.intro | exact fun _ => rfl | (intro _ hle; first | refine chunk_le hA rfl hle rfl ?_ | refine cat_le hA ?_ | refine upd_le hA ?_ | (try cbv))))
    · (try cbv) <;> (repeat' (first | exact trivial | exact rfl | apply And.intro | exact fun _ => rfl | (intro _ hle; first | refine chunk_le hA rfl hle rfl ?_ | refine cat_le hA ?_ | refine upd_le hA ?_ | (try cbv))))
theorem refscan_own {P : Program} {G : Gl} (hP : P = Try.prog) {s first fin c0 last : Nat} {S L : Nat → Nat → Int} {W : Nat → Bool} {c : Int} {V : Nat → Nat → Int} {g0 gs : Nat → Nat × (Nat → Int)} (hs : s ≤ 4096)
    (h : first ≤ fin ∧ fin ≤ s) (ho : c ≠ 0) (hV : ∀ i, i < s → V i = L i ∧ isB (V i)) (hR0 : scanP V fin (fin - first + 1) first 0 g0 = (c0, gs, last)) :
    FnTr P G 49 [RD s S L W c, .int .i64 (first : Int), .int .i64 (fin : Int)] [] 0 (Gives (.tup [.sl 1 1 (.l 0) (.s c0), .int .i64 (last : Int), .lit .i64 0]) [(1, .row 23 1 (.s c0) (fun e => [.ro 1 (.s (gs e.val).1) (fun x => [.int .u8 ((gs e.val).2 x.val)])]))] 900) := by
  have c1 : ∀ x, x ≤ fin → getP V x fin (fin - x) x 0 (fun _ => 0) = none → FnTr P G 44 [RD s S L W c, .int .i64 (x : Int), .int .i64 (fin : Int)] [] 0 (Gives (.tup [.nils, .lit .i64 0, .lit .i64 4]) [] 600) := fun x hx e => refget_none hP hs ⟨hx, h.2⟩ ho hV e
  have c2 : ∀ x n next f, x ≤ fin → getP V x fin (fin - x) x 0 (fun _ => 0) = some (n, f, next) → FnTr P G 44 [RD s S L W c, .int .i64 (x : Int), .int .i64 (fin : Int)] [] 0 (Gives (.tup [By n f, .int .i64 (next : Int), .lit .i64 0]) [] 600) := fun x n next f hx e => refget_fn hP hs ⟨hx, h.2⟩ ho hV e
  clear hV
  have hT : T.Ok P := hP ▸ T_ok
  refine FnTr.intro (fn := Try.f49) (c := bodyOf Try.f49) (by rw [hP]; rfl) rfl rfl hT ?_
  generalize hA : Ar.real = A
  generalize hK : Gives _ _ _ = K
  cbv
  refine LS.ghost 23 1 (.l 0) (fun _ => [.nils]) rfl ?_
  refine LS.le3 hT hA 1 (fun (x : Nat) (c : Nat) (_ : Nat → Nat × (Nat → Int)) => [(10, .int .i64 (x : Int)), (9, .sl 1 1 (.l 0) (.s c))]) (fun _ n g => [(1, .row 23 1 (.s n) (fun e => [.ro 1 (.s (g e.val).1) (fun x => [.int .u8 ((g e.val).2 x.val)])])), (0, .cells 44 [Rw64 s S, Rw64 s L, .ro 1 (.s s) (fun e => [.bs (W e.val)]), .int .i64 c])]) (fun x c g => x ≤ fin ∧ c ≤ x ∧ ∃ k, fin - x < k ∧ scanP V fin k x c g = (c0, gs, last)) (fun x _ _ => fin - x) first 0 g0 [(7, 1)] rfl rfl ?_ ?_ ?_
  · (try cbv) <;> (repeat' (first | exact trivial | exact rfl | apply And.intro | exact fun _ => rfl | (intro _ hle; first | refine chunk_le hA rfl hle rfl ?_ | refine cat_le hA ?_ | refine upd_le hA ?_ | refine int_le ?_ | skip)))
    all_goals (exfalso; subst hA; exact absurd (ltNV_real.1 hle) (Nat.not_lt_zero _))
  · exact ⟨h.1, Nat.zero_le _, _, Nat.lt_succ_self _, hR0⟩
  · intro R hR x n g hx
    cbv
    obtain ⟨hxf, hcx, k, hk, hsc⟩ := hx
    cases hg : getP V x fin (fin - x) x 0 (fun _ => 0) with
    | none =>
      rw [scanP_none hg] at hsc
      obtain ⟨rfl, rfl, rfl⟩ : n = c0 ∧ g = gs ∧ x = last := by cases hsc; exact ⟨rfl, rfl, rfl⟩
      have a1 := c1 x hxf hg
      clear c1 c2 hR
      refine CS.le hA (a1) [] rfl rfl rfl ?_ ?_ ?_
      · (try cbv) <;> (repeat' (first | exact trivial | exact rfl | apply And.intro | exact fun _ => rfl | (intro _ hle; first | refine chunk_le hA rfl hle rfl ?_ | refine cat_le hA ?_ | refine upd_le hA ?_ | (try cbv)))) <;> (try (subst hA; (try simp only [natCast_eq] at *); (try (simp only [Ar.real, NV.val, Int.ofNat_eq_natCast, Int.toNat_natCast])); first | done | omega | decide | exact inR64 (by omega) (by omega) | (refine ⟨?_, ?_⟩ <;> first | omega | decide | exact inR64 (by omega) (by omega))))
      · (try cbv) <;> (repeat' (first | exact trivial | exact rfl | apply And.intro | exact fun _ => rfl | (intro _ hle; first | refine chunk_le hA rfl hle rfl ?_ | refine cat_le hA ?_ | refine upd_le hA ?_ | (try cbv))))
      cbv
      refine Fin.le hA 1 [(1, 1)] (.tup [.sl 1 1 (.l 0) (.s n), .int .i64 (x : Int), .lit .i64 0]) ([(1, .row 23 1 (.s n) (fun e => [.ro 1 (.s (g e.val).1) (fun x => [.int .u8 ((g e.val).2 x.val)])]))]) 900 rfl rfl rfl ?_ ?_ (by rw [← hK]; exact ⟨rfl, rfl, rfl⟩)
      · (try cbv) <;> (repeat' (first | exact trivial | exact rfl | apply And.intro | exact fun _ => rfl | (intro _ hle; first | refine chunk_le hA rfl hle rfl ?_ | refine cat_le hA ?_ | refine upd_le hA ?_ | refine int_le ?_ | skip)))
      · (try cbv) <;> (repeat' (first | exact trivial | exact rfl | apply And.intro | exact fun _ => rfl | (intro _ hle; first | refine chunk_le hA rfl hle rfl ?_ | refine cat_le hA ?_ | refine upd_le hA ?_ | refine int_le ?_ | skip)))
    | some r =>
      obtain ⟨m, f, next⟩ := r
      have hnx := getP_next _ hg
      obtain ⟨k', rfl⟩ : ∃ k', k = k' + 1 := ⟨k - 1, by omega⟩
      rw [scanP_some hg] at hsc
      obtain ⟨g', hg'⟩ : ∃ g' : Nat → Nat × (Nat → Int), g' = fun i => if i < n then g i else (m, f) := ⟨_, rfl⟩
      rw [← hg'] at hsc
      have a2 := c2 x m next f hxf hg
      clear c1 c2
      refine CS.le hA (a2) [] rfl rfl rfl ?_ ?_ ?_
      · (try cbv) <;> (repeat' (first | exact trivial | exact rfl | apply And.intro | exact fun _ => rfl | (intro _ hle; first | refine chunk_le hA rfl hle rfl ?_ | refine cat_le hA ?_ | refine upd_le hA ?_ | (try cbv)))) <;> (try (subst hA; (try simp only [natCast_eq] at *); (try (simp only [Ar.real, NV.val, Int.ofNat_eq_natCast, Int.toNat_natCast])); first | done | omega | decide | exact inR64 (by omega) (by omega) | (refine ⟨?_, ?_⟩ <;> first | omega | decide | exact inR64 (by omega) (by omega))))
      · (try cbv) <;> (repeat' (first | exact trivial | exact rfl | apply And.intro | exact fun _ => rfl | (intro _ hle; first | refine chunk_le hA rfl hle rfl ?_ | refine cat_le hA ?_ | refine upd_le hA ?_ | (try cbv))))
      cbv
      have hpush : ∀ e, ltNV A e (.s (A.addN n 1)) → leL (leSV A 4) (catG A 1 (.s n) (fun e => [.ro 1 (.s (g e.val).1) (fun x => [.int .u8 ((g e.val).2 x.val)])]) (fun x => chunkS A 1 [.ro 1 (.s m) (fun x => [.int .u8 (f x.val)])] (addNV A (.l 0) x)) e) [.ro 1 (.s (g' e.val).1) (fun x => [.int .u8 ((g' e.val).2 x.val)])] := fun e he => by
        have he : e.val < n + 1 := by subst hA; exact ltNV_real.1 he
        have hlen : (g' e.val).1 = if e.val < n then (g e.val).1 else m := by
          rw [hg']; simp only []
          by_cases q : e.val < n
          · rw [if_pos q, if_pos q]
          · rw [if_neg q, if_neg q]
        have hrow : ∀ j, j < (g' e.val).1 → (g' e.val).2 j = if e.val < n then (g e.val).2 j else f j := fun j _ => by
          rw [hg']; simp only []
          by_cases q : e.val < n
          · rw [if_pos q, if_pos q]
          · rw [if_neg q, if_neg q]
        exact rows_push (len := fun i => (g i).1) (len' := fun i => (g' i).1) (g := fun i => (g i).2) (g' := fun i => (g' i).2) (h := f) hA (by omega) hlen hrow
      refine ⟨⟨(by (subst hA; (try simp only [natCast_eq] at *); (try (simp only [Ar.real, NV.val, Int.ofNat_eq_natCast, Int.toNat_natCast])); first | done | omega | decide | exact inR64 (by omega) (by omega) | (refine ⟨?_, ?_⟩ <;> first | omega | decide | exact inR64 (by omega) (by omega)))), (by (subst hA; (try simp only [natCast_eq] at *); (try (simp only [Ar.real, NV.val, Int.ofNat_eq_natCast, Int.toNat_natCast])); first | done | omega | decide | exact inR64 (by omega) (by omega) | (refine ⟨?_, ?_⟩ <;> first | omega | decide | exact inR64 (by omega) (by omega)))), (by (subst hA; (try simp only [natCast_eq] at *); (try (simp only [Ar.real, NV.val, Int.ofNat_eq_natCast, Int.toNat_natCast])); first | done | omega | decide | exact inR64 (by omega) (by omega) | (refine ⟨?_, ?_⟩ <;> first | omega | decide | exact inR64 (by omega) (by omega))))⟩, hR _ _ _ _ ⟨next, n + 1, g', 1, [(619, 1)], rfl, rfl, ?_, ⟨hnx.2.1, by omega, k', by omega, hsc⟩, (by show fin - next < fin - x; omega)⟩⟩
      clear hR
      (try cbv) <;> (repeat' (first | exact trivial | exact rfl | apply And.intro | exact fun _ => rfl | (intro _ hle; first | exact hpush _ hle | refine chunk_le hA rfl hle rfl ?_ | refine cat_le hA ?_ | refine upd_le hA ?_ | refine int_le ?_ | skip)))
      all_goals (subst hA; (try simp only [natCast_eq] at *); (try (simp only [Ar.real, NV.val, Int.ofNat_eq_natCast, Int.toNat_natCast])); first | done | omega | decide | exact inR64 (by omega) (by omega) | (refine ⟨?_, ?_⟩ <;> first | omega | decide | exact inR64 (by omega) (by omega)))
theorem refscan_fn {P : Program} {G : Gl} (hP : P = Try.prog) {s first fin c0 last : Nat} {S L : Nat → Nat → Int} {W : Nat → Bool} {c : Int} {V : Nat → Nat → Int} {g0 gs : Nat → Nat × (Nat → Int)} (hs : s ≤ 4096)
    (h : first ≤ fin ∧ fin ≤ s) (ho : c ≠ 0) (hV : ∀ i, i < s → V i = L i ∧ isB (V i)) (hR0 : scanP V fin (fin - first + 1) first 0 g0 = (c0, gs, last)) :
    FnTr P G 49 [RD s S L W c, .int .i64 (first : Int), .int .i64 (fin : Int)] [] 0 (Gives (.tup [RecS c0 gs, .int .i64 (last : Int), .lit .i64 0]) [] 900) := by
  have h1 := refscan_own (P := P) (G := G) (S := S) (W := W) hP hs h ho hV hR0
  generalize hA : Ar.real = A
  refine FnTr.dat hA h1 _ _ ?_
  (try cbv) <;> (repeat' (first | exact trivial | exact rfl | apply And.intro | exact fun _ => rfl | (intro _ hle; first | refine chunk_le hA rfl hle rfl ?_ | refine cat_le hA ?_ | refine upd_le hA ?_ | refine int_le ?_ | skip)))
  all_goals (subst hA; (try simp only [natCast_eq] at *); (try (simp only [Ar.real, NV.val, Int.ofNat_eq_natCast, Int.toNat_natCast])); first | done | omega | decide | exact inR64 (by omega) (by omega) | (refine ⟨?_, ?_⟩ <;> first | omega | decide | exact inR64 (by omega) (by omega)))
end Go.Proofs.Ytnjjgipblimbfaa.Dsk
