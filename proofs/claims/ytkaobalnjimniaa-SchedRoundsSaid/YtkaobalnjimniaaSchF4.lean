/-
  Schedules: the next turn.
-/
import Derived.Test.YtkaobalnjimniaaSchF3
set_option linter.unusedVariables false
set_option linter.unusedSimpArgs false
namespace Go.Proofs.Ytkaobalnjimniaa
open Go.Eng
open Go.SchLaw (minAt nextV upV)
set_option maxRecDepth 100000
set_option linter.unusedVariables false

theorem ceil_fn {P : Program} {G : Gl} (hP : P = Try.prog) {a b q : Nat} (ha : a ≤ 4398046511104) (hb : 0 < b) (hq : q = (a + b - 1) / b) :
    FnTr P G 78 [.int .i64 (a : Int), .int .i64 (b : Int)] [] 0 (Gives (.tup [.int .i64 (q : Int), .lit .i64 0]) [] 0) := by
  rw [SchLaw.ceil_eq a b hb] at hq
  have hd : a / b ≤ a := Nat.div_le_self _ _
  have hqn := quo_nat a b
  have hrn := rem_nat a b
  generalize a / b = qd at *
  generalize a % b = rm at *
  have hT : T.Ok P := hP ▸ T_ok
  refine FnTr.intro (fn := Try.f78) (c := bodyOf Try.f78) (by rw [hP]; rfl) rfl rfl hT ?_
  generalize hA : Ar.real = A
  generalize hK : Gives _ _ _ = K
  cbv
  refine ⟨fun h => ?_, fun h => ?_⟩
  · exfalso; (subst hA; simp only [Ar.real, NV.val, Int.ofNat_eq_natCast, Int.toNat_natCast, decide_eq_true_eq, decide_eq_false_iff_not, Bool.not_true, Bool.not_false, beq_iff_eq, bne_iff_ne, beq_eq_false_iff_ne, bne_eq_false_iff_eq, ne_eq, Bool.not_eq_true', Bool.not_eq_false', natCast_eq] at *; first | contradiction | omega | (generalize Int.tmod _ _ = qtm at *; omega))
  · cbv
    refine ⟨(by (subst hA; (try simp only [natCast_eq] at *); (simp only [Ar.real, NV.val, Int.ofNat_eq_natCast, Int.toNat_natCast, hqn]); first | done | omega | decide | exact inR64 (by omega) (by omega) | (refine ⟨?_, ?_⟩ <;> first | omega | decide | exact inR64 (by omega) (by omega)))), ?_, fun h2 => ?_, fun h2 => ?_⟩
    · (subst hA; (try simp only [natCast_eq] at *); (simp only [Ar.real, NV.val, Int.ofNat_eq_natCast, Int.toNat_natCast]); first | done | omega | decide | exact inR64 (by omega) (by omega) | (refine ⟨?_, ?_⟩ <;> first | omega | decide | exact inR64 (by omega) (by omega)))
    · have h3 : 0 < rm := by subst hA; simp only [Ar.real, Int.ofNat_eq_natCast, natCast_eq, hrn, decide_eq_true_eq] at *; omega
      rw [if_pos h3] at hq
      cbv
      refine ⟨?_, ?_⟩
      · (subst hA; (try simp only [natCast_eq] at *); (simp only [Ar.real, NV.val, Int.ofNat_eq_natCast, Int.toNat_natCast, hqn]); first | done | omega | decide | exact inR64 (by omega) (by omega) | (refine ⟨?_, ?_⟩ <;> first | omega | decide | exact inR64 (by omega) (by omega)))
      refine Fin.le hA 0 [] (.tup [.int .i64 (q : Int), .lit .i64 0]) ([]) 0 rfl rfl rfl ?_ ?_ (by rw [← hK]; exact ⟨rfl, rfl, rfl⟩)
      · (try cbv) <;> (repeat' (first | exact trivial | exact rfl | apply And.intro | (intro _ hle; first | refine chunk_le hA rfl hle rfl ?_ | refine cat_le hA ?_ | refine upd_le hA ?_ | (try cbv))))
        (subst hA; (try simp only [natCast_eq] at *); (simp only [Ar.real, NV.val, Int.ofNat_eq_natCast, Int.toNat_natCast, hqn]); first | done | omega | decide | exact inR64 (by omega) (by omega) | (refine ⟨?_, ?_⟩ <;> first | omega | decide | exact inR64 (by omega) (by omega)))
      · (try cbv) <;> (repeat' (first | exact trivial | exact rfl | apply And.intro | (intro _ hle; first | refine chunk_le hA rfl hle rfl ?_ | refine cat_le hA ?_ | refine upd_le hA ?_ | (try cbv))))
    · have h3 : ¬ 0 < rm := by subst hA; simp only [Ar.real, Int.ofNat_eq_natCast, natCast_eq, hrn, decide_eq_false_iff_not] at *; omega
      rw [if_neg h3] at hq
      cbv
      refine Fin.le hA 0 [] (.tup [.int .i64 (q : Int), .lit .i64 0]) ([]) 0 rfl rfl rfl ?_ ?_ (by rw [← hK]; exact ⟨rfl, rfl, rfl⟩)
      · (try cbv) <;> (repeat' (first | exact trivial | exact rfl | apply And.intro | (intro _ hle; first | refine chunk_le hA rfl hle rfl ?_ | refine cat_le hA ?_ | refine upd_le hA ?_ | (try cbv))))
        (subst hA; (try simp only [natCast_eq] at *); (simp only [Ar.real, NV.val, Int.ofNat_eq_natCast, Int.toNat_natCast, hqn]); first | done | omega | decide | exact inR64 (by omega) (by omega) | (refine ⟨?_, ?_⟩ <;> first | omega | decide | exact inR64 (by omega) (by omega)))
      · (try cbv) <;> (repeat' (first | exact trivial | exact rfl | apply And.intro | (intro _ hle; first | refine chunk_le hA rfl hle rfl ?_ | refine cat_le hA ?_ | refine upd_le hA ?_ | (try cbv))))

theorem next_fn {P : Program} {G : Gl} (hP : P = Try.prog) {d w t k p h tr ke no : Int} {s e c v : Nat} (hs : s ≤ 64) (he : 0 < e) (he2 : e ≤ 256) (hc : c ≤ 2199023255552) (hv : v = nextV c s e) :
    FnTr P G 73 [.agg [.int .i64 d, .int .i64 w, .int .i64 t, .int .i64 (s : Int), .int .i64 (e : Int), .int .i64 k, .int .i64 p, .int .i64 h, .int .i64 tr, .int .i64 ke, .int .i64 no], .int .i64 (c : Int)] [] 0 (Gives (.int .i64 (v : Int)) [] 0) := by
  obtain ⟨q, hq⟩ : ∃ q, q = (max (c + 1) s + e - 1) / e := ⟨_, rfl⟩
  obtain ⟨m, hm⟩ : ∃ m, m = max (c + 1) s := ⟨_, rfl⟩
  have hvq : v = q * e := by rw [hv, hq]; rfl
  have hb := (SchLaw.nextV_spec c s e he).2.1
  rw [← hv, ← hm] at hb
  rw [← hm] at hq
  have hT : T.Ok P := hP ▸ T_ok
  refine FnTr.intro (fn := Try.f73) (c := bodyOf Try.f73) (by rw [hP]; rfl) rfl rfl hT ?_
  generalize hA : Ar.real = A
  generalize hK : Gives _ _ _ = K
  cbv
  refine ⟨(by (subst hA; (try simp only [natCast_eq] at *); (simp only [Ar.real, NV.val, Int.ofNat_eq_natCast, Int.toNat_natCast]); first | done | omega | decide | exact inR64 (by omega) (by omega) | (refine ⟨?_, ?_⟩ <;> first | omega | decide | exact inR64 (by omega) (by omega)))), ?_⟩
  have hmx : A.max (A.add (c : Int) 1) (s : Int) = (m : Int) := by
    subst hA; simp only [Ar.real]; rw [hm]; omega
  refine CS.le hA (ceil_fn (a := m) (b := e) hP (by omega) he hq) [] rfl rfl rfl ?_ ?_ ?_
  · (try cbv) <;> (repeat' (first | exact trivial | exact rfl | apply And.intro | (intro _ hle; first | refine chunk_le hA rfl hle rfl ?_ | refine cat_le hA ?_ | refine upd_le hA ?_ | (try cbv))))
    exact hmx
  · (try cbv) <;> (repeat' (first | exact trivial | exact rfl | apply And.intro | (intro _ hle; first | refine chunk_le hA rfl hle rfl ?_ | refine cat_le hA ?_ | refine upd_le hA ?_ | (try cbv))))
  cbv
  refine ⟨?_, ?_⟩
  · have : (q : Int) * (e : Int) = (v : Int) := by rw [hvq]; rfl
    (subst hA; (try simp only [natCast_eq] at *); (simp only [Ar.real, NV.val, Int.ofNat_eq_natCast, Int.toNat_natCast, this]); first | done | omega | decide | exact inR64 (by omega) (by omega) | (refine ⟨?_, ?_⟩ <;> first | omega | decide | exact inR64 (by omega) (by omega)))
  refine Fin.le hA 0 [] (.int .i64 (v : Int)) ([]) 0 rfl rfl rfl ?_ ?_ (by rw [← hK]; exact ⟨rfl, rfl, rfl⟩)
  · (try cbv) <;> (repeat' (first | exact trivial | exact rfl | apply And.intro | (intro _ hle; first | refine chunk_le hA rfl hle rfl ?_ | refine cat_le hA ?_ | refine upd_le hA ?_ | (try cbv))))
    have : (q : Int) * (e : Int) = (v : Int) := by rw [hvq]; rfl
    (subst hA; (try simp only [natCast_eq] at *); (simp only [Ar.real, NV.val, Int.ofNat_eq_natCast, Int.toNat_natCast, this]); first | done | omega | decide | exact inR64 (by omega) (by omega) | (refine ⟨?_, ?_⟩ <;> first | omega | decide | exact inR64 (by omega) (by omega)))
  · (try cbv) <;> (repeat' (first | exact trivial | exact rfl | apply And.intro | (intro _ hle; first | refine chunk_le hA rfl hle rfl ?_ | refine cat_le hA ?_ | refine upd_le hA ?_ | (try cbv))))
end Go.Proofs.Ytkaobalnjimniaa
