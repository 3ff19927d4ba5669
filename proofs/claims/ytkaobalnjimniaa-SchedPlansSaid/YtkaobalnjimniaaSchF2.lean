/-
  Schedules: turns; where a tree is grown.
-/
import Derived.Test.YtkaobalnjimniaaSchF1
import Derived.Test.YtkaobalnjimniaaSchA
set_option linter.unusedVariables false
set_option linter.unusedSimpArgs false
namespace Go.Proofs.Ytkaobalnjimniaa
open Go.Eng
open Go.SchLaw (minAt nextV)
set_option maxRecDepth 100000
set_option linter.unusedVariables false

theorem turn_fn {P : Program} {G : Gl} (hP : P = Try.prog) {d w t s e k p h tr ke no : Int} {c : Int} {r : Bool} (he : 0 < e) (hr : r = true ↔ (s ≤ c ∧ Int.tmod c e = 0)) :
    FnTr P G 69 [.agg [.int .i64 d, .int .i64 w, .int .i64 t, .int .i64 s, .int .i64 e, .int .i64 k, .int .i64 p, .int .i64 h, .int .i64 tr, .int .i64 ke, .int .i64 no], .int .i64 c] [] 0 (Gives (.bs r) [] 0) := by
  have hT : T.Ok P := hP ▸ T_ok
  refine FnTr.intro (fn := Try.f69) (c := bodyOf Try.f69) (by rw [hP]; rfl) rfl rfl hT ?_
  generalize hA : Ar.real = A
  generalize hK : Gives _ _ _ = K
  cbv
  repeat' (first | (apply And.intro) | (intro _; try cbv) | (refine DS.run hA hT (by rw [hP]; exact P_mixed) 1 rfl ?_; cbv))
  all_goals first | (refine Fin.le hA 0 [] (.bs r) [] 0 rfl rfl rfl ?_ ?_ (by rw [← hK]; exact ⟨rfl, rfl, rfl⟩)) | (subst hA; (try simp only [natCast_eq] at *); (simp only [Ar.real, NV.val, Int.ofNat_eq_natCast, Int.toNat_natCast]); first | done | omega | decide | exact inR64 (by omega) (by omega) | (refine ⟨?_, ?_⟩ <;> first | omega | decide | exact inR64 (by omega) (by omega)))
  all_goals cbv
  all_goals first | exact trivial | skip
  all_goals (subst hA; simp only [natCast_eq, Ar.real, NV.val, Int.ofNat_eq_natCast, Int.toNat_natCast, decide_eq_true_eq, decide_eq_false_iff_not, Bool.not_true, Bool.not_false, beq_iff_eq, bne_iff_ne, beq_eq_false_iff_ne, bne_eq_false_iff_eq, ne_eq] at *; rw [Bool.eq_iff_iff, hr]; simp only [decide_eq_true_eq, Bool.false_eq_true, false_iff, true_iff, beq_iff_eq, bne_iff_ne, ne_eq]; omega)

theorem refplace_fn {P : Program} {G : Gl} (hP : P = Try.prog) {d w t s e k p h tr ke no : Int} {n : Nat} {f : Nat → Int} {r : Int} (hn : n ≤ 9223372036854775807) (hr : r = if (n : Int) < t then (n : Int) else (minAt f n : Int)) :
    FnTr P G 70 [.agg [.int .i64 d, .int .i64 w, .int .i64 t, .int .i64 s, .int .i64 e, .int .i64 k, .int .i64 p, .int .i64 h, .int .i64 tr, .int .i64 ke, .int .i64 no], .ro 1 (.s n) (fun e => [.int .i64 (f e.val)])] [] 0 (Gives (.int .i64 r) [] 0) := by
  obtain ⟨mi, hmi⟩ : ∃ mi : Nat → Nat, mi = minAt f := ⟨_, rfl⟩
  have hT : T.Ok P := hP ▸ T_ok
  refine FnTr.intro (fn := Try.f70) (c := bodyOf Try.f70) (by rw [hP]; rfl) rfl rfl hT ?_
  generalize hA : Ar.real = A
  generalize hK : Gives _ _ _ = K
  cbv
  refine ⟨fun h => ?_, fun h => ?_⟩
  · cbv
    have hlt : (n : Int) < t := by subst hA; simp only [Ar.real] at h; simpa using h
    rw [if_pos hlt] at hr
    refine Fin.le hA 0 [] (.int .i64 r) ([]) 0 rfl rfl rfl ?_ ?_ (by rw [← hK]; exact ⟨rfl, rfl, rfl⟩)
    · (try cbv) <;> (repeat' (first | exact trivial | exact rfl | apply And.intro | (intro _ hle; first | refine chunk_le hA rfl hle rfl ?_ | refine cat_le hA ?_ | refine upd_le hA ?_ | (try cbv))))
      subst hA; simp only [Ar.real, NV.val, Int.ofNat_eq_natCast, Int.toNat_natCast]
      exact hr.symm
    · (try cbv) <;> (repeat' (first | exact trivial | exact rfl | apply And.intro | (intro _ hle; first | refine chunk_le hA rfl hle rfl ?_ | refine cat_le hA ?_ | refine upd_le hA ?_ | (try cbv))))
  · cbv
    have hlt : ¬ (n : Int) < t := by subst hA; simp only [Ar.real] at h; simpa using h
    rw [if_neg hlt] at hr
    refine LS.le2 hT hA 1 (fun (k : Nat) (m : Nat) => [(6, .int .i64 (k : Int)), (5, .int .i64 (m : Int))]) (fun _ _ => []) (fun k m => k ≤ n ∧ m = mi k) (fun k _ => n - k) 0 0 [] rfl rfl ?_ ?_ ?_
    · (try cbv) <;> (repeat' (first | exact trivial | exact rfl | apply And.intro | (intro _ hle; first | refine chunk_le hA rfl hle rfl ?_ | refine cat_le hA ?_ | refine upd_le hA ?_ | (try cbv))))
    · exact ⟨Nat.zero_le _, by rw [hmi]; rfl⟩
    · intro R hR k m hp
      cbv
      obtain ⟨h1, h2⟩ := hp
      refine ⟨fun h => ?_, fun h => ?_⟩
      · have hk : k < n := by subst hA; simp only [Ar.real] at h; simp at h; omega
        have hmk : m ≤ k := by rw [h2, hmi]; exact SchLaw.minAt_le f k
        have hs : mi (k + 1) = if f k < f (mi k) then k else mi k := by rw [hmi]; rfl
        obtain ⟨m', hm'⟩ : ∃ m' : Nat, m' = mi (k + 1) := ⟨_, rfl⟩
        cbv
        refine DS.run hA hT (by rw [hP]; exact P_mixed) 1 rfl ?_
        cbv
        refine ⟨(by (subst hA; (try simp only [natCast_eq] at *); (simp only [Ar.real, NV.val, Int.ofNat_eq_natCast, Int.toNat_natCast]); first | done | omega | decide | exact inR64 (by omega) (by omega) | (refine ⟨?_, ?_⟩ <;> first | omega | decide | exact inR64 (by omega) (by omega)))), (by (subst hA; (try simp only [natCast_eq] at *); (simp only [Ar.real, NV.val, Int.ofNat_eq_natCast, Int.toNat_natCast]); first | done | omega | decide | exact inR64 (by omega) (by omega) | (refine ⟨?_, ?_⟩ <;> first | omega | decide | exact inR64 (by omega) (by omega)))), fun h3 => ?_, fun h3 => ?_⟩
        · have hm2 : m' = k := by
            subst hA
            have h4 : f k < f m := by simp only [Ar.real, NV.val, Int.ofNat_eq_natCast, Int.toNat_natCast] at h3; simpa using h3
            rw [hm', hs, ← h2, if_pos h4]
          cbv
          refine ⟨(by (subst hA; (try simp only [natCast_eq] at *); (simp only [Ar.real, NV.val, Int.ofNat_eq_natCast, Int.toNat_natCast]); first | done | omega | decide | exact inR64 (by omega) (by omega) | (refine ⟨?_, ?_⟩ <;> first | omega | decide | exact inR64 (by omega) (by omega)))), hR _ _ _ ⟨k + 1, m', 1, [], rfl, rfl, ?_, ⟨hk, hm'⟩, (by show n - (k + 1) < n - k; omega)⟩⟩
          clear hR
          (try cbv) <;> (repeat' (first | exact trivial | exact rfl | apply And.intro | (intro _ hle; first | refine chunk_le hA rfl hle rfl ?_ | refine cat_le hA ?_ | refine upd_le hA ?_ | (try cbv))))
          · rw [hm2]
          · subst hA; simp only [Ar.real, NV.val, Int.ofNat_eq_natCast, Int.toNat_natCast]
            rfl
        · have hm2 : m' = m := by
            subst hA
            have h4 : ¬ f k < f m := by simp only [Ar.real, NV.val, Int.ofNat_eq_natCast, Int.toNat_natCast] at h3; simpa using h3
            rw [hm', hs, ← h2, if_neg h4]
          cbv
          refine ⟨(by (subst hA; (try simp only [natCast_eq] at *); (simp only [Ar.real, NV.val, Int.ofNat_eq_natCast, Int.toNat_natCast]); first | done | omega | decide | exact inR64 (by omega) (by omega) | (refine ⟨?_, ?_⟩ <;> first | omega | decide | exact inR64 (by omega) (by omega)))), hR _ _ _ ⟨k + 1, m', 1, [], rfl, rfl, ?_, ⟨hk, hm'⟩, (by show n - (k + 1) < n - k; omega)⟩⟩
          clear hR
          (try cbv) <;> (repeat' (first | exact trivial | exact rfl | apply And.intro | (intro _ hle; first | refine chunk_le hA rfl hle rfl ?_ | refine cat_le hA ?_ | refine upd_le hA ?_ | (try cbv))))
          · rw [hm2]
          · subst hA; simp only [Ar.real, NV.val, Int.ofNat_eq_natCast, Int.toNat_natCast]
            rfl
      · have hk : k = n := by subst hA; simp only [Ar.real] at h; simp at h; omega
        cbv
        clear hR
        refine Fin.le hA 0 [] (.int .i64 r) ([]) 0 rfl rfl rfl ?_ ?_ (by rw [← hK]; exact ⟨rfl, rfl, rfl⟩)
        · (try cbv) <;> (repeat' (first | exact trivial | exact rfl | apply And.intro | (intro _ hle; first | refine chunk_le hA rfl hle rfl ?_ | refine cat_le hA ?_ | refine upd_le hA ?_ | (try cbv))))
          rw [hr, h2, hk, hmi]; rfl
        · (try cbv) <;> (repeat' (first | exact trivial | exact rfl | apply And.intro | (intro _ hle; first | refine chunk_le hA rfl hle rfl ?_ | refine cat_le hA ?_ | refine upd_le hA ?_ | (try cbv))))

theorem place_fn {P : Program} {G : Gl} (hP : P = Try.prog) {d w t s e k p h tr ke no : Int} {n : Nat} {f : Nat → Int} {r : Int} (hn : n ≤ 9223372036854775807) (hr : r = if (n : Int) < t then (n : Int) else (minAt f n : Int)) :
    FnTr P G 68 [.agg [.int .i64 d, .int .i64 w, .int .i64 t, .int .i64 s, .int .i64 e, .int .i64 k, .int .i64 p, .int .i64 h, .int .i64 tr, .int .i64 ke, .int .i64 no], .ro 1 (.s n) (fun e => [.int .i64 (f e.val)])] [] 0 (Gives (.int .i64 r) [] 0) := by
  obtain ⟨mi, hmi⟩ : ∃ mi : Nat → Nat, mi = minAt f := ⟨_, rfl⟩
  have hT : T.Ok P := hP ▸ T_ok
  refine FnTr.intro (fn := Try.f68) (c := bodyOf Try.f68) (by rw [hP]; rfl) rfl rfl hT ?_
  generalize hA : Ar.real = A
  generalize hK : Gives _ _ _ = K
  cbv
  refine ⟨fun h => ?_, fun h => ?_⟩
  · cbv
    have hlt : (n : Int) < t := by subst hA; simp only [Ar.real] at h; simpa using h
    rw [if_pos hlt] at hr
    refine Fin.le hA 0 [] (.int .i64 r) ([]) 0 rfl rfl rfl ?_ ?_ (by rw [← hK]; exact ⟨rfl, rfl, rfl⟩)
    · (try cbv) <;> (repeat' (first | exact trivial | exact rfl | apply And.intro | (intro _ hle; first | refine chunk_le hA rfl hle rfl ?_ | refine cat_le hA ?_ | refine upd_le hA ?_ | (try cbv))))
      subst hA; simp only [Ar.real, NV.val, Int.ofNat_eq_natCast, Int.toNat_natCast]
      exact hr.symm
    · (try cbv) <;> (repeat' (first | exact trivial | exact rfl | apply And.intro | (intro _ hle; first | refine chunk_le hA rfl hle rfl ?_ | refine cat_le hA ?_ | refine upd_le hA ?_ | (try cbv))))
  · cbv
    have hlt : ¬ (n : Int) < t := by subst hA; simp only [Ar.real] at h; simpa using h
    rw [if_neg hlt] at hr
    refine LS.le2 hT hA 1 (fun (k : Nat) (m : Nat) => [(17, .int .i64 (k : Int)), (5, .int .i64 (m : Int))]) (fun _ _ => []) (fun k m => k ≤ n ∧ m = mi k) (fun k _ => n - k) 0 0 [] rfl rfl ?_ ?_ ?_
    · (try cbv) <;> (repeat' (first | exact trivial | exact rfl | apply And.intro | (intro _ hle; first | refine chunk_le hA rfl hle rfl ?_ | refine cat_le hA ?_ | refine upd_le hA ?_ | (try cbv))))
    · exact ⟨Nat.zero_le _, by rw [hmi]; rfl⟩
    · intro R hR k m hp
      cbv
      obtain ⟨h1, h2⟩ := hp
      refine ⟨fun h => ?_, fun h => ?_⟩
      · have hk : k < n := by subst hA; simp only [Ar.real] at h; simp at h; omega
        have hmk : m ≤ k := by rw [h2, hmi]; exact SchLaw.minAt_le f k
        have hs : mi (k + 1) = if f k < f (mi k) then k else mi k := by rw [hmi]; rfl
        obtain ⟨m', hm'⟩ : ∃ m' : Nat, m' = mi (k + 1) := ⟨_, rfl⟩
        cbv
        refine ⟨(by (subst hA; (try simp only [natCast_eq] at *); (simp only [Ar.real, NV.val, Int.ofNat_eq_natCast, Int.toNat_natCast]); first | done | omega | decide | exact inR64 (by omega) (by omega) | (refine ⟨?_, ?_⟩ <;> first | omega | decide | exact inR64 (by omega) (by omega)))), (by (subst hA; (try simp only [natCast_eq] at *); (simp only [Ar.real, NV.val, Int.ofNat_eq_natCast, Int.toNat_natCast]); first | done | omega | decide | exact inR64 (by omega) (by omega) | (refine ⟨?_, ?_⟩ <;> first | omega | decide | exact inR64 (by omega) (by omega)))), fun h3 => ?_, fun h3 => ?_⟩
        · have hm2 : m' = k := by
            subst hA
            have h4 : f k < f m := by simp only [Ar.real, NV.val, Int.ofNat_eq_natCast, Int.toNat_natCast] at h3; simpa using h3
            rw [hm', hs, ← h2, if_pos h4]
          cbv
          refine ⟨(by (subst hA; (try simp only [natCast_eq] at *); (simp only [Ar.real, NV.val, Int.ofNat_eq_natCast, Int.toNat_natCast]); first | done | omega | decide | exact inR64 (by omega) (by omega) | (refine ⟨?_, ?_⟩ <;> first | omega | decide | exact inR64 (by omega) (by omega)))), hR _ _ _ ⟨k + 1, m', 1, [], rfl, rfl, ?_, ⟨hk, hm'⟩, (by show n - (k + 1) < n - k; omega)⟩⟩
          clear hR
          (try cbv) <;> (repeat' (first | exact trivial | exact rfl | apply And.intro | (intro _ hle; first | refine chunk_le hA rfl hle rfl ?_ | refine cat_le hA ?_ | refine upd_le hA ?_ | (try cbv))))
          · rw [hm2]
          · subst hA; simp only [Ar.real, NV.val, Int.ofNat_eq_natCast, Int.toNat_natCast]
            rfl
        · have hm2 : m' = m := by
            subst hA
            have h4 : ¬ f k < f m := by simp only [Ar.real, NV.val, Int.ofNat_eq_natCast, Int.toNat_natCast] at h3; simpa using h3
            rw [hm', hs, ← h2, if_neg h4]
          cbv
          refine ⟨(by (subst hA; (try simp only [natCast_eq] at *); (simp only [Ar.real, NV.val, Int.ofNat_eq_natCast, Int.toNat_natCast]); first | done | omega | decide | exact inR64 (by omega) (by omega) | (refine ⟨?_, ?_⟩ <;> first | omega | decide | exact inR64 (by omega) (by omega)))), hR _ _ _ ⟨k + 1, m', 1, [], rfl, rfl, ?_, ⟨hk, hm'⟩, (by show n - (k + 1) < n - k; omega)⟩⟩
          clear hR
          (try cbv) <;> (repeat' (first | exact trivial | exact rfl | apply And.intro | (intro _ hle; first | refine chunk_le hA rfl hle rfl ?_ | refine cat_le hA ?_ | refine upd_le hA ?_ | (try cbv))))
          · rw [hm2]
          · subst hA; simp only [Ar.real, NV.val, Int.ofNat_eq_natCast, Int.toNat_natCast]
            rfl
      · have hk : k = n := by subst hA; simp only [Ar.real] at h; simp at h; omega
        cbv
        clear hR
        refine Fin.le hA 0 [] (.int .i64 r) ([]) 0 rfl rfl rfl ?_ ?_ (by rw [← hK]; exact ⟨rfl, rfl, rfl⟩)
        · (try cbv) <;> (repeat' (first | exact trivial | exact rfl | apply And.intro | (intro _ hle; first | refine chunk_le hA rfl hle rfl ?_ | refine cat_le hA ?_ | refine upd_le hA ?_ | (try cbv))))
          rw [hr, h2, hk, hmi]; rfl
        · (try cbv) <;> (repeat' (first | exact trivial | exact rfl | apply And.intro | (intro _ hle; first | refine chunk_le hA rfl hle rfl ?_ | refine cat_le hA ?_ | refine upd_le hA ?_ | (try cbv))))
end Go.Proofs.Ytkaobalnjimniaa
