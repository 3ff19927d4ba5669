/-
  Vectors: which places are open.
-/
import Derived.Test.YtkaobalnjimniaaVecF6
set_option linter.unusedVariables false
set_option linter.unusedSimpArgs false
namespace Go.Proofs.Ytkaobalnjimniaa.Vec
open Go.Eng
open Go.VecLaw (lowV topV dotV gapV OS openV)
set_option maxRecDepth 100000
set_option linter.unusedVariables false

/-- One number more behind a row. -/
theorem ints_push {A : Ar} (hA : Ar.real = A) {f g : Nat → Int} {n : Nat} {v : Int} (hg : ∀ i, g i = if i = n then v else f i) :
    ∀ e : NV, ltNV A e (.s (A.addN n 1)) → leL (leSV A 4) (catG A 1 (.s n) (fun e => [.int .i64 (f e.val)]) (fun x => chunkS A 1 [.int .i64 v] (addNV A (.l 0) x)) e) [.int .i64 (g e.val)] := by
  intro e he
  have hl := Ints.lits hA (cs := [.int .i64 v]) (kd := .i64) (ns := [v]) rfl
  refine Ints.le hA (F := catG A 1 (.s n) (fun e => [.int .i64 (f e.val)]) (fun x => chunkS A 1 [.int .i64 v] (addNV A (.l 0) x))) (Ints.cat hA (F := fun e => [.int .i64 (f e.val)]) (G := fun x => chunkS A 1 [.int .i64 v] (addNV A (.l 0) x)) (f := f) (n := n) (m := 1) (.s n) rfl (fun k => ⟨_, rfl, rfl⟩) (g := fun i => [v].getD i 0) (fun k hk => hl (.s k) hk) (fun k => ⟨_, _, rfl, rfl⟩) ⟨n, rfl⟩) he (by subst hA; exact Nat.le_refl _) ?_
  have h7 : e.val < n + 1 := by subst hA; exact ltNV_real.1 he
  rw [hg]
  by_cases h8 : e.val < n
  · rw [if_pos h8, if_neg (by omega)]
  · have h9 : e.val = n := by omega
    rw [h9, if_neg (by omega), if_pos rfl, Nat.sub_self]; rfl

theorem open_own {P : Program} {G : Gl} (hP : P = Try.prog) {n m k c : Nat} {f g a : Nat → Int} (hn : n ≤ 9223372036854775807) (hm : m ≤ 9223372036854775807) (hk : k = min n m) (hk1 : k ≤ 1000) (x : OS) (hx : x = openV f g k) (hc : c = x.n) (ha : ∀ i, a i = x.a i) :
    FnTr P G 52 [.ro 1 (.s n) (fun e => [.int .i64 (f e.val)]), .ro 1 (.s m) (fun e => [.int .i64 (g e.val)])] [] 0 (Gives (.sl 0 1 (.l 0) (.s c)) [(0, .row 3 1 (.s c) (fun e => [.int .i64 (a e.val)]))] 2) := by
  obtain ⟨V, hV⟩ : ∃ V, V = openV f g := ⟨_, rfl⟩
  have hV0 : (V 0).n = 0 := by rw [hV]; rfl
  have hVa : ∀ j, (V 0).a j = 0 := fun j => by rw [hV]; rfl
  have hVn : ∀ i, (V i).n ≤ i := by rw [hV]; exact VecLaw.openV_n f g
  have hVs : ∀ i, V (i + 1) = if f i < g i then ⟨(V i).n + 1, fun j => if j = (V i).n then (i : Int) else (V i).a j⟩ else V i := fun i => by rw [hV]; rfl
  rw [← hV] at hx
  clear hV
  have hT : T.Ok P := hP ▸ T_ok
  refine FnTr.intro (fn := Try.f52) (c := bodyOf Try.f52) (by rw [hP]; rfl) rfl rfl hT ?_
  generalize hA : Ar.real = A
  generalize hK : Gives _ _ _ = K
  cbv
  refine LS.ghost 3 1 (.l 0) (fun _ => [.int .i64 0]) rfl ?_
  refine LS.le2 hT hA 0 (fun (i : Nat) (y : OS) => [(5, .sl 0 1 (.l 0) (.s y.n)), (12, .int .i64 (i : Int))]) (fun i y => [(0, .row 3 1 (.s y.n) (fun e => [.int .i64 (y.a e.val)]))]) (fun i y => i ≤ k ∧ y = V i) (fun i _ => k - i) 0 (V 0) [(8, 0)] rfl rfl ?_ ?_ ?_
  · (try cbv) <;> (repeat' (first | exact trivial | exact rfl | apply And.intro | (intro _ hle; first | refine chunk_le hA rfl hle rfl ?_ | refine cat_le hA ?_ | refine upd_le hA ?_ | refine int_le ?_ | skip)))
    · exact hV0
    · exact hV0.symm
    · exact (hVa _).symm
  · exact ⟨Nat.zero_le _, rfl⟩
  · intro R hR i y hp
    cbv
    obtain ⟨h3, h4⟩ := hp
    obtain ⟨yn, ya⟩ := y
    cbv
    refine ⟨fun h5 => ?_, fun h5 => ?_⟩
    · have hi : i < k := by clear hVs hVn; subst hA; simp only [Ar.real, natCast_eq, Int.ofNat_eq_natCast, decide_eq_true_eq] at h5; split at h5 <;> omega
      have hin : i < n ∧ i < m := by omega
      have hfi : f (Int.toNat (Int.ofNat i)) = f i := rfl
      have hgi : g (Int.toNat (Int.ofNat i)) = g i := rfl
      have h6 := hVs i
      have h7 := hVn i
      rw [← h4] at h6 h7
      clear hVs hVn
      cbv
      refine DS.run hA hT (by rw [hP]; exact P_mixed) 1 rfl ?_
      cbv
      refine ⟨(by (subst hA; (try simp only [natCast_eq] at *); (simp only [Ar.real, NV.val, Int.ofNat_eq_natCast, Int.toNat_natCast]); first | done | omega | decide | exact inR64 (by omega) (by omega) | (refine ⟨?_, ?_⟩ <;> first | omega | decide | exact inR64 (by omega) (by omega)))), (by (subst hA; (try simp only [natCast_eq] at *); (simp only [Ar.real, NV.val, Int.ofNat_eq_natCast, Int.toNat_natCast]); first | done | omega | decide | exact inR64 (by omega) (by omega) | (refine ⟨?_, ?_⟩ <;> first | omega | decide | exact inR64 (by omega) (by omega)))), fun h8 => ?_, fun h8 => ?_⟩
      · have h9 : f i < g i := by subst hA; simp only [Ar.real, NV.val, hfi, hgi] at h8; simpa using h8
        rw [if_pos h9] at h6
        obtain ⟨b, hb⟩ : ∃ b : Nat → Int, ∀ j, b j = if j = yn then (i : Int) else ya j := ⟨_, fun _ => rfl⟩
        have h10 : V (i + 1) = ⟨yn + 1, b⟩ := by rw [h6, funext hb]
        have hpush := ints_push hA hb
        clear h6
        cbv
        have h7' : yn ≤ i := h7
        refine ⟨⟨(by (subst hA; (try simp only [natCast_eq] at *); (simp only [Ar.real, NV.val, Int.ofNat_eq_natCast, Int.toNat_natCast]); first | done | omega | decide | exact inR64 (by omega) (by omega) | (refine ⟨?_, ?_⟩ <;> first | omega | decide | exact inR64 (by omega) (by omega)))), (by (subst hA; (try simp only [natCast_eq] at *); (simp only [Ar.real, NV.val, Int.ofNat_eq_natCast, Int.toNat_natCast]); first | done | omega | decide | exact inR64 (by omega) (by omega) | (refine ⟨?_, ?_⟩ <;> first | omega | decide | exact inR64 (by omega) (by omega)))), (by (subst hA; (try simp only [natCast_eq] at *); (simp only [Ar.real, NV.val, Int.ofNat_eq_natCast, Int.toNat_natCast]); first | done | omega | decide | exact inR64 (by omega) (by omega) | (refine ⟨?_, ?_⟩ <;> first | omega | decide | exact inR64 (by omega) (by omega))))⟩, (by (subst hA; (try simp only [natCast_eq] at *); (simp only [Ar.real, NV.val, Int.ofNat_eq_natCast, Int.toNat_natCast]); first | done | omega | decide | exact inR64 (by omega) (by omega) | (refine ⟨?_, ?_⟩ <;> first | omega | decide | exact inR64 (by omega) (by omega)))), hR _ _ _ ⟨i + 1, ⟨yn + 1, b⟩, 0, [(16, 0)], rfl, rfl, ?_, ⟨hi, h10.symm⟩, (by show k - (i + 1) < k - i; omega)⟩⟩
        clear hR
        (try cbv) <;> (repeat' (first | exact trivial | exact rfl | apply And.intro | (intro _ hle; first | exact hpush _ hle | refine chunk_le hA rfl hle rfl ?_ | refine cat_le hA ?_ | refine upd_le hA ?_ | refine int_le ?_ | skip)))
        all_goals (subst hA; (try simp only [natCast_eq] at *); (simp only [Ar.real, NV.val, Int.ofNat_eq_natCast, Int.toNat_natCast]); first | done | omega | decide | exact inR64 (by omega) (by omega) | (refine ⟨?_, ?_⟩ <;> first | omega | decide | exact inR64 (by omega) (by omega)))
      · have h9 : ¬ f i < g i := by subst hA; simp only [Ar.real, NV.val, hfi, hgi] at h8; simpa using h8
        rw [if_neg h9] at h6
        cbv
        refine ⟨(by (subst hA; (try simp only [natCast_eq] at *); (simp only [Ar.real, NV.val, Int.ofNat_eq_natCast, Int.toNat_natCast]); first | done | omega | decide | exact inR64 (by omega) (by omega) | (refine ⟨?_, ?_⟩ <;> first | omega | decide | exact inR64 (by omega) (by omega)))), hR _ _ _ ⟨i + 1, ⟨yn, ya⟩, 0, [(0, 0)], rfl, rfl, ?_, ⟨hi, h6.symm⟩, (by show k - (i + 1) < k - i; omega)⟩⟩
        clear hR
        (try cbv) <;> (repeat' (first | exact trivial | exact rfl | apply And.intro | (intro _ hle; first | refine chunk_le hA rfl hle rfl ?_ | refine cat_le hA ?_ | refine upd_le hA ?_ | refine int_le ?_ | skip)))
        all_goals (subst hA; (try simp only [natCast_eq] at *); (simp only [Ar.real, NV.val, Int.ofNat_eq_natCast, Int.toNat_natCast]); first | done | omega | decide | exact inR64 (by omega) (by omega) | (refine ⟨?_, ?_⟩ <;> first | omega | decide | exact inR64 (by omega) (by omega)))
    · clear hR
      have hi : i = k := by clear hVs hVn; subst hA; simp only [Ar.real, natCast_eq, Int.ofNat_eq_natCast, decide_eq_false_iff_not] at h5; split at h5 <;> omega
      subst hi
      rw [← hx] at h4
      cbv
      refine Fin.le hA 0 [(0, 0)] (.sl 0 1 (.l 0) (.s c)) ([(0, .row 3 1 (.s c) (fun e => [.int .i64 (a e.val)]))]) 2 rfl rfl rfl ?_ ?_ (by rw [← hK]; exact ⟨rfl, rfl, rfl⟩)
      · (try cbv) <;> (repeat' (first | exact trivial | exact rfl | apply And.intro | (intro _ hle; first | refine chunk_le hA rfl hle rfl ?_ | refine cat_le hA ?_ | refine upd_le hA ?_ | refine int_le ?_ | skip)))
        rw [hc, ← h4]
      · (try cbv) <;> (repeat' (first | exact trivial | exact rfl | apply And.intro | (intro _ hle; first | refine chunk_le hA rfl hle rfl ?_ | refine cat_le hA ?_ | refine upd_le hA ?_ | refine int_le ?_ | skip)))
        · rw [hc, ← h4]
        · rw [ha, ← h4]
theorem refopen_own {P : Program} {G : Gl} (hP : P = Try.prog) {n m k c : Nat} {f g a : Nat → Int} (hn : n ≤ 9223372036854775807) (hm : m ≤ 9223372036854775807) (hk : k = min n m) (hk1 : k ≤ 1000) (x : OS) (hx : x = openV f g k) (hc : c = x.n) (ha : ∀ i, a i = x.a i) :
    FnTr P G 53 [.ro 1 (.s n) (fun e => [.int .i64 (f e.val)]), .ro 1 (.s m) (fun e => [.int .i64 (g e.val)])] [] 0 (Gives (.sl 0 1 (.l 0) (.s c)) [(0, .row 3 1 (.s c) (fun e => [.int .i64 (a e.val)]))] 2) := by
  obtain ⟨V, hV⟩ : ∃ V, V = openV f g := ⟨_, rfl⟩
  have hV0 : (V 0).n = 0 := by rw [hV]; rfl
  have hVa : ∀ j, (V 0).a j = 0 := fun j => by rw [hV]; rfl
  have hVn : ∀ i, (V i).n ≤ i := by rw [hV]; exact VecLaw.openV_n f g
  have hVs : ∀ i, V (i + 1) = if f i < g i then ⟨(V i).n + 1, fun j => if j = (V i).n then (i : Int) else (V i).a j⟩ else V i := fun i => by rw [hV]; rfl
  rw [← hV] at hx
  clear hV
  have hT : T.Ok P := hP ▸ T_ok
  refine FnTr.intro (fn := Try.f53) (c := bodyOf Try.f53) (by rw [hP]; rfl) rfl rfl hT ?_
  generalize hA : Ar.real = A
  generalize hK : Gives _ _ _ = K
  cbv
  refine LS.ghost 3 1 (.l 0) (fun _ => [.int .i64 0]) rfl ?_
  refine LS.le2 hT hA 0 (fun (i : Nat) (y : OS) => [(5, .sl 0 1 (.l 0) (.s y.n)), (6, .int .i64 (i : Int))]) (fun i y => [(0, .row 3 1 (.s y.n) (fun e => [.int .i64 (y.a e.val)]))]) (fun i y => i ≤ k ∧ y = V i) (fun i _ => k - i) 0 (V 0) [(3, 0)] rfl rfl ?_ ?_ ?_
  · (try cbv) <;> (repeat' (first | exact trivial | exact rfl | apply And.intro | (intro _ hle; first | refine chunk_le hA rfl hle rfl ?_ | refine cat_le hA ?_ | refine upd_le hA ?_ | refine int_le ?_ | skip)))
    · exact hV0
    · exact hV0.symm
    · exact (hVa _).symm
  · exact ⟨Nat.zero_le _, rfl⟩
  · intro R hR i y hp
    cbv
    obtain ⟨h3, h4⟩ := hp
    obtain ⟨yn, ya⟩ := y
    cbv
    refine ⟨fun h5 => ?_, fun h5 => ?_⟩
    · cbv
      refine ⟨fun h5b => ?_, fun h5b => ?_⟩
      · have hi : i < k := by clear hVs hVn hR; subst hA; simp only [Ar.real, natCast_eq, Int.ofNat_eq_natCast, decide_eq_true_eq, decide_eq_false_iff_not, Bool.not_true, Bool.not_false] at h5 h5b; omega
        have hin : i < n ∧ i < m := by omega
        have hfi : f (Int.toNat (Int.ofNat i)) = f i := rfl
        have hgi : g (Int.toNat (Int.ofNat i)) = g i := rfl
        have h6 := hVs i
        have h7 := hVn i
        rw [← h4] at h6 h7
        clear hVs hVn
        cbv
        refine DS.run hA hT (by rw [hP]; exact P_mixed) 1 rfl ?_
        cbv
        refine ⟨(by (subst hA; (try simp only [natCast_eq] at *); (simp only [Ar.real, NV.val, Int.ofNat_eq_natCast, Int.toNat_natCast]); first | done | omega | decide | exact inR64 (by omega) (by omega) | (refine ⟨?_, ?_⟩ <;> first | omega | decide | exact inR64 (by omega) (by omega)))), (by (subst hA; (try simp only [natCast_eq] at *); (simp only [Ar.real, NV.val, Int.ofNat_eq_natCast, Int.toNat_natCast]); first | done | omega | decide | exact inR64 (by omega) (by omega) | (refine ⟨?_, ?_⟩ <;> first | omega | decide | exact inR64 (by omega) (by omega)))), fun h8 => ?_, fun h8 => ?_⟩
        · have h9 : f i < g i := by subst hA; simp only [Ar.real, NV.val, hfi, hgi] at h8; simpa using h8
          rw [if_pos h9] at h6
          obtain ⟨b, hb⟩ : ∃ b : Nat → Int, ∀ j, b j = if j = yn then (i : Int) else ya j := ⟨_, fun _ => rfl⟩
          have h10 : V (i + 1) = ⟨yn + 1, b⟩ := by rw [h6, funext hb]
          have hpush := ints_push hA hb
          clear h6
          cbv
          have h7' : yn ≤ i := h7
          refine ⟨⟨(by (subst hA; (try simp only [natCast_eq] at *); (simp only [Ar.real, NV.val, Int.ofNat_eq_natCast, Int.toNat_natCast]); first | done | omega | decide | exact inR64 (by omega) (by omega) | (refine ⟨?_, ?_⟩ <;> first | omega | decide | exact inR64 (by omega) (by omega)))), (by (subst hA; (try simp only [natCast_eq] at *); (simp only [Ar.real, NV.val, Int.ofNat_eq_natCast, Int.toNat_natCast]); first | done | omega | decide | exact inR64 (by omega) (by omega) | (refine ⟨?_, ?_⟩ <;> first | omega | decide | exact inR64 (by omega) (by omega)))), (by (subst hA; (try simp only [natCast_eq] at *); (simp only [Ar.real, NV.val, Int.ofNat_eq_natCast, Int.toNat_natCast]); first | done | omega | decide | exact inR64 (by omega) (by omega) | (refine ⟨?_, ?_⟩ <;> first | omega | decide | exact inR64 (by omega) (by omega))))⟩, (by (subst hA; (try simp only [natCast_eq] at *); (simp only [Ar.real, NV.val, Int.ofNat_eq_natCast, Int.toNat_natCast]); first | done | omega | decide | exact inR64 (by omega) (by omega) | (refine ⟨?_, ?_⟩ <;> first | omega | decide | exact inR64 (by omega) (by omega)))), hR _ _ _ ⟨i + 1, ⟨yn + 1, b⟩, 0, [(23, 0)], rfl, rfl, ?_, ⟨hi, h10.symm⟩, (by show k - (i + 1) < k - i; omega)⟩⟩
          clear hR
          (try cbv) <;> (repeat' (first | exact trivial | exact rfl | apply And.intro | (intro _ hle; first | exact hpush _ hle | refine chunk_le hA rfl hle rfl ?_ | refine cat_le hA ?_ | refine upd_le hA ?_ | refine int_le ?_ | skip)))
          all_goals (subst hA; (try simp only [natCast_eq] at *); (simp only [Ar.real, NV.val, Int.ofNat_eq_natCast, Int.toNat_natCast]); first | done | omega | decide | exact inR64 (by omega) (by omega) | (refine ⟨?_, ?_⟩ <;> first | omega | decide | exact inR64 (by omega) (by omega)))
        · have h9 : ¬ f i < g i := by subst hA; simp only [Ar.real, NV.val, hfi, hgi] at h8; simpa using h8
          rw [if_neg h9] at h6
          cbv
          refine ⟨(by (subst hA; (try simp only [natCast_eq] at *); (simp only [Ar.real, NV.val, Int.ofNat_eq_natCast, Int.toNat_natCast]); first | done | omega | decide | exact inR64 (by omega) (by omega) | (refine ⟨?_, ?_⟩ <;> first | omega | decide | exact inR64 (by omega) (by omega)))), hR _ _ _ ⟨i + 1, ⟨yn, ya⟩, 0, [(0, 0)], rfl, rfl, ?_, ⟨hi, h6.symm⟩, (by show k - (i + 1) < k - i; omega)⟩⟩
          clear hR
          (try cbv) <;> (repeat' (first | exact trivial | exact rfl | apply And.intro | (intro _ hle; first | refine chunk_le hA rfl hle rfl ?_ | refine cat_le hA ?_ | refine upd_le hA ?_ | refine int_le ?_ | skip)))
          all_goals (subst hA; (try simp only [natCast_eq] at *); (simp only [Ar.real, NV.val, Int.ofNat_eq_natCast, Int.toNat_natCast]); first | done | omega | decide | exact inR64 (by omega) (by omega) | (refine ⟨?_, ?_⟩ <;> first | omega | decide | exact inR64 (by omega) (by omega)))
      · clear hR
        have hi : i = k := by clear hVs hVn; subst hA; simp only [Ar.real, natCast_eq, Int.ofNat_eq_natCast, decide_eq_true_eq, decide_eq_false_iff_not, Bool.not_true, Bool.not_false] at h5 h5b; omega
        subst hi
        rw [← hx] at h4
        cbv
        refine Fin.le hA 0 [(0, 0)] (.sl 0 1 (.l 0) (.s c)) ([(0, .row 3 1 (.s c) (fun e => [.int .i64 (a e.val)]))]) 2 rfl rfl rfl ?_ ?_ (by rw [← hK]; exact ⟨rfl, rfl, rfl⟩)
        · (try cbv) <;> (repeat' (first | exact trivial | exact rfl | apply And.intro | (intro _ hle; first | refine chunk_le hA rfl hle rfl ?_ | refine cat_le hA ?_ | refine upd_le hA ?_ | refine int_le ?_ | skip)))
          rw [hc, ← h4]
        · (try cbv) <;> (repeat' (first | exact trivial | exact rfl | apply And.intro | (intro _ hle; first | refine chunk_le hA rfl hle rfl ?_ | refine cat_le hA ?_ | refine upd_le hA ?_ | refine int_le ?_ | skip)))
          · rw [hc, ← h4]
          · rw [ha, ← h4]
    · clear hR
      have hi : i = k := by clear hVs hVn; subst hA; simp only [Ar.real, natCast_eq, Int.ofNat_eq_natCast, decide_eq_true_eq, decide_eq_false_iff_not, Bool.not_true, Bool.not_false] at h5; omega
      subst hi
      rw [← hx] at h4
      cbv
      refine Fin.le hA 0 [(0, 0)] (.sl 0 1 (.l 0) (.s c)) ([(0, .row 3 1 (.s c) (fun e => [.int .i64 (a e.val)]))]) 2 rfl rfl rfl ?_ ?_ (by rw [← hK]; exact ⟨rfl, rfl, rfl⟩)
      · (try cbv) <;> (repeat' (first | exact trivial | exact rfl | apply And.intro | (intro _ hle; first | refine chunk_le hA rfl hle rfl ?_ | refine cat_le hA ?_ | refine upd_le hA ?_ | refine int_le ?_ | skip)))
        rw [hc, ← h4]
      · (try cbv) <;> (repeat' (first | exact trivial | exact rfl | apply And.intro | (intro _ hle; first | refine chunk_le hA rfl hle rfl ?_ | refine cat_le hA ?_ | refine upd_le hA ?_ | refine int_le ?_ | skip)))
        · rw [hc, ← h4]
        · rw [ha, ← h4]

theorem open_fn {P : Program} {G : Gl} (hP : P = Try.prog) {n m k c : Nat} {f g a : Nat → Int} (hn : n ≤ 9223372036854775807) (hm : m ≤ 9223372036854775807) (hk : k = min n m) (hk1 : k ≤ 1000) (x : OS) (hx : x = openV f g k) (hc : c = x.n) (ha : ∀ i, a i = x.a i) :
    FnTr P G 52 [.ro 1 (.s n) (fun e => [.int .i64 (f e.val)]), .ro 1 (.s m) (fun e => [.int .i64 (g e.val)])] [] 0 (Gives (.ro 1 (.s c) (fun e => [.int .i64 (a e.val)])) [] 2) := by
  have h1 := open_own (P := P) (G := G) hP hn hm hk hk1 x hx hc ha
  generalize hA : Ar.real = A
  refine FnTr.dat hA h1 _ _ ?_
  (try cbv) <;> (repeat' (first | exact trivial | exact rfl | apply And.intro | (intro _ hle; first | refine chunk_le hA rfl hle rfl ?_ | refine cat_le hA ?_ | refine upd_le hA ?_ | refine int_le ?_ | skip)))
  all_goals (subst hA; (try simp only [natCast_eq] at *); (simp only [Ar.real, NV.val, Int.ofNat_eq_natCast, Int.toNat_natCast]); first | done | omega | decide | exact inR64 (by omega) (by omega) | (refine ⟨?_, ?_⟩ <;> first | omega | decide | exact inR64 (by omega) (by omega)))
theorem refopen_fn {P : Program} {G : Gl} (hP : P = Try.prog) {n m k c : Nat} {f g a : Nat → Int} (hn : n ≤ 9223372036854775807) (hm : m ≤ 9223372036854775807) (hk : k = min n m) (hk1 : k ≤ 1000) (x : OS) (hx : x = openV f g k) (hc : c = x.n) (ha : ∀ i, a i = x.a i) :
    FnTr P G 53 [.ro 1 (.s n) (fun e => [.int .i64 (f e.val)]), .ro 1 (.s m) (fun e => [.int .i64 (g e.val)])] [] 0 (Gives (.ro 1 (.s c) (fun e => [.int .i64 (a e.val)])) [] 2) := by
  have h1 := refopen_own (P := P) (G := G) hP hn hm hk hk1 x hx hc ha
  generalize hA : Ar.real = A
  refine FnTr.dat hA h1 _ _ ?_
  (try cbv) <;> (repeat' (first | exact trivial | exact rfl | apply And.intro | (intro _ hle; first | refine chunk_le hA rfl hle rfl ?_ | refine cat_le hA ?_ | refine upd_le hA ?_ | refine int_le ?_ | skip)))
  all_goals (subst hA; (try simp only [natCast_eq] at *); (simp only [Ar.real, NV.val, Int.ofNat_eq_natCast, Int.toNat_natCast]); first | done | omega | decide | exact inR64 (by omega) (by omega) | (refine ⟨?_, ?_⟩ <;> first | omega | decide | exact inR64 (by omega) (by omega)))
end Go.Proofs.Ytkaobalnjimniaa.Vec
