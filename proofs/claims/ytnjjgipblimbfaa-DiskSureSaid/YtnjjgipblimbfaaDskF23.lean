/-
  Disks: the acts that are light; a sector of sevens; the short run that must come out.
-/
import Derived.Test.YtnjjgipblimbfaaDskF22
set_option linter.unusedVariables false
set_option linter.unusedSimpArgs false
namespace Go.Proofs.Ytnjjgipblimbfaa.Dsk
open Go.Eng
open Go.DskLaw (q64 secV EnumIs SrtTo crashP isB)
set_option maxRecDepth 100000
set_option maxHeartbeats 4000000
set_option linter.unusedVariables false

theorem same01_fn {P : Program} {G : Gl} (hP : P = Try.prog) {n m : Nat} {f g : Nat → Int} {r : Bool} (hn : n ≤ 9223372036854775807) (hm : m ≤ 9223372036854775807) (hr : r = true ↔ (n = m ∧ ∀ i, i < n → f i = g i)) :
    FnTr P G 29 [.ro 1 (.s n) (fun e => [.int .i64 (f e.val)]), .ro 1 (.s m) (fun e => [.int .i64 (g e.val)])] [] 0 (Gives (.bs r) [] 0) := by
  have hT : T.Ok P := hP ▸ T_ok
  refine FnTr.intro (fn := Try.f29) (c := bodyOf Try.f29) (by rw [hP]; rfl) rfl rfl hT ?_
  generalize hA : Ar.real = A
  generalize hK : Gives _ _ _ = K
  cbv
  refine ⟨fun h => ?_, fun h => ?_⟩
  · have hne : n ≠ m := by subst hA; simp only [Ar.real] at h; simp at h; omega
    have hrf : r = false := by
      cases r with
      | false => rfl
      | true => exact absurd (hr.1 rfl).1 hne
    cbv
    refine Fin.le hA 0 [] (.bs r) ([]) 0 rfl rfl rfl ?_ ?_ (by rw [← hK]; exact ⟨rfl, rfl, rfl⟩)
    · (try cbv) <;> (repeat' (first | exact trivial | exact rfl | apply And.intro | exact fun _ => rfl | (intro _ hle; first | refine chunk_le hA rfl hle rfl ?_ | refine cat_le hA ?_ | refine upd_le hA ?_ | (try cbv))))
      exact hrf.symm
    · (try cbv) <;> (repeat' (first | exact trivial | exact rfl | apply And.intro | exact fun _ => rfl | (intro _ hle; first | refine chunk_le hA rfl hle rfl ?_ | refine cat_le hA ?_ | refine upd_le hA ?_ | (try cbv))))
  · have hnm : n = m := by subst hA; simp only [Ar.real] at h; simp at h; omega
    subst hnm
    cbv
    refine LS.le hT hA 0 (fun (i : Nat) => [(5, .int .i64 (i : Int))]) (fun _ => []) (fun i => i ≤ n ∧ ∀ j, j < i → f j = g j) (fun i => n - i) 0 [] rfl rfl ?_ ?_ ?_
    · (try cbv) <;> (repeat' (first | exact trivial | exact rfl | apply And.intro | exact fun _ => rfl | (intro _ hle; first | refine chunk_le hA rfl hle rfl ?_ | refine cat_le hA ?_ | refine upd_le hA ?_ | (try cbv))))
    · exact ⟨Nat.zero_le _, fun j hj => by omega⟩
    · intro R hR i hp
      cbv
      obtain ⟨h1, h2⟩ := hp
      refine ⟨fun h3 => ?_, fun h3 => ?_⟩
      · have hi : i < n := by subst hA; simp only [Ar.real] at h3; simp at h3; omega
        cbv
        refine DS.run hA hT (by rw [hP]; exact P_mixed) 1 rfl ?_
        cbv
        refine ⟨(by (subst hA; (try simp only [natCast_eq] at *); (try (simp only [Ar.real, NV.val, Int.ofNat_eq_natCast, Int.toNat_natCast])); first | done | omega | decide | exact inR64 (by omega) (by omega) | (refine ⟨?_, ?_⟩ <;> first | omega | decide | exact inR64 (by omega) (by omega)))), (by (subst hA; (try simp only [natCast_eq] at *); (try (simp only [Ar.real, NV.val, Int.ofNat_eq_natCast, Int.toNat_natCast])); first | done | omega | decide | exact inR64 (by omega) (by omega) | (refine ⟨?_, ?_⟩ <;> first | omega | decide | exact inR64 (by omega) (by omega)))), fun h4 => ?_, fun h4 => ?_⟩
        · have hrf : r = false := by
            cases r with
            | false => rfl
            | true =>
              have h5 := (hr.1 rfl).2 i hi
              exfalso
              subst hA
              simp only [Ar.real, NV.val, Int.toNat_natCast, natCast_eq] at h4
              simp at h4
              exact h4 h5
          clear hR
          cbv
          refine Fin.le hA 0 [] (.bs r) ([]) 0 rfl rfl rfl ?_ ?_ (by rw [← hK]; exact ⟨rfl, rfl, rfl⟩)
          · (try cbv) <;> (repeat' (first | exact trivial | exact rfl | apply And.intro | exact fun _ => rfl | (intro _ hle; first | refine chunk_le hA rfl hle rfl ?_ | refine cat_le hA ?_ | refine upd_le hA ?_ | (try cbv))))
            exact hrf.symm
          · (try cbv) <;> (repeat' (first | exact trivial | exact rfl | apply And.intro | exact fun _ => rfl | (intro _ hle; first | refine chunk_le hA rfl hle rfl ?_ | refine cat_le hA ?_ | refine upd_le hA ?_ | (try cbv))))
        · have hfg : f i = g i := by
            subst hA
            simp only [Ar.real, NV.val, Int.toNat_natCast, natCast_eq] at h4
            simpa using h4
          cbv
          refine ⟨(by (subst hA; (try simp only [natCast_eq] at *); (try (simp only [Ar.real, NV.val, Int.ofNat_eq_natCast, Int.toNat_natCast])); first | done | omega | decide | exact inR64 (by omega) (by omega) | (refine ⟨?_, ?_⟩ <;> first | omega | decide | exact inR64 (by omega) (by omega)))), hR _ _ ⟨i + 1, 0, [], rfl, rfl, ?_, ⟨hi, fun j hj => ?_⟩, (by show n - (i + 1) < n - i; omega)⟩⟩
          · clear hR
            (try cbv) <;> (repeat' (first | exact trivial | exact rfl | apply And.intro | exact fun _ => rfl | (intro _ hle; first | refine chunk_le hA rfl hle rfl ?_ | refine cat_le hA ?_ | refine upd_le hA ?_ | (try cbv))))
            subst hA; simp only [Ar.real, NV.val, Int.ofNat_eq_natCast, Int.toNat_natCast]
            rfl
          · by_cases e : j = i
            · rw [e]; exact hfg
            · exact h2 j (by omega)
      · have hi : i = n := by subst hA; simp only [Ar.real] at h3; simp at h3; omega
        subst hi
        have hrt : r = true := hr.2 ⟨rfl, h2⟩
        clear hR
        cbv
        refine Fin.le hA 0 [] (.bs r) ([]) 0 rfl rfl rfl ?_ ?_ (by rw [← hK]; exact ⟨rfl, rfl, rfl⟩)
        · (try cbv) <;> (repeat' (first | exact trivial | exact rfl | apply And.intro | exact fun _ => rfl | (intro _ hle; first | refine chunk_le hA rfl hle rfl ?_ | refine cat_le hA ?_ | refine upd_le hA ?_ | (try cbv))))
          exact hrt.symm
        · (try cbv) <;> (repeat' (first | exact trivial | exact rfl | apply And.intro | exact fun _ => rfl | (intro _ hle; first | refine chunk_le hA rfl hle rfl ?_ | refine cat_le hA ?_ | refine upd_le hA ?_ | (try cbv))))

/-- Vectors. -/
def In32 (x : Int) : Prop := -2147483648 ≤ x ∧ x ≤ 2147483647
def VecP (n : Nat) (f : Nat → Int) (dim : Int) : Prop := (1 ≤ dim ∧ dim ≤ 8 ∧ (n : Int) = dim) ∧ ∀ i, i < n → In32 (f i)


/-- An act on a disk. -/
structure OpD where
  d : Int
  a : Int
  bn : Nat
  b : Nat → Int
  kn : Nat
  ks : Nat → Int
  kb : Nat → Int
abbrev opS (o : OpD) : List SV := [.int .i64 o.d, .int .i64 o.a, .ro 1 (.s o.bn) (fun x => [.int .u8 (o.b x.val)]), .ro 2 (.s o.kn) (fun x => [.int .i64 (o.ks x.val), .int .i64 (o.kb x.val)])]
abbrev OpsS (n : Nat) (l : Nat → OpD) : SV := .ro 4 (.s n) (fun e => opS (l e.val))
def LightD (n : Nat) (l : Nat → OpD) : Prop := n ≤ 60 ∧ ∀ i, i < n → (l i).bn ≤ 100 ∧ (l i).kn ≤ 30
theorem light25_fn {P : Program} {G : Gl} (hP : P = Try.prog) {n : Nat} {l : Nat → OpD} {r : Bool} (hn : n ≤ 9223372036854775807) (hl : ∀ i, i < n → (l i).bn ≤ 9223372036854775807 ∧ (l i).kn ≤ 9223372036854775807) (hr : r = true ↔ LightD n l) :
    FnTr P G 22 [OpsS n l] [] 0 (Gives (.bs r) [] 0) := by
  obtain ⟨bn, hbn⟩ : ∃ bn : Nat → Nat, ∀ i, bn i = (l i).bn := ⟨_, fun _ => rfl⟩
  obtain ⟨kn, hkn⟩ : ∃ kn : Nat → Nat, ∀ i, kn i = (l i).kn := ⟨_, fun _ => rfl⟩
  have hr1 : (¬ ∃ i, i < n ∧ (100 < bn i ∨ 30 < kn i)) → n ≤ 60 → r = true := fun h1 h2 => hr.2 ⟨h2, fun i hi => by
    rw [← hbn, ← hkn]
    refine ⟨?_, ?_⟩
    · exact Decidable.byContradiction fun h => h1 ⟨i, hi, .inl (by omega)⟩
    · exact Decidable.byContradiction fun h => h1 ⟨i, hi, .inr (by omega)⟩⟩
  have hr2 : ∀ i, i < n → (100 < bn i ∨ 30 < kn i) → r = false := fun i hi h => by
    cases r with
    | false => rfl
    | true =>
      have := (hr.1 rfl).2 i hi
      rw [← hbn, ← hkn] at this; omega
  have hr3 : 60 < n → r = false := fun h => by
    cases r with
    | false => rfl
    | true => have := (hr.1 rfl).1; omega
  clear hr
  have hT : T.Ok P := hP ▸ T_ok
  refine FnTr.intro (fn := Try.f22) (c := bodyOf Try.f22) (by rw [hP]; rfl) rfl rfl hT ?_
  generalize hA : Ar.real = A
  generalize hK : Gives _ _ _ = K
  cbv
  refine LS.le hT hA 0 (fun (i : Nat) => [(3, .int .i64 (i : Int))]) (fun _ => []) (fun i => i ≤ n ∧ ∀ j, j < i → bn j ≤ 100 ∧ kn j ≤ 30) (fun i => n - i) 0 [] rfl rfl ?_ ?_ ?_
  · (try cbv) <;> (repeat' (first | exact trivial | exact rfl | apply And.intro | exact fun _ => rfl | (intro _ hle; first | refine chunk_le hA rfl hle rfl ?_ | refine cat_le hA ?_ | refine upd_le hA ?_ | (try cbv))))
  · exact ⟨Nat.zero_le _, fun j hj => by omega⟩
  · intro R hR i hp
    cbv
    obtain ⟨h1, h2⟩ := hp
    refine ⟨fun h3 => ?_, fun h3 => ?_⟩
    · have hi : i < n := by clear hR hr1 hr2 hr3; subst hA; simp [Ar.real] at h3; omega
      have kn1 : A.nat (Int.ofNat i) = i := by clear hR; subst hA; rfl
      cbv
      refine ⟨(by (subst hA; (try simp only [natCast_eq] at *); (try (simp only [Ar.real, NV.val, Int.ofNat_eq_natCast, Int.toNat_natCast])); first | done | omega | decide | exact inR64 (by omega) (by omega) | (refine ⟨?_, ?_⟩ <;> first | omega | decide | exact inR64 (by omega) (by omega)))), ?_⟩
      by_cases q1 : 100 < bn i
      · have k1 : A.gt (A.i2 ((l (A.nat (Int.ofNat i))).bn)) 100 = true := by rw [kn1, ← hbn]; clear hR; subst hA; simp [Ar.real]; omega
        have hrf := hr2 i hi (.inl q1)
        clear hR hr1 hr2 hr3
        first | refine testR k1 rfl ?_ | refine testL k1 rfl ?_
        cbv
        refine Fin.le hA 0 [] (.bs r) ([]) 0 rfl rfl rfl ?_ ?_ (by rw [← hK]; exact ⟨rfl, rfl, rfl⟩)
        · (try cbv) <;> (repeat' (first | exact trivial | exact rfl | apply And.intro | exact fun _ => rfl | (intro _ hle; first | refine chunk_le hA rfl hle rfl ?_ | refine cat_le hA ?_ | refine upd_le hA ?_ | (try cbv))))
          exact hrf.symm
        · (try cbv) <;> (repeat' (first | exact trivial | exact rfl | apply And.intro | exact fun _ => rfl | (intro _ hle; first | refine chunk_le hA rfl hle rfl ?_ | refine cat_le hA ?_ | refine upd_le hA ?_ | (try cbv))))
      · have k1 : A.gt (A.i2 ((l (A.nat (Int.ofNat i))).bn)) 100 = false := by rw [kn1, ← hbn]; clear hR; subst hA; simp [Ar.real]; omega
        by_cases q2 : 30 < kn i
        · have k2 : A.gt (A.i2 ((l (A.nat (Int.ofNat i))).kn)) 30 = true := by rw [kn1, ← hkn]; clear hR; subst hA; simp [Ar.real]; omega
          have hrf := hr2 i hi (.inr q2)
          clear hR hr1 hr2 hr3
          first | refine testR k1 rfl ?_ | refine testL k1 rfl ?_
          cbv
          refine ⟨(by (subst hA; (try simp only [natCast_eq] at *); (try (simp only [Ar.real, NV.val, Int.ofNat_eq_natCast, Int.toNat_natCast])); first | done | omega | decide | exact inR64 (by omega) (by omega) | (refine ⟨?_, ?_⟩ <;> first | omega | decide | exact inR64 (by omega) (by omega)))), ?_⟩
          first | refine testR k2 rfl ?_ | refine testL k2 rfl ?_
          cbv
          refine Fin.le hA 0 [] (.bs r) ([]) 0 rfl rfl rfl ?_ ?_ (by rw [← hK]; exact ⟨rfl, rfl, rfl⟩)
          · (try cbv) <;> (repeat' (first | exact trivial | exact rfl | apply And.intro | exact fun _ => rfl | (intro _ hle; first | refine chunk_le hA rfl hle rfl ?_ | refine cat_le hA ?_ | refine upd_le hA ?_ | (try cbv))))
            exact hrf.symm
          · (try cbv) <;> (repeat' (first | exact trivial | exact rfl | apply And.intro | exact fun _ => rfl | (intro _ hle; first | refine chunk_le hA rfl hle rfl ?_ | refine cat_le hA ?_ | refine upd_le hA ?_ | (try cbv))))
        · have k2 : A.gt (A.i2 ((l (A.nat (Int.ofNat i))).kn)) 30 = false := by rw [kn1, ← hkn]; clear hR; subst hA; simp [Ar.real]; omega
          first | refine testR k1 rfl ?_ | refine testL k1 rfl ?_
          cbv
          refine ⟨(by (subst hA; (try simp only [natCast_eq] at *); (try (simp only [Ar.real, NV.val, Int.ofNat_eq_natCast, Int.toNat_natCast])); first | done | omega | decide | exact inR64 (by omega) (by omega) | (refine ⟨?_, ?_⟩ <;> first | omega | decide | exact inR64 (by omega) (by omega)))), ?_⟩
          first | refine testR k2 rfl ?_ | refine testL k2 rfl ?_
          cbv
          refine ⟨(by (subst hA; (try simp only [natCast_eq] at *); (try (simp only [Ar.real, NV.val, Int.ofNat_eq_natCast, Int.toNat_natCast])); first | done | omega | decide | exact inR64 (by omega) (by omega) | (refine ⟨?_, ?_⟩ <;> first | omega | decide | exact inR64 (by omega) (by omega)))), hR _ _ ⟨i + 1, 0, [], rfl, rfl, ?_, ⟨hi, fun j hj => ?_⟩, (by show n - (i + 1) < n - i; omega)⟩⟩
          · clear hR
            (try cbv) <;> (repeat' (first | exact trivial | exact rfl | apply And.intro | exact fun _ => rfl | (intro _ hle; first | refine chunk_le hA rfl hle rfl ?_ | refine cat_le hA ?_ | refine upd_le hA ?_ | (try cbv))))
            (subst hA; (try simp only [natCast_eq] at *); (try (simp only [Ar.real, NV.val, Int.ofNat_eq_natCast, Int.toNat_natCast])); first | done | omega | decide | exact inR64 (by omega) (by omega) | (refine ⟨?_, ?_⟩ <;> first | omega | decide | exact inR64 (by omega) (by omega)))
          · rcases Nat.lt_or_ge j i with e | e
            · exact h2 j e
            · rw [show j = i by omega]; omega
    · have hi : i = n := by clear hR hr1 hr2 hr3; subst hA; simp [Ar.real] at h3; omega
      subst hi
      clear hR
      have hno : ¬ ∃ j, j < i ∧ (100 < bn j ∨ 30 < kn j) := fun ⟨j, a, b⟩ => by have := h2 j a; omega
      by_cases q : i ≤ 60
      · have hrt := hr1 hno q
        clear hr1 hr2 hr3
        cbv
        refine Fin.le hA 0 [] (.bs r) ([]) 0 rfl rfl rfl ?_ ?_ (by rw [← hK]; exact ⟨rfl, rfl, rfl⟩)
        · (try cbv) <;> (repeat' (first | exact trivial | exact rfl | apply And.intro | exact fun _ => rfl | (intro _ hle; first | refine chunk_le hA rfl hle rfl ?_ | refine cat_le hA ?_ | refine upd_le hA ?_ | (try cbv))))
          subst hA; rw [hrt]; simp [Ar.real]; omega
        · (try cbv) <;> (repeat' (first | exact trivial | exact rfl | apply And.intro | exact fun _ => rfl | (intro _ hle; first | refine chunk_le hA rfl hle rfl ?_ | refine cat_le hA ?_ | refine upd_le hA ?_ | (try cbv))))
      · have hrf := hr3 (by omega)
        clear hr1 hr2 hr3
        cbv
        refine Fin.le hA 0 [] (.bs r) ([]) 0 rfl rfl rfl ?_ ?_ (by rw [← hK]; exact ⟨rfl, rfl, rfl⟩)
        · (try cbv) <;> (repeat' (first | exact trivial | exact rfl | apply And.intro | exact fun _ => rfl | (intro _ hle; first | refine chunk_le hA rfl hle rfl ?_ | refine cat_le hA ?_ | refine upd_le hA ?_ | (try cbv))))
          subst hA; rw [hrf]; simp [Ar.real]; omega
        · (try cbv) <;> (repeat' (first | exact trivial | exact rfl | apply And.intro | exact fun _ => rfl | (intro _ hle; first | refine chunk_le hA rfl hle rfl ?_ | refine cat_le hA ?_ | refine upd_le hA ?_ | (try cbv))))
theorem seven_fn {P : Program} {G : Gl} (hP : P = Try.prog) {f : Nat → Int} (hf : ∀ i, f i = 7) :
    FnTr P G 50 [] [] 0 (Gives (.sl 0 1 (.l 0) (.l 64)) [(0, .row 5 1 (.l 64) (fun e => [.int .u8 (f e.val)]))] 10) := by
  obtain ⟨fi, hfi⟩ : ∃ fi : Nat → Nat → Int, ∀ i x, fi i x = if x < i then 7 else 0 := ⟨_, fun _ _ => rfl⟩
  have f0 : ∀ x, fi 0 x = 0 := fun x => by rw [hfi, if_neg (by omega)]
  have fS : ∀ i x, fi (i + 1) x = if x = i then 7 else fi i x := fun i x => by
    rw [hfi, hfi]
    by_cases q : x = i
    · rw [if_pos q, if_pos (by omega)]
    · rw [if_neg q]
      by_cases q2 : x < i
      · rw [if_pos q2, if_pos (by omega)]
      · rw [if_neg q2, if_neg (by omega)]
  have fE : ∀ x, x < 64 → fi 64 x = f x := fun x hx => by rw [hfi, if_pos hx, hf]
  clear hfi
  have hT : T.Ok P := hP ▸ T_ok
  refine FnTr.intro (fn := Try.f50) (c := bodyOf Try.f50) (by rw [hP]; rfl) rfl rfl hT ?_
  generalize hA : Ar.real = A
  generalize hK : Gives _ _ _ = K
  cbv
  refine ⟨(by (subst hA; (try simp only [natCast_eq] at *); (try (simp only [Ar.real, NV.val, Int.ofNat_eq_natCast, Int.toNat_natCast])); first | done | omega | decide | exact inR64 (by omega) (by omega) | (refine ⟨?_, ?_⟩ <;> first | omega | decide | exact inR64 (by omega) (by omega)))), ?_⟩
  refine LS.leU hT hA 2 (fun (i : Nat) => [(2, .int .i64 (i : Int))]) [] (fun i => [(1, .row 5 1 (.l 64) (fun e => [.int .u8 (fi i e.val)]))]) (fun i => i ≤ 64) (fun i => 64 - i) 0 [] rfl rfl ?_ ?_ ?_
  · (try cbv) <;> (repeat' (first | exact trivial | exact rfl | apply And.intro | exact fun _ => rfl | (intro _ hle; first | refine chunk_le hA rfl hle rfl ?_ | refine cat_le hA ?_ | refine upd_le hA ?_ | refine int_le ?_ | skip)))
    all_goals first | exact (f0 _).symm | (subst hA; (try simp only [natCast_eq] at *); (try (simp only [Ar.real, NV.val, Int.ofNat_eq_natCast, Int.toNat_natCast])); first | done | omega | decide | exact inR64 (by omega) (by omega) | (refine ⟨?_, ?_⟩ <;> first | omega | decide | exact inR64 (by omega) (by omega)))
  · exact Nat.zero_le _
  · intro R hR i hi
    cbv
    refine ⟨fun q1 => ?_, fun q1 => ?_⟩
    · have him : i < 64 := by clear hR; subst hA; simp [Ar.real] at q1; omega
      have kn : A.nat (Int.ofNat i) = i := by clear hR; subst hA; rfl
      cbv
      have hup : ∀ e, ltNV A e (.l 64) → leL (leSV A 4) (updF A 1 (.s (A.nat (Int.ofNat i))) 0 [.lit .u8 7] (fun e => [.int .u8 (fi i e.val)]) e) [.int .u8 (fi (i + 1) e.val)] := fun e he =>
        Ints.le hA (Ints.upd hA (A.nat (Int.ofNat i)) (v := 7) rfl (Ints.base .u8 (fi i) 64)) he (Nat.le_refl _) (by rw [kn]; exact (fS i _).symm)
      refine ⟨(by (subst hA; (try simp only [natCast_eq] at *); (try (simp only [Ar.real, NV.val, Int.ofNat_eq_natCast, Int.toNat_natCast])); first | done | omega | decide | exact inR64 (by omega) (by omega) | (refine ⟨?_, ?_⟩ <;> first | omega | decide | exact inR64 (by omega) (by omega)))), (by (subst hA; (try simp only [natCast_eq] at *); (try (simp only [Ar.real, NV.val, Int.ofNat_eq_natCast, Int.toNat_natCast])); first | done | omega | decide | exact inR64 (by omega) (by omega) | (refine ⟨?_, ?_⟩ <;> first | omega | decide | exact inR64 (by omega) (by omega)))), (by (subst hA; (try simp only [natCast_eq] at *); (try (simp only [Ar.real, NV.val, Int.ofNat_eq_natCast, Int.toNat_natCast])); first | done | omega | decide | exact inR64 (by omega) (by omega) | (refine ⟨?_, ?_⟩ <;> first | omega | decide | exact inR64 (by omega) (by omega)))), hR _ _ ⟨i + 1, 2, [], rfl, rfl, ?_, him, (by show 64 - (i + 1) < 64 - i; omega)⟩⟩
      clear hR
      (try cbv) <;> (repeat' (first | exact trivial | exact rfl | apply And.intro | exact fun _ => rfl | (intro _ hle; first | exact hup _ hle | refine chunk_le hA rfl hle rfl ?_ | refine cat_le hA ?_ | refine upd_le hA ?_ | refine int_le ?_ | skip)))
      all_goals (subst hA; (try simp only [natCast_eq] at *); (try (simp only [Ar.real, NV.val, Int.ofNat_eq_natCast, Int.toNat_natCast])); first | done | omega | decide | exact inR64 (by omega) (by omega) | (refine ⟨?_, ?_⟩ <;> first | omega | decide | exact inR64 (by omega) (by omega)))
    · have him : i = 64 := by clear hR; subst hA; simp [Ar.real] at q1; omega
      subst him
      clear hR
      have hp2 : ∀ e, ltNV A e (.l 64) → leL (leSV A 4) [.int .u8 (fi 64 e.val)] [.int .u8 (f e.val)] := fun e he => by
        refine int_le ?_
        exact fE _ (by subst hA; exact ltNV_real.1 he)
      cbv
      refine Fin.le hA 0 [(1, 0)] (.sl 0 1 (.l 0) (.l 64)) [(0, .row 5 1 (.l 64) (fun e => [.int .u8 (f e.val)]))] 10 rfl rfl rfl ?_ ?_ (by rw [← hK]; exact ⟨rfl, rfl, rfl⟩)
      · (try cbv) <;> (repeat' (first | exact trivial | exact rfl | apply And.intro | exact fun _ => rfl | (intro _ hle; first | refine chunk_le hA rfl hle rfl ?_ | refine cat_le hA ?_ | refine upd_le hA ?_ | (try cbv))))
      · (try cbv) <;> (repeat' (first | exact trivial | exact rfl | apply And.intro | exact fun _ => rfl | (intro _ hle; first | exact hp2 _ hle | refine chunk_le hA rfl hle rfl ?_ | refine cat_le hA ?_ | refine upd_le hA ?_ | refine int_le ?_ | skip)))
theorem flush_nil' {P : Program} {G : Gl} (hP : P = Try.prog) : FnTr P G 17 [.nilp] [] 0 (Gives (.lit .i64 7) [] 0) := flush_nil hP
theorem kept1 {A : Ar} (hA : Ar.real = A) {e N : NV} {ks kb : Nat → Int} {d : Nat} (h : ltNV A e N) (hN : N.val = 1) (hks : ∀ x, ks x = 1) (hkb : ∀ x, kb x = 3) : leL (leSV A (d + 1)) (chunkS A 2 [.lit .i64 1, .lit .i64 3] (addNV A (.l 0) e)) [.int .i64 (ks e.val), .int .i64 (kb e.val)] := by
  subst hA
  have h0 : e.val < 1 := by have := ltNV_real.1 h; omega
  have e1 : chunkS Ar.real 2 [.lit .i64 1, .lit .i64 3] (addNV Ar.real (.l 0) e) = [.lit .i64 1, .lit .i64 3] := by
    cases e with
    | l k => have : k = 0 := by simp only [NV.val] at h0; omega
             subst this; rfl
    | s k => have : k = 0 := by simp only [NV.val] at h0; omega
             subst this; rfl
  rw [e1, hks, hkb]
  exact ⟨rfl, rfl, trivial⟩
theorem one9i {A : Ar} (hA : Ar.real = A) {e : NV} {g : Nat → Int} {N : NV} (h : ltNV A e N) (hN : N.val = 1 := by rfl) (h9 : ∀ x, g x = 1) : g e.val = [(1 : Int)].getD e.val 0 := by
  have : e.val < 1 := by subst hA; have := ltNV_real.1 h; omega
  rw [h9, show e.val = 0 by omega]; rfl
theorem lives25_fn {P : Program} {G : Gl} (hP : P = Try.prog) : FnTr P G 23 [] [] 0 (Gives (.bl true) [] 900) := by
  obtain ⟨z, hz⟩ : ∃ z : Nat → Int, ∀ x, z x = 0 := ⟨fun _ => 0, fun _ => rfl⟩
  obtain ⟨sv, hsv⟩ : ∃ sv : Nat → Int, ∀ x, sv x = 7 := ⟨fun _ => 7, fun _ => rfl⟩
  obtain ⟨L0, hL0⟩ : ∃ L0 : Int → Option (Nat → Int), ∀ k, L0 k = none := ⟨fun _ => none, fun _ => rfl⟩
  obtain ⟨L1, hL1⟩ : ∃ L1 : Int → Option (Nat → Int), ∀ k, L1 k = if k = ((1 : Nat) : Int) then some sv else L0 k := ⟨_, fun _ => rfl⟩
  obtain ⟨ks, hks⟩ : ∃ ks : Nat → Int, ∀ x, ks x = 1 := ⟨fun _ => 1, fun _ => rfl⟩
  obtain ⟨kb, hkb⟩ : ∃ kb : Nat → Int, ∀ x, kb x = 3 := ⟨fun _ => 3, fun _ => rfl⟩
  obtain ⟨S1, hS1⟩ : ∃ S1 : Nat → Int, ∀ x, S1 x = (crashP z L1 ks kb 1).1 x := ⟨_, fun _ => rfl⟩
  have hkey : ∀ k g, L1 k = some g → 0 ≤ k ∧ k < ((2 : Nat) : Int) := fun k g h => by
    rw [hL1] at h
    by_cases q : k = ((1 : Nat) : Int)
    · subst q; decide
    · rw [if_neg q, hL0] at h; cases h
  have off : ¬ (false = true ∧ (0 : Int) = 0) := fun h => by cases h.1
  have hS66 : S1 (64 * 1 + 2) = 7 ∧ S1 (64 * 1 + 3) = 0 := by
    have e := (DskLaw.crashP_eq (S := z) (L := L1) (ks := ks) (kb := kb) (fun k g h => (hkey k g h).1) 1).2
    have hl : L1 ((1 : Nat) : Int) = some sv := by rw [hL1, if_pos rfl]
    have hk : DskLaw.keptB ks kb ((1 : Nat) : Int) 1 = some 3 := by
      show (if ks 0 = ((1 : Nat) : Int) then some (DskLaw.clampB (kb 0)) else none) = some 3
      rw [hks, hkb]; rfl
    refine ⟨?_, ?_⟩
    · rw [hS1, e 1 2 (by omega)]
      unfold DskLaw.secC; rw [hl, hk]; exact hsv 2
    · rw [hS1, e 1 3 (by omega)]
      unfold DskLaw.secC; rw [hl, hk]
      show (if 3 < 3 then sv 3 else z (64 * 1 + 3)) = 0
      rw [if_neg (by omega), hz]
  obtain ⟨v, hv⟩ : ∃ v : Nat → Int, v = secV S1 L0 1 := ⟨_, rfl⟩
  have hv2 : v 2 = 7 := by rw [hv, DskLaw.secV_none' (hL0 _)]; exact hS66.1
  have hv3 : v 3 = 0 := by rw [hv, DskLaw.secV_none' (hL0 _)]; exact hS66.2
  obtain ⟨g1, hg1⟩ : ∃ g : Nat → Int, ∀ i, g i = 1 := ⟨fun _ => 1, fun _ => rfl⟩
  obtain ⟨im, him⟩ : ∃ im : Nat → Int, ∀ x, im x = secV S1 L0 (x / 64) (x % 64) := ⟨_, fun _ => rfl⟩
  have c1 := new_ok (P := P) (G := G) (n := 2) (s := 2) (N := 128) (S := z) (L := L0) hP rfl (by omega) rfl hz hL0
  have c2 := seven_fn (P := P) (G := G) hP hsv
  have c3 := write_ok (P := P) (G := G) (N := 128) (s := 2) (n := 64) (i := 1) (S := z) (f := sv) (L := L0) (L' := L1) (ar := false) (ca := 0) (ca' := 0) hP off rfl (by omega) (by omega) rfl hL1 rfl (by omega)
  have c4 := waits_fn (P := P) (G := G) (N := 128) (s := 2) (n := 1) (S := z) (g := g1) (L := L1) (ar := false) (ca := 0) hP (by omega) hkey ⟨⟨fun i hi => ⟨sv, by rw [hg1, hL1]; exact if_pos rfl⟩, fun k g h => ⟨0, by omega, by
      rw [hg1]
      rw [hL1] at h
      by_cases q : k = ((1 : Nat) : Int)
      · exact q.symm
      · rw [if_neg q, hL0] at h; cases h⟩, fun i j hi hj _ => by omega⟩, fun u v h1 h2 => by omega⟩
  have c5 := crash_fn (P := P) (G := G) (N := 128) (s := 2) (n := 1) (S := z) (S' := S1) (L := L1) (L' := L0) (ar := false) (ca := 0) (ks := ks) (kb := kb) hP rfl (by omega) (by omega) hkey (fun x _ => hS1 x) hL0
  have c6 := read_fn (P := P) (G := G) (N := 128) (s := 2) (i := 1) (S := S1) (v := v) (L := L0) (ar := false) (ca := 0) hP off rfl (by omega) (by omega) hv
  have c7 := stop_fn (P := P) (G := G) (N := 128) (S := S1) (L := L0) (ar := false) (ar' := true) (ca := 0) (ca' := 1) (n := 1) hP (.inr ⟨off, ⟨fun _ => by decide, fun _ => rfl⟩, rfl⟩)
  have c8 := flush_ok (P := P) (G := G) (N := 128) (s := 2) (S := S1) (S' := S1) (L := L0) (L' := L0) (ar := true) (ca := 1) (ca' := 0) hP (fun h => by have := h.2; omega) rfl (by omega) rfl (by omega) (fun k g h => by rw [hL0] at h; cases h) (fun x _ => by rw [DskLaw.secV_none' (hL0 _)]; congr 1; omega) hL0
  have c9 := flush_off (P := P) (G := G) (N := 128) (S := S1) (L := L0) (ar := true) (ca := 0) hP ⟨rfl, rfl⟩
  have c10 := of_bad (P := P) (G := G) (n := 65) (f := z) hP (by omega) (by omega)
  have c11 := same01_fn (P := P) (G := G) (n := 1) (m := 1) (f := g1) (g := g1) (r := true) hP (by omega) (by omega) ⟨fun _ => ⟨rfl, fun _ _ => rfl⟩, fun _ => rfl⟩
  have c12 := off_fn (P := P) (G := G) (N := 128) (S := S1) (L := L0) (ar := true) (ca := 0) (r := true) hP ⟨fun _ => ⟨rfl, rfl⟩, fun _ => rfl⟩
  have c13 := len_fn (P := P) (G := G) (N := 128) (s := 2) (S := S1) (L := L0) (ar := true) (ca := 0) hP rfl (by omega)
  have c14 := flush_nil (P := P) (G := G) hP
  have c15 := off_nil (P := P) (G := G) hP
  have c16 := image_fn (P := P) (G := G) (N := 128) (s := 2) (S := S1) (g := im) (L := L0) (ar := true) (ca := 0) hP rfl (by omega) him
  clear hL0 hL1 hS1 hkey hS66 hv him
  have hT : T.Ok P := hP ▸ T_ok
  refine FnTr.intro (fn := Try.f23) (c := bodyOf Try.f23) (by rw [hP]; rfl) rfl rfl hT ?_
  generalize hA : Ar.real = A
  generalize hK : Gives _ _ _ = K
  cbv
  have hk1 : ∀ e, ltNV A e (.l 1) → leL (leSV A 3) (chunkS A 2 [.lit .i64 1, .lit .i64 3] (addNV A (.l 0) e)) [.int .i64 (ks e.val), .int .i64 (kb e.val)] := fun e he => kept1 hA he rfl hks hkb
  refine CS.le hA (c1) [] rfl rfl rfl ?_ ?_ ?_
  · (try cbv) <;> (repeat' (first | exact trivial | exact rfl | apply And.intro | exact fun _ => rfl | (intro _ hle; first | refine chunk_le hA rfl hle rfl ?_ | refine cat_le hA ?_ | refine upd_le hA ?_ | (try cbv)))) <;> (try (subst hA; (try simp only [natCast_eq] at *); (try (simp only [Ar.real, NV.val, Int.ofNat_eq_natCast, Int.toNat_natCast])); first | done | omega | decide | exact inR64 (by omega) (by omega) | (refine ⟨?_, ?_⟩ <;> first | omega | decide | exact inR64 (by omega) (by omega))))
  · (try cbv) <;> (repeat' (first | exact trivial | exact rfl | apply And.intro | exact fun _ => rfl | (intro _ hle; first | refine chunk_le hA rfl hle rfl ?_ | refine cat_le hA ?_ | refine upd_le hA ?_ | (try cbv))))
  cbv
  refine CS.le hA (c2) [] rfl rfl rfl ?_ ?_ ?_
  · (try cbv) <;> (repeat' (first | exact trivial | exact rfl | apply And.intro | exact fun _ => rfl | (intro _ hle; first | refine chunk_le hA rfl hle rfl ?_ | refine cat_le hA ?_ | refine upd_le hA ?_ | (try cbv)))) <;> (try (subst hA; (try simp only [natCast_eq] at *); (try (simp only [Ar.real, NV.val, Int.ofNat_eq_natCast, Int.toNat_natCast])); first | done | omega | decide | exact inR64 (by omega) (by omega) | (refine ⟨?_, ?_⟩ <;> first | omega | decide | exact inR64 (by omega) (by omega))))
  · (try cbv) <;> (repeat' (first | exact trivial | exact rfl | apply And.intro | exact fun _ => rfl | (intro _ hle; first | refine chunk_le hA rfl hle rfl ?_ | refine cat_le hA ?_ | refine upd_le hA ?_ | (try cbv))))
  cbv
  refine CS.frzA hA (by (try cbv) <;> (repeat' (first | exact trivial | exact rfl | apply And.intro | exact fun _ => rfl | (intro _ hle; first | refine chunk_le hA rfl hle rfl ?_ | refine cat_le hA ?_ | refine upd_le hA ?_ | (try cbv)))); all_goals (subst hA; (try simp only [natCast_eq] at *); (try (simp only [Ar.real, NV.val, Int.ofNat_eq_natCast, Int.toNat_natCast])); first | done | omega | decide | exact inR64 (by omega) (by omega) | (refine ⟨?_, ?_⟩ <;> first | omega | decide | exact inR64 (by omega) (by omega)))) ?_
  cbv
  refine CS.le hA (c3) [(1, 0), (2, 1), (3, 2)] rfl rfl rfl ?_ ?_ ?_
  · (try cbv) <;> (repeat' (first | exact trivial | exact rfl | apply And.intro | exact fun _ => rfl | (intro _ hle; first | refine chunk_le hA rfl hle rfl ?_ | refine cat_le hA ?_ | refine upd_le hA ?_ | (try cbv)))) <;> (try (subst hA; (try simp only [natCast_eq] at *); (try (simp only [Ar.real, NV.val, Int.ofNat_eq_natCast, Int.toNat_natCast])); first | done | omega | decide | exact inR64 (by omega) (by omega) | (refine ⟨?_, ?_⟩ <;> first | omega | decide | exact inR64 (by omega) (by omega))))
  · (try cbv) <;> (repeat' (first | exact trivial | exact rfl | apply And.intro | exact fun _ => rfl | (intro _ hle; first | refine chunk_le hA rfl hle rfl ?_ | refine cat_le hA ?_ | refine upd_le hA ?_ | (try cbv))))
  cbv
  refine CS.le hA (c4) [(1, 0), (2, 1), (3, 2)] rfl rfl rfl ?_ ?_ ?_
  · (try cbv) <;> (repeat' (first | exact trivial | exact rfl | apply And.intro | exact fun _ => rfl | (intro _ hle; first | refine chunk_le hA rfl hle rfl ?_ | refine cat_le hA ?_ | refine upd_le hA ?_ | (try cbv)))) <;> (try (subst hA; (try simp only [natCast_eq] at *); (try (simp only [Ar.real, NV.val, Int.ofNat_eq_natCast, Int.toNat_natCast])); first | done | omega | decide | exact inR64 (by omega) (by omega) | (refine ⟨?_, ?_⟩ <;> first | omega | decide | exact inR64 (by omega) (by omega))))
  · (try cbv) <;> (repeat' (first | exact trivial | exact rfl | apply And.intro | exact fun _ => rfl | (intro _ hle; first | refine chunk_le hA rfl hle rfl ?_ | refine cat_le hA ?_ | refine upd_le hA ?_ | (try cbv))))
  cbv
  refine CS.frzA hA (by (try cbv) <;> (repeat' (first | exact trivial | exact rfl | apply And.intro | exact fun _ => rfl | (intro _ hle; first | refine chunk_le hA rfl hle rfl ?_ | refine cat_le hA ?_ | refine upd_le hA ?_ | (try cbv)))); all_goals (subst hA; (try simp only [natCast_eq] at *); (try (simp only [Ar.real, NV.val, Int.ofNat_eq_natCast, Int.toNat_natCast])); first | done | omega | decide | exact inR64 (by omega) (by omega) | (refine ⟨?_, ?_⟩ <;> first | omega | decide | exact inR64 (by omega) (by omega)))) ?_
  cbv
  refine CS.le hA c5 [(1, 0), (2, 1), (3, 2)] rfl rfl rfl ?_ ?_ ?_
  · (try cbv) <;> (repeat' (first | exact trivial | exact rfl | apply And.intro | exact fun _ => rfl | (intro _ hle; first | exact hk1 _ hle | refine chunk_le hA rfl hle rfl ?_ | refine cat_le hA ?_ | refine upd_le hA ?_ | refine int_le ?_ | skip)))
  · (try cbv) <;> (repeat' (first | exact trivial | exact rfl | apply And.intro | exact fun _ => rfl | (intro _ hle; first | refine chunk_le hA rfl hle rfl ?_ | refine cat_le hA ?_ | refine upd_le hA ?_ | (try cbv))))
  cbv
  refine CS.le hA (c6) [(1, 0), (2, 1), (3, 2)] rfl rfl rfl ?_ ?_ ?_
  · (try cbv) <;> (repeat' (first | exact trivial | exact rfl | apply And.intro | exact fun _ => rfl | (intro _ hle; first | refine chunk_le hA rfl hle rfl ?_ | refine cat_le hA ?_ | refine upd_le hA ?_ | (try cbv)))) <;> (try (subst hA; (try simp only [natCast_eq] at *); (try (simp only [Ar.real, NV.val, Int.ofNat_eq_natCast, Int.toNat_natCast])); first | done | omega | decide | exact inR64 (by omega) (by omega) | (refine ⟨?_, ?_⟩ <;> first | omega | decide | exact inR64 (by omega) (by omega))))
  · (try cbv) <;> (repeat' (first | exact trivial | exact rfl | apply And.intro | exact fun _ => rfl | (intro _ hle; first | refine chunk_le hA rfl hle rfl ?_ | refine cat_le hA ?_ | refine upd_le hA ?_ | (try cbv))))
  cbv
  refine CS.le hA (c7) [(1, 0), (2, 1), (3, 2)] rfl rfl rfl ?_ ?_ ?_
  · (try cbv) <;> (repeat' (first | exact trivial | exact rfl | apply And.intro | exact fun _ => rfl | (intro _ hle; first | refine chunk_le hA rfl hle rfl ?_ | refine cat_le hA ?_ | refine upd_le hA ?_ | (try cbv)))) <;> (try (subst hA; (try simp only [natCast_eq] at *); (try (simp only [Ar.real, NV.val, Int.ofNat_eq_natCast, Int.toNat_natCast])); first | done | omega | decide | exact inR64 (by omega) (by omega) | (refine ⟨?_, ?_⟩ <;> first | omega | decide | exact inR64 (by omega) (by omega))))
  · (try cbv) <;> (repeat' (first | exact trivial | exact rfl | apply And.intro | exact fun _ => rfl | (intro _ hle; first | refine chunk_le hA rfl hle rfl ?_ | refine cat_le hA ?_ | refine upd_le hA ?_ | (try cbv))))
  cbv
  refine CS.le hA (c8) [(1, 0), (2, 1), (3, 2)] rfl rfl rfl ?_ ?_ ?_
  · (try cbv) <;> (repeat' (first | exact trivial | exact rfl | apply And.intro | exact fun _ => rfl | (intro _ hle; first | refine chunk_le hA rfl hle rfl ?_ | refine cat_le hA ?_ | refine upd_le hA ?_ | (try cbv)))) <;> (try (subst hA; (try simp only [natCast_eq] at *); (try (simp only [Ar.real, NV.val, Int.ofNat_eq_natCast, Int.toNat_natCast])); first | done | omega | decide | exact inR64 (by omega) (by omega) | (refine ⟨?_, ?_⟩ <;> first | omega | decide | exact inR64 (by omega) (by omega))))
  · (try cbv) <;> (repeat' (first | exact trivial | exact rfl | apply And.intro | exact fun _ => rfl | (intro _ hle; first | refine chunk_le hA rfl hle rfl ?_ | refine cat_le hA ?_ | refine upd_le hA ?_ | (try cbv))))
  cbv
  refine CS.le hA (c9) [(1, 0), (2, 1), (3, 2)] rfl rfl rfl ?_ ?_ ?_
  · (try cbv) <;> (repeat' (first | exact trivial | exact rfl | apply And.intro | exact fun _ => rfl | (intro _ hle; first | refine chunk_le hA rfl hle rfl ?_ | refine cat_le hA ?_ | refine upd_le hA ?_ | (try cbv)))) <;> (try (subst hA; (try simp only [natCast_eq] at *); (try (simp only [Ar.real, NV.val, Int.ofNat_eq_natCast, Int.toNat_natCast])); first | done | omega | decide | exact inR64 (by omega) (by omega) | (refine ⟨?_, ?_⟩ <;> first | omega | decide | exact inR64 (by omega) (by omega))))
  · (try cbv) <;> (repeat' (first | exact trivial | exact rfl | apply And.intro | exact fun _ => rfl | (intro _ hle; first | refine chunk_le hA rfl hle rfl ?_ | refine cat_le hA ?_ | refine upd_le hA ?_ | (try cbv))))
  cbv
  refine ⟨(by (subst hA; (try simp only [natCast_eq] at *); (try (simp only [Ar.real, NV.val, Int.ofNat_eq_natCast, Int.toNat_natCast])); first | done | omega | decide | exact inR64 (by omega) (by omega) | (refine ⟨?_, ?_⟩ <;> first | omega | decide | exact inR64 (by omega) (by omega)))), ?_⟩
  refine CS.frzA hA (by (try cbv) <;> (repeat' (first | exact trivial | exact rfl | apply And.intro | exact fun _ => rfl | (intro _ hle; first | refine chunk_le hA rfl hle rfl ?_ | refine cat_le hA ?_ | refine upd_le hA ?_ | (try cbv)))); all_goals (subst hA; (try simp only [natCast_eq] at *); (try (simp only [Ar.real, NV.val, Int.ofNat_eq_natCast, Int.toNat_natCast])); first | done | omega | decide | exact inR64 (by omega) (by omega) | (refine ⟨?_, ?_⟩ <;> first | omega | decide | exact inR64 (by omega) (by omega)))) ?_
  cbv
  refine CS.le hA c10 [] rfl rfl rfl ?_ ?_ ?_
  · (try cbv) <;> (repeat' (first | exact trivial | exact rfl | apply And.intro | exact fun _ => rfl | (intro _ hle; first | refine chunk_le hA rfl hle rfl ?_ | refine cat_le hA ?_ | refine upd_le hA ?_ | (try cbv))))
    all_goals exact (hz _).symm
  · (try cbv) <;> (repeat' (first | exact trivial | exact rfl | apply And.intro | exact fun _ => rfl | (intro _ hle; first | refine chunk_le hA rfl hle rfl ?_ | refine cat_le hA ?_ | refine upd_le hA ?_ | (try cbv))))
  cbv
  refine CS.frzA hA (by (try cbv) <;> (repeat' (first | exact trivial | exact rfl | apply And.intro | exact fun _ => rfl | (intro _ hle; first | refine chunk_le hA rfl hle rfl ?_ | refine cat_le hA ?_ | refine upd_le hA ?_ | (try cbv)))); all_goals (subst hA; (try simp only [natCast_eq] at *); (try (simp only [Ar.real, NV.val, Int.ofNat_eq_natCast, Int.toNat_natCast])); first | done | omega | decide | exact inR64 (by omega) (by omega) | (refine ⟨?_, ?_⟩ <;> first | omega | decide | exact inR64 (by omega) (by omega)))) ?_
  cbv
  refine CS.leR hA c11 (.bl true) [] rfl rfl rfl ?_ ?_ ?_ ?_
  · (try cbv) <;> (repeat' (first | exact trivial | exact rfl | apply And.intro | exact fun _ => rfl | (intro _ hle; first | refine chunk_le hA rfl hle rfl ?_ | refine cat_le hA ?_ | refine upd_le hA ?_ | (try cbv))))
    all_goals exact one9i hA hle rfl hg1
  · (try cbv) <;> (repeat' (first | exact trivial | exact rfl | apply And.intro | exact fun _ => rfl | (intro _ hle; first | refine chunk_le hA rfl hle rfl ?_ | refine cat_le hA ?_ | refine upd_le hA ?_ | (try cbv))))
  · (try cbv) <;> (repeat' (first | exact trivial | exact rfl | apply And.intro | exact fun _ => rfl | (intro _ hle; first | refine chunk_le hA rfl hle rfl ?_ | refine cat_le hA ?_ | refine upd_le hA ?_ | (try cbv))))
  cbv
  have k2 : A.eq (v 2) 7 = true := by rw [hv2]; subst hA; rfl
  have k3 : A.eq (v 3) 0 = true := by rw [hv3]; subst hA; rfl
  first | refine testR k2 rfl ?_ | refine testL k2 rfl ?_
  cbv
  first | refine testR k3 rfl ?_ | refine testL k3 rfl ?_
  cbv
  refine CS.leR hA (c12) (.bl true) [(1, 0), (2, 1), (3, 2)] rfl rfl rfl ?_ ?_ ?_ ?_
  · (try cbv) <;> (repeat' (first | exact trivial | exact rfl | apply And.intro | exact fun _ => rfl | (intro _ hle; first | refine chunk_le hA rfl hle rfl ?_ | refine cat_le hA ?_ | refine upd_le hA ?_ | (try cbv)))) <;> (try (subst hA; (try simp only [natCast_eq] at *); (try (simp only [Ar.real, NV.val, Int.ofNat_eq_natCast, Int.toNat_natCast])); first | done | omega | decide | exact inR64 (by omega) (by omega) | (refine ⟨?_, ?_⟩ <;> first | omega | decide | exact inR64 (by omega) (by omega))))
  · (try cbv) <;> (repeat' (first | exact trivial | exact rfl | apply And.intro | exact fun _ => rfl | (intro _ hle; first | refine chunk_le hA rfl hle rfl ?_ | refine cat_le hA ?_ | refine upd_le hA ?_ | (try cbv)))) <;> (try (subst hA; (try simp only [natCast_eq] at *); (try (simp only [Ar.real, NV.val, Int.ofNat_eq_natCast, Int.toNat_natCast])); first | done | omega | decide | exact inR64 (by omega) (by omega) | (refine ⟨?_, ?_⟩ <;> first | omega | decide | exact inR64 (by omega) (by omega))))
  · (try cbv) <;> (repeat' (first | exact trivial | exact rfl | apply And.intro | exact fun _ => rfl | (intro _ hle; first | refine chunk_le hA rfl hle rfl ?_ | refine cat_le hA ?_ | refine upd_le hA ?_ | (try cbv))))
  cbv
  refine CS.leR hA (c13) (.lit .i64 2) [(1, 0), (2, 1), (3, 2)] rfl rfl rfl ?_ ?_ ?_ ?_
  · (try cbv) <;> (repeat' (first | exact trivial | exact rfl | apply And.intro | exact fun _ => rfl | (intro _ hle; first | refine chunk_le hA rfl hle rfl ?_ | refine cat_le hA ?_ | refine upd_le hA ?_ | (try cbv)))) <;> (try (subst hA; (try simp only [natCast_eq] at *); (try (simp only [Ar.real, NV.val, Int.ofNat_eq_natCast, Int.toNat_natCast])); first | done | omega | decide | exact inR64 (by omega) (by omega) | (refine ⟨?_, ?_⟩ <;> first | omega | decide | exact inR64 (by omega) (by omega))))
  · (try cbv) <;> (repeat' (first | exact trivial | exact rfl | apply And.intro | exact fun _ => rfl | (intro _ hle; first | refine chunk_le hA rfl hle rfl ?_ | refine cat_le hA ?_ | refine upd_le hA ?_ | (try cbv)))) <;> (try (subst hA; (try simp only [natCast_eq] at *); (try (simp only [Ar.real, NV.val, Int.ofNat_eq_natCast, Int.toNat_natCast])); first | done | omega | decide | exact inR64 (by omega) (by omega) | (refine ⟨?_, ?_⟩ <;> first | omega | decide | exact inR64 (by omega) (by omega))))
  · (try cbv) <;> (repeat' (first | exact trivial | exact rfl | apply And.intro | exact fun _ => rfl | (intro _ hle; first | refine chunk_le hA rfl hle rfl ?_ | refine cat_le hA ?_ | refine upd_le hA ?_ | (try cbv))))
  cbv
  refine CS.le hA (c14) [] rfl rfl rfl ?_ ?_ ?_
  · (try cbv) <;> (repeat' (first | exact trivial | exact rfl | apply And.intro | exact fun _ => rfl | (intro _ hle; first | refine chunk_le hA rfl hle rfl ?_ | refine cat_le hA ?_ | refine upd_le hA ?_ | (try cbv)))) <;> (try (subst hA; (try simp only [natCast_eq] at *); (try (simp only [Ar.real, NV.val, Int.ofNat_eq_natCast, Int.toNat_natCast])); first | done | omega | decide | exact inR64 (by omega) (by omega) | (refine ⟨?_, ?_⟩ <;> first | omega | decide | exact inR64 (by omega) (by omega))))
  · (try cbv) <;> (repeat' (first | exact trivial | exact rfl | apply And.intro | exact fun _ => rfl | (intro _ hle; first | refine chunk_le hA rfl hle rfl ?_ | refine cat_le hA ?_ | refine upd_le hA ?_ | (try cbv))))
  cbv
  refine CS.le hA (c15) [] rfl rfl rfl ?_ ?_ ?_
  · (try cbv) <;> (repeat' (first | exact trivial | exact rfl | apply And.intro | exact fun _ => rfl | (intro _ hle; first | refine chunk_le hA rfl hle rfl ?_ | refine cat_le hA ?_ | refine upd_le hA ?_ | (try cbv)))) <;> (try (subst hA; (try simp only [natCast_eq] at *); (try (simp only [Ar.real, NV.val, Int.ofNat_eq_natCast, Int.toNat_natCast])); first | done | omega | decide | exact inR64 (by omega) (by omega) | (refine ⟨?_, ?_⟩ <;> first | omega | decide | exact inR64 (by omega) (by omega))))
  · (try cbv) <;> (repeat' (first | exact trivial | exact rfl | apply And.intro | exact fun _ => rfl | (intro _ hle; first | refine chunk_le hA rfl hle rfl ?_ | refine cat_le hA ?_ | refine upd_le hA ?_ | (try cbv))))
  cbv
  refine CS.leR hA (c16) (.ro 1 (.l 128) (fun _ => [.any])) [(1, 0), (2, 1), (3, 2)] rfl rfl rfl ?_ ?_ ?_ ?_
  · (try cbv) <;> (repeat' (first | exact trivial | exact rfl | apply And.intro | exact fun _ => rfl | (intro _ hle; first | refine chunk_le hA rfl hle rfl ?_ | refine cat_le hA ?_ | refine upd_le hA ?_ | (try cbv)))) <;> (try (subst hA; (try simp only [natCast_eq] at *); (try (simp only [Ar.real, NV.val, Int.ofNat_eq_natCast, Int.toNat_natCast])); first | done | omega | decide | exact inR64 (by omega) (by omega) | (refine ⟨?_, ?_⟩ <;> first | omega | decide | exact inR64 (by omega) (by omega))))
  · (try cbv) <;> (repeat' (first | exact trivial | exact rfl | apply And.intro | exact fun _ => rfl | (intro _ hle; first | refine chunk_le hA rfl hle rfl ?_ | refine cat_le hA ?_ | refine upd_le hA ?_ | (try cbv)))) <;> (try (subst hA; (try simp only [natCast_eq] at *); (try (simp only [Ar.real, NV.val, Int.ofNat_eq_natCast, Int.toNat_natCast])); first | done | omega | decide | exact inR64 (by omega) (by omega) | (refine ⟨?_, ?_⟩ <;> first | omega | decide | exact inR64 (by omega) (by omega))))
  · (try cbv) <;> (repeat' (first | exact trivial | exact rfl | apply And.intro | exact fun _ => rfl | (intro _ hle; first | refine chunk_le hA rfl hle rfl ?_ | refine cat_le hA ?_ | refine upd_le hA ?_ | (try cbv))))
  cbv
  refine Fin.le hA 0 [] (.bl true) ([]) 900 rfl rfl rfl ?_ ?_ (by rw [← hK]; exact ⟨rfl, rfl, rfl⟩)
  · (try cbv) <;> (repeat' (first | exact trivial | exact rfl | apply And.intro | exact fun _ => rfl | (intro _ hle; first | refine chunk_le hA rfl hle rfl ?_ | refine cat_le hA ?_ | refine upd_le hA ?_ | (try cbv))))
  · (try cbv) <;> (repeat' (first | exact trivial | exact rfl | apply And.intro | exact fun _ => rfl | (intro _ hle; first | refine chunk_le hA rfl hle rfl ?_ | refine cat_le hA ?_ | refine upd_le hA ?_ | (try cbv))))
end Go.Proofs.Ytnjjgipblimbfaa.Dsk
