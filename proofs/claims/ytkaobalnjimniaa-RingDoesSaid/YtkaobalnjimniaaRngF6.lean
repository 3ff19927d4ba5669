/-
  Rings: the last event with a number, both.
-/
import Derived.Test.YtkaobalnjimniaaRngF5
set_option linter.unusedVariables false
set_option linter.unusedSimpArgs false
namespace Go.Proofs.Ytkaobalnjimniaa.Rng
open Go.Eng
open Go.RngLaw (Sn sn zSn rgP manyC firstC)
set_option maxRecDepth 100000
set_option maxHeartbeats 4000000
set_option linter.unusedVariables false

def FindIs (m : Nat) (g : Nat → Sn) (id r : Int) (ok : Bool) : Prop :=
  (ok = true ∧ ∃ i : Nat, i < m ∧ (g i).id = id ∧ r = (i : Int) ∧ ∀ j, i < j → j < m → (g j).id ≠ id) ∨ (ok = false ∧ r = 0 ∧ ∀ j, j < m → (g j).id ≠ id)
theorem findIs_ex (m : Nat) (g : Nat → Sn) (id : Int) : ∃ r ok, FindIs m g id r ok := by
  induction m with
  | zero => exact ⟨0, false, .inr ⟨rfl, rfl, fun j hj => by omega⟩⟩
  | succ m ih =>
    by_cases h : (g m).id = id
    · exact ⟨_, true, .inl ⟨rfl, m, by omega, h, rfl, fun j h1 h2 => by omega⟩⟩
    · obtain ⟨r, ok, hr⟩ := ih
      refine ⟨r, ok, ?_⟩
      rcases hr with ⟨h1, i, h2, h3, h4, h5⟩ | ⟨h1, h2, h3⟩
      · refine .inl ⟨h1, i, by omega, h3, h4, fun j hj hj2 => ?_⟩
        by_cases e : j = m
        · rw [e]; exact h
        · exact h5 j hj (by omega)
      · refine .inr ⟨h1, h2, fun j hj => ?_⟩
        by_cases e : j = m
        · rw [e]; exact h
        · exact h3 j (by omega)
theorem FindIs.at {m : Nat} {g : Nat → Sn} {id r : Int} {ok : Bool} (h : FindIs m g id r ok) {i : Nat} (hi : i < m) (h1 : (g i).id = id) (h2 : ∀ j, i < j → j < m → (g j).id ≠ id) : r = (i : Int) ∧ ok = true := by
  rcases h with ⟨h3, k, h4, h5, h6, h7⟩ | ⟨_, _, h3⟩
  · have : i = k := by
      by_cases e1 : i < k
      · exact absurd h5 (h2 k e1 h4)
      · by_cases e2 : k < i
        · exact absurd h1 (h7 i e2 hi)
        · omega
    subst this
    exact ⟨h6, h3⟩
  · exact absurd h1 (h3 i hi)
theorem FindIs.none {m : Nat} {g : Nat → Sn} {id r : Int} {ok : Bool} (h : FindIs m g id r ok) (h2 : ∀ j, j < m → (g j).id ≠ id) : r = 0 ∧ ok = false := by
  rcases h with ⟨h3, k, h4, h5, h6, h7⟩ | ⟨h1, h3, _⟩
  · exact absurd h5 (h2 k h4)
  · exact ⟨h3, h1⟩

theorem find_fn {P : Program} {G : Gl} (hP : P = Try.prog) {room a m : Nat} {pl g : Nat → Sn} {id r : Int} {ok : Bool} (h : room ≤ 1000 ∧ a < room ∧ m ≤ room) (hg : ∀ i, i < m → g i = pl ((a + i) % room)) (hf : FindIs m g id r ok) :
    FnTr P G 25 [RG room a m pl, .int .i64 id] [] 0 (Gives (.tup [.int .i64 r, .bs ok]) [] 1) := by
  have cl := len_fn (P := P) (G := G) (room := room) (a := a) (m := m) (pl := pl) hP
  have c1 : ∀ i, i < m → ∃ r, r < room ∧ g i = pl r ∧ FnTr P G 65 [.rp [.ro 5 (.s room) (fun e => sn (pl e.val)), .int .i64 (a : Int), .int .i64 (m : Int)], .int .i64 (i : Int)] [] 0 (Gives (.int .i64 (r : Int)) [] 0) := fun i hi =>
    ⟨(a + i) % room, Nat.mod_lt _ (by omega), hg i hi, place_fn hP (by omega) (by omega) rfl⟩
  have e1 : ∀ i, i < m → (g i).id = id → (∀ j, i < j → j < m → (g j).id ≠ id) → r = (i : Int) ∧ ok = true := fun i a b c => hf.at a b c
  have e2 : (∀ j, j < m → (g j).id ≠ id) → r = 0 ∧ ok = false := fun a => hf.none a
  obtain ⟨v0, hv0⟩ : ∃ v0 : Int, v0 = (m : Int) - 1 := ⟨_, rfl⟩
  clear hg hf
  have hT : T.Ok P := hP ▸ T_ok
  refine FnTr.intro (fn := Try.f25) (c := bodyOf Try.f25) (by rw [hP]; rfl) rfl rfl hT ?_
  generalize hA : Ar.real = A
  generalize hK : Gives _ _ _ = K
  cbv
  refine CS.le hA (cl) [] rfl rfl rfl ?_ ?_ ?_
  · (try cbv) <;> (repeat' (first | exact trivial | exact rfl | apply And.intro | (intro _ hle; first | refine chunk_le hA rfl hle rfl ?_ | refine cat_le hA ?_ | refine upd_le hA ?_ | (try cbv)))) <;> (try (subst hA; (try simp only [natCast_eq] at *); (simp only [Ar.real, NV.val, Int.ofNat_eq_natCast, Int.toNat_natCast]); first | done | omega | decide | exact inR64 (by omega) (by omega) | (refine ⟨?_, ?_⟩ <;> first | omega | decide | exact inR64 (by omega) (by omega))))
  · (try cbv) <;> (repeat' (first | exact trivial | exact rfl | apply And.intro | (intro _ hle; first | refine chunk_le hA rfl hle rfl ?_ | refine cat_le hA ?_ | refine upd_le hA ?_ | (try cbv))))
  cbv
  refine ⟨(by (subst hA; (try simp only [natCast_eq] at *); (simp only [Ar.real, NV.val, Int.ofNat_eq_natCast, Int.toNat_natCast]); first | done | omega | decide | exact inR64 (by omega) (by omega) | (refine ⟨?_, ?_⟩ <;> first | omega | decide | exact inR64 (by omega) (by omega)))), ?_⟩
  refine LS.le2 hT hA 0 (fun (k : Nat) (v : Int) => [(6, .int .i64 v)]) (fun _ _ => []) (fun k v => k ≤ m ∧ v = (k : Int) - 1 ∧ ∀ j, k ≤ j → j < m → (g j).id ≠ id) (fun k v => k) m v0 [] rfl rfl ?_ ?_ ?_
  · (try cbv) <;> (repeat' (first | exact trivial | exact rfl | apply And.intro | (intro _ hle; first | refine chunk_le hA rfl hle rfl ?_ | refine cat_le hA ?_ | refine upd_le hA ?_ | (try cbv))))
    all_goals (subst hA; simp only [natCast_eq] at *; exact hv0.symm)
  · exact ⟨Nat.le_refl _, by simp only [natCast_eq] at *; exact hv0, fun j h1 h2 => by omega⟩
  · intro R hR k v hp
    cbv
    obtain ⟨h1, h2, h3⟩ := hp
    simp only [natCast_eq] at h2
    refine ⟨fun h4 => ?_, fun h4 => ?_⟩
    · have hk : 0 < k := by clear c1 e1 e2; subst hA; simp [Ar.real] at h4; omega
      obtain ⟨q, hq, hgq, a1⟩ := c1 (k - 1) (by omega)
      have hv : v = ((k - 1 : Nat) : Int) := by omega
      have e3 := e1 (k - 1) (by omega)
      clear c1 e1 e2
      cbv
      refine DS.runK hA hT (by rw [hP]; exact P_mixed) 1 rfl ?_
      cbv
      refine CD.pass hA a1 [] [] rfl ⟨rfl, rfl, rfl, rfl, ?_, ?_⟩ rfl (.inl rfl) ?_
      · (try cbv) <;> (repeat' (first | exact trivial | exact rfl | apply And.intro | (intro _ hle; first | refine chunk_le hA rfl hle rfl ?_ | refine cat_le hA ?_ | refine upd_le hA ?_ | (try cbv))))
        exact hv
      · (try cbv) <;> (repeat' (first | exact trivial | exact rfl | apply And.intro | (intro _ hle; first | refine chunk_le hA rfl hle rfl ?_ | refine cat_le hA ?_ | refine upd_le hA ?_ | (try cbv))))
      cbv
      refine ⟨(by (subst hA; (try simp only [natCast_eq] at *); (simp only [Ar.real, NV.val, Int.ofNat_eq_natCast, Int.toNat_natCast]); first | done | omega | decide | exact inR64 (by omega) (by omega) | (refine ⟨?_, ?_⟩ <;> first | omega | decide | exact inR64 (by omega) (by omega)))), ?_⟩
      refine DF.fin (by kernel_rfl) (by kernel_rfl) ?_
      cbv
      have hid : (pl (A.nat (Int.ofNat q))).id = (g (k - 1)).id := by rw [hgq]; subst hA; rfl
      refine ⟨fun h5 => ?_, fun h5 => ?_⟩
      · have h6 : (g (k - 1)).id = id := by subst hA; simp only [Ar.real] at h5 hid; rw [← hid]; simpa [NV.val] using h5
        obtain ⟨e4, e5⟩ := e3 h6 (fun j hj hj2 => h3 j (by omega) hj2)
        clear hR
        cbv
        refine Fin.le hA 0 [] (.tup [.int .i64 r, .bs ok]) ([]) 1 rfl rfl rfl ?_ ?_ (by rw [← hK]; exact ⟨rfl, rfl, rfl⟩)
        · (try cbv) <;> (repeat' (first | exact trivial | exact rfl | apply And.intro | (intro _ hle; first | refine chunk_le hA rfl hle rfl ?_ | refine cat_le hA ?_ | refine upd_le hA ?_ | (try cbv))))
          · rw [e4]; exact hv
          · exact e5.symm
        · (try cbv) <;> (repeat' (first | exact trivial | exact rfl | apply And.intro | (intro _ hle; first | refine chunk_le hA rfl hle rfl ?_ | refine cat_le hA ?_ | refine upd_le hA ?_ | (try cbv))))
      · have h6 : (g (k - 1)).id ≠ id := by subst hA; simp only [Ar.real] at h5 hid; rw [← hid]; simpa [NV.val] using h5
        cbv
        refine ⟨(by (subst hA; (try simp only [natCast_eq] at *); (simp only [Ar.real, NV.val, Int.ofNat_eq_natCast, Int.toNat_natCast]); first | done | omega | decide | exact inR64 (by omega) (by omega) | (refine ⟨?_, ?_⟩ <;> first | omega | decide | exact inR64 (by omega) (by omega)))), hR _ _ _ ⟨k - 1, v - 1, 0, [], rfl, rfl, ?_, ⟨by omega, by simp only [natCast_eq] at *; omega, fun j hj hj2 => ?_⟩, (by show k - 1 < k; omega)⟩⟩
        · clear hR
          (try cbv) <;> (repeat' (first | exact trivial | exact rfl | apply And.intro | (intro _ hle; first | refine chunk_le hA rfl hle rfl ?_ | refine cat_le hA ?_ | refine upd_le hA ?_ | (try cbv))))
          all_goals (subst hA; rfl)
        · by_cases e : j = k - 1
          · rw [e]; exact h6
          · exact h3 j (by omega) hj2
    · have hk : k = 0 := by clear c1 e1 e2; subst hA; simp [Ar.real] at h4; omega
      subst hk
      obtain ⟨e4, e5⟩ := e2 (fun j hj => h3 j (Nat.zero_le _) hj)
      clear hR
      cbv
      refine Fin.le hA 0 [] (.tup [.int .i64 r, .bs ok]) ([]) 1 rfl rfl rfl ?_ ?_ (by rw [← hK]; exact ⟨rfl, rfl, rfl⟩)
      · (try cbv) <;> (repeat' (first | exact trivial | exact rfl | apply And.intro | (intro _ hle; first | refine chunk_le hA rfl hle rfl ?_ | refine cat_le hA ?_ | refine upd_le hA ?_ | (try cbv))))
        · exact e4.symm
        · exact e5.symm
      · (try cbv) <;> (repeat' (first | exact trivial | exact rfl | apply And.intro | (intro _ hle; first | refine chunk_le hA rfl hle rfl ?_ | refine cat_le hA ?_ | refine upd_le hA ?_ | (try cbv))))

theorem reffind_fn {P : Program} {G : Gl} (hP : P = Try.prog) {m : Nat} {g : Nat → Sn} {id r : Int} {ok : Bool} (h : m ≤ 1000000) (hf : FindIs m g id r ok) :
    FnTr P G 26 [.ro 5 (.s m) (fun e => sn (g e.val)), .int .i64 id] [] 0 (Gives (.tup [.int .i64 r, .bs ok]) [] 1) := by
  have e1 : ∀ i, i < m → (g i).id = id → (∀ j, i < j → j < m → (g j).id ≠ id) → r = (i : Int) ∧ ok = true := fun i a b c => hf.at a b c
  have e2 : (∀ j, j < m → (g j).id ≠ id) → r = 0 ∧ ok = false := fun a => hf.none a
  obtain ⟨v0, hv0⟩ : ∃ v0 : Int, v0 = (m : Int) - 1 := ⟨_, rfl⟩
  clear hf
  have hT : T.Ok P := hP ▸ T_ok
  refine FnTr.intro (fn := Try.f26) (c := bodyOf Try.f26) (by rw [hP]; rfl) rfl rfl hT ?_
  generalize hA : Ar.real = A
  generalize hK : Gives _ _ _ = K
  cbv
  refine ⟨(by (subst hA; (try simp only [natCast_eq] at *); (simp only [Ar.real, NV.val, Int.ofNat_eq_natCast, Int.toNat_natCast]); first | done | omega | decide | exact inR64 (by omega) (by omega) | (refine ⟨?_, ?_⟩ <;> first | omega | decide | exact inR64 (by omega) (by omega)))), ?_⟩
  refine LS.le2 hT hA 0 (fun (k : Nat) (v : Int) => [(6, .int .i64 v)]) (fun _ _ => []) (fun k v => k ≤ m ∧ v = (k : Int) - 1 ∧ ∀ j, k ≤ j → j < m → (g j).id ≠ id) (fun k v => k) m v0 [] rfl rfl ?_ ?_ ?_
  · (try cbv) <;> (repeat' (first | exact trivial | exact rfl | apply And.intro | (intro _ hle; first | refine chunk_le hA rfl hle rfl ?_ | refine cat_le hA ?_ | refine upd_le hA ?_ | (try cbv))))
    all_goals (subst hA; simp only [natCast_eq] at *; exact hv0.symm)
  · exact ⟨Nat.le_refl _, by simp only [natCast_eq] at *; exact hv0, fun j h1 h2 => by omega⟩
  · intro R hR k v hp
    cbv
    obtain ⟨h1, h2, h3⟩ := hp
    simp only [natCast_eq] at h2
    refine ⟨fun h4 => ?_, fun h4 => ?_⟩
    · have hk : 0 < k := by clear e1 e2; subst hA; simp [Ar.real] at h4; omega
      have hv : v = ((k - 1 : Nat) : Int) := by omega
      have e3 := e1 (k - 1) (by omega)
      clear e1 e2
      cbv
      refine ⟨(by (subst hA; (try simp only [natCast_eq] at *); (simp only [Ar.real, NV.val, Int.ofNat_eq_natCast, Int.toNat_natCast]); first | done | omega | decide | exact inR64 (by omega) (by omega) | (refine ⟨?_, ?_⟩ <;> first | omega | decide | exact inR64 (by omega) (by omega)))), ?_⟩
      have hid : (g (A.nat v)).id = (g (k - 1)).id := by rw [hv]; subst hA; rfl
      refine ⟨fun h5 => ?_, fun h5 => ?_⟩
      · have h6 : (g (k - 1)).id = id := by subst hA; simp only [Ar.real] at h5 hid; rw [← hid]; simpa [NV.val] using h5
        obtain ⟨e4, e5⟩ := e3 h6 (fun j hj hj2 => h3 j (by omega) hj2)
        clear hR
        cbv
        refine Fin.le hA 0 [] (.tup [.int .i64 r, .bs ok]) ([]) 1 rfl rfl rfl ?_ ?_ (by rw [← hK]; exact ⟨rfl, rfl, rfl⟩)
        · (try cbv) <;> (repeat' (first | exact trivial | exact rfl | apply And.intro | (intro _ hle; first | refine chunk_le hA rfl hle rfl ?_ | refine cat_le hA ?_ | refine upd_le hA ?_ | (try cbv))))
          · rw [e4]; exact hv
          · exact e5.symm
        · (try cbv) <;> (repeat' (first | exact trivial | exact rfl | apply And.intro | (intro _ hle; first | refine chunk_le hA rfl hle rfl ?_ | refine cat_le hA ?_ | refine upd_le hA ?_ | (try cbv))))
      · have h6 : (g (k - 1)).id ≠ id := by subst hA; simp only [Ar.real] at h5 hid; rw [← hid]; simpa [NV.val] using h5
        cbv
        refine ⟨(by (subst hA; (try simp only [natCast_eq] at *); (simp only [Ar.real, NV.val, Int.ofNat_eq_natCast, Int.toNat_natCast]); first | done | omega | decide | exact inR64 (by omega) (by omega) | (refine ⟨?_, ?_⟩ <;> first | omega | decide | exact inR64 (by omega) (by omega)))), hR _ _ _ ⟨k - 1, v - 1, 0, [], rfl, rfl, ?_, ⟨by omega, by simp only [natCast_eq] at *; omega, fun j hj hj2 => ?_⟩, (by show k - 1 < k; omega)⟩⟩
        · clear hR
          (try cbv) <;> (repeat' (first | exact trivial | exact rfl | apply And.intro | (intro _ hle; first | refine chunk_le hA rfl hle rfl ?_ | refine cat_le hA ?_ | refine upd_le hA ?_ | (try cbv))))
          all_goals (subst hA; rfl)
        · by_cases e : j = k - 1
          · rw [e]; exact h6
          · exact h3 j (by omega) hj2
    · have hk : k = 0 := by clear e1 e2; subst hA; simp [Ar.real] at h4; omega
      subst hk
      obtain ⟨e4, e5⟩ := e2 (fun j hj => h3 j (Nat.zero_le _) hj)
      clear hR
      cbv
      refine Fin.le hA 0 [] (.tup [.int .i64 r, .bs ok]) ([]) 1 rfl rfl rfl ?_ ?_ (by rw [← hK]; exact ⟨rfl, rfl, rfl⟩)
      · (try cbv) <;> (repeat' (first | exact trivial | exact rfl | apply And.intro | (intro _ hle; first | refine chunk_le hA rfl hle rfl ?_ | refine cat_le hA ?_ | refine upd_le hA ?_ | (try cbv))))
        · exact e4.symm
        · exact e5.symm
      · (try cbv) <;> (repeat' (first | exact trivial | exact rfl | apply And.intro | (intro _ hle; first | refine chunk_le hA rfl hle rfl ?_ | refine cat_le hA ?_ | refine upd_le hA ?_ | (try cbv))))
end Go.Proofs.Ytkaobalnjimniaa.Rng
