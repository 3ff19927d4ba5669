/-
  Vectors: the law VecBoxes, as the code runs it.
-/
import Derived.Test.YtkaobalnjimniaaVecI1
set_option linter.unusedVariables false
set_option linter.unusedSimpArgs false
namespace Go.Proofs.Ytkaobalnjimniaa.Vec
open Go.Eng
open Go.VecLaw (lowV topV dotV gapV OS openV)
set_option maxRecDepth 100000
set_option maxHeartbeats 4000000
set_option linter.unusedVariables false

theorem inP_ex (n : Nat) (lo : Nat → Int) (m : Nat) (hi : Nat → Int) (p : Nat) (v : Nat → Int) : ∃ r : Bool, r = true ↔ InP n lo m hi p v := by
  by_cases h : InP n lo m hi p v
  · exact ⟨true, fun _ => h, fun _ => rfl⟩
  · exact ⟨false, fun h => by (cases h), fun h' => absurd h' h⟩
theorem muchP_ex (k : Nat) (len : Nat → Nat) (most : Int) : ∃ r : Bool, r = true ↔ MuchP k len most := by
  by_cases h : MuchP k len most
  · exact ⟨true, fun _ => h, fun _ => rfl⟩
  · exact ⟨false, fun h => by (cases h), fun h' => absurd h' h⟩
theorem box_in {k : Nat} {len : Nat → Nat} {g : Nat → Nat → Int} {dim : Int} {d : Nat} {lo hi : Nat → Int} {er : Int} (hb : BoxIs k len g dim d lo hi er) (he : er = 0) (i : Nat) (hi' : i < k) : InP d lo d hi (len i) (g i) := by
  rcases hb with ⟨⟨h0, h1⟩, _, hd, hv⟩ | ⟨_, h, _⟩
  · have := (h1 i hi').1
    refine ⟨⟨by omega, by omega⟩, fun j hj => ?_⟩
    rw [(hv j).1, (hv j).2]
    exact ⟨Go.VecLaw.lowV_le (fun i => g i j) (k - 1) i (by omega), Go.VecLaw.topV_le (fun i => g i j) (k - 1) i (by omega)⟩
  · omega
theorem box_d {k : Nat} {len : Nat → Nat} {g : Nat → Nat → Int} {dim : Int} {d : Nat} {lo hi : Nat → Int} {er : Int} (hb : BoxIs k len g dim d lo hi er) : d ≤ 8 := by
  rcases hb with ⟨⟨h0, h1⟩, _, hd, hv⟩ | ⟨_, _, h⟩
  · have := (h1 0 h0).1; omega
  · omega

theorem boxes_law {P : Program} {G : Gl} (hP : P = Try.prog) {k p : Nat} {len : Nat → Nat} {g : Nat → Nat → Int} {dim : Int} {x : Nat → Int} (hk : k ≤ 9223372036854775807) (hl : ∀ i, i < k → len i ≤ 9223372036854775807) (hp : p ≤ 9223372036854775807) :
    FnTr P G 10 [LSv k len g, .int .i64 dim, .ro 1 (.s p) (fun e => [.int .i64 (x e.val)])] [] 0 (Gives (.bl true) [] 90) := by
  obtain ⟨mu, hmu⟩ := muchP_ex k len 60
  have cl := lives_fn (P := P) (G := G) hP
  have cm := much_fn (P := P) (G := G) (g := g) hP hk hmu
  cases mu with
  | true =>
    clear hmu
    have hT : T.Ok P := hP ▸ T_ok
    refine FnTr.intro (fn := Try.f10) (c := bodyOf Try.f10) (by rw [hP]; rfl) rfl rfl hT ?_
    generalize hA : Ar.real = A
    generalize hK : Gives _ _ _ = K
    cbv
    refine CS.leR hA (cm) (.bl true) [] rfl rfl rfl ?_ ?_ ?_ ?_
    · (try cbv) <;> (repeat' (first | exact trivial | exact rfl | apply And.intro | (intro _ hle; first | refine chunk_le hA rfl hle rfl ?_ | refine cat_le hA ?_ | refine upd_le hA ?_ | (try cbv)))) <;> (try (subst hA; (try simp only [natCast_eq] at *); (simp only [Ar.real, NV.val, Int.ofNat_eq_natCast, Int.toNat_natCast]); first | done | omega | decide | exact inR64 (by omega) (by omega) | (refine ⟨?_, ?_⟩ <;> first | omega | decide | exact inR64 (by omega) (by omega))))
    · (try cbv) <;> (repeat' (first | exact trivial | exact rfl | apply And.intro | (intro _ hle; first | refine chunk_le hA rfl hle rfl ?_ | refine cat_le hA ?_ | refine upd_le hA ?_ | (try cbv)))) <;> (try (subst hA; (try simp only [natCast_eq] at *); (simp only [Ar.real, NV.val, Int.ofNat_eq_natCast, Int.toNat_natCast]); first | done | omega | decide | exact inR64 (by omega) (by omega) | (refine ⟨?_, ?_⟩ <;> first | omega | decide | exact inR64 (by omega) (by omega))))
    · (try cbv) <;> (repeat' (first | exact trivial | exact rfl | apply And.intro | (intro _ hle; first | refine chunk_le hA rfl hle rfl ?_ | refine cat_le hA ?_ | refine upd_le hA ?_ | (try cbv))))
    cbv
    refine CS.le hA (cl) [] rfl rfl rfl ?_ ?_ ?_
    · (try cbv) <;> (repeat' (first | exact trivial | exact rfl | apply And.intro | (intro _ hle; first | refine chunk_le hA rfl hle rfl ?_ | refine cat_le hA ?_ | refine upd_le hA ?_ | (try cbv)))) <;> (try (subst hA; (try simp only [natCast_eq] at *); (simp only [Ar.real, NV.val, Int.ofNat_eq_natCast, Int.toNat_natCast]); first | done | omega | decide | exact inR64 (by omega) (by omega) | (refine ⟨?_, ?_⟩ <;> first | omega | decide | exact inR64 (by omega) (by omega))))
    · (try cbv) <;> (repeat' (first | exact trivial | exact rfl | apply And.intro | (intro _ hle; first | refine chunk_le hA rfl hle rfl ?_ | refine cat_le hA ?_ | refine upd_le hA ?_ | (try cbv))))
    cbv
    refine Fin.le hA 0 [] (.bl true) ([]) 90 rfl rfl rfl ?_ ?_ (by rw [← hK]; exact ⟨rfl, rfl, rfl⟩)
    · (try cbv) <;> (repeat' (first | exact trivial | exact rfl | apply And.intro | (intro _ hle; first | refine chunk_le hA rfl hle rfl ?_ | refine cat_le hA ?_ | refine upd_le hA ?_ | (try cbv))))
    · (try cbv) <;> (repeat' (first | exact trivial | exact rfl | apply And.intro | (intro _ hle; first | refine chunk_le hA rfl hle rfl ?_ | refine cat_le hA ?_ | refine upd_le hA ?_ | (try cbv))))
  | false =>
  have hk60 : k ≤ 60 := Decidable.byContradiction fun h => by have := hmu.2 (.inl (by omega)); cases this
  clear hmu
  obtain ⟨d, lo, hi, er, hb⟩ := boxIs_ex k len g dim
  obtain ⟨b, hbi⟩ := inP_ex d lo d hi p x
  have hd := box_d hb
  have c1 := box_fn (P := P) (G := G) hP (by omega) hl hb
  have c2 := refbox_fn (P := P) (G := G) hP (by omega) hl hb
  have c3 := same_fn (P := P) (G := G) (n := d) (m := d) (f := lo) (g := lo) (r := true) hP (by omega) (by omega) ⟨fun _ => ⟨rfl, fun _ _ => rfl⟩, fun _ => rfl⟩
  have c4 := same_fn (P := P) (G := G) (n := d) (m := d) (f := hi) (g := hi) (r := true) hP (by omega) (by omega) ⟨fun _ => ⟨rfl, fun _ _ => rfl⟩, fun _ => rfl⟩
  obtain ⟨on, hon⟩ : ∃ on, on = (openV lo hi d).n := ⟨_, rfl⟩
  obtain ⟨oa, hoa⟩ : ∃ oa, oa = (openV lo hi d).a := ⟨_, rfl⟩
  have c5 := open_fn (P := P) (G := G) (n := d) (m := d) (k := d) (c := on) (f := lo) (g := hi) (a := oa) hP (by omega) (by omega) (by omega) (by omega) (openV lo hi d) rfl hon (fun i => by rw [hoa])
  have c6 := refopen_fn (P := P) (G := G) (n := d) (m := d) (k := d) (c := on) (f := lo) (g := hi) (a := oa) hP (by omega) (by omega) (by omega) (by omega) (openV lo hi d) rfl hon (fun i => by rw [hoa])
  have hon8 : on ≤ 8 := by have := Go.VecLaw.openV_n lo hi d; omega
  have c7 := same_fn (P := P) (G := G) (n := on) (m := on) (f := oa) (g := oa) (r := true) hP (by omega) (by omega) ⟨fun _ => ⟨rfl, fun _ _ => rfl⟩, fun _ => rfl⟩
  have c8 := vin_fn (P := P) (G := G) (n := d) (m := d) (p := p) (lo := lo) (hi := hi) (v := x) (r := b) hP hp hbi
  have c9 : er = 0 → ∀ i, i < k → FnTr P G 54 [.ro 1 (.s d) (fun e => [.int .i64 (lo e.val)]), .ro 1 (.s d) (fun e => [.int .i64 (hi e.val)]), .ro 1 (.s (len i)) (fun e => [.int .i64 (g i e.val)])] [] 0 (Gives (.bs true) [] 0) := fun he i hi' =>
    vin_fn hP (hl i hi') ⟨fun _ => box_in hb he i hi', fun _ => rfl⟩
  obtain ⟨Q, hQ0, hQs, hQn, hQm⟩ := all_steps (fun i => lo i ≤ x i ∧ x i ≤ hi i)
  obtain ⟨V, hV⟩ : ∃ V : Nat → Bool, ∀ i, V i = true ↔ (p = d ∧ Q i) := by
    classical
    exact ⟨fun i => decide (p = d ∧ Q i), fun i => decide_eq_true_iff⟩
  have hVb : V p = b := by
    rw [Bool.eq_iff_iff, hV, hbi, hQn]
    constructor
    · rintro ⟨h1, h2⟩; exact ⟨⟨by omega, by omega⟩, h2⟩
    · rintro ⟨⟨h1, _⟩, h2⟩; exact ⟨by omega, h2⟩
  have hVm : ∀ i, i ≤ p → V i = false → b = false := fun i hi' h => by
    cases hb' : b with
    | false => rfl
    | true =>
      have h1 := (hV p).1 (hVb.trans hb')
      have h2 := (hV i).2 ⟨h1.1, hQm p i hi' h1.2⟩
      rw [h] at h2; cases h2
  clear hb hbi hon hoa hQm hQn
  have hT : T.Ok P := hP ▸ T_ok
  refine FnTr.intro (fn := Try.f10) (c := bodyOf Try.f10) (by rw [hP]; rfl) rfl rfl hT ?_
  generalize hA : Ar.real = A
  generalize hK : Gives _ _ _ = K
  cbv
  have k1 : A.ne er er = false := by subst hA; simp [Ar.real]
  refine CS.leR hA (cm) (.bl false) [] rfl rfl rfl ?_ ?_ ?_ ?_
  · (try cbv) <;> (repeat' (first | exact trivial | exact rfl | apply And.intro | (intro _ hle; first | refine chunk_le hA rfl hle rfl ?_ | refine cat_le hA ?_ | refine upd_le hA ?_ | (try cbv)))) <;> (try (subst hA; (try simp only [natCast_eq] at *); (simp only [Ar.real, NV.val, Int.ofNat_eq_natCast, Int.toNat_natCast]); first | done | omega | decide | exact inR64 (by omega) (by omega) | (refine ⟨?_, ?_⟩ <;> first | omega | decide | exact inR64 (by omega) (by omega))))
  · (try cbv) <;> (repeat' (first | exact trivial | exact rfl | apply And.intro | (intro _ hle; first | refine chunk_le hA rfl hle rfl ?_ | refine cat_le hA ?_ | refine upd_le hA ?_ | (try cbv)))) <;> (try (subst hA; (try simp only [natCast_eq] at *); (simp only [Ar.real, NV.val, Int.ofNat_eq_natCast, Int.toNat_natCast]); first | done | omega | decide | exact inR64 (by omega) (by omega) | (refine ⟨?_, ?_⟩ <;> first | omega | decide | exact inR64 (by omega) (by omega))))
  · (try cbv) <;> (repeat' (first | exact trivial | exact rfl | apply And.intro | (intro _ hle; first | refine chunk_le hA rfl hle rfl ?_ | refine cat_le hA ?_ | refine upd_le hA ?_ | (try cbv))))
  cbv
  refine ⟨fun h1 => ?_, fun h1 => ?_⟩
  · cbv
    refine CS.le hA (cl) [] rfl rfl rfl ?_ ?_ ?_
    · (try cbv) <;> (repeat' (first | exact trivial | exact rfl | apply And.intro | (intro _ hle; first | refine chunk_le hA rfl hle rfl ?_ | refine cat_le hA ?_ | refine upd_le hA ?_ | (try cbv)))) <;> (try (subst hA; (try simp only [natCast_eq] at *); (simp only [Ar.real, NV.val, Int.ofNat_eq_natCast, Int.toNat_natCast]); first | done | omega | decide | exact inR64 (by omega) (by omega) | (refine ⟨?_, ?_⟩ <;> first | omega | decide | exact inR64 (by omega) (by omega))))
    · (try cbv) <;> (repeat' (first | exact trivial | exact rfl | apply And.intro | (intro _ hle; first | refine chunk_le hA rfl hle rfl ?_ | refine cat_le hA ?_ | refine upd_le hA ?_ | (try cbv))))
    cbv
    refine Fin.le hA 0 [] (.bl true) ([]) 90 rfl rfl rfl ?_ ?_ (by rw [← hK]; exact ⟨rfl, rfl, rfl⟩)
    · (try cbv) <;> (repeat' (first | exact trivial | exact rfl | apply And.intro | (intro _ hle; first | refine chunk_le hA rfl hle rfl ?_ | refine cat_le hA ?_ | refine upd_le hA ?_ | (try cbv))))
    · (try cbv) <;> (repeat' (first | exact trivial | exact rfl | apply And.intro | (intro _ hle; first | refine chunk_le hA rfl hle rfl ?_ | refine cat_le hA ?_ | refine upd_le hA ?_ | (try cbv))))
  · have hp20 : p ≤ 20 := by subst hA; simp [Ar.real] at h1; omega
    cbv
    refine CS.le hA (c1) [] rfl rfl rfl ?_ ?_ ?_
    · (try cbv) <;> (repeat' (first | exact trivial | exact rfl | apply And.intro | (intro _ hle; first | refine chunk_le hA rfl hle rfl ?_ | refine cat_le hA ?_ | refine upd_le hA ?_ | (try cbv)))) <;> (try (subst hA; (try simp only [natCast_eq] at *); (simp only [Ar.real, NV.val, Int.ofNat_eq_natCast, Int.toNat_natCast]); first | done | omega | decide | exact inR64 (by omega) (by omega) | (refine ⟨?_, ?_⟩ <;> first | omega | decide | exact inR64 (by omega) (by omega))))
    · (try cbv) <;> (repeat' (first | exact trivial | exact rfl | apply And.intro | (intro _ hle; first | refine chunk_le hA rfl hle rfl ?_ | refine cat_le hA ?_ | refine upd_le hA ?_ | (try cbv))))
    cbv
    refine CS.le hA (c2) [] rfl rfl rfl ?_ ?_ ?_
    · (try cbv) <;> (repeat' (first | exact trivial | exact rfl | apply And.intro | (intro _ hle; first | refine chunk_le hA rfl hle rfl ?_ | refine cat_le hA ?_ | refine upd_le hA ?_ | (try cbv)))) <;> (try (subst hA; (try simp only [natCast_eq] at *); (simp only [Ar.real, NV.val, Int.ofNat_eq_natCast, Int.toNat_natCast]); first | done | omega | decide | exact inR64 (by omega) (by omega) | (refine ⟨?_, ?_⟩ <;> first | omega | decide | exact inR64 (by omega) (by omega))))
    · (try cbv) <;> (repeat' (first | exact trivial | exact rfl | apply And.intro | (intro _ hle; first | refine chunk_le hA rfl hle rfl ?_ | refine cat_le hA ?_ | refine upd_le hA ?_ | (try cbv))))
    cbv
    refine CS.leR hA (c3) (.bl true) [] rfl rfl rfl ?_ ?_ ?_ ?_
    · (try cbv) <;> (repeat' (first | exact trivial | exact rfl | apply And.intro | (intro _ hle; first | refine chunk_le hA rfl hle rfl ?_ | refine cat_le hA ?_ | refine upd_le hA ?_ | (try cbv)))) <;> (try (subst hA; (try simp only [natCast_eq] at *); (simp only [Ar.real, NV.val, Int.ofNat_eq_natCast, Int.toNat_natCast]); first | done | omega | decide | exact inR64 (by omega) (by omega) | (refine ⟨?_, ?_⟩ <;> first | omega | decide | exact inR64 (by omega) (by omega))))
    · (try cbv) <;> (repeat' (first | exact trivial | exact rfl | apply And.intro | (intro _ hle; first | refine chunk_le hA rfl hle rfl ?_ | refine cat_le hA ?_ | refine upd_le hA ?_ | (try cbv)))) <;> (try (subst hA; (try simp only [natCast_eq] at *); (simp only [Ar.real, NV.val, Int.ofNat_eq_natCast, Int.toNat_natCast]); first | done | omega | decide | exact inR64 (by omega) (by omega) | (refine ⟨?_, ?_⟩ <;> first | omega | decide | exact inR64 (by omega) (by omega))))
    · (try cbv) <;> (repeat' (first | exact trivial | exact rfl | apply And.intro | (intro _ hle; first | refine chunk_le hA rfl hle rfl ?_ | refine cat_le hA ?_ | refine upd_le hA ?_ | (try cbv))))
    cbv
    refine CS.leR hA (c4) (.bl true) [] rfl rfl rfl ?_ ?_ ?_ ?_
    · (try cbv) <;> (repeat' (first | exact trivial | exact rfl | apply And.intro | (intro _ hle; first | refine chunk_le hA rfl hle rfl ?_ | refine cat_le hA ?_ | refine upd_le hA ?_ | (try cbv)))) <;> (try (subst hA; (try simp only [natCast_eq] at *); (simp only [Ar.real, NV.val, Int.ofNat_eq_natCast, Int.toNat_natCast]); first | done | omega | decide | exact inR64 (by omega) (by omega) | (refine ⟨?_, ?_⟩ <;> first | omega | decide | exact inR64 (by omega) (by omega))))
    · (try cbv) <;> (repeat' (first | exact trivial | exact rfl | apply And.intro | (intro _ hle; first | refine chunk_le hA rfl hle rfl ?_ | refine cat_le hA ?_ | refine upd_le hA ?_ | (try cbv)))) <;> (try (subst hA; (try simp only [natCast_eq] at *); (simp only [Ar.real, NV.val, Int.ofNat_eq_natCast, Int.toNat_natCast]); first | done | omega | decide | exact inR64 (by omega) (by omega) | (refine ⟨?_, ?_⟩ <;> first | omega | decide | exact inR64 (by omega) (by omega))))
    · (try cbv) <;> (repeat' (first | exact trivial | exact rfl | apply And.intro | (intro _ hle; first | refine chunk_le hA rfl hle rfl ?_ | refine cat_le hA ?_ | refine upd_le hA ?_ | (try cbv))))
    cbv
    repeat' (first | (refine ⟨fun h => absurd (h.symm.trans k1) (by decide), fun _ => ?_⟩; cbv) | (refine ⟨fun _ => ?_, fun h => absurd (h.symm.trans k1) (by decide)⟩; cbv))
    refine CS.le hA (c5) [] rfl rfl rfl ?_ ?_ ?_
    · (try cbv) <;> (repeat' (first | exact trivial | exact rfl | apply And.intro | (intro _ hle; first | refine chunk_le hA rfl hle rfl ?_ | refine cat_le hA ?_ | refine upd_le hA ?_ | (try cbv)))) <;> (try (subst hA; (try simp only [natCast_eq] at *); (simp only [Ar.real, NV.val, Int.ofNat_eq_natCast, Int.toNat_natCast]); first | done | omega | decide | exact inR64 (by omega) (by omega) | (refine ⟨?_, ?_⟩ <;> first | omega | decide | exact inR64 (by omega) (by omega))))
    · (try cbv) <;> (repeat' (first | exact trivial | exact rfl | apply And.intro | (intro _ hle; first | refine chunk_le hA rfl hle rfl ?_ | refine cat_le hA ?_ | refine upd_le hA ?_ | (try cbv))))
    cbv
    refine CS.le hA (c6) [] rfl rfl rfl ?_ ?_ ?_
    · (try cbv) <;> (repeat' (first | exact trivial | exact rfl | apply And.intro | (intro _ hle; first | refine chunk_le hA rfl hle rfl ?_ | refine cat_le hA ?_ | refine upd_le hA ?_ | (try cbv)))) <;> (try (subst hA; (try simp only [natCast_eq] at *); (simp only [Ar.real, NV.val, Int.ofNat_eq_natCast, Int.toNat_natCast]); first | done | omega | decide | exact inR64 (by omega) (by omega) | (refine ⟨?_, ?_⟩ <;> first | omega | decide | exact inR64 (by omega) (by omega))))
    · (try cbv) <;> (repeat' (first | exact trivial | exact rfl | apply And.intro | (intro _ hle; first | refine chunk_le hA rfl hle rfl ?_ | refine cat_le hA ?_ | refine upd_le hA ?_ | (try cbv))))
    cbv
    refine CS.leR hA (c7) (.bl true) [] rfl rfl rfl ?_ ?_ ?_ ?_
    · (try cbv) <;> (repeat' (first | exact trivial | exact rfl | apply And.intro | (intro _ hle; first | refine chunk_le hA rfl hle rfl ?_ | refine cat_le hA ?_ | refine upd_le hA ?_ | (try cbv)))) <;> (try (subst hA; (try simp only [natCast_eq] at *); (simp only [Ar.real, NV.val, Int.ofNat_eq_natCast, Int.toNat_natCast]); first | done | omega | decide | exact inR64 (by omega) (by omega) | (refine ⟨?_, ?_⟩ <;> first | omega | decide | exact inR64 (by omega) (by omega))))
    · (try cbv) <;> (repeat' (first | exact trivial | exact rfl | apply And.intro | (intro _ hle; first | refine chunk_le hA rfl hle rfl ?_ | refine cat_le hA ?_ | refine upd_le hA ?_ | (try cbv)))) <;> (try (subst hA; (try simp only [natCast_eq] at *); (simp only [Ar.real, NV.val, Int.ofNat_eq_natCast, Int.toNat_natCast]); first | done | omega | decide | exact inR64 (by omega) (by omega) | (refine ⟨?_, ?_⟩ <;> first | omega | decide | exact inR64 (by omega) (by omega))))
    · (try cbv) <;> (repeat' (first | exact trivial | exact rfl | apply And.intro | (intro _ hle; first | refine chunk_le hA rfl hle rfl ?_ | refine cat_le hA ?_ | refine upd_le hA ?_ | (try cbv))))
    cbv
    refine LS.le hT hA 0 (fun (i : Nat) => [(13, .bs (V i)), (14, .int .i64 (i : Int))]) (fun _ => []) (fun i => i ≤ p) (fun i => p - i) 0 [] rfl rfl ?_ ?_ ?_
    · (try cbv) <;> (repeat' (first | exact trivial | exact rfl | apply And.intro | (intro _ hle; first | refine chunk_le hA rfl hle rfl ?_ | refine cat_le hA ?_ | refine upd_le hA ?_ | (try cbv))))
      subst hA
      simp only [Ar.real]
      rw [Bool.eq_iff_iff, hV]
      simp [hQ0, Int.ofNat_inj]
    · exact Nat.zero_le _
    · intro R hR i hip
      cbv
      by_cases hgo : i < p ∧ V i = true
      · obtain ⟨hi1, hi2⟩ := hgo
        have hVs := hV (i + 1)
        have hV0 := (hV i).1 hi2
        have hQ1 := hQs i
        clear hV hQs hQ0 hVb hVm c9
        have kd : i < d := by have := hV0.1; omega
        refine ⟨fun h5 => ?_, fun h5 => by exfalso; subst hA; simp [Ar.real] at h5; omega⟩
        cbv
        refine ⟨fun h6 => ?_, fun h6 => by rw [hi2] at h6; cases h6⟩
        cbv
        refine DS.runK hA hT (by rw [hP]; exact P_mixed) 1 rfl ?_
        cbv
        refine ⟨(by (subst hA; (try simp only [natCast_eq] at *); (simp only [Ar.real, NV.val, Int.ofNat_eq_natCast, Int.toNat_natCast]); first | done | omega | decide | exact inR64 (by omega) (by omega) | (refine ⟨?_, ?_⟩ <;> first | omega | decide | exact inR64 (by omega) (by omega)))), (by (subst hA; (try simp only [natCast_eq] at *); (simp only [Ar.real, NV.val, Int.ofNat_eq_natCast, Int.toNat_natCast]); first | done | omega | decide | exact inR64 (by omega) (by omega) | (refine ⟨?_, ?_⟩ <;> first | omega | decide | exact inR64 (by omega) (by omega)))), fun h7 => ?_, fun h7 => ?_⟩
        · cbv
          refine ⟨(by (subst hA; (try simp only [natCast_eq] at *); (simp only [Ar.real, NV.val, Int.ofNat_eq_natCast, Int.toNat_natCast]); first | done | omega | decide | exact inR64 (by omega) (by omega) | (refine ⟨?_, ?_⟩ <;> first | omega | decide | exact inR64 (by omega) (by omega)))), (by (subst hA; (try simp only [natCast_eq] at *); (simp only [Ar.real, NV.val, Int.ofNat_eq_natCast, Int.toNat_natCast]); first | done | omega | decide | exact inR64 (by omega) (by omega) | (refine ⟨?_, ?_⟩ <;> first | omega | decide | exact inR64 (by omega) (by omega)))), ?_⟩
          refine DF.fin (by kernel_rfl) (by kernel_rfl) ?_
          cbv
          refine ⟨(by (subst hA; (try simp only [natCast_eq] at *); (simp only [Ar.real, NV.val, Int.ofNat_eq_natCast, Int.toNat_natCast]); first | done | omega | decide | exact inR64 (by omega) (by omega) | (refine ⟨?_, ?_⟩ <;> first | omega | decide | exact inR64 (by omega) (by omega)))), hR _ _ ⟨i + 1, 0, [], rfl, rfl, ?_, hi1, (by show p - (i + 1) < p - i; omega)⟩⟩
          clear hR
          (try cbv) <;> (repeat' (first | exact trivial | exact rfl | apply And.intro | (intro _ hle; first | refine chunk_le hA rfl hle rfl ?_ | refine cat_le hA ?_ | refine upd_le hA ?_ | (try cbv))))
          · subst hA
            simp only [Ar.real] at h7 ⊢
            rw [Bool.eq_iff_iff, hVs, hQ1]
            simp at h7 ⊢
            exact ⟨fun h => ⟨hV0.1, hV0.2, h7, h⟩, fun h => h.2.2.2⟩
          · (subst hA; (try simp only [natCast_eq] at *); (simp only [Ar.real, NV.val, Int.ofNat_eq_natCast, Int.toNat_natCast]); first | done | omega | decide | exact inR64 (by omega) (by omega) | (refine ⟨?_, ?_⟩ <;> first | omega | decide | exact inR64 (by omega) (by omega)))
        · cbv
          refine DF.fin (by kernel_rfl) (by kernel_rfl) ?_
          cbv
          refine ⟨(by (subst hA; (try simp only [natCast_eq] at *); (simp only [Ar.real, NV.val, Int.ofNat_eq_natCast, Int.toNat_natCast]); first | done | omega | decide | exact inR64 (by omega) (by omega) | (refine ⟨?_, ?_⟩ <;> first | omega | decide | exact inR64 (by omega) (by omega)))), hR _ _ ⟨i + 1, 0, [], rfl, rfl, ?_, hi1, (by show p - (i + 1) < p - i; omega)⟩⟩
          clear hR
          (try cbv) <;> (repeat' (first | exact trivial | exact rfl | apply And.intro | (intro _ hle; first | refine chunk_le hA rfl hle rfl ?_ | refine cat_le hA ?_ | refine upd_le hA ?_ | (try cbv))))
          · subst hA
            simp only [Ar.real] at h7 ⊢
            rw [Bool.eq_iff_iff, hVs, hQ1]
            simp [NV.val] at h7 ⊢
            exact fun h1 h2 h3 => by omega
          · (subst hA; (try simp only [natCast_eq] at *); (simp only [Ar.real, NV.val, Int.ofNat_eq_natCast, Int.toNat_natCast]); first | done | omega | decide | exact inR64 (by omega) (by omega) | (refine ⟨?_, ?_⟩ <;> first | omega | decide | exact inR64 (by omega) (by omega)))
      · have hin : V i = b := by
          by_cases hi1 : i < p
          · have h2 : V i = false := by cases h : V i with
              | false => rfl
              | true => exact absurd ⟨hi1, h⟩ hgo
            rw [h2, hVm i hip h2]
          · obtain rfl : i = p := by omega
            exact hVb
        have hno : i < p → V i = false := fun h => by cases h' : V i with
              | false => rfl
              | true => exact absurd ⟨h, h'⟩ hgo
        clear hV hQs hQ0 hVb hVm hgo hR
        have k2 : A.not (A.eqB b (V i)) = false := by rw [hin]; subst hA; simp [Ar.real]
        refine ⟨fun h5 => ?_, fun h5 => ?_⟩
        · have hi1 : i < p := by subst hA; simp [Ar.real] at h5; omega
          have h7 := hno hi1
          clear hno
          cbv
          refine ⟨fun h6 => absurd (h7.symm.trans h6) (by decide), fun h6 => ?_⟩
          clear h5 h6 h7 hi1
          cbv
          refine CS.le hA (c8) [] rfl rfl rfl ?_ ?_ ?_
          · (try cbv) <;> (repeat' (first | exact trivial | exact rfl | apply And.intro | (intro _ hle; first | refine chunk_le hA rfl hle rfl ?_ | refine cat_le hA ?_ | refine upd_le hA ?_ | (try cbv)))) <;> (try (subst hA; (try simp only [natCast_eq] at *); (simp only [Ar.real, NV.val, Int.ofNat_eq_natCast, Int.toNat_natCast]); first | done | omega | decide | exact inR64 (by omega) (by omega) | (refine ⟨?_, ?_⟩ <;> first | omega | decide | exact inR64 (by omega) (by omega))))
          · (try cbv) <;> (repeat' (first | exact trivial | exact rfl | apply And.intro | (intro _ hle; first | refine chunk_le hA rfl hle rfl ?_ | refine cat_le hA ?_ | refine upd_le hA ?_ | (try cbv))))
          cbv
          repeat' (first | (refine ⟨fun h => absurd (h.symm.trans k2) (by decide), fun _ => ?_⟩; cbv) | (refine ⟨fun _ => ?_, fun h => absurd (h.symm.trans k2) (by decide)⟩; cbv))
          refine LS.le hT hA 0 (fun (i : Nat) => [(15, .int .i64 (i : Int))]) (fun _ => []) (fun i => i ≤ k) (fun i => k - i) 0 [] rfl rfl ?_ ?_ ?_
          · (try cbv) <;> (repeat' (first | exact trivial | exact rfl | apply And.intro | (intro _ hle; first | refine chunk_le hA rfl hle rfl ?_ | refine cat_le hA ?_ | refine upd_le hA ?_ | (try cbv))))
          · exact Nat.zero_le _
          · intro R hR j hj
            cbv
            refine ⟨fun h8 => ?_, fun h8 => ?_⟩
            · have hj1 : j < k := by subst hA; simp [Ar.real] at h8; omega
              cbv
              refine ⟨fun h9 => ?_, fun h9 => ?_⟩
              · have he : er = 0 := by subst hA; simpa [Ar.real] using h9
                have c10 := c9 he j hj1
                clear c9
                cbv
                refine ⟨(by (subst hA; (try simp only [natCast_eq] at *); (simp only [Ar.real, NV.val, Int.ofNat_eq_natCast, Int.toNat_natCast]); first | done | omega | decide | exact inR64 (by omega) (by omega) | (refine ⟨?_, ?_⟩ <;> first | omega | decide | exact inR64 (by omega) (by omega)))), ?_⟩
                refine CS.leR hA (c10) (.bl true) [] rfl rfl rfl ?_ ?_ ?_ ?_
                · (try cbv) <;> (repeat' (first | exact trivial | exact rfl | apply And.intro | (intro _ hle; first | refine chunk_le hA rfl hle rfl ?_ | refine cat_le hA ?_ | refine upd_le hA ?_ | (try cbv)))) <;> (try (subst hA; (try simp only [natCast_eq] at *); (simp only [Ar.real, NV.val, Int.ofNat_eq_natCast, Int.toNat_natCast]); first | done | omega | decide | exact inR64 (by omega) (by omega) | (refine ⟨?_, ?_⟩ <;> first | omega | decide | exact inR64 (by omega) (by omega))))
                · (try cbv) <;> (repeat' (first | exact trivial | exact rfl | apply And.intro | (intro _ hle; first | refine chunk_le hA rfl hle rfl ?_ | refine cat_le hA ?_ | refine upd_le hA ?_ | (try cbv)))) <;> (try (subst hA; (try simp only [natCast_eq] at *); (simp only [Ar.real, NV.val, Int.ofNat_eq_natCast, Int.toNat_natCast]); first | done | omega | decide | exact inR64 (by omega) (by omega) | (refine ⟨?_, ?_⟩ <;> first | omega | decide | exact inR64 (by omega) (by omega))))
                · (try cbv) <;> (repeat' (first | exact trivial | exact rfl | apply And.intro | (intro _ hle; first | refine chunk_le hA rfl hle rfl ?_ | refine cat_le hA ?_ | refine upd_le hA ?_ | (try cbv))))
                cbv
                refine ⟨(by (subst hA; (try simp only [natCast_eq] at *); (simp only [Ar.real, NV.val, Int.ofNat_eq_natCast, Int.toNat_natCast]); first | done | omega | decide | exact inR64 (by omega) (by omega) | (refine ⟨?_, ?_⟩ <;> first | omega | decide | exact inR64 (by omega) (by omega)))), hR _ _ ⟨j + 1, 0, [], rfl, rfl, ?_, hj1, (by show k - (j + 1) < k - j; omega)⟩⟩
                clear hR
                (try cbv) <;> (repeat' (first | exact trivial | exact rfl | apply And.intro | (intro _ hle; first | refine chunk_le hA rfl hle rfl ?_ | refine cat_le hA ?_ | refine upd_le hA ?_ | (try cbv))))
                (subst hA; (try simp only [natCast_eq] at *); (simp only [Ar.real, NV.val, Int.ofNat_eq_natCast, Int.toNat_natCast]); first | done | omega | decide | exact inR64 (by omega) (by omega) | (refine ⟨?_, ?_⟩ <;> first | omega | decide | exact inR64 (by omega) (by omega)))
              · clear hR c9
                cbv
                refine CS.le hA (cl) [] rfl rfl rfl ?_ ?_ ?_
                · (try cbv) <;> (repeat' (first | exact trivial | exact rfl | apply And.intro | (intro _ hle; first | refine chunk_le hA rfl hle rfl ?_ | refine cat_le hA ?_ | refine upd_le hA ?_ | (try cbv)))) <;> (try (subst hA; (try simp only [natCast_eq] at *); (simp only [Ar.real, NV.val, Int.ofNat_eq_natCast, Int.toNat_natCast]); first | done | omega | decide | exact inR64 (by omega) (by omega) | (refine ⟨?_, ?_⟩ <;> first | omega | decide | exact inR64 (by omega) (by omega))))
                · (try cbv) <;> (repeat' (first | exact trivial | exact rfl | apply And.intro | (intro _ hle; first | refine chunk_le hA rfl hle rfl ?_ | refine cat_le hA ?_ | refine upd_le hA ?_ | (try cbv))))
                cbv
                refine Fin.le hA 0 [] (.bl true) ([]) 90 rfl rfl rfl ?_ ?_ (by rw [← hK]; exact ⟨rfl, rfl, rfl⟩)
                · (try cbv) <;> (repeat' (first | exact trivial | exact rfl | apply And.intro | (intro _ hle; first | refine chunk_le hA rfl hle rfl ?_ | refine cat_le hA ?_ | refine upd_le hA ?_ | (try cbv))))
                · (try cbv) <;> (repeat' (first | exact trivial | exact rfl | apply And.intro | (intro _ hle; first | refine chunk_le hA rfl hle rfl ?_ | refine cat_le hA ?_ | refine upd_le hA ?_ | (try cbv))))
            · clear hR c9
              cbv
              refine CS.le hA (cl) [] rfl rfl rfl ?_ ?_ ?_
              · (try cbv) <;> (repeat' (first | exact trivial | exact rfl | apply And.intro | (intro _ hle; first | refine chunk_le hA rfl hle rfl ?_ | refine cat_le hA ?_ | refine upd_le hA ?_ | (try cbv)))) <;> (try (subst hA; (try simp only [natCast_eq] at *); (simp only [Ar.real, NV.val, Int.ofNat_eq_natCast, Int.toNat_natCast]); first | done | omega | decide | exact inR64 (by omega) (by omega) | (refine ⟨?_, ?_⟩ <;> first | omega | decide | exact inR64 (by omega) (by omega))))
              · (try cbv) <;> (repeat' (first | exact trivial | exact rfl | apply And.intro | (intro _ hle; first | refine chunk_le hA rfl hle rfl ?_ | refine cat_le hA ?_ | refine upd_le hA ?_ | (try cbv))))
              cbv
              refine Fin.le hA 0 [] (.bl true) ([]) 90 rfl rfl rfl ?_ ?_ (by rw [← hK]; exact ⟨rfl, rfl, rfl⟩)
              · (try cbv) <;> (repeat' (first | exact trivial | exact rfl | apply And.intro | (intro _ hle; first | refine chunk_le hA rfl hle rfl ?_ | refine cat_le hA ?_ | refine upd_le hA ?_ | (try cbv))))
              · (try cbv) <;> (repeat' (first | exact trivial | exact rfl | apply And.intro | (intro _ hle; first | refine chunk_le hA rfl hle rfl ?_ | refine cat_le hA ?_ | refine upd_le hA ?_ | (try cbv))))
        · clear h5 hno
          cbv
          refine CS.le hA (c8) [] rfl rfl rfl ?_ ?_ ?_
          · (try cbv) <;> (repeat' (first | exact trivial | exact rfl | apply And.intro | (intro _ hle; first | refine chunk_le hA rfl hle rfl ?_ | refine cat_le hA ?_ | refine upd_le hA ?_ | (try cbv)))) <;> (try (subst hA; (try simp only [natCast_eq] at *); (simp only [Ar.real, NV.val, Int.ofNat_eq_natCast, Int.toNat_natCast]); first | done | omega | decide | exact inR64 (by omega) (by omega) | (refine ⟨?_, ?_⟩ <;> first | omega | decide | exact inR64 (by omega) (by omega))))
          · (try cbv) <;> (repeat' (first | exact trivial | exact rfl | apply And.intro | (intro _ hle; first | refine chunk_le hA rfl hle rfl ?_ | refine cat_le hA ?_ | refine upd_le hA ?_ | (try cbv))))
          cbv
          repeat' (first | (refine ⟨fun h => absurd (h.symm.trans k2) (by decide), fun _ => ?_⟩; cbv) | (refine ⟨fun _ => ?_, fun h => absurd (h.symm.trans k2) (by decide)⟩; cbv))
          refine LS.le hT hA 0 (fun (i : Nat) => [(15, .int .i64 (i : Int))]) (fun _ => []) (fun i => i ≤ k) (fun i => k - i) 0 [] rfl rfl ?_ ?_ ?_
          · (try cbv) <;> (repeat' (first | exact trivial | exact rfl | apply And.intro | (intro _ hle; first | refine chunk_le hA rfl hle rfl ?_ | refine cat_le hA ?_ | refine upd_le hA ?_ | (try cbv))))
          · exact Nat.zero_le _
          · intro R hR j hj
            cbv
            refine ⟨fun h8 => ?_, fun h8 => ?_⟩
            · have hj1 : j < k := by subst hA; simp [Ar.real] at h8; omega
              cbv
              refine ⟨fun h9 => ?_, fun h9 => ?_⟩
              · have he : er = 0 := by subst hA; simpa [Ar.real] using h9
                have c10 := c9 he j hj1
                clear c9
                cbv
                refine ⟨(by (subst hA; (try simp only [natCast_eq] at *); (simp only [Ar.real, NV.val, Int.ofNat_eq_natCast, Int.toNat_natCast]); first | done | omega | decide | exact inR64 (by omega) (by omega) | (refine ⟨?_, ?_⟩ <;> first | omega | decide | exact inR64 (by omega) (by omega)))), ?_⟩
                refine CS.leR hA (c10) (.bl true) [] rfl rfl rfl ?_ ?_ ?_ ?_
                · (try cbv) <;> (repeat' (first | exact trivial | exact rfl | apply And.intro | (intro _ hle; first | refine chunk_le hA rfl hle rfl ?_ | refine cat_le hA ?_ | refine upd_le hA ?_ | (try cbv)))) <;> (try (subst hA; (try simp only [natCast_eq] at *); (simp only [Ar.real, NV.val, Int.ofNat_eq_natCast, Int.toNat_natCast]); first | done | omega | decide | exact inR64 (by omega) (by omega) | (refine ⟨?_, ?_⟩ <;> first | omega | decide | exact inR64 (by omega) (by omega))))
                · (try cbv) <;> (repeat' (first | exact trivial | exact rfl | apply And.intro | (intro _ hle; first | refine chunk_le hA rfl hle rfl ?_ | refine cat_le hA ?_ | refine upd_le hA ?_ | (try cbv)))) <;> (try (subst hA; (try simp only [natCast_eq] at *); (simp only [Ar.real, NV.val, Int.ofNat_eq_natCast, Int.toNat_natCast]); first | done | omega | decide | exact inR64 (by omega) (by omega) | (refine ⟨?_, ?_⟩ <;> first | omega | decide | exact inR64 (by omega) (by omega))))
                · (try cbv) <;> (repeat' (first | exact trivial | exact rfl | apply And.intro | (intro _ hle; first | refine chunk_le hA rfl hle rfl ?_ | refine cat_le hA ?_ | refine upd_le hA ?_ | (try cbv))))
                cbv
                refine ⟨(by (subst hA; (try simp only [natCast_eq] at *); (simp only [Ar.real, NV.val, Int.ofNat_eq_natCast, Int.toNat_natCast]); first | done | omega | decide | exact inR64 (by omega) (by omega) | (refine ⟨?_, ?_⟩ <;> first | omega | decide | exact inR64 (by omega) (by omega)))), hR _ _ ⟨j + 1, 0, [], rfl, rfl, ?_, hj1, (by show k - (j + 1) < k - j; omega)⟩⟩
                clear hR
                (try cbv) <;> (repeat' (first | exact trivial | exact rfl | apply And.intro | (intro _ hle; first | refine chunk_le hA rfl hle rfl ?_ | refine cat_le hA ?_ | refine upd_le hA ?_ | (try cbv))))
                (subst hA; (try simp only [natCast_eq] at *); (simp only [Ar.real, NV.val, Int.ofNat_eq_natCast, Int.toNat_natCast]); first | done | omega | decide | exact inR64 (by omega) (by omega) | (refine ⟨?_, ?_⟩ <;> first | omega | decide | exact inR64 (by omega) (by omega)))
              · clear hR c9
                cbv
                refine CS.le hA (cl) [] rfl rfl rfl ?_ ?_ ?_
                · (try cbv) <;> (repeat' (first | exact trivial | exact rfl | apply And.intro | (intro _ hle; first | refine chunk_le hA rfl hle rfl ?_ | refine cat_le hA ?_ | refine upd_le hA ?_ | (try cbv)))) <;> (try (subst hA; (try simp only [natCast_eq] at *); (simp only [Ar.real, NV.val, Int.ofNat_eq_natCast, Int.toNat_natCast]); first | done | omega | decide | exact inR64 (by omega) (by omega) | (refine ⟨?_, ?_⟩ <;> first | omega | decide | exact inR64 (by omega) (by omega))))
                · (try cbv) <;> (repeat' (first | exact trivial | exact rfl | apply And.intro | (intro _ hle; first | refine chunk_le hA rfl hle rfl ?_ | refine cat_le hA ?_ | refine upd_le hA ?_ | (try cbv))))
                cbv
                refine Fin.le hA 0 [] (.bl true) ([]) 90 rfl rfl rfl ?_ ?_ (by rw [← hK]; exact ⟨rfl, rfl, rfl⟩)
                · (try cbv) <;> (repeat' (first | exact trivial | exact rfl | apply And.intro | (intro _ hle; first | refine chunk_le hA rfl hle rfl ?_ | refine cat_le hA ?_ | refine upd_le hA ?_ | (try cbv))))
                · (try cbv) <;> (repeat' (first | exact trivial | exact rfl | apply And.intro | (intro _ hle; first | refine chunk_le hA rfl hle rfl ?_ | refine cat_le hA ?_ | refine upd_le hA ?_ | (try cbv))))
            · clear hR c9
              cbv
              refine CS.le hA (cl) [] rfl rfl rfl ?_ ?_ ?_
              · (try cbv) <;> (repeat' (first | exact trivial | exact rfl | apply And.intro | (intro _ hle; first | refine chunk_le hA rfl hle rfl ?_ | refine cat_le hA ?_ | refine upd_le hA ?_ | (try cbv)))) <;> (try (subst hA; (try simp only [natCast_eq] at *); (simp only [Ar.real, NV.val, Int.ofNat_eq_natCast, Int.toNat_natCast]); first | done | omega | decide | exact inR64 (by omega) (by omega) | (refine ⟨?_, ?_⟩ <;> first | omega | decide | exact inR64 (by omega) (by omega))))
              · (try cbv) <;> (repeat' (first | exact trivial | exact rfl | apply And.intro | (intro _ hle; first | refine chunk_le hA rfl hle rfl ?_ | refine cat_le hA ?_ | refine upd_le hA ?_ | (try cbv))))
              cbv
              refine Fin.le hA 0 [] (.bl true) ([]) 90 rfl rfl rfl ?_ ?_ (by rw [← hK]; exact ⟨rfl, rfl, rfl⟩)
              · (try cbv) <;> (repeat' (first | exact trivial | exact rfl | apply And.intro | (intro _ hle; first | refine chunk_le hA rfl hle rfl ?_ | refine cat_le hA ?_ | refine upd_le hA ?_ | (try cbv))))
              · (try cbv) <;> (repeat' (first | exact trivial | exact rfl | apply And.intro | (intro _ hle; first | refine chunk_le hA rfl hle rfl ?_ | refine cat_le hA ?_ | refine upd_le hA ?_ | (try cbv))))
end Go.Proofs.Ytkaobalnjimniaa.Vec
