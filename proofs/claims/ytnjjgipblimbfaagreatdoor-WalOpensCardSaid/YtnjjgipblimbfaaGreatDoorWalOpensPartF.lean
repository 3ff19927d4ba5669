/-
  A verified symbolic executor over the code of the model, and what it shows of this program: part 6 of 7 (LawWalOpens).
-/
import Derived.Test.YtnjjgipblimbfaaGreatDoorWalOpensPartE
set_option linter.unusedVariables false
set_option linter.unusedSimpArgs false
namespace Go.Proofs.YtnjjgipblimbfaaGreatDoor.Dsk
open Go.Eng
open Go.DskLaw (q64 secV isB)
open Go.WalLaw
set_option maxRecDepth 100000
set_option maxHeartbeats 1000000
theorem byteR (x : Nat) : IntKind.u8.wrap (Int.tmod (x : Int) 256) = ((x % 256 : Nat) : Int) := by
  rw [show Int.tmod (x : Int) 256 = ((x % 256 : Nat) : Int) from rem_nat x 256]
  simp only [IntKind.wrap, IntKind.bits, IntKind.signed]
  simp
theorem rhead_own {P : Program} {G : Gl} (hP : P = Tryz.prog) {g : Nat} {f : Nat → Int} (hg : g ≤ 9223372036854775807) (hf : ∀ i, i < 64 → f i = headB g i) :
    FnTr P G 85 [.int .i64 (g : Int)] [] 0 (Gives (.sl 0 1 (.l 0) (.l 64)) [(0, .row 5 1 (.l 64) (fun e => [.int .u8 (f e.val)]))] 100) := by
  obtain ⟨F, hF⟩ : ∃ F : Nat → Nat → Int, ∀ j x, F j x = headQ g j x := ⟨_, fun _ _ => rfl⟩
  have hF0 : ∀ x, x < 64 → F 0 x = 0 := fun x hx => by rw [hF]; exact headQ_zero g x hx
  obtain ⟨B, hB⟩ : ∃ B : Nat → Int, ∀ j, B j = ((g / 256 ^ j % 256 : Nat) : Int) := ⟨_, fun _ => rfl⟩
  obtain ⟨Y, hY⟩ : ∃ Y : Nat → Nat, ∀ j, Y j = g / 256 ^ j := ⟨_, fun _ => rfl⟩
  have hFs : ∀ (j x : Nat), j < 8 → x < 64 → F (j + 1) x = if x = 63 - j then B j else if x = 7 - j then B j else F j x := fun j x hj hx => by rw [hF, hF, hB]; exact headQ_succ g j x hj hx
  have hF8 : ∀ x, x < 64 → F 8 x = f x := fun x hx => by rw [hF, headQ_all g x hx, hf x hx]
  have hb : ∀ (j : Nat), IntKind.u8.wrap (Int.tmod ((Y j : Nat) : Int) 256) = B j := fun j => by rw [hB, byteR, hY]
  have hY0 : Y 0 = g := by rw [hY]; exact Nat.div_one g
  have hYs : ∀ j, Int.tdiv ((Y j : Nat) : Int) 256 = ((Y (j + 1) : Nat) : Int) := fun j => by
    rw [show Int.tdiv ((Y j : Nat) : Int) 256 = ((Y j / 256 : Nat) : Int) from quo_nat (Y j) 256, hY, hY, Nat.pow_succ, Nat.div_div_eq_div_mul]
  have hYle : ∀ j, Y j ≤ 9223372036854775807 := fun j => by rw [hY]; exact Nat.le_trans (Nat.div_le_self _ _) hg
  obtain ⟨I, hI⟩ : ∃ I : Nat → Int, ∀ j, I j = 7 - (j : Int) := ⟨_, fun _ => rfl⟩
  have hI0 : I 0 = 7 := hI 0
  have hI2 : ∀ j, j < 8 → (I j).toNat = 7 - j := fun j hj => by rw [hI]; omega
  have hI3 : ∀ j, j < 8 → ((56 : Int) + I j).toNat = 63 - j := fun j hj => by rw [hI]; omega
  have hI4 : ∀ j, 0 ≤ I j ↔ j < 8 := fun j => by rw [hI]; omega
  have hI5 : ∀ j, I (j + 1) = I j - 1 := fun j => by rw [hI, hI]; omega
  have hI6 : ∀ j, j ≤ 8 → -1 ≤ I j ∧ I j ≤ 7 := fun j hj => by rw [hI]; omega
  clear hI
  clear hF hf hB hY
  have hT : T.Ok P := hP ▸ T_ok
  refine FnTr.intro (fn := Tryz.f85) (c := bodyOf Tryz.f85) (by rw [hP]; rfl) rfl rfl hT ?_
  generalize hA : Ar.real = A
  generalize hK : Gives _ _ _ = K
  cbv
  refine ⟨(by (subst hA; (try simp only [zn] at *); (try (simp only [Ar.real, NV.val, zo, zt])); first | done | omega | decide | exact zi | (refine ⟨?_, ?_⟩ <;> first | omega | decide | exact zi))), ?_⟩
  refine LS.le hT hA 2 (fun (j : Nat) => [(4, .int .i64 ((Y j : Nat) : Int)), (5, .int .i64 (I j))]) (fun j => [(1, .row 5 1 (.l 64) (fun e => [.int .u8 (F j e.val)]))]) (fun j => j ≤ 8) (fun j => 8 - j) 0 [] rfl rfl ?_ ?_ ?_
  · (try cbv) <;> (repeat' (first | exact trivial | exact rfl | apply And.intro | exact fun _ => rfl | (intro _ hle; first | refine chunk_le hA rfl hle rfl ?_ | refine cat_le hA ?_ | refine upd_le hA ?_ | (try cbv))))
    all_goals first | exact hI0.symm | exact congrArg Int.ofNat hY0.symm | (rw [hY0]; rfl) | (refine (hF0 _ ?_).symm; subst hA; exact ltNV_real.1 (by assumption))
  · exact Nat.zero_le _
  · intro R hR j hj
    cbv
    have hI2 := hI2 j
    have hI3 := hI3 j
    have hI4 := hI4 j
    have hI5 := hI5 j
    have hI6 := hI6 j hj
    refine ⟨fun q1 => ?_, fun q1 => ?_⟩
    · have hj8 : j < 8 := by clear hR hF0 hFs hF8 hb hYs hYle; subst hA; simp [Ar.real] at q1; exact hI4.1 q1
      have hI2 := hI2 hj8
      have hI3 := hI3 hj8
      have hb := hb j
      have hYs := hYs j
      have hFs := fun x hx => hFs j x hj8 hx
      have hYle := hYle j
      have hI4' := hI4.2 hj8
      clear hF0 hF8 hI4
      have kn : A.nat (I j) = 7 - j := by clear hR hFs hb hYs; subst hA; exact hI2
      have kn2 : A.nat (A.add 56 (I j)) = 63 - j := by clear hR hFs hb hYs kn; subst hA; exact hI3
      have kv : A.conv .u8 (A.rem ((Y j : Nat) : Int) 256) = B j := by clear hR hFs kn kn2 hYs; subst hA; exact hb
      have ky : A.quo ((Y j : Nat) : Int) 256 = ((Y (j + 1) : Nat) : Int) := by clear hR hFs kn kn2 hb kv; subst hA; exact hYs
      have hup : ∀ e, ltNV A e (.l 64) → leL (leSV A 4) (updF A 1 (.s (A.nat (A.add 56 (I j)))) 0 [.int .u8 (A.conv .u8 (A.rem ((Y j : Nat) : Int) 256))] (updF A 1 (.s (A.nat (I j))) 0 [.int .u8 (A.conv .u8 (A.rem ((Y j : Nat) : Int) 256))] (fun e => [.int .u8 (F j e.val)])) e) [.int .u8 (F (j + 1) e.val)] := fun e he =>
        Ints.le hA (Ints.upd hA (A.nat (A.add 56 (I j))) rfl (Ints.upd hA (A.nat (I j)) rfl (Ints.base .u8 (F j) 64))) he (Nat.le_refl _) (by rw [kn2, kn, kv, hFs _ (by subst hA; exact ltNV_real.1 he)])
      have ki : A.inR .i64 (A.quo ((Y j : Nat) : Int) 256) := by
        clear hR hFs kn kn2 hb kv ky hup hYs; subst hA
        show inRange .i64 (Int.tdiv ((Y j : Nat) : Int) 256)
        rw [show Int.tdiv ((Y j : Nat) : Int) 256 = ((Y j / 256 : Nat) : Int) from quo_nat (Y j) 256]
        exact zi
      clear hb hFs kv kn kn2 hYs
      cbv
      have hI0' : 0 ≤ I j := hI4'
      refine ⟨?_, ?_, ?_, ?_, ?_, ?_, ?_, ⟨?_, ki⟩, ?_, hR _ _ ⟨j + 1, 2, [], rfl, rfl, ?_, hj8, (by show 8 - (j + 1) < 8 - j; omega)⟩⟩
      iterate 9 (subst hA; (try simp only [zn] at *); (try (simp only [Ar.real, NV.val, zo, zt])); first | done | omega | decide | exact zi | (refine ⟨?_, ?_⟩ <;> first | omega | decide | exact zi))
      clear hR ki
      (try cbv) <;> (repeat' (first | exact trivial | exact rfl | apply And.intro | exact fun _ => rfl | (intro _ hle; first | exact hup _ hle | refine chunk_le hA rfl hle rfl ?_ | refine cat_le hA ?_ | refine upd_le hA ?_ | refine int_le ?_ | skip)))
      all_goals first | exact ky | (rw [hI5]; (subst hA; (try simp only [zn] at *); (try (simp only [Ar.real, NV.val, zo, zt])); first | done | omega | decide | exact zi | (refine ⟨?_, ?_⟩ <;> first | omega | decide | exact zi))) | (subst hA; (try simp only [zn] at *); (try (simp only [Ar.real, NV.val, zo, zt])); first | done | omega | decide | exact zi | (refine ⟨?_, ?_⟩ <;> first | omega | decide | exact zi))
    · have hj8 : j = 8 := by
        have : ¬ 0 ≤ I j := by clear hR hF0 hFs hF8 hb hYs hYle; subst hA; simp [Ar.real] at q1; omega
        rw [hI4] at this; omega
      subst hj8
      clear hR hF0 hFs hb hYs hYle
      cbv
      refine Fin.le hA 0 [(1, 0)] (.sl 0 1 (.l 0) (.l 64)) ([(0, .row 5 1 (.l 64) (fun e => [.int .u8 (f e.val)]))]) 100 rfl rfl rfl ?_ ?_ (by rw [← hK]; exact ⟨rfl, rfl, rfl⟩)
      · (try cbv) <;> (repeat' (first | exact trivial | exact rfl | apply And.intro | exact fun _ => rfl | (intro _ hle; first | refine chunk_le hA rfl hle rfl ?_ | refine cat_le hA ?_ | refine upd_le hA ?_ | (try cbv))))
      · (try cbv) <;> (repeat' (first | exact trivial | exact rfl | apply And.intro | exact fun _ => rfl | (intro _ hle; first | refine chunk_le hA rfl hle rfl ?_ | refine cat_le hA ?_ | refine upd_le hA ?_ | (try cbv))))
        all_goals (refine hF8 _ ?_; subst hA; exact ltNV_real.1 (by assumption))
theorem rhead_fn {P : Program} {G : Gl} (hP : P = Tryz.prog) {g : Nat} {f : Nat → Int} (hg : g ≤ 9223372036854775807) (hf : ∀ i, i < 64 → f i = headB g i) :
    FnTr P G 85 [.int .i64 (g : Int)] [] 0 (Gives (.ro 1 (.l 64) (fun e => [.int .u8 (f e.val)])) [] 100) := by
  have h1 := rhead_own (P := P) (G := G) hP hg hf
  generalize hA : Ar.real = A
  refine FnTr.dat hA h1 _ _ ?_
  (try cbv) <;> (repeat' (first | exact trivial | exact rfl | apply And.intro | exact fun _ => rfl | (intro _ hle; first | refine chunk_le hA rfl hle rfl ?_ | refine cat_le hA ?_ | refine upd_le hA ?_ | (try cbv))))
  all_goals (subst hA; (try simp only [zn] at *); (try (simp only [Ar.real, NV.val, zo, zt])); first | done | omega | decide | exact zi | (refine ⟨?_, ?_⟩ <;> first | omega | decide | exact zi))
theorem rgen_fn {P : Program} {G : Gl} (hP : P = Tryz.prog) {n sec g : Nat} {v : Nat → Int} (hn : n = 64) (hi : sec < 2) (hb : isB v) (hg : GenIs v sec g) :
    FnTr P G 69 [By n v, .int .i64 (sec : Int)] [] 0 (Gives (.int .i64 (g : Int)) [] 1000) := by
  obtain ⟨X, hX⟩ : ∃ X : Nat → Nat, ∀ j, X j = genN v j := ⟨_, fun _ => rfl⟩
  have hX0 : X 0 = 0 := hX 0
  have hXm : ∀ j, j ≤ 8 → X j ≤ X 8 := fun j hj => by rw [hX, hX]; exact genN_mono v hj
  have hXs : ∀ j, j < 8 → ((X j : Nat) : Int) * 256 + v j = ((X (j + 1) : Nat) : Int) := fun j hj => by
    have := hb j (by omega)
    rw [hX, hX]
    show _ = ((genN v j * 256 + (v j).toNat : Nat) : Int)
    omega
  have hX8 : X 8 = genN v 8 := hX 8
  clear hX
  have hG : GenOk v sec ↔ (1 ≤ X 8 ∧ X 8 ≤ 1099511627776 ∧ X 8 % 2 = sec ∧ ∀ i, i < 64 → v i = headB (X 8) i) := by rw [hX8]; exact Iff.rfl
  have hg2 : (GenOk v sec ∧ g = X 8) ∨ (¬ GenOk v sec ∧ g = 0) := by rw [hX8]; exact hg
  clear hg hX8
  have hbig : ∀ j, j ≤ 8 → 1099511627776 < X j → g = 0 := fun j hj h => by
    rcases hg2 with q | q
    · have := (hG.1 q.1).2.1
      have := hXm j hj
      omega
    · exact q.2
  have hT : T.Ok P := hP ▸ T_ok
  refine FnTr.intro (fn := Tryz.f69) (c := bodyOf Tryz.f69) (by rw [hP]; rfl) rfl rfl hT ?_
  generalize hA : Ar.real = A
  generalize hK : Gives _ _ _ = K
  cbv
  refine LS.le hT hA 0 (fun (i : Nat) => [(5, .int .i64 ((X i : Nat) : Int)), (6, .int .i64 (i : Int))]) (fun _ => []) (fun i => i ≤ 8) (fun i => 8 - i) 0 [] rfl rfl ?_ ?_ ?_
  · (try cbv) <;> (repeat' (first | exact trivial | exact rfl | apply And.intro | exact fun _ => rfl | (intro _ hle; first | refine chunk_le hA rfl hle rfl ?_ | refine cat_le hA ?_ | refine upd_le hA ?_ | (try cbv))))
    all_goals (subst hA; rw [hX0]; rfl)
  · exact Nat.zero_le _
  · intro R hR i hi8
    cbv
    refine ⟨fun q1 => ?_, fun q1 => ?_⟩
    · have hlt : i < 8 := by clear hR hX0 hXs hXm hb hG hg2 hbig; subst hA; simp [Ar.real] at q1; omega
      have hXs := hXs i hlt
      have hv1 := hb i (by omega)
      have hbig := hbig i (by omega)
      have kn : A.nat (Int.ofNat i) = i := by clear hR hXs; subst hA; rfl
      cbv
      by_cases q2 : 1099511627776 < X i
      · have k1 : A.gt ((X i : Nat) : Int) 1099511627776 = true := by clear hR hXs; subst hA; simp [Ar.real]; omega
        have hg0 := hbig q2
        clear hR hX0 hXs hXm hb hG hg2 hbig
        first | refine testR k1 rfl ?_ | refine testL k1 rfl ?_
        cbv
        refine Fin.le hA 0 [] (.int .i64 (g : Int)) ([]) 1000 rfl rfl rfl ?_ ?_ (by rw [← hK]; exact ⟨rfl, rfl, rfl⟩)
        · (try cbv) <;> (repeat' (first | exact trivial | exact rfl | apply And.intro | exact fun _ => rfl | (intro _ hle; first | refine chunk_le hA rfl hle rfl ?_ | refine cat_le hA ?_ | refine upd_le hA ?_ | (try cbv))))
          all_goals (subst hA; (try simp only [zn] at *); (try (simp only [Ar.real, NV.val, zo, zt])); first | done | omega | decide | exact zi | (refine ⟨?_, ?_⟩ <;> first | omega | decide | exact zi))
        · (try cbv) <;> (repeat' (first | exact trivial | exact rfl | apply And.intro | exact fun _ => rfl | (intro _ hle; first | refine chunk_le hA rfl hle rfl ?_ | refine cat_le hA ?_ | refine upd_le hA ?_ | (try cbv))))
      · have k1 : A.gt ((X i : Nat) : Int) 1099511627776 = false := by clear hR hXs; subst hA; simp [Ar.real]; omega
        clear hX0 hXm hb hG hg2 hbig
        have kx : A.add (A.mul ((X i : Nat) : Int) 256) (A.conv .i64 (v (A.nat (Int.ofNat i)))) = ((X (i + 1) : Nat) : Int) := by
          rw [kn]; clear hR kn k1; subst hA
          refine Eq.trans ?_ hXs
          show ((X i : Nat) : Int) * 256 + IntKind.i64.wrap (v i) = _
          rw [show IntKind.i64.wrap (v i) = v i by rw [IntKind.wrap_i64]; omega]
        have kr : A.inR .i64 (A.add (A.mul ((X i : Nat) : Int) 256) (A.conv .i64 (v (A.nat (Int.ofNat i))))) := by
          rw [kx]; clear hR kn k1 kx; subst hA
          simp only [zn] at *
          exact zi
        clear hXs kn
        first | refine testR k1 rfl ?_ | refine testL k1 rfl ?_
        cbv
        refine ⟨?_, ?_, kr, ?_, hR _ _ ⟨i + 1, 0, [], rfl, rfl, ?_, hlt, (by show 8 - (i + 1) < 8 - i; omega)⟩⟩
        iterate 3 (subst hA; (try simp only [zn] at *); (try (simp only [Ar.real, NV.val, zo, zt])); first | done | omega | decide | exact zi | (refine ⟨?_, ?_⟩ <;> first | omega | decide | exact zi))
        clear hR kr
        (try cbv) <;> (repeat' (first | exact trivial | exact rfl | apply And.intro | exact fun _ => rfl | (intro _ hle; first | refine chunk_le hA rfl hle rfl ?_ | refine cat_le hA ?_ | refine upd_le hA ?_ | (try cbv))))
        all_goals first | exact kx | (subst hA; (try simp only [zn] at *); (try (simp only [Ar.real, NV.val, zo, zt])); first | done | omega | decide | exact zi | (refine ⟨?_, ?_⟩ <;> first | omega | decide | exact zi))
    · have h8 : i = 8 := by clear hR hX0 hXs hXm hb hG hg2 hbig; subst hA; simp [Ar.real] at q1; omega
      subst h8
      clear hR hX0 hXs hXm hbig
      obtain ⟨x, hx⟩ : ∃ x, x = X 8 := ⟨_, rfl⟩
      rw [← hx] at hG hg2
      have ex : ((X 8 : Nat) : Int) = (x : Int) := by rw [hx]
      have kc : A.rem ((X 8 : Nat) : Int) 2 = ((x % 2 : Nat) : Int) := by rw [← hx]; clear hG hg2; subst hA; rfl
      by_cases g1 : x < 1
      · have g0 : g = 0 := by rcases hg2 with h | h; exact absurd (hG.1 h.1).1 (by omega); exact h.2
        have k1 : A.lt ((X 8 : Nat) : Int) 1 = true := by rw [← hx]; clear hG hg2; subst hA; simp [Ar.real]; omega
        clear hG hg2 hb
        cbv
        refine DS.runK hA hT (by rw [hP]; exact P_mixed) 300 rfl ?_
        cbv
        first | refine testR k1 rfl ?_ | refine testL k1 rfl ?_
        cbv
        refine DF.fin (by kernel_rfl) (by kernel_rfl) ?_
        cbv
        refine Fin.le hA 0 [] (.int .i64 (g : Int)) ([]) 1000 rfl rfl rfl ?_ ?_ (by rw [← hK]; exact ⟨rfl, rfl, rfl⟩)
        · (try cbv) <;> (repeat' (first | exact trivial | exact rfl | apply And.intro | exact fun _ => rfl | (intro _ hle; first | refine chunk_le hA rfl hle rfl ?_ | refine cat_le hA ?_ | refine upd_le hA ?_ | (try cbv))))
          all_goals first | (rw [g0]; rfl) | (rw [g0, hx]; rfl) | (rw [g0, hx]) | (subst hA; rw [g0]; rfl) | trace_state
        · (try cbv) <;> (repeat' (first | exact trivial | exact rfl | apply And.intro | exact fun _ => rfl | (intro _ hle; first | refine chunk_le hA rfl hle rfl ?_ | refine cat_le hA ?_ | refine upd_le hA ?_ | (try cbv))))
      have k1 : A.lt ((X 8 : Nat) : Int) 1 = false := by rw [← hx]; clear hG hg2; subst hA; simp [Ar.real]; omega
      by_cases g2 : 1099511627776 < x
      · have g0 : g = 0 := by rcases hg2 with h | h; exact absurd (hG.1 h.1).2.1 (by omega); exact h.2
        have k2 : A.gt ((X 8 : Nat) : Int) 1099511627776 = true := by rw [← hx]; clear hG hg2; subst hA; simp [Ar.real]; omega
        clear hG hg2 hb
        cbv
        refine DS.runK hA hT (by rw [hP]; exact P_mixed) 300 rfl ?_
        cbv
        first | refine testR k1 rfl ?_ | refine testL k1 rfl ?_
        cbv
        first | refine testR k2 rfl ?_ | refine testL k2 rfl ?_
        cbv
        refine DF.fin (by kernel_rfl) (by kernel_rfl) ?_
        cbv
        refine Fin.le hA 0 [] (.int .i64 (g : Int)) ([]) 1000 rfl rfl rfl ?_ ?_ (by rw [← hK]; exact ⟨rfl, rfl, rfl⟩)
        · (try cbv) <;> (repeat' (first | exact trivial | exact rfl | apply And.intro | exact fun _ => rfl | (intro _ hle; first | refine chunk_le hA rfl hle rfl ?_ | refine cat_le hA ?_ | refine upd_le hA ?_ | (try cbv))))
          all_goals first | (rw [g0]; rfl) | (rw [g0, hx]; rfl) | (rw [g0, hx]) | (subst hA; rw [g0]; rfl) | trace_state
        · (try cbv) <;> (repeat' (first | exact trivial | exact rfl | apply And.intro | exact fun _ => rfl | (intro _ hle; first | refine chunk_le hA rfl hle rfl ?_ | refine cat_le hA ?_ | refine upd_le hA ?_ | (try cbv))))
      have k2 : A.gt ((X 8 : Nat) : Int) 1099511627776 = false := by rw [← hx]; clear hG hg2; subst hA; simp [Ar.real]; omega
      by_cases g3 : ¬ x % 2 = sec
      · have g0 : g = 0 := by rcases hg2 with h | h; exact absurd (hG.1 h.1).2.2.1 g3; exact h.2
        have k3 : A.ne (A.rem ((X 8 : Nat) : Int) 2) (Int.ofNat sec) = true := by rw [kc]; clear hG hg2 k1 k2 kc; subst hA; simp [Ar.real]; omega
        clear hG hg2 hb
        cbv
        refine DS.runK hA hT (by rw [hP]; exact P_mixed) 300 rfl ?_
        cbv
        first | refine testR k1 rfl ?_ | refine testL k1 rfl ?_
        cbv
        first | refine testR k2 rfl ?_ | refine testL k2 rfl ?_
        cbv
        refine ⟨(by (subst hA; (try simp only [zn] at *); (try (simp only [Ar.real, NV.val, zo, zt])); first | done | omega | decide | exact zi | (refine ⟨?_, ?_⟩ <;> first | omega | decide | exact zi))), ?_⟩
        first | refine testR k3 rfl ?_ | refine testL k3 rfl ?_
        cbv
        refine DF.fin (by kernel_rfl) (by kernel_rfl) ?_
        cbv
        refine Fin.le hA 0 [] (.int .i64 (g : Int)) ([]) 1000 rfl rfl rfl ?_ ?_ (by rw [← hK]; exact ⟨rfl, rfl, rfl⟩)
        · (try cbv) <;> (repeat' (first | exact trivial | exact rfl | apply And.intro | exact fun _ => rfl | (intro _ hle; first | refine chunk_le hA rfl hle rfl ?_ | refine cat_le hA ?_ | refine upd_le hA ?_ | (try cbv))))
          all_goals first | (rw [g0]; rfl) | (rw [g0, hx]; rfl) | (rw [g0, hx]) | (subst hA; rw [g0]; rfl) | trace_state
        · (try cbv) <;> (repeat' (first | exact trivial | exact rfl | apply And.intro | exact fun _ => rfl | (intro _ hle; first | refine chunk_le hA rfl hle rfl ?_ | refine cat_le hA ?_ | refine upd_le hA ?_ | (try cbv))))
      have g3 := Decidable.not_not.1 g3
      have k3 : A.ne (A.rem ((X 8 : Nat) : Int) 2) (Int.ofNat sec) = false := by rw [kc]; clear hG hg2 k1 k2 kc; subst hA; simp [Ar.real]; omega
      obtain ⟨hd, hhd⟩ : ∃ hd : Nat → Int, ∀ i, hd i = headB x i := ⟨_, fun _ => rfl⟩
      have c1 := rhead_fn (P := P) (G := G) (g := X 8) (f := hd) hP (by rw [← hx]; omega) (fun i _ => by rw [← hx]; exact hhd i)
      have bh : ∀ i, i < 64 → 0 ≤ hd i ∧ hd i < 256 := fun i _ => by rw [hhd]; have := headB_range x i; omega
      have bv : ∀ i, i < n → 0 ≤ v i ∧ v i < 256 := fun i hi => by have := hb i (by omega); omega
      have hbe := bytes_eq (n := 64) (m := n) (f := hd) (g := v) bh bv
      by_cases g4 : ∀ i, i < 64 → hd i = v i
      · have g0 : g = x := by
          rcases hg2 with h | h
          · exact h.2
          · exact absurd (hG.2 ⟨by omega, by omega, g3, fun i hi => by rw [← g4 i hi, hhd]⟩) h.1
        have k4 : A.not (A.eqL (A.bytes 64 (byteAt fun e => [.int .u8 (hd e.val)])) (A.bytes n (byteAt fun e => [.int .u8 (v e.val)]))) = false := by
          have := hbe.2 ⟨hn.symm, g4⟩
          clear hG hg2 k1 k2 k3 kc c1 hbe; subst hA
          simp only [Ar.real, Bool.not_eq_false']
          exact this
        clear hG hg2 hb hhd bh bv g4 hbe
        cbv
        refine DS.runK hA hT (by rw [hP]; exact P_mixed) 300 rfl ?_
        cbv
        first | refine testR k1 rfl ?_ | refine testL k1 rfl ?_
        cbv
        first | refine testR k2 rfl ?_ | refine testL k2 rfl ?_
        cbv
        refine ⟨(by (subst hA; (try simp only [zn] at *); (try (simp only [Ar.real, NV.val, zo, zt])); first | done | omega | decide | exact zi | (refine ⟨?_, ?_⟩ <;> first | omega | decide | exact zi))), ?_⟩
        first | refine testR k3 rfl ?_ | refine testL k3 rfl ?_
        cbv
        refine CD.pass hA (c1) [] [] rfl ⟨rfl, rfl, rfl, rfl, ?_, ?_⟩ rfl (.inl rfl) ?_
        iterate 2 ((try cbv) <;> (repeat' (first | exact trivial | exact rfl | apply And.intro | exact fun _ => rfl | (intro _ hle; first | refine chunk_le hA rfl hle rfl ?_ | refine cat_le hA ?_ | refine upd_le hA ?_ | (try cbv)))) <;> (try (subst hA; (try simp only [zn] at *); (try (simp only [Ar.real, NV.val, zo, zt])); first | done | omega | decide | exact zi | (refine ⟨?_, ?_⟩ <;> first | omega | decide | exact zi))))
        cbv
        refine ⟨fun e _ => rfl, fun e _ => rfl, ?_⟩
        refine DF.fin (by kernel_rfl) (by kernel_rfl) ?_
        cbv
        first | refine testR k4 rfl ?_ | refine testL k4 rfl ?_
        cbv
        refine Fin.le hA 0 [] (.int .i64 (g : Int)) ([]) 1000 rfl rfl rfl ?_ ?_ (by rw [← hK]; exact ⟨rfl, rfl, rfl⟩)
        · (try cbv) <;> (repeat' (first | exact trivial | exact rfl | apply And.intro | exact fun _ => rfl | (intro _ hle; first | refine chunk_le hA rfl hle rfl ?_ | refine cat_le hA ?_ | refine upd_le hA ?_ | (try cbv))))
          all_goals first | (rw [g0]; rfl) | (rw [g0, hx]; rfl) | (rw [g0, hx]) | (subst hA; rw [g0]; rfl) | trace_state
        · (try cbv) <;> (repeat' (first | exact trivial | exact rfl | apply And.intro | exact fun _ => rfl | (intro _ hle; first | refine chunk_le hA rfl hle rfl ?_ | refine cat_le hA ?_ | refine upd_le hA ?_ | (try cbv))))
      · have g0 : g = 0 := by
          rcases hg2 with h | h
          · exact absurd (fun i hi => by rw [(hG.1 h.1).2.2.2 i hi, hhd]) g4
          · exact h.2
        have k4 : A.not (A.eqL (A.bytes 64 (byteAt fun e => [.int .u8 (hd e.val)])) (A.bytes n (byteAt fun e => [.int .u8 (v e.val)]))) = true := by
          have h : ¬ _ := fun h => g4 (hbe.1 h).2
          clear hG hg2 k1 k2 k3 kc c1 hbe; subst hA
          simp only [Ar.real, Bool.not_eq_true']
          exact Bool.eq_false_iff.2 h
        clear hG hg2 hb hhd bh bv g4 hbe
        cbv
        refine DS.runK hA hT (by rw [hP]; exact P_mixed) 300 rfl ?_
        cbv
        first | refine testR k1 rfl ?_ | refine testL k1 rfl ?_
        cbv
        first | refine testR k2 rfl ?_ | refine testL k2 rfl ?_
        cbv
        refine ⟨(by (subst hA; (try simp only [zn] at *); (try (simp only [Ar.real, NV.val, zo, zt])); first | done | omega | decide | exact zi | (refine ⟨?_, ?_⟩ <;> first | omega | decide | exact zi))), ?_⟩
        first | refine testR k3 rfl ?_ | refine testL k3 rfl ?_
        cbv
        refine CD.pass hA (c1) [] [] rfl ⟨rfl, rfl, rfl, rfl, ?_, ?_⟩ rfl (.inl rfl) ?_
        iterate 2 ((try cbv) <;> (repeat' (first | exact trivial | exact rfl | apply And.intro | exact fun _ => rfl | (intro _ hle; first | refine chunk_le hA rfl hle rfl ?_ | refine cat_le hA ?_ | refine upd_le hA ?_ | (try cbv)))) <;> (try (subst hA; (try simp only [zn] at *); (try (simp only [Ar.real, NV.val, zo, zt])); first | done | omega | decide | exact zi | (refine ⟨?_, ?_⟩ <;> first | omega | decide | exact zi))))
        cbv
        refine ⟨fun e _ => rfl, fun e _ => rfl, ?_⟩
        refine DF.fin (by kernel_rfl) (by kernel_rfl) ?_
        cbv
        first | refine testR k4 rfl ?_ | refine testL k4 rfl ?_
        cbv
        refine Fin.le hA 0 [] (.int .i64 (g : Int)) ([]) 1000 rfl rfl rfl ?_ ?_ (by rw [← hK]; exact ⟨rfl, rfl, rfl⟩)
        · (try cbv) <;> (repeat' (first | exact trivial | exact rfl | apply And.intro | exact fun _ => rfl | (intro _ hle; first | refine chunk_le hA rfl hle rfl ?_ | refine cat_le hA ?_ | refine upd_le hA ?_ | (try cbv))))
          all_goals first | (rw [g0]; rfl) | (rw [g0, hx]; rfl) | (rw [g0, hx]) | (subst hA; rw [g0]; rfl) | trace_state
        · (try cbv) <;> (repeat' (first | exact trivial | exact rfl | apply And.intro | exact fun _ => rfl | (intro _ hle; first | refine chunk_le hA rfl hle rfl ?_ | refine cat_le hA ?_ | refine upd_le hA ?_ | (try cbv))))
section
variable {P : Program} {G : Gl} {s g0 g1 g : Nat} {S L : Nat → Nat → Int} {W : Nat → Bool} {c : Int}
theorem rnewest_fn (hP : P = Tryz.prog) (hs : 4 ≤ s) (hb0 : isB (L 0)) (hb1 : isB (L 1)) (h0 : GenIs (L 0) 0 g0) (h1 : GenIs (L 1) 1 g1) (hg : g = max g0 g1) :
    FnTr P G 35 [RD s S L W c] [] 0 (Gives (.int .i64 (g : Int)) [] 100) := by
  have a1 := rgen_fn (P := P) (G := G) (n := 64) (sec := 0) hP rfl (by omega) hb0 h0
  have a2 := rgen_fn (P := P) (G := G) (n := 64) (sec := 1) hP rfl (by omega) hb1 h1
  clear hb0 hb1 h0 h1
  have hT : T.Ok P := hP ▸ T_ok
  refine FnTr.intro (fn := Tryz.f35) (c := bodyOf Tryz.f35) (by rw [hP]; rfl) rfl rfl hT ?_
  generalize hA : Ar.real = A
  generalize hK : Gives _ _ _ = K
  cbv
  refine DS.runK hA hT (by rw [hP]; exact P_mixed) 1100 rfl ?_
  cbv
  refine ⟨(by (subst hA; (try simp only [zn] at *); (try (simp only [Ar.real, NV.val, zo, zt])); first | done | omega | decide | exact zi | (refine ⟨?_, ?_⟩ <;> first | omega | decide | exact zi))), ?_⟩
  refine CD.pass hA (a1) [] [] rfl ⟨rfl, rfl, rfl, rfl, ?_, ?_⟩ rfl (.inl rfl) ?_
  iterate 2 ((try cbv) <;> (repeat' (first | exact trivial | exact rfl | apply And.intro | exact fun _ => rfl | (intro _ hle; first | refine chunk_le hA rfl hle rfl ?_ | refine cat_le hA ?_ | refine upd_le hA ?_ | (try cbv)))) <;> (try (subst hA; (try simp only [zn] at *); (try (simp only [Ar.real, NV.val, zo, zt])); first | done | omega | decide | exact zi | (refine ⟨?_, ?_⟩ <;> first | omega | decide | exact zi))))
  cbv
  refine ⟨(by (subst hA; (try simp only [zn] at *); (try (simp only [Ar.real, NV.val, zo, zt])); first | done | omega | decide | exact zi | (refine ⟨?_, ?_⟩ <;> first | omega | decide | exact zi))), ?_⟩
  refine CD.pass hA (a2) [] [] rfl ⟨rfl, rfl, rfl, rfl, ?_, ?_⟩ rfl (.inl rfl) ?_
  iterate 2 ((try cbv) <;> (repeat' (first | exact trivial | exact rfl | apply And.intro | exact fun _ => rfl | (intro _ hle; first | refine chunk_le hA rfl hle rfl ?_ | refine cat_le hA ?_ | refine upd_le hA ?_ | (try cbv)))) <;> (try (subst hA; (try simp only [zn] at *); (try (simp only [Ar.real, NV.val, zo, zt])); first | done | omega | decide | exact zi | (refine ⟨?_, ?_⟩ <;> first | omega | decide | exact zi))))
  cbv
  refine DF.fin (by kernel_rfl) (by kernel_rfl) ?_
  cbv
  refine ⟨fun h3 => ?_, fun h3 => ?_⟩
  · have e : g0 > g1 := by clear a1 a2; subst hA; simp [Ar.real] at h3; omega
    cbv
    refine Fin.le hA 0 [] (.int .i64 (g : Int)) ([]) 100 rfl rfl rfl ?_ ?_ (by rw [← hK]; exact ⟨rfl, rfl, rfl⟩)
    · (try cbv) <;> (repeat' (first | exact trivial | exact rfl | apply And.intro | exact fun _ => rfl | (intro _ hle; first | refine chunk_le hA rfl hle rfl ?_ | refine cat_le hA ?_ | refine upd_le hA ?_ | (try cbv))))
      all_goals (subst hA; (try simp only [zn] at *); (try (simp only [Ar.real, NV.val, zo, zt])); first | done | omega | decide | exact zi | (refine ⟨?_, ?_⟩ <;> first | omega | decide | exact zi))
    · (try cbv) <;> (repeat' (first | exact trivial | exact rfl | apply And.intro | exact fun _ => rfl | (intro _ hle; first | refine chunk_le hA rfl hle rfl ?_ | refine cat_le hA ?_ | refine upd_le hA ?_ | (try cbv))))
  · have e : ¬ g0 > g1 := by clear a1 a2; subst hA; simp [Ar.real] at h3; omega
    cbv
    refine Fin.le hA 0 [] (.int .i64 (g : Int)) ([]) 100 rfl rfl rfl ?_ ?_ (by rw [← hK]; exact ⟨rfl, rfl, rfl⟩)
    · (try cbv) <;> (repeat' (first | exact trivial | exact rfl | apply And.intro | exact fun _ => rfl | (intro _ hle; first | refine chunk_le hA rfl hle rfl ?_ | refine cat_le hA ?_ | refine upd_le hA ?_ | (try cbv))))
      all_goals (subst hA; (try simp only [zn] at *); (try (simp only [Ar.real, NV.val, zo, zt])); first | done | omega | decide | exact zi | (refine ⟨?_, ?_⟩ <;> first | omega | decide | exact zi))
    · (try cbv) <;> (repeat' (first | exact trivial | exact rfl | apply And.intro | exact fun _ => rfl | (intro _ hle; first | refine chunk_le hA rfl hle rfl ?_ | refine cat_le hA ?_ | refine upd_le hA ?_ | (try cbv))))
end
end Go.Proofs.YtnjjgipblimbfaaGreatDoor.Dsk
namespace Go.Proofs.YtnjjgipblimbfaaGreatDoor.Dsk
open Go.Eng
open Go.DskLaw (q64 secV)
set_option maxRecDepth 100000
set_option maxHeartbeats 4000000
abbrev RH (a b c : Nat) (s : Nat) (S L : Nat → Nat → Int) (W : Nat → Bool) : Hl :=
  [(a, .row 22 1 (.s s) (fun e => [.ro 1 (.s 64) (fun x => [.int .u8 (S e.val x.val)])])), (b, .row 22 1 (.s s) (fun e => [.ro 1 (.s 64) (fun x => [.int .u8 (L e.val x.val)])])), (c, .row 4 1 (.s s) (fun e => [.bs (W e.val)]))]
theorem copied_own {P : Program} {G : Gl} (hP : P = Tryz.prog) {s : Nat} {S L : Nat → Nat → Int} {W : Nat → Bool} {c : Int} (hs : s ≤ 4096) :
    FnTr P G 75 [RD s S L W c] [] 0 (Gives (.agg [.sl 0 1 (.l 0) (.s s), .sl 1 1 (.l 0) (.s s), .sl 2 1 (.l 0) (.s s), .int .i64 c]) (RH 0 1 2 s S L W) 40) := by
  have hT : T.Ok P := hP ▸ T_ok
  refine FnTr.intro (fn := Tryz.f75) (c := bodyOf Tryz.f75) (by rw [hP]; rfl) rfl rfl hT ?_
  generalize hA : Ar.real = A
  generalize hK : Gives _ _ _ = K
  cbv
  refine ⟨?_, ?_, ?_, ?_⟩
  iterate 3 (subst hA; (try simp only [zn] at *); (try (simp only [Ar.real, NV.val, zo, zt])); first | done | omega | decide | exact zi | (refine ⟨?_, ?_⟩ <;> first | omega | decide | exact zi))
  refine Fin.le hA 0 [(11, 0), (18, 1), (25, 2)] (.agg [.sl 0 1 (.l 0) (.s s), .sl 1 1 (.l 0) (.s s), .sl 2 1 (.l 0) (.s s), .int .i64 c]) _ 40 rfl rfl rfl ?_ ?_ (by rw [← hK]; exact ⟨rfl, rfl, rfl⟩)
  iterate 2 ((try cbv) <;> (repeat' (first | exact trivial | exact rfl | apply And.intro | exact fun _ => rfl | (intro _ hle; first | refine chunk_le hA rfl hle rfl ?_ | refine cat_le hA ?_ | refine upd_le hA ?_ | (try cbv)))))
theorem refwrite_ok {P : Program} {G : Gl} (hP : P = Tryz.prog) {s n i : Nat} {S L L' : Nat → Nat → Int} {f : Nat → Int} {W W' : Nat → Bool} {c c' : Int} (hs : s ≤ 4096) (h : c ≠ 0) (hcr : -1 ≤ c ∧ c ≤ 9223372036854775807) (hi : i < s) (hn : n = 64)
    (hL : ∀ t x, t < s → x < 64 → L' t x = if t = i then f x else L t x) (hW : ∀ t, t < s → W' t = if t = i then true else W t) (hc : c' = if 0 < c then c - 1 else c) :
    FnTr P G 74 [RD s S L W c, .int .i64 (i : Int), By n f] [] 0 (Gives (.tup [RD s S L' W' c', .lit .i64 0]) [] 200) := by
  have c1 := refoff_fn (P := P) (G := G) (s := s) (S := S) (L := L) (W := W) (c := c) (r := false) hP ⟨fun q => (by cases q), fun q => absurd q h⟩
  have c2 := copied_own (P := P) (G := G) (S := S) (L := L) (W := W) (c := c) hP hs
  have h0 : FnTr P G 74 [RD s S L W c, .int .i64 (i : Int), By n f] [] 0 (Gives (.tup [.agg [.sl 0 1 (.l 0) (.s s), .sl 1 1 (.l 0) (.s s), .sl 2 1 (.l 0) (.s s), .int .i64 c'], .lit .i64 0]) (RH 0 1 2 s S L' W') 200) := by
    have hT : T.Ok P := hP ▸ T_ok
    refine FnTr.intro (fn := Tryz.f74) (c := bodyOf Tryz.f74) (by rw [hP]; rfl) rfl rfl hT ?_
    generalize hA : Ar.real = A
    generalize hK : Gives _ _ _ = K
    cbv
    refine CS.leR hA (c1) (.bl false) [] rfl rfl rfl ?_ ?_ ?_ ?_
    iterate 3 ((try cbv) <;> (repeat' (first | exact trivial | exact rfl | apply And.intro | exact fun _ => rfl | (intro _ hle; first | refine chunk_le hA rfl hle rfl ?_ | refine cat_le hA ?_ | refine upd_le hA ?_ | (try cbv)))) <;> (try (subst hA; (try simp only [zn] at *); (try (simp only [Ar.real, NV.val, zo, zt])); first | done | omega | decide | exact zi | (refine ⟨?_, ?_⟩ <;> first | omega | decide | exact zi))))
    cbv
    have k1 : A.lt (Int.ofNat i) 0 = false := by subst hA; simp [Ar.real]
    have k2 : A.ge (Int.ofNat i) (A.i2 s) = false := by subst hA; simp [Ar.real]; omega
    have k3 : A.ne (A.i2 n) 64 = false := by subst hA; simp [Ar.real]; omega
    first | refine testR k1 rfl ?_ | refine testL k1 rfl ?_
    cbv
    first | refine testR k2 rfl ?_ | refine testL k2 rfl ?_
    cbv
    first | refine testR k3 rfl ?_ | refine testL k3 rfl ?_
    cbv
    refine CS.le hA (c2) [] rfl rfl rfl ?_ ?_ ?_
    iterate 2 ((try cbv) <;> (repeat' (first | exact trivial | exact rfl | apply And.intro | exact fun _ => rfl | (intro _ hle; first | refine chunk_le hA rfl hle rfl ?_ | refine cat_le hA ?_ | refine upd_le hA ?_ | (try cbv)))) <;> (try (subst hA; (try simp only [zn] at *); (try (simp only [Ar.real, NV.val, zo, zt])); first | done | omega | decide | exact zi | (refine ⟨?_, ?_⟩ <;> first | omega | decide | exact zi))))
    cbv
    have kn : A.nat (Int.ofNat i) = i := by subst hA; rfl
    have hup : ∀ e, ltNV A e (.s s) → leL (leSV A 4) (updF A 1 (.s (A.nat (Int.ofNat i))) 0 [.ro 1 (.s n) fun e => (fun e => [.int .u8 (f e.val)]) (addNV A (.l 0) e)] (fun e => [.ro 1 (.s 64) fun x => [.int .u8 (L e.val x.val)]]) e) [.ro 1 (.s 64) (fun x => [.int .u8 (L' e.val x.val)])] := fun e he =>
      upd_rows (F := L) (F' := L') (v := f) hA ⟨.s n, _, rfl, hn, fun x _ => ⟨_, rfl, by subst hA; rfl⟩⟩ (fun t x h1 h2 => by rw [kn]; exact hL t x h1 h2) he rfl
    have hup2 : ∀ e, ltNV A e (.s s) → leL (leSV A 4) (updF A 1 (.s (A.nat (Int.ofNat i))) 0 [.bl true] (fun e => [.bs (W e.val)]) e) [.bs (W' e.val)] := fun e he =>
      Bls.le hA (g := W') (Bls.upd hA (A.nat (Int.ofNat i)) (v := true) rfl (Bls.base W s)) he (Nat.le_refl _) (by
        have he : e.val < s := by subst hA; exact ltNV_real.1 he
        rw [kn]; exact (hW _ he).symm)
    refine DS.runK hA hT (by rw [hP]; exact P_mixed) 4 rfl ?_
    cbv
    refine ⟨⟨?_, ?_⟩, ?_, ⟨⟨?_, trivial⟩, ?_⟩, ?_⟩
    iterate 5 (subst hA; (try simp only [zn] at *); (try (simp only [Ar.real, NV.val, zo, zt])); first | done | omega | decide | exact zi | (refine ⟨?_, ?_⟩ <;> first | omega | decide | exact zi))
    refine DF.fin (by kernel_rfl) (by kernel_rfl) ?_
    cbv
    by_cases hc0 : 0 < c
    · have k4 : A.gt c 0 = true := by subst hA; simpa [Ar.real] using hc0
      have k5 : A.sub c 1 = c' := by subst hA; rw [hc, if_pos hc0]; rfl
      have k6 : A.inR .i64 (A.sub c 1) := by subst hA; exact inR64 (by simp only [Ar.real]; omega) (by simp only [Ar.real]; omega)
      refine ⟨?_, ?_, ?_⟩
      iterate 2 (subst hA; (try simp only [zn] at *); (try (simp only [Ar.real, NV.val, zo, zt])); first | done | omega | decide | exact zi | (refine ⟨?_, ?_⟩ <;> first | omega | decide | exact zi))
      first | refine testR k4 rfl ?_ | refine testL k4 rfl ?_
      cbv
      refine ⟨k6, ?_⟩
      refine Fin.le hA 0 [(20, 0), (21, 1), (22, 2)] (.tup [.agg [.sl 0 1 (.l 0) (.s s), .sl 1 1 (.l 0) (.s s), .sl 2 1 (.l 0) (.s s), .int .i64 c'], .lit .i64 0]) _ 200 rfl rfl rfl ?_ ?_ (by rw [← hK]; exact ⟨rfl, rfl, rfl⟩)
      · (try cbv) <;> (repeat' (first | exact trivial | exact rfl | apply And.intro | exact fun _ => rfl | (intro _ hle; first | refine chunk_le hA rfl hle rfl ?_ | refine cat_le hA ?_ | refine upd_le hA ?_ | (try cbv))))
        exact k5
      · (try cbv) <;> (repeat' (first | exact trivial | exact rfl | apply And.intro | exact fun _ => rfl | (intro _ hle; first | exact hup _ hle | exact hup2 _ hle | refine chunk_le hA rfl hle rfl ?_ | refine cat_le hA ?_ | refine upd_le hA ?_ | refine int_le ?_ | skip)))
    · have k4 : A.gt c 0 = false := by subst hA; simpa [Ar.real] using hc0
      refine ⟨?_, ?_, ?_⟩
      iterate 2 (subst hA; (try simp only [zn] at *); (try (simp only [Ar.real, NV.val, zo, zt])); first | done | omega | decide | exact zi | (refine ⟨?_, ?_⟩ <;> first | omega | decide | exact zi))
      first | refine testR k4 rfl ?_ | refine testL k4 rfl ?_
      cbv
      refine Fin.le hA 0 [(20, 0), (21, 1), (22, 2)] (.tup [.agg [.sl 0 1 (.l 0) (.s s), .sl 1 1 (.l 0) (.s s), .sl 2 1 (.l 0) (.s s), .int .i64 c'], .lit .i64 0]) _ 200 rfl rfl rfl ?_ ?_ (by rw [← hK]; exact ⟨rfl, rfl, rfl⟩)
      · (try cbv) <;> (repeat' (first | exact trivial | exact rfl | apply And.intro | exact fun _ => rfl | (intro _ hle; first | refine chunk_le hA rfl hle rfl ?_ | refine cat_le hA ?_ | refine upd_le hA ?_ | (try cbv))))
        rw [hc, if_neg hc0]
      · (try cbv) <;> (repeat' (first | exact trivial | exact rfl | apply And.intro | exact fun _ => rfl | (intro _ hle; first | exact hup _ hle | exact hup2 _ hle | refine chunk_le hA rfl hle rfl ?_ | refine cat_le hA ?_ | refine upd_le hA ?_ | refine int_le ?_ | skip)))
  generalize hA : Ar.real = A
  refine FnTr.dat hA h0 _ _ ?_
  (try cbv) <;> (repeat' (first | exact trivial | exact rfl | apply And.intro | exact fun _ => rfl | (intro _ hle; first | refine chunk_le hA rfl hle rfl ?_ | refine cat_le hA ?_ | refine upd_le hA ?_ | refine int_le ?_ | skip)))
  all_goals (subst hA; (try simp only [zn] at *); (try (simp only [Ar.real, NV.val, zo, zt])); first | done | omega | decide | exact zi | (refine ⟨?_, ?_⟩ <;> first | omega | decide | exact zi))
theorem refflush_ok {P : Program} {G : Gl} (hP : P = Tryz.prog) {s : Nat} {S L S' L' : Nat → Nat → Int} {W W' : Nat → Bool} {c c' : Int} (hs : s ≤ 4096) (h : c ≠ 0) (hcr : -1 ≤ c ∧ c ≤ 9223372036854775807)
    (hS : ∀ t x, t < s → x < 64 → S' t x = L t x) (hL : ∀ t x, t < s → x < 64 → L' t x = L t x) (hW : ∀ t, W' t = false) (hc : c' = if 0 < c then c - 1 else c) :
    FnTr P G 41 [RD s S L W c] [] 0 (Gives (.tup [RD s S' L' W' c', .lit .i64 0]) [] 200) := by
  have c1 := refoff_fn (P := P) (G := G) (s := s) (S := S) (L := L) (W := W) (c := c) (r := false) hP ⟨fun q => (by cases q), fun q => absurd q h⟩
  have c2 := copied_own (P := P) (G := G) (S := S) (L := L) (W := W) (c := c) hP hs
  obtain ⟨Si, hSi⟩ : ∃ Si : Nat → Nat → Nat → Int, ∀ i t x, Si i t x = if t < i then L t x else S t x := ⟨_, fun _ _ _ => rfl⟩
  obtain ⟨Wi, hWi⟩ : ∃ Wi : Nat → Nat → Bool, ∀ i t, Wi i t = if t < i then false else W t := ⟨_, fun _ _ => rfl⟩
  have s0 : ∀ t x, S t x = Si 0 t x := fun t x => by rw [hSi, if_neg (by omega)]
  have w0 : ∀ t, W t = Wi 0 t := fun t => by rw [hWi, if_neg (by omega)]
  have sS : ∀ i t x, Si (i + 1) t x = if t = i then L i x else Si i t x := fun i t x => by
    rw [hSi, hSi]
    by_cases q : t = i
    · subst q; rw [if_pos (by omega), if_pos rfl]
    · rw [if_neg q]
      by_cases q2 : t < i
      · rw [if_pos q2, if_pos (by omega)]
      · rw [if_neg q2, if_neg (by omega)]
  have wS : ∀ i t, Wi (i + 1) t = if t = i then false else Wi i t := fun i t => by
    rw [hWi, hWi]
    by_cases q : t = i
    · subst q; rw [if_pos (by omega), if_pos rfl]
    · rw [if_neg q]
      by_cases q2 : t < i
      · rw [if_pos q2, if_pos (by omega)]
      · rw [if_neg q2, if_neg (by omega)]
  have sE : ∀ t x, t < s → x < 64 → Si s t x = S' t x := fun t x h1 h2 => by rw [hSi, if_pos h1, hS t x h1 h2]
  have wE : ∀ t, t < s → Wi s t = W' t := fun t h1 => by rw [hWi, if_pos h1, hW]
  clear hSi hWi
  have h0 : FnTr P G 41 [RD s S L W c] [] 0 (Gives (.tup [.agg [.sl 0 1 (.l 0) (.s s), .sl 1 1 (.l 0) (.s s), .sl 2 1 (.l 0) (.s s), .int .i64 c'], .lit .i64 0]) (RH 0 1 2 s S' L' W') 200) := by
    have hT : T.Ok P := hP ▸ T_ok
    refine FnTr.intro (fn := Tryz.f41) (c := bodyOf Tryz.f41) (by rw [hP]; rfl) rfl rfl hT ?_
    generalize hA : Ar.real = A
    generalize hK : Gives _ _ _ = K
    cbv
    refine CS.leR hA (c1) (.bl false) [] rfl rfl rfl ?_ ?_ ?_ ?_
    iterate 3 ((try cbv) <;> (repeat' (first | exact trivial | exact rfl | apply And.intro | exact fun _ => rfl | (intro _ hle; first | refine chunk_le hA rfl hle rfl ?_ | refine cat_le hA ?_ | refine upd_le hA ?_ | (try cbv)))) <;> (try (subst hA; (try simp only [zn] at *); (try (simp only [Ar.real, NV.val, zo, zt])); first | done | omega | decide | exact zi | (refine ⟨?_, ?_⟩ <;> first | omega | decide | exact zi))))
    cbv
    refine CS.le hA (c2) [] rfl rfl rfl ?_ ?_ ?_
    iterate 2 ((try cbv) <;> (repeat' (first | exact trivial | exact rfl | apply And.intro | exact fun _ => rfl | (intro _ hle; first | refine chunk_le hA rfl hle rfl ?_ | refine cat_le hA ?_ | refine upd_le hA ?_ | (try cbv)))) <;> (try (subst hA; (try simp only [zn] at *); (try (simp only [Ar.real, NV.val, zo, zt])); first | done | omega | decide | exact zi | (refine ⟨?_, ?_⟩ <;> first | omega | decide | exact zi))))
    cbv
    refine LS.leU hT hA 47 (fun (i : Nat) => [(5, .int .i64 (i : Int))]) [] (fun i => [(6, .row 22 1 (.s s) (fun e => [.ro 1 (.s 64) (fun x => [.int .u8 (Si i e.val x.val)])])), (8, .row 4 1 (.s s) (fun e => [.bs (Wi i e.val)]))]) (fun i => i ≤ s) (fun i => s - i) 0 [] rfl rfl ?_ ?_ ?_
    · (try cbv) <;> (repeat' (first | exact trivial | exact rfl | apply And.intro | exact fun _ => rfl | (intro _ hle; first | refine chunk_le hA rfl hle rfl ?_ | refine cat_le hA ?_ | refine upd_le hA ?_ | refine int_le ?_ | skip)))
      all_goals first | exact s0 _ _ | exact w0 _ | (subst hA; (try simp only [zn] at *); (try (simp only [Ar.real, NV.val, zo, zt])); first | done | omega | decide | exact zi | (refine ⟨?_, ?_⟩ <;> first | omega | decide | exact zi))
    · exact Nat.zero_le _
    · intro R hR i hi
      cbv
      refine ⟨fun q1 => ?_, fun q1 => ?_⟩
      · have him : i < s := by clear hR; subst hA; simp [Ar.real] at q1; omega
        have kn : A.nat (Int.ofNat i) = i := by clear hR; subst hA; rfl
        cbv
        have hup : ∀ e, ltNV A e (.s s) → leL (leSV A 4) (updF A 1 (.s (A.nat (Int.ofNat i))) 0 [.ro 1 (.s 64) fun x => [.int .u8 (L (A.nat (Int.ofNat i)) x.val)]] (fun e => [.ro 1 (.s 64) fun x => [.int .u8 (Si i e.val x.val)]]) e) [.ro 1 (.s 64) (fun x => [.int .u8 (Si (i + 1) e.val x.val)])] := fun e he =>
          upd_rows (F := Si i) (F' := Si (i + 1)) (v := L i) hA (by rw [kn]; exact RowOf.base .u8 64 (L i)) (fun t x h1 h2 => by rw [kn]; exact sS i t x) he rfl
        have hup2 : ∀ e, ltNV A e (.s s) → leL (leSV A 4) (updF A 1 (.s (A.nat (Int.ofNat i))) 0 [.bl false] (fun e => [.bs (Wi i e.val)]) e) [.bs (Wi (i + 1) e.val)] := fun e he =>
          Bls.le hA (g := Wi (i + 1)) (Bls.upd hA (A.nat (Int.ofNat i)) (v := false) rfl (Bls.base (Wi i) s)) he (Nat.le_refl _) (by
            rw [kn]; exact (wS _ _).symm)
        refine DS.runK hA hT (by rw [hP]; exact P_mixed) 4 rfl ?_
        cbv
        refine ⟨?_, ?_, ?_, ?_, ?_⟩
        iterate 4 (subst hA; (try simp only [zn] at *); (try (simp only [Ar.real, NV.val, zo, zt])); first | done | omega | decide | exact zi | (refine ⟨?_, ?_⟩ <;> first | omega | decide | exact zi))
        refine DF.fin (by kernel_rfl) (by kernel_rfl) ?_
        cbv
        refine ⟨?_, ?_, ?_, hR _ _ ⟨i + 1, 47, [], rfl, rfl, ?_, him, (by show s - (i + 1) < s - i; omega)⟩⟩
        iterate 3 (subst hA; (try simp only [zn] at *); (try (simp only [Ar.real, NV.val, zo, zt])); first | done | omega | decide | exact zi | (refine ⟨?_, ?_⟩ <;> first | omega | decide | exact zi))
        clear hR
        (try cbv) <;> (repeat' (first | exact trivial | exact rfl | apply And.intro | exact fun _ => rfl | (intro _ hle; first | exact hup _ hle | exact hup2 _ hle | refine chunk_le hA rfl hle rfl ?_ | refine cat_le hA ?_ | refine upd_le hA ?_ | refine int_le ?_ | skip)))
        all_goals (subst hA; (try simp only [zn] at *); (try (simp only [Ar.real, NV.val, zo, zt])); first | done | omega | decide | exact zi | (refine ⟨?_, ?_⟩ <;> first | omega | decide | exact zi))
      · have him : i = s := by clear hR; subst hA; simp [Ar.real] at q1; omega
        subst him
        clear hR
        cbv
        have hS2 : ∀ e, ltNV A e (.s i) → leL (leSV A 4) [.ro 1 (.s 64) (fun x => [.int .u8 (Si i e.val x.val)])] [.ro 1 (.s 64) (fun x => [.int .u8 (S' e.val x.val)])] := fun e he =>
          Rws.le hA (f := Si i) (g := S') (len := 64) (n := i) (Rws.base .u8 64 (Si i) i) he (Nat.le_refl _) rfl (fun x hx => sE _ x (by subst hA; exact ltNV_real.1 he) hx)
        have hL2 : ∀ e, ltNV A e (.s i) → leL (leSV A 4) [.ro 1 (.s 64) (fun x => [.int .u8 (L e.val x.val)])] [.ro 1 (.s 64) (fun x => [.int .u8 (L' e.val x.val)])] := fun e he =>
          Rws.le hA (f := L) (g := L') (len := 64) (n := i) (Rws.base .u8 64 L i) he (Nat.le_refl _) rfl (fun x hx => (hL _ x (by subst hA; exact ltNV_real.1 he) hx).symm)
        have hW2 : ∀ e, ltNV A e (.s i) → leL (leSV A 4) [.bs (Wi i e.val)] [.bs (W' e.val)] := fun e he =>
          Bls.le hA (f := Wi i) (g := W') (Bls.base (Wi i) i) he (Nat.le_refl _) (wE _ (by subst hA; exact ltNV_real.1 he))
        by_cases hc0 : 0 < c
        · have k4 : A.gt c 0 = true := by subst hA; simpa [Ar.real] using hc0
          have k5 : A.sub c 1 = c' := by subst hA; rw [hc, if_pos hc0]; rfl
          have k6 : A.inR .i64 (A.sub c 1) := by subst hA; exact inR64 (by simp only [Ar.real]; omega) (by simp only [Ar.real]; omega)
          first | refine testR k4 rfl ?_ | refine testL k4 rfl ?_
          cbv
          refine ⟨k6, ?_⟩
          refine Fin.le hA 0 [(6, 0), (7, 1), (8, 2)] (.tup [.agg [.sl 0 1 (.l 0) (.s i), .sl 1 1 (.l 0) (.s i), .sl 2 1 (.l 0) (.s i), .int .i64 c'], .lit .i64 0]) _ 200 rfl rfl rfl ?_ ?_ (by rw [← hK]; exact ⟨rfl, rfl, rfl⟩)
          · (try cbv) <;> (repeat' (first | exact trivial | exact rfl | apply And.intro | exact fun _ => rfl | (intro _ hle; first | refine chunk_le hA rfl hle rfl ?_ | refine cat_le hA ?_ | refine upd_le hA ?_ | (try cbv))))
            exact k5
          · (try cbv) <;> (repeat' (first | exact trivial | exact rfl | apply And.intro | exact fun _ => rfl | (intro _ hle; first | exact hS2 _ hle | exact hL2 _ hle | exact hW2 _ hle | refine chunk_le hA rfl hle rfl ?_ | refine cat_le hA ?_ | refine upd_le hA ?_ | refine int_le ?_ | skip)))
        · have k4 : A.gt c 0 = false := by subst hA; simpa [Ar.real] using hc0
          first | refine testR k4 rfl ?_ | refine testL k4 rfl ?_
          cbv
          refine Fin.le hA 0 [(6, 0), (7, 1), (8, 2)] (.tup [.agg [.sl 0 1 (.l 0) (.s i), .sl 1 1 (.l 0) (.s i), .sl 2 1 (.l 0) (.s i), .int .i64 c'], .lit .i64 0]) _ 200 rfl rfl rfl ?_ ?_ (by rw [← hK]; exact ⟨rfl, rfl, rfl⟩)
          · (try cbv) <;> (repeat' (first | exact trivial | exact rfl | apply And.intro | exact fun _ => rfl | (intro _ hle; first | refine chunk_le hA rfl hle rfl ?_ | refine cat_le hA ?_ | refine upd_le hA ?_ | (try cbv))))
            rw [hc, if_neg hc0]
          · (try cbv) <;> (repeat' (first | exact trivial | exact rfl | apply And.intro | exact fun _ => rfl | (intro _ hle; first | exact hS2 _ hle | exact hL2 _ hle | exact hW2 _ hle | refine chunk_le hA rfl hle rfl ?_ | refine cat_le hA ?_ | refine upd_le hA ?_ | refine int_le ?_ | skip)))
  generalize hA : Ar.real = A
  refine FnTr.dat hA h0 _ _ ?_
  (try cbv) <;> (repeat' (first | exact trivial | exact rfl | apply And.intro | exact fun _ => rfl | (intro _ hle; first | refine chunk_le hA rfl hle rfl ?_ | refine cat_le hA ?_ | refine upd_le hA ?_ | refine int_le ?_ | skip)))
  all_goals (subst hA; (try simp only [zn] at *); (try (simp only [Ar.real, NV.val, zo, zt])); first | done | omega | decide | exact zi | (refine ⟨?_, ?_⟩ <;> first | omega | decide | exact zi))
end Go.Proofs.YtnjjgipblimbfaaGreatDoor.Dsk
namespace Go.Proofs.YtnjjgipblimbfaaGreatDoor.Dsk
open Go.Eng
open Go.DskLaw (q64 secV needN pcs padOk isB usedP getP scanP getP_next scanP_none scanP_some usedP_none1 usedP_on usedP_none2 usedP_end usedP_none3 getP_stop getP_none getP_long getP_empty getP_on getP_end)
set_option maxRecDepth 100000
set_option maxHeartbeats 4000000
theorem refrun_fn {P : Program} {G : Gl} (hP : P = Tryz.prog) {s a b : Int} {r : Bool} (hr : r = true ↔ 0 ≤ a ∧ a ≤ b ∧ b ≤ s) : FnTr P G 70 [.int .i64 s, .int .i64 a, .int .i64 b] [] 0 (Gives (.bs r) [] 0) := by
  by_cases h1 : 0 ≤ a
  · by_cases h2 : a ≤ b
    · skip
      have hT : T.Ok P := hP ▸ T_ok
      refine FnTr.intro (fn := Tryz.f70) (c := bodyOf Tryz.f70) (by rw [hP]; rfl) rfl rfl hT ?_
      generalize hA : Ar.real = A
      generalize hK : Gives _ _ _ = K
      cbv
      have k1 : A.ge a 0 = true := by subst hA; simp [Ar.real]; omega
      have k2 : A.ge b a = true := by subst hA; simp [Ar.real]; omega
      first | refine testR k1 rfl ?_ | refine testL k1 rfl ?_
      cbv
      first | refine testR k2 rfl ?_ | refine testL k2 rfl ?_
      cbv
      refine Fin.le hA 0 [] (.bs r) ([]) 0 rfl rfl rfl ?_ ?_ (by rw [← hK]; exact ⟨rfl, rfl, rfl⟩)
      · (try cbv) <;> (repeat' (first | exact trivial | exact rfl | apply And.intro | exact fun _ => rfl | (intro _ hle; first | refine chunk_le hA rfl hle rfl ?_ | refine cat_le hA ?_ | refine upd_le hA ?_ | (try cbv))))
        subst hA
        rw [Bool.eq_iff_iff, hr]; simp [Ar.real]; omega
      · (try cbv) <;> (repeat' (first | exact trivial | exact rfl | apply And.intro | exact fun _ => rfl | (intro _ hle; first | refine chunk_le hA rfl hle rfl ?_ | refine cat_le hA ?_ | refine upd_le hA ?_ | (try cbv))))
    · skip
      have hT : T.Ok P := hP ▸ T_ok
      refine FnTr.intro (fn := Tryz.f70) (c := bodyOf Tryz.f70) (by rw [hP]; rfl) rfl rfl hT ?_
      generalize hA : Ar.real = A
      generalize hK : Gives _ _ _ = K
      cbv
      have k1 : A.ge a 0 = true := by subst hA; simp [Ar.real]; omega
      have k2 : A.ge b a = false := by subst hA; simp [Ar.real]; omega
      first | refine testR k1 rfl ?_ | refine testL k1 rfl ?_
      cbv
      first | refine testR k2 rfl ?_ | refine testL k2 rfl ?_
      cbv
      refine Fin.le hA 0 [] (.bs r) ([]) 0 rfl rfl rfl ?_ ?_ (by rw [← hK]; exact ⟨rfl, rfl, rfl⟩)
      · (try cbv) <;> (repeat' (first | exact trivial | exact rfl | apply And.intro | exact fun _ => rfl | (intro _ hle; first | refine chunk_le hA rfl hle rfl ?_ | refine cat_le hA ?_ | refine upd_le hA ?_ | (try cbv))))
        subst hA
        rw [Bool.eq_iff_iff, hr]; simp; omega
      · (try cbv) <;> (repeat' (first | exact trivial | exact rfl | apply And.intro | exact fun _ => rfl | (intro _ hle; first | refine chunk_le hA rfl hle rfl ?_ | refine cat_le hA ?_ | refine upd_le hA ?_ | (try cbv))))
  · skip
    have hT : T.Ok P := hP ▸ T_ok
    refine FnTr.intro (fn := Tryz.f70) (c := bodyOf Tryz.f70) (by rw [hP]; rfl) rfl rfl hT ?_
    generalize hA : Ar.real = A
    generalize hK : Gives _ _ _ = K
    cbv
    have k1 : A.ge a 0 = false := by subst hA; simp [Ar.real]; omega
    first | refine testR k1 rfl ?_ | refine testL k1 rfl ?_
    cbv
    refine Fin.le hA 0 [] (.bs r) ([]) 0 rfl rfl rfl ?_ ?_ (by rw [← hK]; exact ⟨rfl, rfl, rfl⟩)
    · (try cbv) <;> (repeat' (first | exact trivial | exact rfl | apply And.intro | exact fun _ => rfl | (intro _ hle; first | refine chunk_le hA rfl hle rfl ?_ | refine cat_le hA ?_ | refine upd_le hA ?_ | (try cbv))))
      subst hA
      rw [Bool.eq_iff_iff, hr]; simp; omega
    · (try cbv) <;> (repeat' (first | exact trivial | exact rfl | apply And.intro | exact fun _ => rfl | (intro _ hle; first | refine chunk_le hA rfl hle rfl ?_ | refine cat_le hA ?_ | refine upd_le hA ?_ | (try cbv))))
def UsedIs (v : Nat → Int) (a b : Int) : Prop := (usedP v = none ∧ a = 0 ∧ b = 0) ∨ ∃ m on, usedP v = some (m, on) ∧ a = ((m : Nat) : Int) ∧ b = if on then 1 else 2
theorem UsedIs.none {v : Nat → Int} {a b : Int} (h : UsedIs v a b) (hu : usedP v = none) : a = 0 ∧ b = 0 := by
  rcases h with h | ⟨m, on, h, _⟩
  · exact h.2
  · rw [hu] at h; cases h
theorem UsedIs.some {v : Nat → Int} {a b : Int} {m : Nat} {on : Bool} (h : UsedIs v a b) (hu : usedP v = some (m, on)) : a = (m : Int) ∧ b = if on then 1 else 2 := by
  rcases h with h | ⟨m', on', h, h1, h2⟩
  · rw [hu] at h; cases h.1
  · rw [hu] at h; cases h; exact ⟨h1, h2⟩
theorem refused_fn {P : Program} {G : Gl} (hP : P = Tryz.prog) {n : Nat} {v : Nat → Int} {a b : Int} (hn : n = 64) (hv : isB v) (h : UsedIs v a b) : FnTr P G 72 [By n v] [] 0 (Gives (.tup [.int .i64 a, .int .u8 b]) [] 0) := by
  have h62 := hv 62 (by omega)
  have h63 := hv 63 (by omega)
  have hw : IntKind.i64.wrap (v 62) = v 62 := by rw [IntKind.wrap_i64]; omega
  by_cases e1 : v 63 ≠ 1 ∧ v 63 ≠ 2
  · obtain ⟨rfl, rfl⟩ := h.none (by
      by_cases q : padOk v
      · exact usedP_none3 q e1.1 e1.2
      · exact usedP_none1 q)
    have hT : T.Ok P := hP ▸ T_ok
    refine FnTr.intro (fn := Tryz.f72) (c := bodyOf Tryz.f72) (by rw [hP]; rfl) rfl rfl hT ?_
    generalize hA : Ar.real = A
    generalize hK : Gives _ _ _ = K
    cbv
    refine ⟨?_, ?_, ?_⟩
    iterate 2 (subst hA; (try simp only [zn] at *); (try (simp only [Ar.real, NV.val, zo, zt])); first | done | omega | decide | exact zi | (refine ⟨?_, ?_⟩ <;> first | omega | decide | exact zi))
    have k1 : A.ne (v 63) 1 = true := by subst hA; simp [Ar.real]; exact e1.1
    have k2 : A.ne (v 63) 2 = true := by subst hA; simp [Ar.real]; exact e1.2
    first | refine testR k1 rfl ?_ | refine testL k1 rfl ?_
    cbv
    first | refine testR k2 rfl ?_ | refine testL k2 rfl ?_
    cbv
    refine Fin.le hA 0 [] (.tup [.int .i64 0, .int .u8 0]) ([]) 0 rfl rfl rfl ?_ ?_ (by rw [← hK]; exact ⟨rfl, rfl, rfl⟩)
    iterate 2 ((try cbv) <;> (repeat' (first | exact trivial | exact rfl | apply And.intro | exact fun _ => rfl | (intro _ hle; first | refine chunk_le hA rfl hle rfl ?_ | refine cat_le hA ?_ | refine upd_le hA ?_ | (try cbv)))))
  by_cases e2 : 62 < v 62
  · obtain ⟨rfl, rfl⟩ := h.none (usedP_none1 fun q => by have := q.1; omega)
    by_cases e3 : v 63 = 1
    · skip
      have hT : T.Ok P := hP ▸ T_ok
      refine FnTr.intro (fn := Tryz.f72) (c := bodyOf Tryz.f72) (by rw [hP]; rfl) rfl rfl hT ?_
      generalize hA : Ar.real = A
      generalize hK : Gives _ _ _ = K
      cbv
      refine ⟨?_, ?_, ?_⟩
      iterate 2 (subst hA; (try simp only [zn] at *); (try (simp only [Ar.real, NV.val, zo, zt])); first | done | omega | decide | exact zi | (refine ⟨?_, ?_⟩ <;> first | omega | decide | exact zi))
      have kc : A.conv .i64 (v 62) = v 62 := by subst hA; exact hw
      have k1 : A.ne (v 63) 1 = false := by subst hA; simp [Ar.real]; exact e3
      have k3 : A.gt (A.conv .i64 (v 62)) 62 = true := by rw [kc]; subst hA; simp [Ar.real]; omega
      first | refine testR k1 rfl ?_ | refine testL k1 rfl ?_
      cbv
      first | refine testR k3 rfl ?_ | refine testL k3 rfl ?_
      cbv
      refine Fin.le hA 0 [] (.tup [.int .i64 0, .int .u8 0]) ([]) 0 rfl rfl rfl ?_ ?_ (by rw [← hK]; exact ⟨rfl, rfl, rfl⟩)
      iterate 2 ((try cbv) <;> (repeat' (first | exact trivial | exact rfl | apply And.intro | exact fun _ => rfl | (intro _ hle; first | refine chunk_le hA rfl hle rfl ?_ | refine cat_le hA ?_ | refine upd_le hA ?_ | (try cbv)))))
    · have e4 : v 63 = 2 := by omega
      have hT : T.Ok P := hP ▸ T_ok
      refine FnTr.intro (fn := Tryz.f72) (c := bodyOf Tryz.f72) (by rw [hP]; rfl) rfl rfl hT ?_
      generalize hA : Ar.real = A
      generalize hK : Gives _ _ _ = K
      cbv
      refine ⟨?_, ?_, ?_⟩
      iterate 2 (subst hA; (try simp only [zn] at *); (try (simp only [Ar.real, NV.val, zo, zt])); first | done | omega | decide | exact zi | (refine ⟨?_, ?_⟩ <;> first | omega | decide | exact zi))
      have kc : A.conv .i64 (v 62) = v 62 := by subst hA; exact hw
      have k1 : A.ne (v 63) 1 = true := by subst hA; simp [Ar.real]; exact e3
      have k2 : A.ne (v 63) 2 = false := by subst hA; simp [Ar.real]; exact e4
      have k3 : A.gt (A.conv .i64 (v 62)) 62 = true := by rw [kc]; subst hA; simp [Ar.real]; omega
      first | refine testR k1 rfl ?_ | refine testL k1 rfl ?_
      cbv
      first | refine testR k2 rfl ?_ | refine testL k2 rfl ?_
      cbv
      first | refine testR k3 rfl ?_ | refine testL k3 rfl ?_
      cbv
      refine Fin.le hA 0 [] (.tup [.int .i64 0, .int .u8 0]) ([]) 0 rfl rfl rfl ?_ ?_ (by rw [← hK]; exact ⟨rfl, rfl, rfl⟩)
      iterate 2 ((try cbv) <;> (repeat' (first | exact trivial | exact rfl | apply And.intro | exact fun _ => rfl | (intro _ hle; first | refine chunk_le hA rfl hle rfl ?_ | refine cat_le hA ?_ | refine upd_le hA ?_ | (try cbv)))))
  by_cases e3 : v 63 = 1 ∧ v 62 < 62
  · obtain ⟨rfl, rfl⟩ := h.none (by
      by_cases q : padOk v
      · exact usedP_none2 q e3.1 (by omega)
      · exact usedP_none1 q)
    have hT : T.Ok P := hP ▸ T_ok
    refine FnTr.intro (fn := Tryz.f72) (c := bodyOf Tryz.f72) (by rw [hP]; rfl) rfl rfl hT ?_
    generalize hA : Ar.real = A
    generalize hK : Gives _ _ _ = K
    cbv
    refine ⟨?_, ?_, ?_⟩
    iterate 2 (subst hA; (try simp only [zn] at *); (try (simp only [Ar.real, NV.val, zo, zt])); first | done | omega | decide | exact zi | (refine ⟨?_, ?_⟩ <;> first | omega | decide | exact zi))
    have kc : A.conv .i64 (v 62) = v 62 := by subst hA; exact hw
    have k1 : A.ne (v 63) 1 = false := by subst hA; simp [Ar.real]; exact e3.1
    have k3 : A.gt (A.conv .i64 (v 62)) 62 = false := by rw [kc]; subst hA; simp [Ar.real]; omega
    have k4 : A.eq (v 63) 1 = true := by subst hA; simp [Ar.real]; exact e3.1
    have k5 : A.lt (A.conv .i64 (v 62)) 62 = true := by rw [kc]; subst hA; simp [Ar.real]; omega
    first | refine testR k1 rfl ?_ | refine testL k1 rfl ?_
    cbv
    first | refine testR k3 rfl ?_ | refine testL k3 rfl ?_
    cbv
    first | refine testR k4 rfl ?_ | refine testL k4 rfl ?_
    cbv
    first | refine testR k5 rfl ?_ | refine testL k5 rfl ?_
    cbv
    refine Fin.le hA 0 [] (.tup [.int .i64 0, .int .u8 0]) ([]) 0 rfl rfl rfl ?_ ?_ (by rw [← hK]; exact ⟨rfl, rfl, rfl⟩)
    iterate 2 ((try cbv) <;> (repeat' (first | exact trivial | exact rfl | apply And.intro | exact fun _ => rfl | (intro _ hle; first | refine chunk_le hA rfl hle rfl ?_ | refine cat_le hA ?_ | refine upd_le hA ?_ | (try cbv)))))
  obtain ⟨m, hm⟩ : ∃ m : Nat, v 62 = (m : Int) := ⟨(v 62).toNat, by omega⟩
  have hm62 : m ≤ 62 := by omega
  have hsome : (∀ x, m ≤ x → x < 62 → v x = 0) → a = (m : Int) ∧ b = v 63 := fun hz => by
    have hp : padOk v := ⟨by omega, fun x q1 q2 => hz x (by omega) q2⟩
    by_cases q : v 63 = 1
    · have := h.some (usedP_on hp q (by omega))
      rw [this.1, this.2, q]; exact ⟨by omega, rfl⟩
    · have := h.some (usedP_end hp q (by omega))
      rw [this.1, this.2, show v 63 = 2 by omega]; exact ⟨by omega, rfl⟩
  have hnone : ∀ x, m ≤ x → x < 62 → v x ≠ 0 → a = 0 ∧ b = 0 := fun x q1 q2 q3 => h.none (usedP_none1 fun q => q3 (q.2 x (by omega) q2))
  have hcase : (v 63 = 1 ∧ m = 62) ∨ (v 63 ≠ 1 ∧ v 63 = 2) := by omega
  clear h
  rcases hcase with hc | hc
  · skip
    have hT : T.Ok P := hP ▸ T_ok
    refine FnTr.intro (fn := Tryz.f72) (c := bodyOf Tryz.f72) (by rw [hP]; rfl) rfl rfl hT ?_
    generalize hA : Ar.real = A
    generalize hK : Gives _ _ _ = K
    cbv
    refine ⟨?_, ?_, ?_⟩
    iterate 2 (subst hA; (try simp only [zn] at *); (try (simp only [Ar.real, NV.val, zo, zt])); first | done | omega | decide | exact zi | (refine ⟨?_, ?_⟩ <;> first | omega | decide | exact zi))
    have kc : A.conv .i64 (v 62) = (m : Int) := by subst hA; show IntKind.i64.wrap (v 62) = _; rw [hw]; exact hm
    have k1 : A.ne (v 63) 1 = false := by subst hA; simp [Ar.real]; exact hc.1
    have k3 : A.gt (A.conv .i64 (v 62)) 62 = false := by rw [kc]; subst hA; simp [Ar.real]; omega
    have k4 : A.eq (v 63) 1 = true := by subst hA; simp [Ar.real]; exact hc.1
    have k5 : A.lt (A.conv .i64 (v 62)) 62 = false := by rw [kc]; subst hA; simp [Ar.real]; omega
    first | refine testR k1 rfl ?_ | refine testL k1 rfl ?_
    cbv
    first | refine testR k3 rfl ?_ | refine testL k3 rfl ?_
    cbv
    first | refine testR k4 rfl ?_ | refine testL k4 rfl ?_
    cbv
    first | refine testR k5 rfl ?_ | refine testL k5 rfl ?_
    cbv
    refine LS.rounds hA 1 hT ?_
    cbv
    have k6 : A.lt (A.conv .i64 (v 62)) 62 = false := k5
    first | refine testR k6 rfl ?_ | refine testL k6 rfl ?_
    cbv
    obtain ⟨ha, hb⟩ := hsome (fun x q1 q2 => by omega)
    refine Fin.le hA 0 [] (.tup [.int .i64 a, .int .u8 b]) ([]) 0 rfl rfl rfl ?_ ?_ (by rw [← hK]; exact ⟨rfl, rfl, rfl⟩)
    · (try cbv) <;> (repeat' (first | exact trivial | exact rfl | apply And.intro | exact fun _ => rfl | (intro _ hle; first | refine chunk_le hA rfl hle rfl ?_ | refine cat_le hA ?_ | refine upd_le hA ?_ | (try cbv))))
      · exact kc.trans ha.symm
      · exact hb.symm
    · (try cbv) <;> (repeat' (first | exact trivial | exact rfl | apply And.intro | exact fun _ => rfl | (intro _ hle; first | refine chunk_le hA rfl hle rfl ?_ | refine cat_le hA ?_ | refine upd_le hA ?_ | (try cbv))))
  · skip
    have hT : T.Ok P := hP ▸ T_ok
    refine FnTr.intro (fn := Tryz.f72) (c := bodyOf Tryz.f72) (by rw [hP]; rfl) rfl rfl hT ?_
    generalize hA : Ar.real = A
    generalize hK : Gives _ _ _ = K
    cbv
    refine ⟨?_, ?_, ?_⟩
    iterate 2 (subst hA; (try simp only [zn] at *); (try (simp only [Ar.real, NV.val, zo, zt])); first | done | omega | decide | exact zi | (refine ⟨?_, ?_⟩ <;> first | omega | decide | exact zi))
    have kc : A.conv .i64 (v 62) = (m : Int) := by subst hA; show IntKind.i64.wrap (v 62) = _; rw [hw]; exact hm
    have k1 : A.ne (v 63) 1 = true := by subst hA; simp [Ar.real]; exact hc.1
    have k2 : A.ne (v 63) 2 = false := by subst hA; simp [Ar.real]; exact hc.2
    have k3 : A.gt (A.conv .i64 (v 62)) 62 = false := by rw [kc]; subst hA; simp [Ar.real]; omega
    have k4 : A.eq (v 63) 1 = false := by subst hA; simp [Ar.real]; exact hc.1
    first | refine testR k1 rfl ?_ | refine testL k1 rfl ?_
    cbv
    first | refine testR k2 rfl ?_ | refine testL k2 rfl ?_
    cbv
    first | refine testR k3 rfl ?_ | refine testL k3 rfl ?_
    cbv
    first | refine testR k4 rfl ?_ | refine testL k4 rfl ?_
    cbv
    refine LS.le hT hA 0 (fun (i : Nat) => [(6, .int .i64 (i : Int))]) (fun _ => []) (fun i => m ≤ i ∧ i ≤ 62 ∧ ∀ x, m ≤ x → x < i → v x = 0) (fun i => 62 - i) m [] rfl rfl ?_ ?_ ?_
    · (try cbv) <;> (repeat' (first | exact trivial | exact rfl | apply And.intro | exact fun _ => rfl | (intro _ hle; first | refine chunk_le hA rfl hle rfl ?_ | refine cat_le hA ?_ | refine upd_le hA ?_ | refine int_le ?_ | skip)))
      all_goals exact kc
    · exact ⟨Nat.le_refl _, hm62, fun x q1 q2 => by omega⟩
    · intro R hR i hi
      obtain ⟨hi1, hi2, hi3⟩ := hi
      cbv
      refine ⟨fun q1 => ?_, fun q1 => ?_⟩
      · have him : i < 62 := by clear hR; subst hA; simp [Ar.real] at q1; omega
        have hvi := hv i (by omega)
        have kn : A.nat (Int.ofNat i) = i := by clear hR; subst hA; rfl
        cbv
        refine ⟨(by (subst hA; (try simp only [zn] at *); (try (simp only [Ar.real, NV.val, zo, zt])); first | done | omega | decide | exact zi | (refine ⟨?_, ?_⟩ <;> first | omega | decide | exact zi))), ?_⟩
        by_cases hz : v i = 0
        · have k7 : A.ne (v (A.nat (Int.ofNat i))) 0 = false := by rw [kn, hz]; clear hR; subst hA; rfl
          first | refine testR k7 rfl ?_ | refine testL k7 rfl ?_
          cbv
          refine ⟨(by (subst hA; (try simp only [zn] at *); (try (simp only [Ar.real, NV.val, zo, zt])); first | done | omega | decide | exact zi | (refine ⟨?_, ?_⟩ <;> first | omega | decide | exact zi))), hR _ _ ⟨i + 1, 0, [], rfl, rfl, ?_, ⟨by omega, by omega, fun x q2 q3 => ?_⟩, (by show 62 - (i + 1) < 62 - i; omega)⟩⟩
          · clear hR
            (try cbv) <;> (repeat' (first | exact trivial | exact rfl | apply And.intro | exact fun _ => rfl | (intro _ hle; first | refine chunk_le hA rfl hle rfl ?_ | refine cat_le hA ?_ | refine upd_le hA ?_ | refine int_le ?_ | skip)))
            all_goals (subst hA; (try simp only [zn] at *); (try (simp only [Ar.real, NV.val, zo, zt])); first | done | omega | decide | exact zi | (refine ⟨?_, ?_⟩ <;> first | omega | decide | exact zi))
          · rcases Nat.lt_or_ge x i with e | e
            · exact hi3 x q2 e
            · rw [show x = i by omega]; exact hz
        · have k7 : A.ne (v (A.nat (Int.ofNat i))) 0 = true := by rw [kn]; clear hR; subst hA; simp [Ar.real]; exact hz
          obtain ⟨ha, hb⟩ := hnone i hi1 him hz
          clear hR
          first | refine testR k7 rfl ?_ | refine testL k7 rfl ?_
          cbv
          refine Fin.le hA 0 [] (.tup [.int .i64 a, .int .u8 b]) ([]) 0 rfl rfl rfl ?_ ?_ (by rw [← hK]; exact ⟨rfl, rfl, rfl⟩)
          · (try cbv) <;> (repeat' (first | exact trivial | exact rfl | apply And.intro | exact fun _ => rfl | (intro _ hle; first | refine chunk_le hA rfl hle rfl ?_ | refine cat_le hA ?_ | refine upd_le hA ?_ | (try cbv))))
            · exact ha.symm
            · exact hb.symm
          · (try cbv) <;> (repeat' (first | exact trivial | exact rfl | apply And.intro | exact fun _ => rfl | (intro _ hle; first | refine chunk_le hA rfl hle rfl ?_ | refine cat_le hA ?_ | refine upd_le hA ?_ | (try cbv))))
      · have him : i = 62 := by clear hR; subst hA; simp [Ar.real] at q1; omega
        clear hR
        obtain ⟨ha, hb⟩ := hsome (fun x q2 q3 => hi3 x q2 (by omega))
        cbv
        refine Fin.le hA 0 [] (.tup [.int .i64 a, .int .u8 b]) ([]) 0 rfl rfl rfl ?_ ?_ (by rw [← hK]; exact ⟨rfl, rfl, rfl⟩)
        · (try cbv) <;> (repeat' (first | exact trivial | exact rfl | apply And.intro | exact fun _ => rfl | (intro _ hle; first | refine chunk_le hA rfl hle rfl ?_ | refine cat_le hA ?_ | refine upd_le hA ?_ | (try cbv))))
          · exact kc.trans ha.symm
          · exact hb.symm
        · (try cbv) <;> (repeat' (first | exact trivial | exact rfl | apply And.intro | exact fun _ => rfl | (intro _ hle; first | refine chunk_le hA rfl hle rfl ?_ | refine cat_le hA ?_ | refine upd_le hA ?_ | (try cbv))))
theorem refget_own {P : Program} {G : Gl} {K : SV → Hl → Nat → Prop} (hP : P = Tryz.prog) {s first fin : Nat} {S L : Nat → Nat → Int} {f0 : Nat → Int} {W : Nat → Bool} {c : Int} {V : Nat → Nat → Int} {R0 : Option (Nat × (Nat → Int) × Nat)} (hs : s ≤ 4096)
    (h : first ≤ fin ∧ fin ≤ s) (ho : c ≠ 0) (hV : ∀ i, i < s → V i = L i ∧ isB (V i)) (hR0 : getP V first fin (fin - first) first 0 f0 = R0)
    (hK1 : ∀ n f next, R0 = some (n, f, next) → K (.tup [.sl 1 1 (.l 0) (.s n), .int .i64 (next : Int), .lit .i64 0]) [(1, .row 5 1 (.s n) (fun e => [.int .u8 (f e.val)]))] 600)
    (hK0 : R0 = none → K (.tup [.nils, .lit .i64 0, .lit .i64 4]) [] 600) :
    FnTr P G 38 [RD s S L W c, .int .i64 (first : Int), .int .i64 (fin : Int)] [] 0 K := by
  have c1 := refrun_fn (P := P) (G := G) (s := (s : Int)) (a := (first : Int)) (b := (fin : Int)) (r := true) hP ⟨fun _ => (by omega), fun _ => rfl⟩
  have c2 := refoff_fn (P := P) (G := G) (s := s) (S := S) (L := L) (W := W) (c := c) (r := false) hP ⟨fun q => (by cases q), fun q => absurd q ho⟩
  have c3 : ∀ i, i < s → FnTr P G 71 [RD s S L W c, .int .i64 (i : Int)] [] 0 (Gives (.tup [.ro 1 (.s 64) (fun e => [.int .u8 (V i e.val)]), .lit .i64 0]) [] 2) := fun i hi => refread_ok hP ho hi (hV i hi).1
  obtain ⟨m64, h64⟩ : ∃ m, m = 64 := ⟨_, rfl⟩
  have hB : ∀ i, i < s → isB (V i) := fun i hi => (hV i hi).2
  clear hV
  have hT : T.Ok P := hP ▸ T_ok
  refine FnTr.intro (fn := Tryz.f38) (c := bodyOf Tryz.f38) (by rw [hP]; rfl) rfl rfl hT ?_
  generalize hA : Ar.real = A
  cbv
  refine CS.leR hA (c1) (.bl true) [] rfl rfl rfl ?_ ?_ ?_ ?_
  iterate 3 ((try cbv) <;> (repeat' (first | exact trivial | exact rfl | apply And.intro | exact fun _ => rfl | (intro _ hle; first | refine chunk_le hA rfl hle rfl ?_ | refine cat_le hA ?_ | refine upd_le hA ?_ | (try cbv)))) <;> (try (subst hA; (try simp only [zn] at *); (try (simp only [Ar.real, NV.val, zo, zt])); first | done | omega | decide | exact zi | (refine ⟨?_, ?_⟩ <;> first | omega | decide | exact zi))))
  cbv
  refine CS.leR hA (c2) (.bl false) [] rfl rfl rfl ?_ ?_ ?_ ?_
  iterate 3 ((try cbv) <;> (repeat' (first | exact trivial | exact rfl | apply And.intro | exact fun _ => rfl | (intro _ hle; first | refine chunk_le hA rfl hle rfl ?_ | refine cat_le hA ?_ | refine upd_le hA ?_ | (try cbv)))) <;> (try (subst hA; (try simp only [zn] at *); (try (simp only [Ar.real, NV.val, zo, zt])); first | done | omega | decide | exact zi | (refine ⟨?_, ?_⟩ <;> first | omega | decide | exact zi))))
  cbv
  clear c1 c2
  refine LS.ghost 5 1 (.l 0) (fun _ => [.int .u8 0]) rfl ?_
  refine LS.le3 hT hA 1 (fun (x : Nat) (n : Nat) (_ : Nat → Int) => [(9, .sl 1 1 (.l 0) (.s n)), (10, .int .i64 (x : Int))]) (fun _ n f => [(1, .row 5 1 (.s n) (fun e => [.int .u8 (f e.val)])), (0, .cells 31 [Rw64 s S, Rw64 s L, .ro 1 (.s s) (fun e => [.bs (W e.val)]), .int .i64 c])]) (fun x n f => first ≤ x ∧ x ≤ fin ∧ n ≤ 65536 ∧ getP V first fin (fin - x) x n f = R0) (fun x _ _ => fin - x) first 0 f0 [(15, 1)] rfl rfl ?_ ?_ ?_
  · (try cbv) <;> (repeat' (first | exact trivial | exact rfl | apply And.intro | exact fun _ => rfl | (intro _ hle; first | refine chunk_le hA rfl hle rfl ?_ | refine cat_le hA ?_ | refine upd_le hA ?_ | refine int_le ?_ | skip)))
    all_goals (exfalso; subst hA; exact absurd (ltNV_real.1 hle) (Nat.not_lt_zero _))
  · exact ⟨Nat.le_refl _, h.1, by omega, hR0⟩
  · intro R hR x n f hx
    cbv
    refine ⟨fun h1 => ?_, fun h1 => ?_⟩
    · have hxf : x < fin := by clear c3 hK1 hK0 hB hR0 hx hR; subst hA; simpa [Ar.real] using h1
      have c4 := c3 x (by omega)
      have hb := hB x (by omega)
      have hgp := hx.2.2.2
      have hn := hx.2.2.1
      clear c3 hB
      obtain ⟨f', hf'⟩ : ∃ f' : Nat → Int, f' = fun i => if i < n then f i else V x (i - n) := ⟨_, rfl⟩
      have hfe : ∀ i, f' i = if i < n then f i else V x (i - n) := fun i => by rw [hf']
      cbv
      refine CS.le hA (c4) [] rfl rfl rfl ?_ ?_ ?_
      iterate 2 ((try cbv) <;> (repeat' (first | exact trivial | exact rfl | apply And.intro | exact fun _ => rfl | (intro _ hle; first | refine chunk_le hA rfl hle rfl ?_ | refine cat_le hA ?_ | refine upd_le hA ?_ | (try cbv)))) <;> (try (subst hA; (try simp only [zn] at *); (try (simp only [Ar.real, NV.val, zo, zt])); first | done | omega | decide | exact zi | (refine ⟨?_, ?_⟩ <;> first | omega | decide | exact zi))))
      cbv
      cases hu : usedP (V x) with
      | none =>
        have a1 := refused_fn (P := P) (G := G) (n := m64) (v := V x) (a := 0) (b := 0) hP h64 hb (.inl ⟨hu, rfl, rfl⟩)
        have hr0 : R0 = none := hgp.symm.trans (getP_none hxf hu)
        clear hR hK1
        refine CS.leR hA (a1) (.tup [.lit .i64 0, .lit .u8 0]) [] rfl rfl rfl ?_ ?_ ?_ ?_
        iterate 3 ((try cbv) <;> (repeat' (first | exact trivial | exact rfl | apply And.intro | exact fun _ => rfl | (intro _ hle; first | refine chunk_le hA rfl hle rfl ?_ | refine cat_le hA ?_ | refine upd_le hA ?_ | (try cbv)))) <;> (try (subst hA; (try simp only [zn] at *); (try (simp only [Ar.real, NV.val, zo, zt])); first | done | omega | decide | exact zi | (refine ⟨?_, ?_⟩ <;> first | omega | decide | exact zi))))
        cbv
        refine Fin.le hA 0 [] (.tup [.nils, .lit .i64 0, .lit .i64 4]) [] 600 rfl rfl rfl ?_ ?_ (hK0 hr0)
        iterate 2 ((try cbv) <;> (repeat' (first | exact trivial | exact rfl | apply And.intro | exact fun _ => rfl | (intro _ hle; first | refine chunk_le hA rfl hle rfl ?_ | refine cat_le hA ?_ | refine upd_le hA ?_ | (try cbv)))))
      | some r =>
        obtain ⟨m, on⟩ := r
        obtain ⟨nm, hnm⟩ : ∃ q, q = n + m := ⟨_, rfl⟩
        have hm62 : m ≤ 62 := by
          clear hR hK1 hK0
          unfold usedP at hu
          split at hu
          · rename_i q
            have := q.1
            split at hu
            · split at hu
              · cases hu; omega
              · cases hu
            · split at hu
              · cases hu; omega
              · cases hu
          · cases hu
        cases on with
        | true =>
          have a1 := refused_fn (P := P) (G := G) (n := m64) (v := V x) (a := (m : Int)) (b := 1) hP h64 hb (.inr ⟨m, true, hu, rfl, rfl⟩)
          refine CS.leR hA (a1) (.tup [.int .i64 (m : Int), .lit .u8 1]) [] rfl rfl rfl ?_ ?_ ?_ ?_
          iterate 3 ((try cbv) <;> (repeat' (first | exact trivial | exact rfl | apply And.intro | exact fun _ => rfl | (intro _ hle; first | refine chunk_le hA rfl hle rfl ?_ | refine cat_le hA ?_ | refine upd_le hA ?_ | (try cbv)))) <;> (try (subst hA; (try simp only [zn] at *); (try (simp only [Ar.real, NV.val, zo, zt])); first | done | omega | decide | exact zi | (refine ⟨?_, ?_⟩ <;> first | omega | decide | exact zi))))
          cbv
          have hap : A.addN n (A.subN (A.nat (Int.ofNat m)) 0) = nm := by clear hR; subst hA; rw [hnm]; rfl
          refine ⟨?_, ⟨?_, ?_⟩, ?_⟩
          iterate 3 (subst hA; (try simp only [zn] at *); (try (simp only [Ar.real, NV.val, zo, zt])); first | done | omega | decide | exact zi | (refine ⟨?_, ?_⟩ <;> first | omega | decide | exact zi))
          by_cases e3 : 65536 < n + m
          · have hr0 : R0 = none := hgp.symm.trans (getP_long hxf hu e3)
            have k1 : A.gt (A.i2 (A.addN n (A.subN (A.nat (Int.ofNat m)) 0))) 65536 = true := by rw [hap]; clear hR; subst hA; simp [Ar.real]; omega
            clear hR hK1
            first | refine testR k1 rfl ?_ | refine testL k1 rfl ?_
            cbv
            refine Fin.le hA 0 [] (.tup [.nils, .lit .i64 0, .lit .i64 4]) [] 600 rfl rfl rfl ?_ ?_ (hK0 hr0)
            iterate 2 ((try cbv) <;> (repeat' (first | exact trivial | exact rfl | apply And.intro | exact fun _ => rfl | (intro _ hle; first | refine chunk_le hA rfl hle rfl ?_ | refine cat_le hA ?_ | refine upd_le hA ?_ | (try cbv)))))
          · have hr1 := hgp.symm.trans (getP_on hxf hu e3)
            rw [← hf', ← hnm] at hr1
            have k1 : A.gt (A.i2 (A.addN n (A.subN (A.nat (Int.ofNat m)) 0))) 65536 = false := by rw [hap]; clear hR; subst hA; simp [Ar.real]; omega
            first | refine testR k1 rfl ?_ | refine testL k1 rfl ?_
            cbv
            refine ⟨(by (subst hA; (try simp only [zn] at *); (try (simp only [Ar.real, NV.val, zo, zt])); first | done | omega | decide | exact zi | (refine ⟨?_, ?_⟩ <;> first | omega | decide | exact zi))), hR _ _ _ _ ⟨x + 1, nm, f', 1, [(26, 1)], rfl, rfl, ?_, ⟨by omega, by omega, by omega, hr1.symm⟩, (by show fin - (x + 1) < fin - x; omega)⟩⟩
            clear hR
            (try cbv) <;> (repeat' (first | exact trivial | exact rfl | apply And.intro | exact fun _ => rfl | (intro _ hle; first | refine chunk_le hA rfl hle rfl ?_ | refine cat_le hA ?_ | refine upd_le hA ?_ | refine int_le ?_ | skip)))
            all_goals first | exact hfe _ | exact hap | (subst hA; (try simp only [zn] at *); (try (simp only [Ar.real, NV.val, zo, zt])); first | done | omega | decide | exact zi | (refine ⟨?_, ?_⟩ <;> first | omega | decide | exact zi))
        | false =>
          have a1 := refused_fn (P := P) (G := G) (n := m64) (v := V x) (a := (m : Int)) (b := 2) hP h64 hb (.inr ⟨m, false, hu, rfl, rfl⟩)
          clear hR
          refine CS.leR hA (a1) (.tup [.int .i64 (m : Int), .lit .u8 2]) [] rfl rfl rfl ?_ ?_ ?_ ?_
          iterate 3 ((try cbv) <;> (repeat' (first | exact trivial | exact rfl | apply And.intro | exact fun _ => rfl | (intro _ hle; first | refine chunk_le hA rfl hle rfl ?_ | refine cat_le hA ?_ | refine upd_le hA ?_ | (try cbv)))) <;> (try (subst hA; (try simp only [zn] at *); (try (simp only [Ar.real, NV.val, zo, zt])); first | done | omega | decide | exact zi | (refine ⟨?_, ?_⟩ <;> first | omega | decide | exact zi))))
          cbv
          have hap : A.addN n (A.subN (A.nat (Int.ofNat m)) 0) = nm := by subst hA; rw [hnm]; rfl
          refine ⟨?_, ⟨?_, ?_⟩, ?_⟩
          iterate 3 (subst hA; (try simp only [zn] at *); (try (simp only [Ar.real, NV.val, zo, zt])); first | done | omega | decide | exact zi | (refine ⟨?_, ?_⟩ <;> first | omega | decide | exact zi))
          by_cases e3 : 65536 < n + m
          · have hr0 : R0 = none := hgp.symm.trans (getP_long hxf hu e3)
            have k1 : A.gt (A.i2 (A.addN n (A.subN (A.nat (Int.ofNat m)) 0))) 65536 = true := by rw [hap]; subst hA; simp [Ar.real]; omega
            clear hK1
            first | refine testR k1 rfl ?_ | refine testL k1 rfl ?_
            cbv
            refine Fin.le hA 0 [] (.tup [.nils, .lit .i64 0, .lit .i64 4]) [] 600 rfl rfl rfl ?_ ?_ (hK0 hr0)
            iterate 2 ((try cbv) <;> (repeat' (first | exact trivial | exact rfl | apply And.intro | exact fun _ => rfl | (intro _ hle; first | refine chunk_le hA rfl hle rfl ?_ | refine cat_le hA ?_ | refine upd_le hA ?_ | (try cbv)))))
          · have k1 : A.gt (A.i2 (A.addN n (A.subN (A.nat (Int.ofNat m)) 0))) 65536 = false := by rw [hap]; subst hA; simp [Ar.real]; omega
            by_cases e4 : m = 0
            · have k2 : A.eq (Int.ofNat m) 0 = true := by subst hA; simp [Ar.real]; omega
              by_cases e5 : first < x
              · have hr0 : R0 = none := hgp.symm.trans (getP_empty hxf hu e4 e5)
                have k3 : A.gt (Int.ofNat x) (Int.ofNat first) = true := by subst hA; simp [Ar.real]; omega
                first | refine testR k1 rfl ?_ | refine testL k1 rfl ?_
                cbv
                first | refine testR k2 rfl ?_ | refine testL k2 rfl ?_
                cbv
                first | refine testR k3 rfl ?_ | refine testL k3 rfl ?_
                cbv
                refine Fin.le hA 0 [] (.tup [.nils, .lit .i64 0, .lit .i64 4]) [] 600 rfl rfl rfl ?_ ?_ (hK0 hr0)
                iterate 2 ((try cbv) <;> (repeat' (first | exact trivial | exact rfl | apply And.intro | exact fun _ => rfl | (intro _ hle; first | refine chunk_le hA rfl hle rfl ?_ | refine cat_le hA ?_ | refine upd_le hA ?_ | (try cbv)))))
              · have hr1 := hgp.symm.trans (getP_end hxf hu (by omega) (by omega))
                rw [← hf', ← hnm] at hr1
                have k3 : A.gt (Int.ofNat x) (Int.ofNat first) = false := by subst hA; simp [Ar.real]; omega
                first | refine testR k1 rfl ?_ | refine testL k1 rfl ?_
                cbv
                first | refine testR k2 rfl ?_ | refine testL k2 rfl ?_
                cbv
                first | refine testR k3 rfl ?_ | refine testL k3 rfl ?_
                cbv
                refine ⟨(by (subst hA; (try simp only [zn] at *); (try (simp only [Ar.real, NV.val, zo, zt])); first | done | omega | decide | exact zi | (refine ⟨?_, ?_⟩ <;> first | omega | decide | exact zi))), ?_⟩
                refine Fin.le hA 1 [(26, 1)] (.tup [.sl 1 1 (.l 0) (.s nm), .int .i64 ((x + 1 : Nat) : Int), .lit .i64 0]) [(1, .row 5 1 (.s nm) (fun e => [.int .u8 (f' e.val)]))] 600 rfl rfl rfl ?_ ?_ (hK1 _ _ _ hr1)
                · (try cbv) <;> (repeat' (first | exact trivial | exact rfl | apply And.intro | exact fun _ => rfl | (intro _ hle; first | refine chunk_le hA rfl hle rfl ?_ | refine cat_le hA ?_ | refine upd_le hA ?_ | refine int_le ?_ | skip)))
                  all_goals first | exact hap | (subst hA; (try simp only [zn] at *); (try (simp only [Ar.real, NV.val, zo, zt])); first | done | omega | decide | exact zi | (refine ⟨?_, ?_⟩ <;> first | omega | decide | exact zi))
                · (try cbv) <;> (repeat' (first | exact trivial | exact rfl | apply And.intro | exact fun _ => rfl | (intro _ hle; first | refine chunk_le hA rfl hle rfl ?_ | refine cat_le hA ?_ | refine upd_le hA ?_ | refine int_le ?_ | skip)))
                  all_goals first | exact hfe _ | exact hap | (subst hA; (try simp only [zn] at *); (try (simp only [Ar.real, NV.val, zo, zt])); first | done | omega | decide | exact zi | (refine ⟨?_, ?_⟩ <;> first | omega | decide | exact zi))
            · have hr1 := hgp.symm.trans (getP_end hxf hu (by omega) (by omega))
              rw [← hf', ← hnm] at hr1
              have k2 : A.eq (Int.ofNat m) 0 = false := by subst hA; simp [Ar.real]; omega
              first | refine testR k1 rfl ?_ | refine testL k1 rfl ?_
              cbv
              first | refine testR k2 rfl ?_ | refine testL k2 rfl ?_
              cbv
              refine ⟨(by (subst hA; (try simp only [zn] at *); (try (simp only [Ar.real, NV.val, zo, zt])); first | done | omega | decide | exact zi | (refine ⟨?_, ?_⟩ <;> first | omega | decide | exact zi))), ?_⟩
              refine Fin.le hA 1 [(26, 1)] (.tup [.sl 1 1 (.l 0) (.s nm), .int .i64 ((x + 1 : Nat) : Int), .lit .i64 0]) [(1, .row 5 1 (.s nm) (fun e => [.int .u8 (f' e.val)]))] 600 rfl rfl rfl ?_ ?_ (hK1 _ _ _ hr1)
              · (try cbv) <;> (repeat' (first | exact trivial | exact rfl | apply And.intro | exact fun _ => rfl | (intro _ hle; first | refine chunk_le hA rfl hle rfl ?_ | refine cat_le hA ?_ | refine upd_le hA ?_ | refine int_le ?_ | skip)))
                all_goals first | exact hap | (subst hA; (try simp only [zn] at *); (try (simp only [Ar.real, NV.val, zo, zt])); first | done | omega | decide | exact zi | (refine ⟨?_, ?_⟩ <;> first | omega | decide | exact zi))
              · (try cbv) <;> (repeat' (first | exact trivial | exact rfl | apply And.intro | exact fun _ => rfl | (intro _ hle; first | refine chunk_le hA rfl hle rfl ?_ | refine cat_le hA ?_ | refine upd_le hA ?_ | refine int_le ?_ | skip)))
                all_goals first | exact hfe _ | exact hap | (subst hA; (try simp only [zn] at *); (try (simp only [Ar.real, NV.val, zo, zt])); first | done | omega | decide | exact zi | (refine ⟨?_, ?_⟩ <;> first | omega | decide | exact zi))
    · have hxf : ¬ x < fin := by clear c3 hK1 hK0 hB hR0 hx hR; subst hA; simpa [Ar.real] using h1
      have hr0 : R0 = none := hx.2.2.2.symm.trans (getP_stop (by omega) _)
      clear c3 hR hK1
      cbv
      refine Fin.le hA 0 [] (.tup [.nils, .lit .i64 0, .lit .i64 4]) [] 600 rfl rfl rfl ?_ ?_ (hK0 hr0)
      iterate 2 ((try cbv) <;> (repeat' (first | exact trivial | exact rfl | apply And.intro | exact fun _ => rfl | (intro _ hle; first | refine chunk_le hA rfl hle rfl ?_ | refine cat_le hA ?_ | refine upd_le hA ?_ | (try cbv)))))
theorem refget_none {P : Program} {G : Gl} (hP : P = Tryz.prog) {s first fin : Nat} {S L : Nat → Nat → Int} {f0 : Nat → Int} {W : Nat → Bool} {c : Int} {V : Nat → Nat → Int} (hs : s ≤ 4096)
    (h : first ≤ fin ∧ fin ≤ s) (ho : c ≠ 0) (hV : ∀ i, i < s → V i = L i ∧ isB (V i)) (hR0 : getP V first fin (fin - first) first 0 f0 = none) :
    FnTr P G 38 [RD s S L W c, .int .i64 (first : Int), .int .i64 (fin : Int)] [] 0 (Gives (.tup [.nils, .lit .i64 0, .lit .i64 4]) [] 600) :=
  refget_own hP hs h ho hV hR0 (fun n f next e => by cases e) (fun _ => ⟨rfl, rfl, rfl⟩)
theorem refget_fn {P : Program} {G : Gl} (hP : P = Tryz.prog) {s first fin n next : Nat} {S L : Nat → Nat → Int} {f0 f : Nat → Int} {W : Nat → Bool} {c : Int} {V : Nat → Nat → Int} (hs : s ≤ 4096)
    (h : first ≤ fin ∧ fin ≤ s) (ho : c ≠ 0) (hV : ∀ i, i < s → V i = L i ∧ isB (V i)) (hR0 : getP V first fin (fin - first) first 0 f0 = some (n, f, next)) :
    FnTr P G 38 [RD s S L W c, .int .i64 (first : Int), .int .i64 (fin : Int)] [] 0 (Gives (.tup [By n f, .int .i64 (next : Int), .lit .i64 0]) [] 600) := by
  have h1 : FnTr P G 38 [RD s S L W c, .int .i64 (first : Int), .int .i64 (fin : Int)] [] 0 (Gives (.tup [.sl 1 1 (.l 0) (.s n), .int .i64 (next : Int), .lit .i64 0]) [(1, .row 5 1 (.s n) (fun e => [.int .u8 (f e.val)]))] 600) :=
    refget_own hP hs h ho hV hR0 (fun n f next e => by cases e; exact ⟨rfl, rfl, rfl⟩) (fun e => by cases e)
  generalize hA : Ar.real = A
  refine FnTr.dat hA h1 _ _ ?_
  (try cbv) <;> (repeat' (first | exact trivial | exact rfl | apply And.intro | exact fun _ => rfl | (intro _ hle; first | refine chunk_le hA rfl hle rfl ?_ | refine cat_le hA ?_ | refine upd_le hA ?_ | refine int_le ?_ | skip)))
  all_goals (subst hA; (try simp only [zn] at *); (try (simp only [Ar.real, NV.val, zo, zt])); first | done | omega | decide | exact zi | (refine ⟨?_, ?_⟩ <;> first | omega | decide | exact zi))
end Go.Proofs.YtnjjgipblimbfaaGreatDoor.Dsk
namespace Go.Proofs.YtnjjgipblimbfaaGreatDoor.Dsk
open Go.Eng
open Go.DskLaw (q64 secV isB Sim wipeP wipeP_off wipeP_blank wipeP_full)
open Go.WalLaw
set_option maxRecDepth 100000
set_option maxHeartbeats 1000000
section
variable {P : Program} {G : Gl} {s N first fin : Nat} {S : Nat → Int} {L L' : Int → Option (Nat → Int)} {ar : Bool} {ca ca' c c' e nn : Int} {RS RL RL' : Nat → Nat → Int} {W W' : Nat → Bool} {on : Option Nat}
theorem rwipe_fn (hP : P = Tryz.prog) (hf : first ≤ fin ∧ fin ≤ s) (h : Sim s N S L ar ca RS RL W c) (hc : c ≠ 0) (hw : wipeP (fun i => secV S L i) ar (fin - first) first 0 L ca = (on, L', ca')) (hRL : ∀ t x, RL' t x = secV S L' t x) (hW : ∀ t : Nat, W' t = (L' (t : Int)).isSome) (hc' : c' = if ar then ca' else -1)
    (he : (∃ m : Nat, on = some m ∧ nn = (m : Int) ∧ e = 0) ∨ (on = none ∧ nn = 0 ∧ e = 6)) :
    FnTr P G 40 [RD s RS RL W c, .int .i64 (first : Int), .int .i64 (fin : Int)] [] 0 (Gives (.tup [RD s RS RL' W' c', .int .i64 nn, .int .i64 e]) [] 1000) := by
  have a1 := refrun_fn (P := P) (G := G) (s := (s : Int)) (a := (first : Int)) (b := (fin : Int)) (r := true) hP ⟨fun _ => by omega, fun _ => rfl⟩
  have a2 := refoff_fn (P := P) (G := G) (s := s) (S := RS) (L := RL) (W := W) (c := c) (r := false) hP ⟨fun q => (by cases q), fun q => absurd q hc⟩
  have hs := h.hs
  have hT : T.Ok P := hP ▸ T_ok
  refine FnTr.intro (fn := Tryz.f40) (c := bodyOf Tryz.f40) (by rw [hP]; rfl) rfl rfl hT ?_
  generalize hA : Ar.real = A
  generalize hK : Gives _ _ _ = K
  cbv
  refine CS.leR hA (a1) (.bl true) [] rfl rfl rfl ?_ ?_ ?_ ?_
  iterate 3 ((try cbv) <;> (repeat' (first | exact trivial | exact rfl | apply And.intro | exact fun _ => rfl | (intro _ hle; first | refine chunk_le hA rfl hle rfl ?_ | refine cat_le hA ?_ | refine upd_le hA ?_ | (try cbv)))) <;> (try (subst hA; (try simp only [zn] at *); (try (simp only [Ar.real, NV.val, zo, zt])); first | done | omega | decide | exact zi | (refine ⟨?_, ?_⟩ <;> first | omega | decide | exact zi))))
  cbv
  refine CS.leR hA (a2) (.bl false) [] rfl rfl rfl ?_ ?_ ?_ ?_
  iterate 3 ((try cbv) <;> (repeat' (first | exact trivial | exact rfl | apply And.intro | exact fun _ => rfl | (intro _ hle; first | refine chunk_le hA rfl hle rfl ?_ | refine cat_le hA ?_ | refine upd_le hA ?_ | (try cbv)))) <;> (try (subst hA; (try simp only [zn] at *); (try (simp only [Ar.real, NV.val, zo, zt])); first | done | omega | decide | exact zi | (refine ⟨?_, ?_⟩ <;> first | omega | decide | exact zi))))
  cbv
  refine LS.clr [19, 23] ?_
  cbv
  refine LS.le7 hT hA 2 (fun (x n : Nat) (_ : Int → Option (Nat → Int)) (_ : Int) (_ : Nat → Nat → Int) (_ : Nat → Bool) (_ : Int) => [(9, .int .i64 (n : Int)), (10, .int .i64 (x : Int))])
    (fun x n Lx cax RLx Wx cx => [(0, .cells 31 [Rw64 s RS, Rw64 s RLx, .ro 1 (.s s) (fun e => [.bs (Wx e.val)]), .int .i64 cx]), (1, .cells 31 [.nils, .nils, .nils, .lit .i64 0])])
    (fun x n Lx cax RLx Wx cx => first ≤ x ∧ x ≤ fin ∧ n ≤ x ∧ wipeP (fun i => secV S L i) ar (fin - x) x n Lx cax = (on, L', ca') ∧ Sim s N S Lx ar cax RS RLx Wx cx ∧ ∀ t : Nat, x ≤ t → Lx (t : Int) = L (t : Int))
    (fun x _ _ _ _ _ _ => fin - x) first 0 L ca RL W c [] rfl rfl ?_ ?_ ?_
  · (try cbv) <;> (repeat' (first | exact trivial | exact rfl | apply And.intro | exact fun _ => rfl | (intro _ hle; first | refine chunk_le hA rfl hle rfl ?_ | refine cat_le hA ?_ | refine upd_le hA ?_ | refine int_le ?_ | skip)))
    all_goals first | (subst hA; (try simp only [zn] at *); (try (simp only [Ar.real, NV.val, zo, zt])); first | done | omega | decide | exact zi | (refine ⟨?_, ?_⟩ <;> first | omega | decide | exact zi)) | trace_state
  · exact ⟨Nat.le_refl _, hf.1, Nat.zero_le _, hw, h, fun _ _ => rfl⟩
  · intro R hR x n Lx cax RLx Wx cx hp
    cbv
    obtain ⟨hx1, hx2, hnx, hwx, hsx, hLx⟩ := hp
    have hcr := hsx.crange
    refine ⟨fun h1 => ?_, fun h1 => ?_⟩
    · have hlt : x < fin := by clear hR a1 a2; subst hA; simp [Ar.real] at h1; omega
      obtain ⟨B, hB⟩ : ∃ B : Nat → Bool, ∀ k, B k = true ↔ ∀ y, y < k → RLx x y = 0 := by
        classical
        exact ⟨fun k => decide (∀ y, y < k → RLx x y = 0), fun k => by simp⟩
      have hB0 : B 0 = true := (hB 0).2 fun y hy => absurd hy (Nat.not_lt_zero _)
      have kn : A.nat (Int.ofNat x) = x := by subst hA; rfl
      have hxs : x < s := by omega
      cbv
      refine LS.le hT hA 2 (fun (k : Nat) => [(11, .bs (B k)), (12, .int .i64 (k : Int))]) (fun _ => [(0, .cells 31 [Rw64 s RS, Rw64 s RLx, .ro 1 (.s s) (fun e => [.bs (Wx e.val)]), .int .i64 cx]), (1, .cells 31 [.nils, .nils, .nils, .lit .i64 0])]) (fun k => k ≤ 64) (fun k => 64 - k) 0 [] rfl rfl ?_ ?_ ?_
      · (try cbv) <;> (repeat' (first | exact trivial | exact rfl | apply And.intro | exact fun _ => rfl | (intro _ hle; first | refine chunk_le hA rfl hle rfl ?_ | refine cat_le hA ?_ | refine upd_le hA ?_ | refine int_le ?_ | skip)))
        all_goals first | exact hB0.symm | (subst hA; (try simp only [zn] at *); (try (simp only [Ar.real, NV.val, zo, zt])); first | done | omega | decide | exact zi | (refine ⟨?_, ?_⟩ <;> first | omega | decide | exact zi)) | trace_state
      · exact Nat.zero_le _
      · intro R2 hR2 k hk
        cbv
        refine ⟨fun q1 => ?_, fun q1 => ?_⟩
        · have hk64 : k < 64 := by clear hR hR2 a1 a2; subst hA; simp [Ar.real] at q1; omega
          have kk : A.nat (Int.ofNat k) = k := by subst hA; rfl
          have hBs : B (k + 1) = (B k && decide (RLx x k = 0)) := by
            rw [Bool.eq_iff_iff, hB, Bool.and_eq_true, hB, decide_eq_true_eq]
            exact ⟨fun h => ⟨fun y hy => h y (by omega), h k (by omega)⟩, fun h y hy => by
              rcases Nat.lt_or_ge y k with q | q
              · exact h.1 y q
              · rw [show y = k by omega]; exact h.2⟩
          have kz : A.eq (RLx (A.nat (Int.ofNat x)) (A.nat (Int.ofNat k))) 0 = decide (RLx x k = 0) := by rw [kn, kk]; clear hR hR2 a1 a2; subst hA; rfl
          clear hR hsx hwx hLx hB
          cbv
          cases hBk : B k with
          | true =>
            rw [hBk, Bool.true_and] at hBs
            refine ⟨fun _ => ?_, fun h => (by cases h)⟩
            cbv
            refine ⟨?_, ?_, ?_, hR2 _ _ ⟨k + 1, 2, [], rfl, rfl, ?_, (by omega), (by show 64 - (k + 1) < 64 - k; omega)⟩⟩
            iterate 3 (subst hA; (try simp only [zn] at *); (try (simp only [Ar.real, NV.val, zo, zt])); first | done | omega | decide | exact zi | (refine ⟨?_, ?_⟩ <;> first | omega | decide | exact zi))
            clear hR2
            (try cbv) <;> (repeat' (first | exact trivial | exact rfl | apply And.intro | exact fun _ => rfl | (intro _ hle; first | refine chunk_le hA rfl hle rfl ?_ | refine cat_le hA ?_ | refine upd_le hA ?_ | refine int_le ?_ | skip)))
            all_goals first | (rw [hBs]; exact kz) | (subst hA; (try simp only [zn] at *); (try (simp only [Ar.real, NV.val, zo, zt])); first | done | omega | decide | exact zi | (refine ⟨?_, ?_⟩ <;> first | omega | decide | exact zi)) | trace_state
          | false =>
            rw [hBk, Bool.false_and] at hBs
            refine ⟨fun h => (by cases h), fun _ => ?_⟩
            cbv
            refine ⟨(by (subst hA; (try simp only [zn] at *); (try (simp only [Ar.real, NV.val, zo, zt])); first | done | omega | decide | exact zi | (refine ⟨?_, ?_⟩ <;> first | omega | decide | exact zi))), hR2 _ _ ⟨k + 1, 2, [], rfl, rfl, ?_, (by omega), (by show 64 - (k + 1) < 64 - k; omega)⟩⟩
            clear hR2
            (try cbv) <;> (repeat' (first | exact trivial | exact rfl | apply And.intro | exact fun _ => rfl | (intro _ hle; first | refine chunk_le hA rfl hle rfl ?_ | refine cat_le hA ?_ | refine upd_le hA ?_ | refine int_le ?_ | skip)))
            all_goals first | exact hBs.symm | (rw [hBs]) | (subst hA; (try simp only [zn] at *); (try (simp only [Ar.real, NV.val, zo, zt])); first | done | omega | decide | exact zi | (refine ⟨?_, ?_⟩ <;> first | omega | decide | exact zi)) | trace_state
        · have hk64 : k = 64 := by clear hR hR2 a1 a2; subst hA; simp [Ar.real] at q1; omega
          subst hk64
          clear hR2
          by_cases ho : cx = 0
          · have a3 := refoff_fn (P := P) (G := G) (s := s) (S := RS) (L := RLx) (W := Wx) (c := cx) (r := true) hP ⟨fun _ => ho, fun _ => rfl⟩
            obtain ⟨k0, hk0⟩ : ∃ k0, fin - x = k0 + 1 := ⟨fin - x - 1, by omega⟩
            rw [hk0, wipeP_off (hsx.off.1 ho)] at hwx
            obtain ⟨h1, h2, h3⟩ : on = none ∧ L' = Lx ∧ ca' = cax := by cases hwx; exact ⟨rfl, rfl, rfl⟩
            obtain ⟨hn0, he6⟩ : nn = 0 ∧ e = 6 := by
              rcases he with ⟨m, q, _⟩ | ⟨_, q⟩
              · rw [h1] at q; cases q
              · exact q
            have e1 : ∀ t y, y < 64 → RLx t y = RL' t y := fun t y hy => by rw [hRL, h2]; exact hsx.rl t y hy
            have e2 : ∀ t : Nat, Wx t = W' t := fun t => by rw [hW, h2]; exact hsx.w t
            have e3 : cx = c' := by rw [hc', h3]; exact hsx.hc
            clear hR hsx hwx hLx hB a1 a2 he h
            cbv
            refine CS.leR hA (a3) (.bl true) [] rfl rfl rfl ?_ ?_ ?_ ?_
            iterate 3 ((try cbv) <;> (repeat' (first | exact trivial | exact rfl | apply And.intro | exact fun _ => rfl | (intro _ hle; first | refine chunk_le hA rfl hle rfl ?_ | refine cat_le hA ?_ | refine upd_le hA ?_ | (try cbv)))) <;> (try (subst hA; (try simp only [zn] at *); (try (simp only [Ar.real, NV.val, zo, zt])); first | done | omega | decide | exact zi | (refine ⟨?_, ?_⟩ <;> first | omega | decide | exact zi))))
            cbv
            refine Fin.le hA 0 [] (.tup [RD s RS RL' W' c', .int .i64 nn, .int .i64 e]) ([]) 1000 rfl rfl rfl ?_ ?_ (by rw [← hK]; exact ⟨rfl, rfl, rfl⟩)
            · (try cbv) <;> (repeat' (first | exact trivial | exact rfl | apply And.intro | exact fun _ => rfl | (intro _ hle; first | refine chunk_le hA rfl hle rfl ?_ | refine cat_le hA ?_ | refine upd_le hA ?_ | refine int_le ?_ | skip)))
              all_goals first | (refine e1 _ _ ?_; subst hA; exact ltNV_real.1 (by assumption)) | exact e2 _ | exact e3 | exact hn0.symm | exact he6.symm | (subst hA; (try simp only [zn] at *); (try (simp only [Ar.real, NV.val, zo, zt])); first | done | omega | decide | exact zi | (refine ⟨?_, ?_⟩ <;> first | omega | decide | exact zi)) | trace_state
            · (try cbv) <;> (repeat' (first | exact trivial | exact rfl | apply And.intro | exact fun _ => rfl | (intro _ hle; first | refine chunk_le hA rfl hle rfl ?_ | refine cat_le hA ?_ | refine upd_le hA ?_ | (try cbv))))
          · have a3 := refoff_fn (P := P) (G := G) (s := s) (S := RS) (L := RLx) (W := Wx) (c := cx) (r := false) hP ⟨fun q => (by cases q), fun q => absurd q ho⟩
            have hof : ¬ (ar = true ∧ cax = 0) := fun q => ho (hsx.off.2 q)
            obtain ⟨k0, hk0⟩ : ∃ k0, fin - x = k0 + 1 := ⟨fin - x - 1, by omega⟩
            have hk1 : k0 = fin - (x + 1) := by omega
            have hV : (∀ y, y < 64 → RLx x y = 0) ↔ ∀ y, y < 64 → secV S L x y = 0 := by
              have e : ∀ y, y < 64 → RLx x y = secV S L x y := fun y hy => by
                rw [hsx.rl x y hy]
                unfold DskLaw.secV
                rw [hLx x (Nat.le_refl _)]
              exact ⟨fun h y hy => by rw [← e y hy]; exact h y hy, fun h y hy => by rw [e y hy]; exact h y hy⟩
            cases hB64 : B 64 with
            | true =>
              have hbl := hV.1 ((hB 64).1 hB64)
              rw [hk0, wipeP_blank hof hbl, hk1] at hwx
              clear hB a1 a2 he h
              cbv
              refine CS.leR hA (a3) (.bl false) [] rfl rfl rfl ?_ ?_ ?_ ?_
              iterate 3 ((try cbv) <;> (repeat' (first | exact trivial | exact rfl | apply And.intro | exact fun _ => rfl | (intro _ hle; first | refine chunk_le hA rfl hle rfl ?_ | refine cat_le hA ?_ | refine upd_le hA ?_ | (try cbv)))) <;> (try (subst hA; (try simp only [zn] at *); (try (simp only [Ar.real, NV.val, zo, zt])); first | done | omega | decide | exact zi | (refine ⟨?_, ?_⟩ <;> first | omega | decide | exact zi))))
              cbv
              refine ⟨fun _ => ?_, fun h => (by cases h)⟩
              cbv
              refine ⟨(by (subst hA; (try simp only [zn] at *); (try (simp only [Ar.real, NV.val, zo, zt])); first | done | omega | decide | exact zi | (refine ⟨?_, ?_⟩ <;> first | omega | decide | exact zi))), hR _ _ _ _ _ _ _ _ ⟨x + 1, n, Lx, cax, RLx, Wx, cx, 2, [], rfl, rfl, ?_, ⟨by omega, by omega, by omega, hwx, hsx, fun t ht => hLx t (by omega)⟩, (by show fin - (x + 1) < fin - x; omega)⟩⟩
              clear hR hsx hwx hLx
              (try cbv) <;> (repeat' (first | exact trivial | exact rfl | apply And.intro | exact fun _ => rfl | (intro _ hle; first | refine chunk_le hA rfl hle rfl ?_ | refine cat_le hA ?_ | refine upd_le hA ?_ | refine int_le ?_ | skip)))
              all_goals first | (subst hA; (try simp only [zn] at *); (try (simp only [Ar.real, NV.val, zo, zt])); first | done | omega | decide | exact zi | (refine ⟨?_, ?_⟩ <;> first | omega | decide | exact zi)) | trace_state
            | false =>
              have hbl : ¬ ∀ y, y < 64 → secV S L x y = 0 := fun q => by
                have := (hB 64).2 (hV.2 q)
                rw [hB64] at this; cases this
              rw [hk0, wipeP_full hof hbl, hk1] at hwx
              obtain ⟨z, hz⟩ : ∃ z : Nat → Int, ∀ y, z y = 0 := ⟨fun _ => 0, fun _ => rfl⟩
              obtain ⟨Ly, hLy⟩ : ∃ Ly : Int → Option (Nat → Int), Ly = fun i => if i = (x : Int) then some (fun _ => 0) else Lx i := ⟨_, rfl⟩
              have hLy2 : ∀ k, Ly k = if k = (x : Int) then some (fun _ => 0) else Lx k := fun k => by rw [hLy]
              obtain ⟨cay, hcay⟩ : ∃ cay, cay = if ar then cax - 1 else cax := ⟨_, rfl⟩
              obtain ⟨RLy, hRLy⟩ : ∃ RLy : Nat → Nat → Int, ∀ t y, RLy t y = if t = x then 0 else RLx t y := ⟨_, fun _ _ => rfl⟩
              obtain ⟨Wy, hWy⟩ : ∃ Wy : Nat → Bool, ∀ t, Wy t = if t = x then true else Wx t := ⟨_, fun _ => rfl⟩
              obtain ⟨cy, hcy⟩ : ∃ cy, cy = if 0 < cx then cx - 1 else cx := ⟨_, rfl⟩
              rw [← hLy, ← hcay] at hwx
              have hsy : Sim s N S Ly ar cay RS RLy Wy cy := hsx.write (f := fun _ => 0) (RL' := RLy) ho hxs (fun y _ => ⟨Int.le_refl 0, (by decide : (0 : Int) ≤ 255)⟩) hLy2 hcay hRLy hWy hcy
              have hLxy : ∀ t : Nat, x + 1 ≤ t → Ly (t : Int) = L (t : Int) := fun t ht => by rw [hLy2, if_neg (by omega)]; exact hLx t (by omega)
              have a4 := refwrite_ok (P := P) (G := G) (s := s) (n := 64) (i := x) (S := RS) (L := RLx) (L' := RLy) (f := z) (W := Wx) (W' := Wy) hP hs.2 ho hcr hxs rfl (fun t y _ _ => by rw [hRLy, hz]) (fun t _ => hWy t) hcy
              clear hB a1 a2 he h hsx hLx hLy hLy2
              cbv
              refine CS.leR hA (a3) (.bl false) [] rfl rfl rfl ?_ ?_ ?_ ?_
              iterate 3 ((try cbv) <;> (repeat' (first | exact trivial | exact rfl | apply And.intro | exact fun _ => rfl | (intro _ hle; first | refine chunk_le hA rfl hle rfl ?_ | refine cat_le hA ?_ | refine upd_le hA ?_ | (try cbv)))) <;> (try (subst hA; (try simp only [zn] at *); (try (simp only [Ar.real, NV.val, zo, zt])); first | done | omega | decide | exact zi | (refine ⟨?_, ?_⟩ <;> first | omega | decide | exact zi))))
              cbv
              refine ⟨fun h => (by cases h), fun _ => ?_⟩
              cbv
              refine DS.runK hA hT (by rw [hP]; exact P_mixed) 300 rfl ?_
              cbv
              refine ⟨⟨?_, ?_, ?_, ?_⟩, ?_⟩
              iterate 4 (subst hA; (try simp only [zn] at *); (try (simp only [Ar.real, NV.val, zo, zt])); first | done | omega | decide | exact zi | (refine ⟨?_, ?_⟩ <;> first | omega | decide | exact zi))
              refine CD.give hA (a4) [607] (by (try cbv) <;> (repeat' (first | exact trivial | exact rfl | apply And.intro | exact fun _ => rfl | (intro _ hle; first | refine chunk_le hA rfl hle rfl ?_ | refine cat_le hA ?_ | refine upd_le hA ?_ | (try cbv)))); all_goals (subst hA; (try simp only [zn] at *); (try (simp only [Ar.real, NV.val, zo, zt])); first | done | omega | decide | exact zi | (refine ⟨?_, ?_⟩ <;> first | omega | decide | exact zi))) ⟨rfl, rfl, rfl, rfl, ?_, ?_⟩ rfl ?_
              iterate 2 ((try cbv) <;> (repeat' (first | exact trivial | exact rfl | apply And.intro | exact fun _ => rfl | (intro _ hle; first | refine chunk_le hA rfl hle rfl ?_ | refine cat_le hA ?_ | refine upd_le hA ?_ | (try cbv)))) <;> (try (subst hA; (try simp only [zn] at *); (try (simp only [Ar.real, NV.val, zo, zt])); first | done | omega | decide | exact zi | (refine ⟨?_, ?_⟩ <;> first | omega | decide | exact zi))) <;> (try first | exact (hz _).symm | exact hz _))
              cbv
              refine DF.fin (by kernel_rfl) (by kernel_rfl) ?_
              cbv
              refine ⟨?_, ?_, hR _ _ _ _ _ _ _ _ ⟨x + 1, n + 1, Ly, cay, RLy, Wy, cy, 2, [], rfl, rfl, ?_, ⟨by omega, by omega, by omega, hwx, hsy, hLxy⟩, (by show fin - (x + 1) < fin - x; omega)⟩⟩
              iterate 2 (subst hA; (try simp only [zn] at *); (try (simp only [Ar.real, NV.val, zo, zt])); first | done | omega | decide | exact zi | (refine ⟨?_, ?_⟩ <;> first | omega | decide | exact zi))
              clear hR hsy hwx hLxy
              (try cbv) <;> (repeat' (first | exact trivial | exact rfl | apply And.intro | exact fun _ => rfl | (intro _ hle; first | refine chunk_le hA rfl hle rfl ?_ | refine cat_le hA ?_ | refine upd_le hA ?_ | refine int_le ?_ | skip)))
              all_goals first | (subst hA; (try simp only [zn] at *); (try (simp only [Ar.real, NV.val, zo, zt])); first | done | omega | decide | exact zi | (refine ⟨?_, ?_⟩ <;> first | omega | decide | exact zi)) | trace_state
    · have hxf : x = fin := by clear hR a1 a2; subst hA; simp [Ar.real] at h1; omega
      subst hxf
      clear hR
      rw [Nat.sub_self] at hwx
      obtain ⟨h1, h2, h3⟩ : on = some n ∧ L' = Lx ∧ ca' = cax := by cases hwx; exact ⟨rfl, rfl, rfl⟩
      obtain ⟨hn0, he6⟩ : nn = (n : Int) ∧ e = 0 := by
        rcases he with ⟨m, q, q2⟩ | ⟨q, _⟩
        · rw [h1] at q; cases q; exact q2
        · rw [h1] at q; cases q
      have e1 : ∀ t y, y < 64 → RLx t y = RL' t y := fun t y hy => by rw [hRL, h2]; exact hsx.rl t y hy
      have e2 : ∀ t : Nat, Wx t = W' t := fun t => by rw [hW, h2]; exact hsx.w t
      have e3 : cx = c' := by rw [hc', h3]; exact hsx.hc
      clear hsx hwx hLx a1 a2 he h
      cbv
      refine Fin.le hA 0 [] (.tup [RD s RS RL' W' c', .int .i64 nn, .int .i64 e]) ([]) 1000 rfl rfl rfl ?_ ?_ (by rw [← hK]; exact ⟨rfl, rfl, rfl⟩)
      · (try cbv) <;> (repeat' (first | exact trivial | exact rfl | apply And.intro | exact fun _ => rfl | (intro _ hle; first | refine chunk_le hA rfl hle rfl ?_ | refine cat_le hA ?_ | refine upd_le hA ?_ | refine int_le ?_ | skip)))
        all_goals first | (refine e1 _ _ ?_; subst hA; exact ltNV_real.1 (by assumption)) | exact e2 _ | exact e3 | exact hn0.symm | exact he6.symm | (subst hA; (try simp only [zn] at *); (try (simp only [Ar.real, NV.val, zo, zt])); first | done | omega | decide | exact zi | (refine ⟨?_, ?_⟩ <;> first | omega | decide | exact zi)) | trace_state
      · (try cbv) <;> (repeat' (first | exact trivial | exact rfl | apply And.intro | exact fun _ => rfl | (intro _ hle; first | refine chunk_le hA rfl hle rfl ?_ | refine cat_le hA ?_ | refine upd_le hA ?_ | (try cbv))))
end
end Go.Proofs.YtnjjgipblimbfaaGreatDoor.Dsk
namespace Go.Proofs.YtnjjgipblimbfaaGreatDoor.Dsk
open Go.Eng
open Go.DskLaw (q64 secV isB Sim wipeP getP needN)
open Go.WalLaw
set_option maxRecDepth 100000
set_option maxHeartbeats 4000000
abbrev RLg (s : Nat) (S L : Nat → Nat → Int) (W : Nat → Bool) (c : Int) (gen at1 bn : Nat) (b : Nat → Int) (kc : Nat) (nl : Nat → Nat) (nf : Nat → Nat → Int) (su : Nat) (dead : Bool) : SV :=
  .agg [Rw64 s S, Rw64 s L, .ro 1 (.s s) (fun e => [.bs (W e.val)]), .int .i64 c, .int .i64 (gen : Int), .int .i64 (at1 : Int), By bn b, NtS kc nl nf, .int .i64 (su : Int), .bs dead]
abbrev RLd (s : Nat) (S L : Nat → Nat → Int) (W : Nat → Bool) (c : Int) : SV :=
  .agg [Rw64 s S, Rw64 s L, .ro 1 (.s s) (fun e => [.bs (W e.val)]), .int .i64 c, .lit .i64 0, .lit .i64 0, .nils, .nils, .lit .i64 0, .bl false]
section
variable {P : Program} {G : Gl} {s h N gen fi en c0 last : Nat} {S L : Nat → Nat → Int} {W : Nat → Bool} {c : Int} {gs g0 : Nat → Nat × (Nat → Int)}
theorem rasked_small (hP : P = Tryz.prog) (hs : s < 4) : FnTr P G 33 [RD s S L W c] [] 0 (Gives (.lit .i64 1) [] 10) := by
  have hT : T.Ok P := hP ▸ T_ok
  refine FnTr.intro (fn := Tryz.f33) (c := bodyOf Tryz.f33) (by rw [hP]; rfl) rfl rfl hT ?_
  generalize hA : Ar.real = A
  generalize hK : Gives _ _ _ = K
  cbv
  have k1 : A.lt (A.i2 s) 4 = true := by subst hA; simp [Ar.real]; omega
  first | refine testR k1 rfl ?_ | refine testL k1 rfl ?_
  cbv
  refine Fin.le hA 0 [] (.lit .i64 1) ([]) 10 rfl rfl rfl ?_ ?_ (by rw [← hK]; exact ⟨rfl, rfl, rfl⟩)
  iterate 2 ((try cbv) <;> (repeat' (first | exact trivial | exact rfl | apply And.intro | exact fun _ => rfl | (intro _ hle; first | refine chunk_le hA rfl hle rfl ?_ | refine cat_le hA ?_ | refine upd_le hA ?_ | (try cbv)))))
theorem rasked_ok (hP : P = Tryz.prog) (hs : 4 ≤ s) : FnTr P G 33 [RD s S L W c] [] 0 (Gives (.lit .i64 0) [] 10) := by
  have hT : T.Ok P := hP ▸ T_ok
  refine FnTr.intro (fn := Tryz.f33) (c := bodyOf Tryz.f33) (by rw [hP]; rfl) rfl rfl hT ?_
  generalize hA : Ar.real = A
  generalize hK : Gives _ _ _ = K
  cbv
  have k1 : A.lt (A.i2 s) 4 = false := by subst hA; simp [Ar.real]; omega
  first | refine testR k1 rfl ?_ | refine testL k1 rfl ?_
  cbv
  refine Fin.le hA 0 [] (.lit .i64 0) ([]) 10 rfl rfl rfl ?_ ?_ (by rw [← hK]; exact ⟨rfl, rfl, rfl⟩)
  iterate 2 ((try cbv) <;> (repeat' (first | exact trivial | exact rfl | apply And.intro | exact fun _ => rfl | (intro _ hle; first | refine chunk_le hA rfl hle rfl ?_ | refine cat_le hA ?_ | refine upd_le hA ?_ | (try cbv)))))
theorem ropen_small (hP : P = Tryz.prog) (hs : s < 4) : FnTr P G 8 [RD s S L W c] [] 0 (Gives (.tup [RLd s S L W c, .lit .i64 1]) [] 5000) := by
  have a1 := rasked_small (P := P) (G := G) (S := S) (L := L) (W := W) (c := c) hP hs
  have hT : T.Ok P := hP ▸ T_ok
  refine FnTr.intro (fn := Tryz.f8) (c := bodyOf Tryz.f8) (by rw [hP]; rfl) rfl rfl hT ?_
  generalize hA : Ar.real = A
  generalize hK : Gives _ _ _ = K
  cbv
  refine CS.le hA (a1) [] rfl rfl rfl ?_ ?_ ?_
  iterate 2 ((try cbv) <;> (repeat' (first | exact trivial | exact rfl | apply And.intro | exact fun _ => rfl | (intro _ hle; first | refine chunk_le hA rfl hle rfl ?_ | refine cat_le hA ?_ | refine upd_le hA ?_ | (try cbv)))) <;> (try (subst hA; (try simp only [zn] at *); (try (simp only [Ar.real, NV.val, zo, zt])); first | done | omega | decide | exact zi | (refine ⟨?_, ?_⟩ <;> first | omega | decide | exact zi))))
  cbv
  refine Fin.le hA 0 [] (.tup [RLd s S L W c, .lit .i64 1]) ([]) 5000 rfl rfl rfl ?_ ?_ (by rw [← hK]; exact ⟨rfl, rfl, rfl⟩)
  iterate 2 ((try cbv) <;> (repeat' (first | exact trivial | exact rfl | apply And.intro | exact fun _ => rfl | (intro _ hle; first | refine chunk_le hA rfl hle rfl ?_ | refine cat_le hA ?_ | refine upd_le hA ?_ | (try cbv)))))
theorem ropen_none (hP : P = Tryz.prog) (hs : 4 ≤ s) (hc : c ≠ 0) (hg : gen = 0)
    (cN : FnTr P G 35 [RD s S L W c] [] 0 (Gives (.int .i64 (gen : Int)) [] 100)) : FnTr P G 8 [RD s S L W c] [] 0 (Gives (.tup [RLd s S L W c, .lit .i64 4]) [] 5000) := by
  have a1 := rasked_ok (P := P) (G := G) (S := S) (L := L) (W := W) (c := c) hP hs
  have a2 := refoff_fn (P := P) (G := G) (s := s) (S := S) (L := L) (W := W) (c := c) (r := false) hP ⟨fun q => (by cases q), fun q => absurd q hc⟩
  have hT : T.Ok P := hP ▸ T_ok
  refine FnTr.intro (fn := Tryz.f8) (c := bodyOf Tryz.f8) (by rw [hP]; rfl) rfl rfl hT ?_
  generalize hA : Ar.real = A
  generalize hK : Gives _ _ _ = K
  cbv
  have k1 : A.eq (gen : Int) 0 = true := by clear a1 a2 cN; subst hA; simp [Ar.real]; omega
  refine CS.le hA (a1) [] rfl rfl rfl ?_ ?_ ?_
  iterate 2 ((try cbv) <;> (repeat' (first | exact trivial | exact rfl | apply And.intro | exact fun _ => rfl | (intro _ hle; first | refine chunk_le hA rfl hle rfl ?_ | refine cat_le hA ?_ | refine upd_le hA ?_ | (try cbv)))) <;> (try (subst hA; (try simp only [zn] at *); (try (simp only [Ar.real, NV.val, zo, zt])); first | done | omega | decide | exact zi | (refine ⟨?_, ?_⟩ <;> first | omega | decide | exact zi))))
  cbv
  refine CS.leR hA (a2) (.bl false) [] rfl rfl rfl ?_ ?_ ?_ ?_
  iterate 3 ((try cbv) <;> (repeat' (first | exact trivial | exact rfl | apply And.intro | exact fun _ => rfl | (intro _ hle; first | refine chunk_le hA rfl hle rfl ?_ | refine cat_le hA ?_ | refine upd_le hA ?_ | (try cbv)))) <;> (try (subst hA; (try simp only [zn] at *); (try (simp only [Ar.real, NV.val, zo, zt])); first | done | omega | decide | exact zi | (refine ⟨?_, ?_⟩ <;> first | omega | decide | exact zi))))
  cbv
  refine CS.le hA (cN) [] rfl rfl rfl ?_ ?_ ?_
  iterate 2 ((try cbv) <;> (repeat' (first | exact trivial | exact rfl | apply And.intro | exact fun _ => rfl | (intro _ hle; first | refine chunk_le hA rfl hle rfl ?_ | refine cat_le hA ?_ | refine upd_le hA ?_ | (try cbv)))) <;> (try (subst hA; (try simp only [zn] at *); (try (simp only [Ar.real, NV.val, zo, zt])); first | done | omega | decide | exact zi | (refine ⟨?_, ?_⟩ <;> first | omega | decide | exact zi))))
  cbv
  first | refine testR k1 rfl ?_ | refine testL k1 rfl ?_
  cbv
  refine Fin.le hA 0 [] (.tup [RLd s S L W c, .lit .i64 4]) ([]) 5000 rfl rfl rfl ?_ ?_ (by rw [← hK]; exact ⟨rfl, rfl, rfl⟩)
  iterate 2 ((try cbv) <;> (repeat' (first | exact trivial | exact rfl | apply And.intro | exact fun _ => rfl | (intro _ hle; first | refine chunk_le hA rfl hle rfl ?_ | refine cat_le hA ?_ | refine upd_le hA ?_ | (try cbv)))))
theorem ropen2_fn {n m : Nat} {f : Nat → Int} (hP : P = Tryz.prog) (hb : ∀ i, i < n → 0 ≤ f i ∧ f i ≤ 255) (hn : n ≤ 1000000000) (ho : OpenOk n f) (hm : m = n - 4) :
    FnTr P G 39 [By n f] [] 0 (Gives (.tup [By m f, .lit .i64 0]) [] 0) := by
  have h := refopen_fn (P := P) (G := G) hP (gi := cutF n f) (g := bvF n f) (m := m) (er := 0) (bvF_nat hb) (fun i _ => bvF_lt hb i) hn (.inr (.inl ⟨ho.1, (open_iff ho.1).2 ho.2, hm, rfl⟩))
  obtain ⟨c, hc⟩ : ∃ c : Nat → Int, c = cutF n f := ⟨_, rfl⟩
  have hcb : ∀ i, i < n → f i = c i := fun i hi => by rw [hc]; unfold cutF; rw [if_pos hi]
  have hcb2 : ∀ i, i < m → c i = f i := fun i hi => (hcb i (by omega)).symm
  rw [← hc] at h
  clear ho hb hc
  generalize hA : Ar.real = A
  refine FnTr.as hA h ?_ ?_ ?_ rfl
  · (try cbv) <;> (repeat' (first | exact trivial | exact rfl | apply And.intro | exact fun _ => rfl | (intro _ hle; first | refine chunk_le hA rfl hle rfl ?_ | refine cat_le hA ?_ | refine upd_le hA ?_ | (try cbv))))
    all_goals (refine hcb _ ?_; subst hA; exact ltNV_real.1 (by assumption))
  · (try cbv) <;> (repeat' (first | exact trivial | exact rfl | apply And.intro | exact fun _ => rfl | (intro _ hle; first | refine chunk_le hA rfl hle rfl ?_ | refine cat_le hA ?_ | refine upd_le hA ?_ | (try cbv))))
    all_goals (refine hcb2 _ ?_; subst hA; exact ltNV_real.1 (by assumption))
  · (try cbv) <;> (repeat' (first | exact trivial | exact rfl | apply And.intro | exact fun _ => rfl | (intro _ hle; first | refine chunk_le hA rfl hle rfl ?_ | refine cat_le hA ?_ | refine upd_le hA ?_ | (try cbv))))
theorem ropen2_bad {n : Nat} {f : Nat → Int} (hP : P = Tryz.prog) (hb : ∀ i, i < n → 0 ≤ f i ∧ f i ≤ 255) (hn : n ≤ 1000000000) (ho : ¬ OpenOk n f) :
    ∃ er : Int, er ≠ 0 ∧ FnTr P G 39 [By n f] [] 0 (Gives (.tup [By 0 f, .int .i64 er]) [] 0) := by
  have key : ∃ er : Int, er ≠ 0 ∧ FnTr P G 39 [By n (cutF n f)] [] 0 (Gives (.tup [By 0 (cutF n f), .int .i64 er]) [] 0) := by
    by_cases h4 : n < 4
    · exact ⟨210, by decide, refopen_fn hP (gi := cutF n f) (g := bvF n f) (m := 0) (er := 210) (bvF_nat hb) (fun i _ => bvF_lt hb i) hn (.inl ⟨h4, rfl, rfl⟩)⟩
    · exact ⟨240, by decide, refopen_fn hP (gi := cutF n f) (g := bvF n f) (m := 0) (er := 240) (bvF_nat hb) (fun i _ => bvF_lt hb i) hn (.inr (.inr ⟨by omega, fun h => ho ⟨by omega, (open_iff (by omega)).1 h⟩, rfl, rfl⟩))⟩
  obtain ⟨er, he, h⟩ := key
  refine ⟨er, he, ?_⟩
  obtain ⟨c, hc⟩ : ∃ c : Nat → Int, c = cutF n f := ⟨_, rfl⟩
  have hcb : ∀ i, i < n → f i = c i := fun i hi => by rw [hc]; unfold cutF; rw [if_pos hi]
  rw [← hc] at h
  clear ho hb hc
  generalize hA : Ar.real = A
  refine FnTr.as hA h ?_ ?_ ?_ rfl
  · (try cbv) <;> (repeat' (first | exact trivial | exact rfl | apply And.intro | exact fun _ => rfl | (intro _ hle; first | refine chunk_le hA rfl hle rfl ?_ | refine cat_le hA ?_ | refine upd_le hA ?_ | (try cbv))))
    all_goals (refine hcb _ ?_; subst hA; exact ltNV_real.1 (by assumption))
  · (try cbv) <;> (repeat' (first | exact trivial | exact rfl | apply And.intro | exact fun _ => rfl | (intro _ hle; first | refine chunk_le hA rfl hle rfl ?_ | refine cat_le hA ?_ | refine upd_le hA ?_ | (try cbv))))
    all_goals (exfalso; subst hA; exact absurd (ltNV_real.1 (by assumption)) (Nat.not_lt_zero _))
  · (try cbv) <;> (repeat' (first | exact trivial | exact rfl | apply And.intro | exact fun _ => rfl | (intro _ hle; first | refine chunk_le hA rfl hle rfl ?_ | refine cat_le hA ?_ | refine upd_le hA ?_ | (try cbv))))
abbrev RLo (s : Nat) (S L : Nat → Nat → Int) (W : Nat → Bool) (c : Int) (gen at1 bn : Nat) (b : Nat → Int) (kc : Nat) (su : Nat) : SV :=
  .agg [Rw64 s S, Rw64 s L, .ro 1 (.s s) (fun e => [.bs (W e.val)]), .int .i64 c, .int .i64 (gen : Int), .int .i64 (at1 : Int), By bn b, .sl 0 1 (.l 0) (.s kc), .int .i64 (su : Int), .bl false]
def ROut (K : SV → Hl → Nat → Prop) (s : Nat) (PS : Nat → Int) (PL : Int → Option (Nat → Int)) (ar : Bool) (ca : Int) (S L : Nat → Nat → Int) (W : Nat → Bool) (c : Int) (gen en c0 last : Nat) (gs : Nat → Nat × (Nat → Int)) : Prop :=
  (c0 = 0 ∧ K (.tup [RLd s S L W c, .lit .i64 270]) [] 5000) ∨
  (0 < c0 ∧ ∃ (m : Nat) (PL' : Int → Option (Nat → Int)) (ca' c' : Int) (L' : Nat → Nat → Int) (W' : Nat → Bool) (bn kc : Nat) (b : Nat → Int) (nl : Nat → Nat) (nf : Nat → Nat → Int),
    wipeP (fun i => secV PS PL i) ar (en - last) last 0 PL ca = (some m, PL', ca') ∧ (∀ t x, L' t x = secV PS PL' t x) ∧ (∀ t : Nat, W' t = (PL' (t : Int)).isSome) ∧ c' = (if ar then ca' else -1) ∧ kc = c0 - 1 ∧ bn = (gs 0).1 ∧ (∀ x, b x = (gs 0).2 x) ∧ (∀ i, nl i = (gs (1 + i)).1) ∧ (∀ i x, nf i x = (gs (1 + i)).2 x) ∧
    ((m = 0 ∧ K (.tup [RLo s S L' W' c' gen last bn b kc kc, .lit .i64 0]) [(0, LgR kc nl nf)] 5000) ∨
     (0 < m ∧ c' ≠ 0 ∧ (-1 ≤ c' ∧ c' ≤ 9223372036854775807) ∧ ∃ (S2 L2 : Nat → Nat → Int) (W2 : Nat → Bool) (c2 : Int), (∀ t x, t < s → x < 64 → S2 t x = L' t x) ∧ (∀ t x, t < s → x < 64 → L2 t x = L' t x) ∧ (∀ t, W2 t = false) ∧ c2 = (if 0 < c' then c' - 1 else c') ∧ K (.tup [RLo s S2 L2 W2 c2 gen last bn b kc kc, .lit .i64 0]) [(0, LgR kc nl nf)] 5000)))
theorem ropen_own {K : SV → Hl → Nat → Prop} {PS : Nat → Int} {PL : Int → Option (Nat → Int)} {ar : Bool} {ca : Int} (hP : P = Tryz.prog) (hr : Reg s h gen fi en) (hg : 0 < gen) (hc : c ≠ 0) (hsim : Sim s N PS PL ar ca S L W c) (hR0 : recP L en (en - fi + 1) fi 0 g0 = (c0, gs, last))
    (cN : FnTr P G 35 [RD s S L W c] [] 0 (Gives (.int .i64 (gen : Int)) [] 100)) (hout : ROut K s PS PL ar ca S L W c gen en c0 last gs) : FnTr P G 8 [RD s S L W c] [] 0 K := by
  have hle := hr.le
  have hs := hr.hs
  have hb : ∀ t, t < s → isB (L t) := fun t ht => hsim.rbytes t ht
  have a1 := rasked_ok (P := P) (G := G) (S := S) (L := L) (W := W) (c := c) hP hr.hs.1
  have a2 := refoff_fn (P := P) (G := G) (s := s) (S := S) (L := L) (W := W) (c := c) (r := false) hP ⟨fun q => (by cases q), fun q => absurd q hc⟩
  have a3 := rfirst_fn (P := P) (G := G) (S := S) (L := L) (W := W) (c := c) hP hr.hs hr.hh hr.hg hr.hfi
  have a4 := rhalf_fn (P := P) (G := G) (S := S) (L := L) (W := W) (c := c) hP hr.hs hr.hh
  have hgl := hr.hg
  have hfh : fi + h = en := hr.hen.symm
  have hT : T.Ok P := hP ▸ T_ok
  refine FnTr.intro (fn := Tryz.f8) (c := bodyOf Tryz.f8) (by rw [hP]; rfl) rfl rfl hT ?_
  generalize hA : Ar.real = A
  cbv
  have k1 : A.eq (gen : Int) 0 = false := by clear a1 a2 a3 a4 cN; subst hA; simp [Ar.real]; omega
  refine CS.le hA (a1) [] rfl rfl rfl ?_ ?_ ?_
  iterate 2 ((try cbv) <;> (repeat' (first | exact trivial | exact rfl | apply And.intro | exact fun _ => rfl | (intro _ hle; first | refine chunk_le hA rfl hle rfl ?_ | refine cat_le hA ?_ | refine upd_le hA ?_ | (try cbv)))) <;> (try (subst hA; (try simp only [zn] at *); (try (simp only [Ar.real, NV.val, zo, zt])); first | done | omega | decide | exact zi | (refine ⟨?_, ?_⟩ <;> first | omega | decide | exact zi))))
  cbv
  refine CS.leR hA (a2) (.bl false) [] rfl rfl rfl ?_ ?_ ?_ ?_
  iterate 3 ((try cbv) <;> (repeat' (first | exact trivial | exact rfl | apply And.intro | exact fun _ => rfl | (intro _ hle; first | refine chunk_le hA rfl hle rfl ?_ | refine cat_le hA ?_ | refine upd_le hA ?_ | (try cbv)))) <;> (try (subst hA; (try simp only [zn] at *); (try (simp only [Ar.real, NV.val, zo, zt])); first | done | omega | decide | exact zi | (refine ⟨?_, ?_⟩ <;> first | omega | decide | exact zi))))
  cbv
  refine CS.le hA (cN) [] rfl rfl rfl ?_ ?_ ?_
  iterate 2 ((try cbv) <;> (repeat' (first | exact trivial | exact rfl | apply And.intro | exact fun _ => rfl | (intro _ hle; first | refine chunk_le hA rfl hle rfl ?_ | refine cat_le hA ?_ | refine upd_le hA ?_ | (try cbv)))) <;> (try (subst hA; (try simp only [zn] at *); (try (simp only [Ar.real, NV.val, zo, zt])); first | done | omega | decide | exact zi | (refine ⟨?_, ?_⟩ <;> first | omega | decide | exact zi))))
  cbv
  first | refine testR k1 rfl ?_ | refine testL k1 rfl ?_
  cbv
  refine DS.runK hA hT (by rw [hP]; exact P_mixed) 100 rfl ?_
  cbv
  refine CD.pass hA (a3) [] [] rfl ⟨rfl, rfl, rfl, rfl, ?_, ?_⟩ rfl (.inl rfl) ?_
  iterate 2 ((try cbv) <;> (repeat' (first | exact trivial | exact rfl | apply And.intro | exact fun _ => rfl | (intro _ hle; first | refine chunk_le hA rfl hle rfl ?_ | refine cat_le hA ?_ | refine upd_le hA ?_ | (try cbv)))) <;> (try (subst hA; (try simp only [zn] at *); (try (simp only [Ar.real, NV.val, zo, zt])); first | done | omega | decide | exact zi | (refine ⟨?_, ?_⟩ <;> first | omega | decide | exact zi))))
  cbv
  refine DF.fin (by kernel_rfl) (by kernel_rfl) ?_
  cbv
  refine DS.runK hA hT (by rw [hP]; exact P_mixed) 100 rfl ?_
  cbv
  refine CD.pass hA (a4) [] [] rfl ⟨rfl, rfl, rfl, rfl, ?_, ?_⟩ rfl (.inl rfl) ?_
  iterate 2 ((try cbv) <;> (repeat' (first | exact trivial | exact rfl | apply And.intro | exact fun _ => rfl | (intro _ hle; first | refine chunk_le hA rfl hle rfl ?_ | refine cat_le hA ?_ | refine upd_le hA ?_ | (try cbv)))) <;> (try (subst hA; (try simp only [zn] at *); (try (simp only [Ar.real, NV.val, zo, zt])); first | done | omega | decide | exact zi | (refine ⟨?_, ?_⟩ <;> first | omega | decide | exact zi))))
  cbv
  refine ⟨(by (subst hA; (try simp only [zn] at *); (try (simp only [Ar.real, NV.val, zo, zt])); first | done | omega | decide | exact zi | (refine ⟨?_, ?_⟩ <;> first | omega | decide | exact zi))), ?_⟩
  refine DF.fin (by kernel_rfl) (by kernel_rfl) ?_
  cbv
  refine LS.ghost 22 1 (.l 0) (fun _ => [.nils]) rfl ?_
  refine LS.clr [9, 10, 11, 12, 13, 14, 15, 16, 17, 18, 19, 20, 21, 22, 23, 24, 25, 26, 27, 28, 29, 30, 31, 32, 33, 34, 35, 36, 37, 38, 39, 40, 41, 42, 43, 44, 45, 46] ?_
  cbv
  refine LS.leX8_5 hT hA 2 (fun (x1 c1 : Nat) (g1 : Nat → Nat × (Nat → Int)) (bn : Nat) (b : Nat → Int) (kc : Nat) (nl : Nat → Nat) (nf : Nat → Nat → Int) => [(6, .ptr 2 0), (7, .int .i64 (en : Int)), (8, .int .i64 (c1 : Int))])
    (fun x1 c1 g1 bn b kc nl nf => [(0, .cells 31 [Rw64 s S, Rw64 s L, .ro 1 (.s s) (fun e => [.bs (W e.val)]), .int .i64 c]), (1, .cells 38 [.nils, .nils, .nils, .lit .i64 0, .lit .i64 0, .lit .i64 0, .nils, .nils, .lit .i64 0, .bl false]), (2, .cells 38 [Rw64 s S, Rw64 s L, .ro 1 (.s s) (fun e => [.bs (W e.val)]), .int .i64 c, .int .i64 (gen : Int), .int .i64 (x1 : Int), By bn b, .sl 3 1 (.l 0) (.s kc), .lit .i64 0, .bl false]), (3, LgR kc nl nf)])
    (fun x1 c1 g1 bn b kc nl nf => x1 ≤ en ∧ fi ≤ x1 ∧ c1 ≤ x1 ∧ ((c1 = 0 ∧ kc = 0 ∧ bn = 0 ∧ x1 = fi) ∨ (c1 = kc + 1 ∧ fi < x1 ∧ bn = (g1 0).1 ∧ (∀ y, b y = (g1 0).2 y) ∧ ∀ i, i < kc → nl i = (g1 (1 + i)).1 ∧ ∀ y, nf i y = (g1 (1 + i)).2 y)) ∧ ∃ k, en - x1 < k ∧ recP L en k x1 c1 g1 = (c0, gs, last))
    (fun x1 _ _ _ _ _ _ _ => en - x1) fi 0 g0 0 (fun _ => 0) 0 (fun _ => 0) (fun _ _ => 0) [(723, 2), (1524, 3)]
    (.exit 0) (fun (bn : Nat) (b : Nat → Int) (kc : Nat) (nl : Nat → Nat) (nf : Nat → Nat → Int) => [(6, .ptr 2 0), (7, .int .i64 (en : Int))])
    (fun bn b kc nl nf => [(0, .cells 31 [Rw64 s S, Rw64 s L, .ro 1 (.s s) (fun e => [.bs (W e.val)]), .int .i64 c]), (1, .cells 38 [.nils, .nils, .nils, .lit .i64 0, .lit .i64 0, .lit .i64 0, .nils, .nils, .lit .i64 0, .bl false]), (2, .cells 38 [Rw64 s S, Rw64 s L, .ro 1 (.s s) (fun e => [.bs (W e.val)]), .int .i64 c, .int .i64 (gen : Int), .int .i64 (last : Int), By bn b, .sl 3 1 (.l 0) (.s kc), .lit .i64 0, .bl false]), (3, LgR kc nl nf)])
    (fun bn b kc nl nf => last ≤ en ∧ c0 ≤ last ∧ ((c0 = 0 ∧ kc = 0 ∧ bn = 0 ∧ last = fi) ∨ (c0 = kc + 1 ∧ fi < last ∧ bn = (gs 0).1 ∧ (∀ y, b y = (gs 0).2 y) ∧ ∀ i, i < kc → nl i = (gs (1 + i)).1 ∧ ∀ y, nf i y = (gs (1 + i)).2 y))) rfl rfl ?_ ?_ ?_ ?_
  · (try cbv) <;> (repeat' (first | exact trivial | exact rfl | apply And.intro | exact fun _ => rfl | (intro _ hle; first | refine chunk_le hA rfl hle rfl ?_ | refine cat_le hA ?_ | refine upd_le hA ?_ | refine int_le ?_ | skip)))
    all_goals first | exact hfh | (exfalso; subst hA; exact absurd (ltNV_real.1 (by assumption)) (Nat.not_lt_zero _)) | (subst hA; simp only [zn] at *; simp only [Ar.real]; omega) | (subst hA; (try simp only [zn] at *); (try (simp only [Ar.real, NV.val, zo, zt])); first | done | omega | decide | exact zi | (refine ⟨?_, ?_⟩ <;> first | omega | decide | exact zi)) | trace_state
  · exact ⟨hle.2.1, Nat.le_refl _, Nat.zero_le _, .inl ⟨rfl, rfl, rfl, rfl⟩, _, Nat.lt_succ_self _, hR0⟩
  · intro bn b kc nl nf hp
    cbv
    obtain ⟨hl1, hl2, hrel⟩ := hp
    rcases hout with ⟨hz, hKK⟩ | ⟨hz, m, PL', ca', c', L', W', bq0, kq, bq, nlq, nfq, hw, hL', hW', hc', hkq, hbq0, hbq, hnlq, hnfq, hres⟩
    · have hlf : last = fi := by
        rcases hrel with ⟨_, _, _, q⟩ | ⟨q, _⟩
        · exact q
        · omega
      have k2 : A.eq (Int.ofNat last) (Int.ofNat fi) = true := by clear a1 a2 a3 a4 cN; subst hA; simp [Ar.real]; omega
      clear hrel hb hsim hR0
      refine DS.runK hA hT (by rw [hP]; exact P_mixed) 100 rfl ?_
      cbv
      refine CD.pass hA (a3) [] [] rfl ⟨rfl, rfl, rfl, rfl, ?_, ?_⟩ rfl (.inl rfl) ?_
      iterate 2 ((try cbv) <;> (repeat' (first | exact trivial | exact rfl | apply And.intro | exact fun _ => rfl | (intro _ hle; first | refine chunk_le hA rfl hle rfl ?_ | refine cat_le hA ?_ | refine upd_le hA ?_ | (try cbv)))) <;> (try (subst hA; (try simp only [zn] at *); (try (simp only [Ar.real, NV.val, zo, zt])); first | done | omega | decide | exact zi | (refine ⟨?_, ?_⟩ <;> first | omega | decide | exact zi))))
      cbv
      refine DF.fin (by kernel_rfl) (by kernel_rfl) ?_
      cbv
      first | refine testR k2 rfl ?_ | refine testL k2 rfl ?_
      cbv
      refine Fin.le hA 0 [] (.tup [RLd s S L W c, .lit .i64 270]) [] 5000 rfl rfl rfl ?_ ?_ hKK
      iterate 2 ((try cbv) <;> (repeat' (first | exact trivial | exact rfl | apply And.intro | exact fun _ => rfl | (intro _ hle; first | refine chunk_le hA rfl hle rfl ?_ | refine cat_le hA ?_ | refine upd_le hA ?_ | (try cbv)))))
    · obtain ⟨hck, hfl, hbn, hbb, hnl⟩ : c0 = kc + 1 ∧ fi < last ∧ bn = (gs 0).1 ∧ (∀ y, b y = (gs 0).2 y) ∧ ∀ i, i < kc → nl i = (gs (1 + i)).1 ∧ ∀ y, nf i y = (gs (1 + i)).2 y := by
        rcases hrel with ⟨q, _⟩ | q
        · omega
        · exact q
      have k2 : A.eq (Int.ofNat last) (Int.ofNat fi) = false := by clear a1 a2 a3 a4 cN; subst hA; simp [Ar.real]; omega
      obtain ⟨mi, hmi⟩ : ∃ mi : Int, mi = (m : Int) := ⟨_, rfl⟩
      have hmi2 : (0 : Int) < mi ↔ 0 < m := by clear hc' hres hw hL' hW'; omega
      have a5 := rwipe_fn (P := P) (G := G) (first := last) (fin := en) (RL' := L') (W' := W') (nn := mi) (e := 0) hP ⟨hl1, hle.2.2⟩ hsim hc hw hL' hW' hc' (.inl ⟨m, rfl, hmi, rfl⟩)
      clear hrel hb hsim hR0 hw
      refine DS.runK hA hT (by rw [hP]; exact P_mixed) 100 rfl ?_
      cbv
      refine CD.pass hA (a3) [] [] rfl ⟨rfl, rfl, rfl, rfl, ?_, ?_⟩ rfl (.inl rfl) ?_
      iterate 2 ((try cbv) <;> (repeat' (first | exact trivial | exact rfl | apply And.intro | exact fun _ => rfl | (intro _ hle; first | refine chunk_le hA rfl hle rfl ?_ | refine cat_le hA ?_ | refine upd_le hA ?_ | (try cbv)))) <;> (try (subst hA; (try simp only [zn] at *); (try (simp only [Ar.real, NV.val, zo, zt])); first | done | omega | decide | exact zi | (refine ⟨?_, ?_⟩ <;> first | omega | decide | exact zi))))
      cbv
      refine DF.fin (by kernel_rfl) (by kernel_rfl) ?_
      cbv
      first | refine testR k2 rfl ?_ | refine testL k2 rfl ?_
      cbv
      have e1 : kc = kq := by clear hc' hres; omega
      have e2 : bn = bq0 := hbn.trans hbq0.symm
      have e3 : ∀ x, b x = bq x := fun x => (hbb x).trans (hbq x).symm
      have e4 : ∀ i, i < kc → nl i = nlq i ∧ ∀ x, nf i x = nfq i x := fun i hi => ⟨(hnl i hi).1.trans (hnlq i).symm, fun x => ((hnl i hi).2 x).trans (hnfq i x).symm⟩
      have he4 : ∀ e : NV, ltNV A e (.s kc) → nl e.val = nlq e.val ∧ ∀ x, nf e.val x = nfq e.val x := fun e he => e4 _ (by subst hA; exact ltNV_real.1 he)
      clear hbb hbq hnl hnlq hnfq hbn hbq0 hkq
      refine CS.leR hA (a5) (.tup [RD s S L' W' c', .int .i64 mi, .lit .i64 0]) [] rfl rfl rfl ?_ ?_ ?_ ?_
      iterate 3 ((try cbv) <;> (repeat' (first | exact trivial | exact rfl | apply And.intro | exact fun _ => rfl | (intro _ hle; first | refine chunk_le hA rfl hle rfl ?_ | refine cat_le hA ?_ | refine upd_le hA ?_ | (try cbv)))) <;> (try (subst hA; (try simp only [zn] at *); (try (simp only [Ar.real, NV.val, zo, zt])); first | done | omega | decide | exact zi | (refine ⟨?_, ?_⟩ <;> first | omega | decide | exact zi))))
      cbv
      rcases hres with ⟨hm, hKK⟩ | ⟨hm, hc0, hcr, S2, L2, W2, c2, hS2, hL2, hW2, hc2, hKK⟩
      · have k3 : A.gt mi 0 = false := by
          have : ¬ (0 : Int) < mi := fun q => by have := hmi2.1 q; rw [hm] at this; exact absurd this (Nat.lt_irrefl 0)
          clear a1 a2 a3 a4 a5 cN; subst hA; simp [Ar.real]; exact Int.not_lt.1 this
        first | refine testR k3 rfl ?_ | refine testL k3 rfl ?_
        cbv
        refine Fin.le hA 0 [(3, 0)] (.tup [RLo s S L' W' c' gen last bq0 bq kq kq, .lit .i64 0]) [(0, LgR kq nlq nfq)] 5000 rfl rfl rfl ?_ ?_ hKK
        · (try cbv) <;> (repeat' (first | exact trivial | exact rfl | apply And.intro | exact fun _ => rfl | (intro _ hle; first | refine chunk_le hA rfl hle rfl ?_ | refine cat_le hA ?_ | refine upd_le hA ?_ | refine int_le ?_ | skip)))
          all_goals first | exact e1 | exact e2 | exact e3 _ | (subst hA; exact congrArg Int.ofNat e1) | (subst hA; rw [e1]; rfl) | (subst hA; (try simp only [zn] at *); (try (simp only [Ar.real, NV.val, zo, zt])); first | done | omega | decide | exact zi | (refine ⟨?_, ?_⟩ <;> first | omega | decide | exact zi)) | trace_state
        · (try cbv) <;> (repeat' (first | exact trivial | exact rfl | apply And.intro | exact fun _ => rfl | (intro _ hle; first | refine chunk_le hA rfl hle rfl ?_ | refine cat_le hA ?_ | refine upd_le hA ?_ | refine int_le ?_ | skip)))
          all_goals first | exact e1 | exact (he4 _ (by assumption)).1 | exact (he4 _ (by assumption)).2 _ | trace_state
      · have k3 : A.gt mi 0 = true := by
          have := hmi2.2 hm
          clear a1 a2 a3 a4 a5 cN; subst hA; simp [Ar.real]; exact this
        have a6 := refflush_ok (P := P) (G := G) (s := s) (S := S) (L := L') (S' := S2) (L' := L2) (W := W') (W' := W2) (c := c') (c' := c2) hP hs.2 hc0 hcr hS2 hL2 hW2 hc2
        first | refine testR k3 rfl ?_ | refine testL k3 rfl ?_
        cbv
        refine CS.le hA (a6) [] rfl rfl rfl ?_ ?_ ?_
        iterate 2 ((try cbv) <;> (repeat' (first | exact trivial | exact rfl | apply And.intro | exact fun _ => rfl | (intro _ hle; first | refine chunk_le hA rfl hle rfl ?_ | refine cat_le hA ?_ | refine upd_le hA ?_ | (try cbv)))) <;> (try (subst hA; (try simp only [zn] at *); (try (simp only [Ar.real, NV.val, zo, zt])); first | done | omega | decide | exact zi | (refine ⟨?_, ?_⟩ <;> first | omega | decide | exact zi))))
        cbv
        refine Fin.le hA 0 [(3, 0)] (.tup [RLo s S2 L2 W2 c2 gen last bq0 bq kq kq, .lit .i64 0]) [(0, LgR kq nlq nfq)] 5000 rfl rfl rfl ?_ ?_ hKK
        · (try cbv) <;> (repeat' (first | exact trivial | exact rfl | apply And.intro | exact fun _ => rfl | (intro _ hle; first | refine chunk_le hA rfl hle rfl ?_ | refine cat_le hA ?_ | refine upd_le hA ?_ | refine int_le ?_ | skip)))
          all_goals first | exact e1 | exact e2 | exact e3 _ | (subst hA; exact congrArg Int.ofNat e1) | (subst hA; rw [e1]; rfl) | (subst hA; (try simp only [zn] at *); (try (simp only [Ar.real, NV.val, zo, zt])); first | done | omega | decide | exact zi | (refine ⟨?_, ?_⟩ <;> first | omega | decide | exact zi)) | trace_state
        · (try cbv) <;> (repeat' (first | exact trivial | exact rfl | apply And.intro | exact fun _ => rfl | (intro _ hle; first | refine chunk_le hA rfl hle rfl ?_ | refine cat_le hA ?_ | refine upd_le hA ?_ | refine int_le ?_ | skip)))
          all_goals first | exact e1 | exact (he4 _ (by assumption)).1 | exact (he4 _ (by assumption)).2 _ | trace_state
  · intro R X hR hX x1 c1 g1 bn b kc nl nf hp
    cbv
    obtain ⟨hx1, hx2, hcx, hrel, k, hk, hsc⟩ := hp
    obtain ⟨k', rfl⟩ : ∃ k', k = k' + 1 := ⟨k - 1, by omega⟩
    cases hg1 : getP L x1 en (en - x1) x1 0 (fun _ => 0) with
    | none =>
      rw [recP_none hg1] at hsc
      obtain ⟨rfl, rfl, rfl⟩ : c1 = c0 ∧ g1 = gs ∧ x1 = last := by cases hsc; exact ⟨rfl, rfl, rfl⟩
      have b1 := refget_none (P := P) (G := G) (S := S) (W := W) (c := c) (f0 := fun _ => 0) hP hs.2 ⟨hx1, hle.2.2⟩ hc (fun i hi => ⟨rfl, hb i hi⟩) hg1
      refine CS.le hA (b1) [] rfl rfl rfl ?_ ?_ ?_
      iterate 2 ((try cbv) <;> (repeat' (first | exact trivial | exact rfl | apply And.intro | exact fun _ => rfl | (intro _ hle; first | refine chunk_le hA rfl hle rfl ?_ | refine cat_le hA ?_ | refine upd_le hA ?_ | (try cbv)))) <;> (try (subst hA; (try simp only [zn] at *); (try (simp only [Ar.real, NV.val, zo, zt])); first | done | omega | decide | exact zi | (refine ⟨?_, ?_⟩ <;> first | omega | decide | exact zi))))
      cbv
      refine hX _ ⟨bn, b, kc, nl, nf, 2, [(2, 2), (3, 3)], rfl, rfl, ?_, ⟨hx1, hcx, hrel⟩⟩
      clear hX hR
      (try cbv) <;> (repeat' (first | exact trivial | exact rfl | apply And.intro | exact fun _ => rfl | (intro _ hle; first | refine chunk_le hA rfl hle rfl ?_ | refine cat_le hA ?_ | refine upd_le hA ?_ | refine int_le ?_ | skip)))
      all_goals (subst hA; (try simp only [zn] at *); (try (simp only [Ar.real, NV.val, zo, zt])); first | done | omega | decide | exact zi | (refine ⟨?_, ?_⟩ <;> first | omega | decide | exact zi))
    | some r =>
      obtain ⟨n, f, next⟩ := r
      have hnx := DskLaw.getP_next _ hg1
      have hfb := DskLaw.getP_isB (fun i hi => hb i (by omega)) _ _ _ _ _ _ _ (fun i hi => by omega) hg1
      have b1 := refget_fn (P := P) (G := G) (S := S) (W := W) (c := c) (f0 := fun _ => 0) hP hs.2 ⟨hx1, hle.2.2⟩ hc (fun i hi => ⟨rfl, hb i hi⟩) hg1
      by_cases hok : ¬ OpenOk n f
      · rw [recP_bad hg1 hok] at hsc
        obtain ⟨rfl, rfl, rfl⟩ : c1 = c0 ∧ g1 = gs ∧ x1 = last := by cases hsc; exact ⟨rfl, rfl, rfl⟩
        obtain ⟨er1, her, b2⟩ := ropen2_bad (P := P) (G := G) hP hfb (by omega) hok
        have k2 : A.ne er1 0 = true := by clear hR hX b1 b2; subst hA; simp [Ar.real]; exact her
        refine CS.le hA (b1) [] rfl rfl rfl ?_ ?_ ?_
        iterate 2 ((try cbv) <;> (repeat' (first | exact trivial | exact rfl | apply And.intro | exact fun _ => rfl | (intro _ hle; first | refine chunk_le hA rfl hle rfl ?_ | refine cat_le hA ?_ | refine upd_le hA ?_ | (try cbv)))) <;> (try (subst hA; (try simp only [zn] at *); (try (simp only [Ar.real, NV.val, zo, zt])); first | done | omega | decide | exact zi | (refine ⟨?_, ?_⟩ <;> first | omega | decide | exact zi))))
        cbv
        refine CS.le hA (b2) [] rfl rfl rfl ?_ ?_ ?_
        iterate 2 ((try cbv) <;> (repeat' (first | exact trivial | exact rfl | apply And.intro | exact fun _ => rfl | (intro _ hle; first | refine chunk_le hA rfl hle rfl ?_ | refine cat_le hA ?_ | refine upd_le hA ?_ | (try cbv)))) <;> (try (subst hA; (try simp only [zn] at *); (try (simp only [Ar.real, NV.val, zo, zt])); first | done | omega | decide | exact zi | (refine ⟨?_, ?_⟩ <;> first | omega | decide | exact zi))))
        cbv
        first | refine testR k2 rfl ?_ | refine testL k2 rfl ?_
        cbv
        refine hX _ ⟨bn, b, kc, nl, nf, 2, [(2, 2), (3, 3)], rfl, rfl, ?_, ⟨hx1, hcx, hrel⟩⟩
        clear hX hR
        (try cbv) <;> (repeat' (first | exact trivial | exact rfl | apply And.intro | exact fun _ => rfl | (intro _ hle; first | refine chunk_le hA rfl hle rfl ?_ | refine cat_le hA ?_ | refine upd_le hA ?_ | refine int_le ?_ | skip)))
        all_goals (subst hA; (try simp only [zn] at *); (try (simp only [Ar.real, NV.val, zo, zt])); first | done | omega | decide | exact zi | (refine ⟨?_, ?_⟩ <;> first | omega | decide | exact zi))
      have hok := Classical.not_not.1 hok
      rw [recP_some hg1 hok] at hsc
      obtain ⟨n4, hn4⟩ : ∃ n4, n4 = n - 4 := ⟨_, rfl⟩
      have b2 := ropen2_fn (P := P) (G := G) hP hfb (by omega) hok hn4
      rw [← hn4] at hsc
      obtain ⟨g', hg'⟩ : ∃ g' : Nat → Nat × (Nat → Int), g' = fun i => if i < c1 then g1 i else (n4, f) := ⟨_, rfl⟩
      rw [← hg'] at hsc
      have hg0 : ∀ i, g' i = if i < c1 then g1 i else (n4, f) := fun i => by rw [hg']
      rcases hrel with ⟨hc1, hkc, hbn, hxf⟩ | ⟨hc1, hfx, hbn, hbb, hnl⟩
      · have k2 : A.eq (Int.ofNat c1) 0 = true := by clear hR hX b1 b2; subst hA; simp [Ar.real]; omega
        obtain ⟨c2, hc2⟩ : ∃ c2, c2 = c1 + 1 := ⟨_, rfl⟩
        have e0 : g' 0 = (n4, f) := by rw [hg0, if_neg (by omega)]
        refine CS.le hA (b1) [] rfl rfl rfl ?_ ?_ ?_
        iterate 2 ((try cbv) <;> (repeat' (first | exact trivial | exact rfl | apply And.intro | exact fun _ => rfl | (intro _ hle; first | refine chunk_le hA rfl hle rfl ?_ | refine cat_le hA ?_ | refine upd_le hA ?_ | (try cbv)))) <;> (try (subst hA; (try simp only [zn] at *); (try (simp only [Ar.real, NV.val, zo, zt])); first | done | omega | decide | exact zi | (refine ⟨?_, ?_⟩ <;> first | omega | decide | exact zi))))
        cbv
        refine CS.le hA (b2) [] rfl rfl rfl ?_ ?_ ?_
        iterate 2 ((try cbv) <;> (repeat' (first | exact trivial | exact rfl | apply And.intro | exact fun _ => rfl | (intro _ hle; first | refine chunk_le hA rfl hle rfl ?_ | refine cat_le hA ?_ | refine upd_le hA ?_ | (try cbv)))) <;> (try (subst hA; (try simp only [zn] at *); (try (simp only [Ar.real, NV.val, zo, zt])); first | done | omega | decide | exact zi | (refine ⟨?_, ?_⟩ <;> first | omega | decide | exact zi))))
        cbv
        first | refine testR k2 rfl ?_ | refine testL k2 rfl ?_
        cbv
        refine ⟨(by (subst hA; (try simp only [zn] at *); (try (simp only [Ar.real, NV.val, zo, zt])); first | done | omega | decide | exact zi | (refine ⟨?_, ?_⟩ <;> first | omega | decide | exact zi))), hR _ _ _ _ _ _ _ _ _ ⟨next, c2, g', n4, f, kc, nl, nf, 2, [(2, 2), (3, 3)], rfl, rfl, ?_, ⟨hnx.2.1, by omega, by omega, .inr ⟨by omega, by omega, by rw [e0], fun y => by rw [e0], fun i hi => by omega⟩, k', by omega, by rw [hc2]; exact hsc⟩, (by show en - next < en - x1; omega)⟩⟩
        clear hR hX
        (try cbv) <;> (repeat' (first | exact trivial | exact rfl | apply And.intro | exact fun _ => rfl | (intro _ hle; first | refine chunk_le hA rfl hle rfl ?_ | refine cat_le hA ?_ | refine upd_le hA ?_ | refine int_le ?_ | skip)))
        all_goals first | (subst hA; (try simp only [zn] at *); (try (simp only [Ar.real, NV.val, zo, zt])); first | done | omega | decide | exact zi | (refine ⟨?_, ?_⟩ <;> first | omega | decide | exact zi)) | trace_state
      · have k2 : A.eq (Int.ofNat c1) 0 = false := by clear hR hX b1 b2; subst hA; simp [Ar.real]; omega
        obtain ⟨c2, hc2⟩ : ∃ c2, c2 = c1 + 1 := ⟨_, rfl⟩
        obtain ⟨nl', hnl'⟩ : ∃ nl' : Nat → Nat, ∀ j, nl' j = if j < kc then nl j else n4 := ⟨_, fun _ => rfl⟩
        obtain ⟨nf', hnf'⟩ : ∃ nf' : Nat → Nat → Int, ∀ j y, nf' j y = if j < kc then nf j y else f y := ⟨_, fun _ _ => rfl⟩
        have hkx : kc ≤ 1000000 := by omega
        have hpush : ∀ e, ltNV A e (.s (A.addN kc 1)) → leL (leSV A 4) (catG A 1 (.s kc) (fun e => [.ro 1 (.s (nl e.val)) (fun x => [.int .u8 (nf e.val x.val)])]) (fun x => chunkS A 1 [.ro 1 (.s n4) (fun x => [.int .u8 (f x.val)])] (addNV A (.l 0) x)) e) [.ro 1 (.s (nl' e.val)) (fun x => [.int .u8 (nf' e.val x.val)])] := fun e he => by
          have he : e.val < kc + 1 := by subst hA; exact ltNV_real.1 he
          exact rows_push (len := nl) (len' := nl') (g := nf) (g' := nf') (h := f) hA (by omega) (hnl' _) (fun j _ => hnf' _ j)
        have e0 : g' 0 = g1 0 := by rw [hg0, if_pos (by omega)]
        have e1 : ∀ i, i < kc + 1 → nl' i = (g' (1 + i)).1 ∧ ∀ y, nf' i y = (g' (1 + i)).2 y := fun i hi => by
          rw [hg0, hnl']
          by_cases q : i < kc
          · rw [if_pos q, if_pos (by omega)]
            exact ⟨(hnl i q).1, fun y => by rw [hnf', if_pos q]; exact (hnl i q).2 y⟩
          · rw [if_neg q, if_neg (by omega)]
            exact ⟨rfl, fun y => by rw [hnf', if_neg q]⟩
        clear hnl hnl' hnf' hg0 hg'
        refine CS.le hA (b1) [] rfl rfl rfl ?_ ?_ ?_
        iterate 2 ((try cbv) <;> (repeat' (first | exact trivial | exact rfl | apply And.intro | exact fun _ => rfl | (intro _ hle; first | refine chunk_le hA rfl hle rfl ?_ | refine cat_le hA ?_ | refine upd_le hA ?_ | (try cbv)))) <;> (try (subst hA; (try simp only [zn] at *); (try (simp only [Ar.real, NV.val, zo, zt])); first | done | omega | decide | exact zi | (refine ⟨?_, ?_⟩ <;> first | omega | decide | exact zi))))
        cbv
        refine CS.le hA (b2) [] rfl rfl rfl ?_ ?_ ?_
        iterate 2 ((try cbv) <;> (repeat' (first | exact trivial | exact rfl | apply And.intro | exact fun _ => rfl | (intro _ hle; first | refine chunk_le hA rfl hle rfl ?_ | refine cat_le hA ?_ | refine upd_le hA ?_ | (try cbv)))) <;> (try (subst hA; (try simp only [zn] at *); (try (simp only [Ar.real, NV.val, zo, zt])); first | done | omega | decide | exact zi | (refine ⟨?_, ?_⟩ <;> first | omega | decide | exact zi))))
        cbv
        first | refine testR k2 rfl ?_ | refine testL k2 rfl ?_
        cbv
        refine ⟨⟨?_, ?_, ?_⟩, ?_, hR _ _ _ _ _ _ _ _ _ ⟨next, c2, g', bn, b, kc + 1, nl', nf', 2, [(2, 2), (634, 3)], rfl, rfl, ?_, ⟨hnx.2.1, by omega, by omega, .inr ⟨by omega, by omega, by rw [e0]; exact hbn, fun y => by rw [e0]; exact hbb y, e1⟩, k', by omega, by rw [hc2]; exact hsc⟩, (by show en - next < en - x1; omega)⟩⟩
        iterate 4 (subst hA; (try simp only [zn] at *); (try (simp only [Ar.real, NV.val, zo, zt])); first | done | omega | decide | exact zi | (refine ⟨?_, ?_⟩ <;> first | omega | decide | exact zi))
        clear hR hX
        (try cbv) <;> (repeat' (first | exact trivial | exact rfl | apply And.intro | exact fun _ => rfl | (intro _ hle; first | exact hpush _ hle | refine chunk_le hA rfl hle rfl ?_ | refine cat_le hA ?_ | refine upd_le hA ?_ | refine int_le ?_ | skip)))
        all_goals first | (subst hA; (try simp only [zn] at *); (try (simp only [Ar.real, NV.val, zo, zt])); first | done | omega | decide | exact zi | (refine ⟨?_, ?_⟩ <;> first | omega | decide | exact zi)) | (subst hA; rfl) | trace_state
end
end Go.Proofs.YtnjjgipblimbfaaGreatDoor.Dsk
namespace Go.Proofs.YtnjjgipblimbfaaGreatDoor.Dsk
open Go.Eng
open Go.DskLaw (q64 secV isB Sim wipeP getP needN)
open Go.WalLaw
set_option maxRecDepth 100000
set_option maxHeartbeats 4000000
section
variable {P : Program} {G : Gl} {s h N gen fi en c0 last : Nat} {S L : Nat → Nat → Int} {W : Nat → Bool} {c : Int} {gs g0 : Nat → Nat × (Nat → Int)} {PS : Nat → Int} {PL PL' : Int → Option (Nat → Int)} {ar : Bool} {ca ca' : Int}
theorem ropen_log (hP : P = Tryz.prog) (hr : Reg s h gen fi en) (hg : 0 < gen) (hc : c ≠ 0) (hsim : Sim s N PS PL ar ca S L W c) (hR0 : recP L en (en - fi + 1) fi 0 g0 = (c0, gs, last)) (hc0 : c0 = 0)
    (cN : FnTr P G 35 [RD s S L W c] [] 0 (Gives (.int .i64 (gen : Int)) [] 100)) : FnTr P G 8 [RD s S L W c] [] 0 (Gives (.tup [RLd s S L W c, .lit .i64 270]) [] 5000) :=
  ropen_own hP hr hg hc hsim hR0 cN (.inl ⟨hc0, ⟨rfl, rfl, rfl⟩⟩)
theorem ropen_dat {S2 L2 : Nat → Nat → Int} {W2 : Nat → Bool} {c2 : Int} {bn kc su : Nat} {b : Nat → Int} {nl : Nat → Nat} {nf : Nat → Nat → Int} (h : FnTr P G 8 [RD s S L W c] [] 0 (Gives (.tup [RLo s S2 L2 W2 c2 gen last bn b kc su, .lit .i64 0]) [(0, LgR kc nl nf)] 5000)) :
    FnTr P G 8 [RD s S L W c] [] 0 (Gives (.tup [RLg s S2 L2 W2 c2 gen last bn b kc nl nf su false, .lit .i64 0]) [] 5000) := by
  generalize hA : Ar.real = A
  refine FnTr.dat hA h _ _ ?_
  (try cbv) <;> (repeat' (first | exact trivial | exact rfl | apply And.intro | exact fun _ => rfl | (intro _ hle; first | refine chunk_le hA rfl hle rfl ?_ | refine cat_le hA ?_ | refine upd_le hA ?_ | refine int_le ?_ | skip)))
  all_goals (subst hA; (try simp only [zn] at *); (try (simp only [Ar.real, NV.val, zo, zt])); first | done | omega | decide | exact zi | (refine ⟨?_, ?_⟩ <;> first | omega | decide | exact zi))
theorem ropen_ok0 {L' : Nat → Nat → Int} {W' : Nat → Bool} {c' : Int} {bn kc : Nat} {b : Nat → Int} {nl : Nat → Nat} {nf : Nat → Nat → Int} (hP : P = Tryz.prog) (hr : Reg s h gen fi en) (hg : 0 < gen) (hc : c ≠ 0) (hsim : Sim s N PS PL ar ca S L W c) (hR0 : recP L en (en - fi + 1) fi 0 g0 = (c0, gs, last)) (hc0 : 0 < c0)
    (hw : wipeP (fun i => secV PS PL i) ar (en - last) last 0 PL ca = (some 0, PL', ca')) (hL' : ∀ t x, L' t x = secV PS PL' t x) (hW' : ∀ t : Nat, W' t = (PL' (t : Int)).isSome) (hc' : c' = (if ar then ca' else -1)) (hkc : kc = c0 - 1) (hbn : bn = (gs 0).1) (hb : ∀ x, b x = (gs 0).2 x) (hnl : ∀ i, nl i = (gs (1 + i)).1) (hnf : ∀ i x, nf i x = (gs (1 + i)).2 x)
    (cN : FnTr P G 35 [RD s S L W c] [] 0 (Gives (.int .i64 (gen : Int)) [] 100)) : FnTr P G 8 [RD s S L W c] [] 0 (Gives (.tup [RLg s S L' W' c' gen last bn b kc nl nf kc false, .lit .i64 0]) [] 5000) :=
  ropen_dat (ropen_own hP hr hg hc hsim hR0 cN (.inr ⟨hc0, 0, PL', ca', c', L', W', bn, kc, b, nl, nf, hw, hL', hW', hc', hkc, hbn, hb, hnl, hnf, .inl ⟨rfl, ⟨rfl, rfl, rfl⟩⟩⟩))
theorem ropen_okF {L' S2 L2 : Nat → Nat → Int} {W' W2 : Nat → Bool} {c' c2 : Int} {m bn kc : Nat} {b : Nat → Int} {nl : Nat → Nat} {nf : Nat → Nat → Int} (hP : P = Tryz.prog) (hr : Reg s h gen fi en) (hg : 0 < gen) (hc : c ≠ 0) (hsim : Sim s N PS PL ar ca S L W c) (hR0 : recP L en (en - fi + 1) fi 0 g0 = (c0, gs, last)) (hc0 : 0 < c0) (hm : 0 < m)
    (hw : wipeP (fun i => secV PS PL i) ar (en - last) last 0 PL ca = (some m, PL', ca')) (hL' : ∀ t x, L' t x = secV PS PL' t x) (hW' : ∀ t : Nat, W' t = (PL' (t : Int)).isSome) (hc' : c' = (if ar then ca' else -1)) (hkc : kc = c0 - 1) (hbn : bn = (gs 0).1) (hb : ∀ x, b x = (gs 0).2 x) (hnl : ∀ i, nl i = (gs (1 + i)).1) (hnf : ∀ i x, nf i x = (gs (1 + i)).2 x)
    (hcn : c' ≠ 0) (hcr : -1 ≤ c' ∧ c' ≤ 9223372036854775807) (hS2 : ∀ t x, t < s → x < 64 → S2 t x = L' t x) (hL2 : ∀ t x, t < s → x < 64 → L2 t x = L' t x) (hW2 : ∀ t, W2 t = false) (hc2 : c2 = (if 0 < c' then c' - 1 else c'))
    (cN : FnTr P G 35 [RD s S L W c] [] 0 (Gives (.int .i64 (gen : Int)) [] 100)) : FnTr P G 8 [RD s S L W c] [] 0 (Gives (.tup [RLg s S2 L2 W2 c2 gen last bn b kc nl nf kc false, .lit .i64 0]) [] 5000) :=
  ropen_dat (ropen_own hP hr hg hc hsim hR0 cN (.inr ⟨hc0, m, PL', ca', c', L', W', bn, kc, b, nl, nf, hw, hL', hW', hc', hkc, hbn, hb, hnl, hnf, .inr ⟨hm, hcn, hcr, S2, L2, W2, c2, hS2, hL2, hW2, hc2, ⟨rfl, rfl, rfl⟩⟩⟩))
theorem rroom_fn {at1 bn kc su : Nat} {b : Nat → Int} {nl : Nat → Nat} {nf : Nat → Nat → Int} {dead : Bool} (hP : P = Tryz.prog) (hr : Reg s h gen fi en) (ha : at1 ≤ en) :
    FnTr P G 47 [RLg s S L W c gen at1 bn b kc nl nf su dead] [] 0 (Gives (.int .i64 ((en - at1 : Nat) : Int)) [] 100) := by
  obtain ⟨rm, hrm⟩ : ∃ rm, rm = en - at1 := ⟨_, rfl⟩
  rw [← hrm]
  have hle := hr.le
  have hs := hr.hs
  have a3 := rfirst_fn (P := P) (G := G) (S := S) (L := L) (W := W) (c := c) hP hr.hs hr.hh hr.hg hr.hfi
  have a4 := rhalf_fn (P := P) (G := G) (S := S) (L := L) (W := W) (c := c) hP hr.hs hr.hh
  have hfh : fi + h = en := hr.hen.symm
  have hT : T.Ok P := hP ▸ T_ok
  refine FnTr.intro (fn := Tryz.f47) (c := bodyOf Tryz.f47) (by rw [hP]; rfl) rfl rfl hT ?_
  generalize hA : Ar.real = A
  generalize hK : Gives _ _ _ = K
  cbv
  refine DS.runK hA hT (by rw [hP]; exact P_mixed) 100 rfl ?_
  cbv
  refine CD.pass hA (a3) [] [] rfl ⟨rfl, rfl, rfl, rfl, ?_, ?_⟩ rfl (.inl rfl) ?_
  iterate 2 ((try cbv) <;> (repeat' (first | exact trivial | exact rfl | apply And.intro | exact fun _ => rfl | (intro _ hle; first | refine chunk_le hA rfl hle rfl ?_ | refine cat_le hA ?_ | refine upd_le hA ?_ | (try cbv)))) <;> (try (subst hA; (try simp only [zn] at *); (try (simp only [Ar.real, NV.val, zo, zt])); first | done | omega | decide | exact zi | (refine ⟨?_, ?_⟩ <;> first | omega | decide | exact zi))))
  cbv
  refine CD.pass hA (a4) [] [] rfl ⟨rfl, rfl, rfl, rfl, ?_, ?_⟩ rfl (.inl rfl) ?_
  iterate 2 ((try cbv) <;> (repeat' (first | exact trivial | exact rfl | apply And.intro | exact fun _ => rfl | (intro _ hle; first | refine chunk_le hA rfl hle rfl ?_ | refine cat_le hA ?_ | refine upd_le hA ?_ | (try cbv)))) <;> (try (subst hA; (try simp only [zn] at *); (try (simp only [Ar.real, NV.val, zo, zt])); first | done | omega | decide | exact zi | (refine ⟨?_, ?_⟩ <;> first | omega | decide | exact zi))))
  cbv
  refine ⟨?_, ?_, ?_⟩
  iterate 2 (subst hA; (try simp only [zn] at *); (try (simp only [Ar.real, NV.val, zo, zt])); first | done | omega | decide | exact zi | (refine ⟨?_, ?_⟩ <;> first | omega | decide | exact zi))
  refine DF.fin (by kernel_rfl) (by kernel_rfl) ?_
  cbv
  refine Fin.le hA 0 [] (.int .i64 (rm : Int)) ([]) 100 rfl rfl rfl ?_ ?_ (by rw [← hK]; exact ⟨rfl, rfl, rfl⟩)
  · (try cbv) <;> (repeat' (first | exact trivial | exact rfl | apply And.intro | exact fun _ => rfl | (intro _ hle; first | refine chunk_le hA rfl hle rfl ?_ | refine cat_le hA ?_ | refine upd_le hA ?_ | (try cbv))))
    all_goals (subst hA; (try simp only [zn] at *); (try (simp only [Ar.real, NV.val, zo, zt])); first | done | omega | decide | exact zi | (refine ⟨?_, ?_⟩ <;> first | omega | decide | exact zi))
  · (try cbv) <;> (repeat' (first | exact trivial | exact rfl | apply And.intro | exact fun _ => rfl | (intro _ hle; first | refine chunk_le hA rfl hle rfl ?_ | refine cat_le hA ?_ | refine upd_le hA ?_ | (try cbv))))
theorem same27_fn {d : Dk} {at1 nb bn kc su cn : Nat} {b b' : Nat → Int} {o : NV} {gl nl ml : Nat → Nat} {gf nf mf : Nat → Nat → Int} (hP : P = Tryz.prog) (hN : N = 64 * s) (hr : Reg s h gen fi en) (ha : at1 ≤ en) (hnb : nb ≤ 1000000) (hbn : nb = bn) (hbr : ∀ x, x < nb → 0 ≤ b x ∧ b x < 256) (hbb : ∀ x, x < nb → b x = b' x) (ho : o = .l 0 ∨ ∃ k, o = .s k) (hcn : cn = o.val + kc) (hkc : kc ≤ 1000000)
    (hml : ∀ i, i < kc → ml i = gl (o.val + i) ∧ ml i ≤ 1000000) (hmf : ∀ i, i < kc → ∀ x, mf i x = gf (o.val + i) x) (hnl : ∀ i, i < kc → ml i = nl i ∧ ∀ x, x < ml i → mf i x = nf i x ∧ 0 ≤ mf i x ∧ mf i x < 256) :
    FnTr P G 13 [.ptr 3 0, RLg s S L W c gen at1 bn b' kc nl nf su false] (LgH N d gen at1 nb b o kc su false cn gl gf) 5 (Gives (.bl true) (LgH N d gen at1 nb b o kc su false cn gl gf) 3000) := by
  have e1 := base_fn (P := P) (G := G) (N := N) (gen := gen) (at1 := at1) (nb := nb) (b := b) (o := o) (c := kc) (su := su) (cn := cn) (d := d) (dead := false) (nl := gl) (nf := gf) hP hnb
  have e2 := same_fn (P := P) (G := G) (n := nb) (m := bn) (f := b) (g := b') (res := true) hP hbr (fun x hx => by rw [← hbb x (by omega)]; exact hbr x (by omega)) ⟨fun _ => ⟨hbn, hbb⟩, fun _ => rfl⟩
  have e3 := notes_fn (P := P) (G := G) (N := N) (gen := gen) (at1 := at1) (nb := nb) (b := b) (o := o) (c := kc) (su := su) (cn := cn) (d := d) (dead := false) (nl := gl) (nf := gf) (ml := ml) (mf := mf) hP ho hcn hkc hml hmf
  have e4 := sameall_fn (P := P) (G := G) (n := kc) (m := kc) (lf := ml) (lg := nl) (f := mf) (g := nf) hP rfl hkc hnl
  have e5 := sureof_fn (P := P) (G := G) (N := N) (gen := gen) (at1 := at1) (nb := nb) (b := b) (o := o) (c := kc) (su := su) (cn := cn) (d := d) (dead := false) (nl := gl) (nf := gf) hP
  have e6 := generation_fn (P := P) (G := G) (N := N) (gen := gen) (at1 := at1) (nb := nb) (b := b) (o := o) (c := kc) (su := su) (cn := cn) (d := d) (dead := false) (nl := gl) (nf := gf) hP
  have e7 := room_fn (P := P) (G := G) (N := N) (gen := gen) (at1 := at1) (nb := nb) (b := b) (o := o) (c := kc) (su := su) (cn := cn) (d := d) (dead := false) (nl := gl) (nf := gf) hP hN hr ha
  have e8 := rroom_fn (P := P) (G := G) (S := S) (L := L) (W := W) (c := c) (at1 := at1) (bn := bn) (b := b') (kc := kc) (nl := nl) (nf := nf) (su := su) (dead := false) hP hr ha
  clear hbr hbb hml hmf hnl
  obtain ⟨rm, hrm⟩ : ∃ rm, rm = en - at1 := ⟨_, rfl⟩
  rw [← hrm] at e7 e8
  have hT : T.Ok P := hP ▸ T_ok
  refine FnTr.intro (fn := Tryz.f13) (c := bodyOf Tryz.f13) (by rw [hP]; rfl) rfl rfl hT ?_
  generalize hA : Ar.real = A
  generalize hK : Gives _ _ _ = K
  cbv
  have q1 : A.eq (Int.ofNat su) (Int.ofNat su) = true := by clear e1 e2 e3 e4 e5 e6 e7 e8; subst hA; simp [Ar.real]
  have q2 : A.eq (Int.ofNat gen) (Int.ofNat gen) = true := by clear e1 e2 e3 e4 e5 e6 e7 e8; subst hA; simp [Ar.real]
  have q3 : A.eq (Int.ofNat rm) (Int.ofNat rm) = true := by clear e1 e2 e3 e4 e5 e6 e7 e8; subst hA; simp [Ar.real]
  refine DS.runK hA hT (by rw [hP]; exact P_mixed) 300 rfl ?_
  cbv
  refine CD.pass hA (e1) [(0, 0), (1, 1), (2, 2), (3, 3), (4, 4)] [] rfl ⟨rfl, rfl, rfl, rfl, ?_, ?_⟩ rfl (.inl rfl) ?_
  iterate 2 ((try cbv) <;> (repeat' (first | exact trivial | exact rfl | apply And.intro | exact fun _ => rfl | (intro _ hle; first | refine chunk_le hA rfl hle rfl ?_ | refine cat_le hA ?_ | refine upd_le hA ?_ | (try cbv)))) <;> (try (subst hA; (try simp only [zn] at *); (try (simp only [Ar.real, NV.val, zo, zt])); first | done | omega | decide | exact zi | (refine ⟨?_, ?_⟩ <;> first | omega | decide | exact zi))))
  cbv
  refine CD.pass hA (e2) [] [] rfl ⟨rfl, rfl, rfl, rfl, ?_, ?_⟩ rfl (.inl rfl) ?_
  iterate 2 ((try cbv) <;> (repeat' (first | exact trivial | exact rfl | apply And.intro | exact fun _ => rfl | (intro _ hle; first | refine chunk_le hA rfl hle rfl ?_ | refine cat_le hA ?_ | refine upd_le hA ?_ | (try cbv)))) <;> (try (subst hA; (try simp only [zn] at *); (try (simp only [Ar.real, NV.val, zo, zt])); first | done | omega | decide | exact zi | (refine ⟨?_, ?_⟩ <;> first | omega | decide | exact zi))))
  cbv
  refine ⟨fun _ => ?_, fun h => (by cases h)⟩
  cbv
  refine CD.pass hA (e3) [(0, 0), (1, 1), (2, 2), (3, 3), (4, 4)] [] rfl ⟨rfl, rfl, rfl, rfl, ?_, ?_⟩ rfl (.inl rfl) ?_
  iterate 2 ((try cbv) <;> (repeat' (first | exact trivial | exact rfl | apply And.intro | exact fun _ => rfl | (intro _ hle; first | refine chunk_le hA rfl hle rfl ?_ | refine cat_le hA ?_ | refine upd_le hA ?_ | (try cbv)))) <;> (try (subst hA; (try simp only [zn] at *); (try (simp only [Ar.real, NV.val, zo, zt])); first | done | omega | decide | exact zi | (refine ⟨?_, ?_⟩ <;> first | omega | decide | exact zi))))
  cbv
  refine CD.pass hA (e4) [] [] rfl ⟨rfl, rfl, rfl, rfl, ?_, ?_⟩ rfl (.inl rfl) ?_
  iterate 2 ((try cbv) <;> (repeat' (first | exact trivial | exact rfl | apply And.intro | exact fun _ => rfl | (intro _ hle; first | refine chunk_le hA rfl hle rfl ?_ | refine cat_le hA ?_ | refine upd_le hA ?_ | (try cbv)))) <;> (try (subst hA; (try simp only [zn] at *); (try (simp only [Ar.real, NV.val, zo, zt])); first | done | omega | decide | exact zi | (refine ⟨?_, ?_⟩ <;> first | omega | decide | exact zi))))
  cbv
  refine CD.pass hA (e5) [(0, 0), (1, 1), (2, 2), (3, 3), (4, 4)] [] rfl ⟨rfl, rfl, rfl, rfl, ?_, ?_⟩ rfl (.inl rfl) ?_
  iterate 2 ((try cbv) <;> (repeat' (first | exact trivial | exact rfl | apply And.intro | exact fun _ => rfl | (intro _ hle; first | refine chunk_le hA rfl hle rfl ?_ | refine cat_le hA ?_ | refine upd_le hA ?_ | (try cbv)))) <;> (try (subst hA; (try simp only [zn] at *); (try (simp only [Ar.real, NV.val, zo, zt])); first | done | omega | decide | exact zi | (refine ⟨?_, ?_⟩ <;> first | omega | decide | exact zi))))
  cbv
  first | refine testR q1 rfl ?_ | refine testL q1 rfl ?_
  cbv
  refine CD.pass hA (e6) [(0, 0), (1, 1), (2, 2), (3, 3), (4, 4)] [] rfl ⟨rfl, rfl, rfl, rfl, ?_, ?_⟩ rfl (.inl rfl) ?_
  iterate 2 ((try cbv) <;> (repeat' (first | exact trivial | exact rfl | apply And.intro | exact fun _ => rfl | (intro _ hle; first | refine chunk_le hA rfl hle rfl ?_ | refine cat_le hA ?_ | refine upd_le hA ?_ | (try cbv)))) <;> (try (subst hA; (try simp only [zn] at *); (try (simp only [Ar.real, NV.val, zo, zt])); first | done | omega | decide | exact zi | (refine ⟨?_, ?_⟩ <;> first | omega | decide | exact zi))))
  cbv
  first | refine testR q2 rfl ?_ | refine testL q2 rfl ?_
  cbv
  refine CD.pass hA (e7) [(0, 0), (1, 1), (2, 2), (3, 3), (4, 4)] [] rfl ⟨rfl, rfl, rfl, rfl, ?_, ?_⟩ rfl (.inl rfl) ?_
  iterate 2 ((try cbv) <;> (repeat' (first | exact trivial | exact rfl | apply And.intro | exact fun _ => rfl | (intro _ hle; first | refine chunk_le hA rfl hle rfl ?_ | refine cat_le hA ?_ | refine upd_le hA ?_ | (try cbv)))) <;> (try (subst hA; (try simp only [zn] at *); (try (simp only [Ar.real, NV.val, zo, zt])); first | done | omega | decide | exact zi | (refine ⟨?_, ?_⟩ <;> first | omega | decide | exact zi))))
  cbv
  refine CD.pass hA (e8) [] [] rfl ⟨rfl, rfl, rfl, rfl, ?_, ?_⟩ rfl (.inl rfl) ?_
  iterate 2 ((try cbv) <;> (repeat' (first | exact trivial | exact rfl | apply And.intro | exact fun _ => rfl | (intro _ hle; first | refine chunk_le hA rfl hle rfl ?_ | refine cat_le hA ?_ | refine upd_le hA ?_ | (try cbv)))) <;> (try (subst hA; (try simp only [zn] at *); (try (simp only [Ar.real, NV.val, zo, zt])); first | done | omega | decide | exact zi | (refine ⟨?_, ?_⟩ <;> first | omega | decide | exact zi))))
  cbv
  refine DF.fin (by kernel_rfl) (by kernel_rfl) ?_
  cbv
  refine Fin.le hA 5 [] (.bl true) (LgH N d gen at1 nb b o kc su false cn gl gf) 3000 rfl rfl rfl ?_ ?_ (by rw [← hK]; exact ⟨rfl, rfl, rfl⟩)
  · (try cbv) <;> (repeat' (first | exact trivial | exact rfl | apply And.intro | exact fun _ => rfl | (intro _ hle; first | refine chunk_le hA rfl hle rfl ?_ | refine cat_le hA ?_ | refine upd_le hA ?_ | (try cbv))))
    all_goals first | exact q3 | (subst hA; (try simp only [zn] at *); (try (simp only [Ar.real, NV.val, zo, zt])); first | done | omega | decide | exact zi | (refine ⟨?_, ?_⟩ <;> first | omega | decide | exact zi))
  · (try cbv) <;> (repeat' (first | exact trivial | exact rfl | apply And.intro | exact fun _ => rfl | (intro _ hle; first | refine chunk_le hA rfl hle rfl ?_ | refine cat_le hA ?_ | refine upd_le hA ?_ | (try cbv))))
end
end Go.Proofs.YtnjjgipblimbfaaGreatDoor.Dsk
namespace Go.WalLaw
open Go.DskLaw
theorem usedP_le62 {v : Nat → Int} {m : Nat} {on : Bool} (h : usedP v = some (m, on)) : m ≤ 62 := by
  by_cases hp : padOk v
  · by_cases h1 : v 63 = 1
    · by_cases h2 : (v 62).toNat = 62
      · rw [usedP_on hp h1 h2] at h; cases h; exact Nat.le_refl _
      · rw [usedP_none2 hp h1 h2] at h; cases h
    · by_cases h2 : v 63 = 2
      · rw [usedP_end hp h1 h2] at h
        cases h
        have := hp.1
        omega
      · rw [usedP_none3 hp h1 h2] at h; cases h
  · rw [usedP_none1 hp] at h; cases h
theorem getP_alike {V V' : Nat → Nat → Int} {first fin : Nat} : ∀ (k : Nat) {x n : Nat} {f f2 : Nat → Int} {n' next : Nat} {f' : Nat → Int}, getP V first fin k x n f = some (n', f', next) → (∀ t, x ≤ t → t < next → ∀ y, y < 64 → V' t y = V t y) → (∀ i, i < n → f2 i = f i) →
    ∃ f2', getP V' first fin k x n f2 = some (n', f2', next) ∧ ∀ i, i < n' → f2' i = f' i := by
  intro k
  induction k with
  | zero => intro x n f f2 n' next f' h; cases h
  | succ k ih =>
    intro x n f f2 n' next f' h hV hf
    have hnx := getP_next _ h
    have hu : usedP (V' x) = usedP (V x) := usedP_congr fun y hy => hV x (Nat.le_refl _) hnx.1 y hy
    unfold getP at h ⊢
    rw [hu]
    split at h
    · cases h
    · rename_i hx
      rw [if_neg hx]
      split at h
      · cases h
      · rename_i m on hus
        have hm := usedP_le62 hus
        split at h
        · cases h
        · rename_i hl
          rw [if_neg hl]
          split at h
          · cases h
          · rename_i he
            rw [if_neg he]
            have hfe : ∀ i, i < n + m → (if i < n then f2 i else V' x (i - n)) = (if i < n then f i else V x (i - n)) := fun i hi => by
              by_cases q : i < n
              · rw [if_pos q, if_pos q, hf i q]
              · rw [if_neg q, if_neg q, hV x (Nat.le_refl _) hnx.1 _ (by omega)]
            split at h
            · rename_i hon
              rw [if_pos hon]
              exact ih h (fun t ht h2 y hy => hV t (by omega) h2 y hy) hfe
            · rename_i hon
              rw [if_neg hon]
              cases h
              exact ⟨_, rfl, hfe⟩
theorem openOk_alike {n : Nat} {f f' : Nat → Int} (h : ∀ i, i < n → f' i = f i) : OpenOk n f' ↔ OpenOk n f := by
  have go : ∀ {a b : Nat → Int}, (∀ i, i < n → a i = b i) → OpenOk n b → OpenOk n a := fun {a b} h ho => by
    refine ⟨ho.1, fun i hi => ?_⟩
    have e1 : CrcLaw.more (bvF (n - 4) a) 0#32 (n - 4) = CrcLaw.more (bvF (n - 4) b) 0#32 (n - 4) := more_congr (fun j hj => by
      unfold bvF cutF
      rw [if_pos hj, if_pos hj, h j (by omega)])
    rw [h i hi, ← ho.2 i hi]
    unfold sealF
    rw [e1]
    unfold CrcLaw.sealB
    by_cases q : i < n - 4
    · rw [if_pos q, if_pos q]; unfold cutF; rw [if_pos q, if_pos q, h i hi]
    · rw [if_neg q, if_neg q]
  exact ⟨go fun i hi => (h i hi).symm, go h⟩
theorem recP_le {V : Nat → Nat → Int} {en : Nat} : ∀ (k : Nat) {x c c' last : Nat} {g gs : Nat → Nat × (Nat → Int)}, recP V en k x c g = (c', gs, last) → x ≤ last ∧ c ≤ c' ∧ (x ≤ en → last ≤ en) ∧ (c' = c → last = x) := by
  intro k
  induction k with
  | zero => intro x c c' last g gs h; cases h; exact ⟨Nat.le_refl _, Nat.le_refl _, id, fun _ => rfl⟩
  | succ k ih =>
    intro x c c' last g gs h
    cases hg : getP V x en (en - x) x 0 (fun _ => 0) with
    | none => rw [recP_none hg] at h; cases h; exact ⟨Nat.le_refl _, Nat.le_refl _, id, fun _ => rfl⟩
    | some r =>
      obtain ⟨n, f, next⟩ := r
      have hnx := getP_next _ hg
      by_cases ho : OpenOk n f
      · rw [recP_some hg ho] at h
        have := ih h
        exact ⟨by omega, by omega, fun _ => this.2.2.1 hnx.2.1, fun q => by omega⟩
      · rw [recP_bad hg ho] at h; cases h; exact ⟨Nat.le_refl _, Nat.le_refl _, id, fun _ => rfl⟩
theorem recP_count {V : Nat → Nat → Int} {en : Nat} : ∀ (k : Nat) {x c c' last : Nat} {g gs : Nat → Nat × (Nat → Int)}, recP V en k x c g = (c', gs, last) → c' + x ≤ c + last := by
  intro k
  induction k with
  | zero => intro x c c' last g gs h; cases h; exact Nat.le_refl _
  | succ k ih =>
    intro x c c' last g gs h
    cases hg : getP V x en (en - x) x 0 (fun _ => 0) with
    | none => rw [recP_none hg] at h; cases h; exact Nat.le_refl _
    | some r =>
      obtain ⟨n, f, next⟩ := r
      have hnx := getP_next _ hg
      by_cases ho : OpenOk n f
      · rw [recP_some hg ho] at h
        have := ih h
        omega
      · rw [recP_bad hg ho] at h; cases h; exact Nat.le_refl _
theorem recP_alike {V V' : Nat → Nat → Int} {en : Nat} : ∀ (k : Nat) {x c c' last : Nat} {g g2 gs : Nat → Nat × (Nat → Int)}, recP V en k x c g = (c', gs, last) → (∀ t, x ≤ t → t < last → ∀ y, y < 64 → V' t y = V t y) → (last < en → V' last 63 = 0) → (∀ j, j < c → (g2 j).1 = (g j).1 ∧ ∀ y, y < (g j).1 → (g2 j).2 y = (g j).2 y) →
    ∃ gs2, recP V' en k x c g2 = (c', gs2, last) ∧ ∀ j, j < c' → (gs2 j).1 = (gs j).1 ∧ ∀ y, y < (gs j).1 → (gs2 j).2 y = (gs j).2 y := by
  intro k
  induction k with
  | zero => intro x c c' last g g2 gs h _ _ hg; cases h; exact ⟨g2, rfl, hg⟩
  | succ k ih =>
    intro x c c' last g g2 gs h hV hz hg
    have stop : c' = c → gs = g → last = x → ∃ gs2, recP V' en (k + 1) x c g2 = (c', gs2, last) ∧ ∀ j, j < c' → (gs2 j).1 = (gs j).1 ∧ ∀ y, y < (gs j).1 → (gs2 j).2 y = (gs j).2 y := by
      rintro rfl rfl rfl
      exact ⟨g2, recP_none (getP_zero hz), hg⟩
    cases hgp : getP V x en (en - x) x 0 (fun _ => 0) with
    | none => rw [recP_none hgp] at h; cases h; exact stop rfl rfl rfl
    | some r =>
      obtain ⟨n, f, next⟩ := r
      have hnx := getP_next _ hgp
      by_cases ho : OpenOk n f
      · rw [recP_some hgp ho] at h
        have hle := recP_le _ h
        obtain ⟨f2, h1, h2⟩ := getP_alike (V' := V') (f2 := fun _ => 0) _ hgp (fun t a b y hy => hV t a (by omega) y hy) (fun i hi => by omega)
        rw [recP_some h1 ((openOk_alike h2).2 ho)]
        refine ih h (fun t a b y hy => hV t (by omega) b y hy) hz fun j hj => ?_
        by_cases q : j < c
        · simp only [if_pos q]; exact hg j q
        · simp only [if_neg q]
          exact ⟨trivial, fun y hy => h2 y (by omega)⟩
      · rw [recP_bad hgp ho] at h; cases h; exact stop rfl rfl rfl
theorem getP_bytes {V : Nat → Nat → Int} {first fin : Nat} (hV : ∀ i, i < fin → isB (V i)) : ∀ (k x n : Nat) (f : Nat → Int) (n' : Nat) (f' : Nat → Int) (next : Nat), (∀ i, i < n → 0 ≤ f i ∧ f i ≤ 255) → getP V first fin k x n f = some (n', f', next) → ∀ i, i < n' → 0 ≤ f' i ∧ f' i ≤ 255 := by
  intro k
  induction k with
  | zero => intro x n f n' f' next _ h; cases h
  | succ k ih =>
    intro x n f n' f' next hf h
    unfold getP at h
    split at h
    · cases h
    · rename_i hx
      split at h
      · cases h
      · rename_i m on hu
        have hm := usedP_le62 hu
        have key : ∀ i, i < n + m → 0 ≤ (fun i => if i < n then f i else V x (i - n)) i ∧ (fun i => if i < n then f i else V x (i - n)) i ≤ 255 := fun i hi => by
          by_cases q : i < n
          · simp only [q, if_true]; exact hf i q
          · simp only [q, if_false]; exact hV x (by omega) _ (by omega)
        split at h
        · cases h
        · split at h
          · cases h
          · split at h
            · exact ih _ _ _ _ _ _ key h
            · cases h; exact key
theorem recP_isB {V : Nat → Nat → Int} {en : Nat} (hV : ∀ i, i < en → isB (V i)) : ∀ (k : Nat) {x c c' last : Nat} {g gs : Nat → Nat × (Nat → Int)}, recP V en k x c g = (c', gs, last) → (∀ j, j < c → (g j).1 ≤ 65536 ∧ ∀ y, y < (g j).1 → 0 ≤ (g j).2 y ∧ (g j).2 y ≤ 255) → ∀ j, j < c' → (gs j).1 ≤ 65536 ∧ ∀ y, y < (gs j).1 → 0 ≤ (gs j).2 y ∧ (gs j).2 y ≤ 255 := by
  intro k
  induction k with
  | zero => intro x c c' last g gs h hg; cases h; exact hg
  | succ k ih =>
    intro x c c' last g gs h hg
    cases hgp : getP V x en (en - x) x 0 (fun _ => 0) with
    | none => rw [recP_none hgp] at h; cases h; exact hg
    | some r =>
      obtain ⟨n, f, next⟩ := r
      have hnx := getP_next _ hgp
      have hb := getP_bytes hV _ _ _ _ _ _ _ (fun i hi => by omega) hgp
      by_cases ho : OpenOk n f
      · rw [recP_some hgp ho] at h
        refine ih h fun j hj => ?_
        by_cases q : j < c
        · simp only [if_pos q]; exact hg j q
        · simp only [if_neg q]
          exact ⟨by omega, fun y hy => hb y (by omega)⟩
      · rw [recP_bad hgp ho] at h; cases h; exact hg
theorem wipeP_zero {V : Nat → Nat → Int} : ∀ (k x n : Nat) (L : Int → Option (Nat → Int)) (ca : Int), (∀ t, x ≤ t → t < x + k → ∀ y, y < 64 → V t y = 0) → wipeP V false k x n L ca = (some n, L, ca) := by
  intro k
  induction k with
  | zero => intro x n L ca _; rfl
  | succ k ih =>
    intro x n L ca h
    have ho : ¬ (false = true ∧ ca = 0) := fun q => by cases q.1
    rw [wipeP_blank ho (fun y hy => h x (Nat.le_refl _) (by omega) y hy)]
    exact ih _ _ _ _ fun t a b y hy => h t (by omega) (by omega) y hy
theorem wipeP_many {V : Nat → Nat → Int} {ar : Bool} : ∀ (k x n : Nat) (L : Int → Option (Nat → Int)) (ca : Int) (m : Nat), (wipeP V ar k x n L ca).1 = some m → n ≤ m ∧ (m = n → (wipeP V ar k x n L ca).2.1 = L) := by
  intro k
  induction k with
  | zero => intro x n L ca m h; cases h; exact ⟨Nat.le_refl _, fun _ => rfl⟩
  | succ k ih =>
    intro x n L ca m h
    by_cases ho : ar = true ∧ ca = 0
    · rw [wipeP_off ho] at h; cases h
    · by_cases hb : ∀ i, i < 64 → V x i = 0
      · rw [wipeP_blank ho hb] at h ⊢; exact ih _ _ _ _ _ h
      · rw [wipeP_full ho hb] at h ⊢
        have := ih _ _ _ _ _ h
        exact ⟨by omega, fun q => by omega⟩
end Go.WalLaw
namespace Go.Proofs.YtnjjgipblimbfaaGreatDoor.Dsk
open Go.Eng
open Go.DskLaw (q64 secV clampB fromP)
set_option maxRecDepth 100000
set_option maxHeartbeats 4000000
theorem cat_rows {N e : NV} {f g : Nat → Int} : ∃ s, catG Ar.real 1 N (fun e => [.int .u8 (f e.val)]) (fun e => [.int .u8 (g e.val)]) e = [s] ∧ intOfSV s = some (.u8, if e.val < N.val then f e.val else g (e.val - N.val)) := by
  have key : ∀ x n : NV, ∃ s, (List.range 1).map (fun j => mergeSV Ar.real 4 (Ar.real.ltN x.val n.val) (([SV.int IntKind.u8 (f x.val)] : List SV).getD j .any) (([SV.int IntKind.u8 (g (subNV Ar.real x n).val)] : List SV).getD j .any)) = [s] ∧ intOfSV s = some (.u8, if x.val < n.val then f x.val else g (x.val - n.val)) := fun x n => by
    refine ⟨_, rfl, ?_⟩
    show intOfSV (mergeSV Ar.real 4 (Ar.real.ltN x.val n.val) (.int .u8 (f x.val)) (.int .u8 (g (subNV Ar.real x n).val))) = _
    rw [merge_ints (kd := .u8) rfl rfl, subNV_val]
    show some (IntKind.u8, if decide (x.val < n.val) = true then _ else _) = _
    by_cases q : x.val < n.val <;> simp [q]
  cases e with
  | s a => cases N <;> exact key _ _
  | l a =>
    cases N with
    | s b => exact key _ _
    | l b =>
      show ∃ s, (match Nat.blt a b with | true => [SV.int IntKind.u8 (f a)] | false => [SV.int IntKind.u8 (g (a - b))]) = [s] ∧ intOfSV s = some (.u8, if a < b then f a else g (a - b))
      by_cases q : a < b
      · have : Nat.blt a b = true := by simpa using q
        rw [this, if_pos q]; exact ⟨_, rfl, rfl⟩
      · have : Nat.blt a b = false := by
          cases h : Nat.blt a b with
          | false => rfl
          | true => exact absurd (by simpa using h) q
        rw [this, if_neg q]; exact ⟨_, rfl, rfl⟩
end Go.Proofs.YtnjjgipblimbfaaGreatDoor.Dsk
namespace Go.Proofs.YtnjjgipblimbfaaGreatDoor.Dsk
open Go.Eng
open Go.DskLaw (q64 secV)
set_option maxRecDepth 100000
set_option maxHeartbeats 4000000
theorem cat_le2 {A : Ar} (hA : Ar.real = A) {n m d : Nat} {N e : NV} {f g h : Nat → Int} (he : ltNV A e N) (hN : N.val = A.addN n m) (hfg : ∀ x, x < n + m → h x = if x < n then f x else g (x - n)) :
    leL (leSV A (d + 1)) (catG A 1 (.s n) (fun e => [.int .u8 (f e.val)]) (fun e => [.int .u8 (g e.val)]) e) [.int .u8 (h e.val)] := by
  subst hA
  have he : e.val < n + m := by have := ltNV_real.1 he; rw [hN] at this; exact this
  obtain ⟨s, h1, h2⟩ := cat_rows (N := .s n) (e := e) (f := f) (g := g)
  rw [h1]
  have h3 := hfg _ he
  rw [show (NV.s n).val = n from rfl, ← h3] at h2
  cases s <;> simp only [intOfSV] at h2 <;> cases h2 <;> (simp only [leL, leSV, kEq_refl]; exact ⟨trivial, trivial⟩)
theorem image_own {P : Program} {G : Gl} (hP : P = Tryz.prog) {N s : Nat} {S g : Nat → Int} {L : Int → Option (Nat → Int)} {ar : Bool} {ca : Int} (hN : N = 64 * s) (hs : s ≤ 4096) (hg : ∀ x, g x = secV S L (x / 64) (x % 64)) :
    FnTr P G 10 [.ptr 0 0] (DH N S L ar ca) 3 (Gives (.sl 3 1 (.l 0) (.s N)) ((3, .row 5 1 (.s N) (fun e => [.int .u8 (g e.val)])) :: DH N S L ar ca) 100) := by
  have c1 := len_fn (P := P) (G := G) (S := S) (L := L) (ar := ar) (ca := ca) hP hN hs
  obtain ⟨v, hv⟩ : ∃ v : Nat → Nat → Int, ∀ i, v i = secV S L i := ⟨_, fun _ => rfl⟩
  have c2 : ∀ i, i < s → FnTr P G 43 [.ptr 0 0, .int .i64 (i : Int)] (DH N S L ar ca) 3 (Gives (.ro 1 (.l 64) (fun e => [.int .u8 (v i e.val)])) (DH N S L ar ca) 4) := fun i hi => last_fn hP hN hs hi (hv i)
  obtain ⟨M, hM⟩ : ∃ M : Nat → Nat, ∀ i, M i = 64 * i := ⟨_, fun _ => rfl⟩
  have M0 : M 0 = 0 := by rw [hM]
  have MS : ∀ i, M (i + 1) = M i + 64 := fun i => by rw [hM, hM]; omega
  have Mle : ∀ i, i ≤ s → M i ≤ 262144 := fun i hi => by rw [hM]; omega
  have ME : M s = N := by rw [hM, hN]
  have hcat : ∀ i y, y < 64 → g (M i + y) = v i y := fun i y hy => by rw [hg, hM, hv, show (64 * i + y) / 64 = i by omega, show (64 * i + y) % 64 = y by omega]
  clear hg hM hv
  have hT : T.Ok P := hP ▸ T_ok
  refine FnTr.intro (fn := Tryz.f10) (c := bodyOf Tryz.f10) (by rw [hP]; rfl) rfl rfl hT ?_
  generalize hA : Ar.real = A
  generalize hK : Gives _ _ _ = K
  cbv
  refine CS.le hA (c1) [(0, 0), (1, 1), (2, 2)] rfl rfl rfl ?_ ?_ ?_
  iterate 2 ((try cbv) <;> (repeat' (first | exact trivial | exact rfl | apply And.intro | exact fun _ => rfl | (intro _ hle; first | refine chunk_le hA rfl hle rfl ?_ | refine cat_le hA ?_ | refine upd_le hA ?_ | (try cbv)))) <;> (try (subst hA; (try simp only [zn] at *); (try (simp only [Ar.real, NV.val, zo, zt])); first | done | omega | decide | exact zi | (refine ⟨?_, ?_⟩ <;> first | omega | decide | exact zi))))
  cbv
  refine LS.ghost 5 1 (.l 0) (fun _ => [.int .u8 0]) rfl ?_
  refine LS.le hT hA 3 (fun (i : Nat) => [(3, .sl 3 1 (.l 0) (.s (M i))), (7, .int .i64 (i : Int))]) (fun i => (3, .row 5 1 (.s (M i)) (fun e => [.int .u8 (g e.val)])) :: DH N S L ar ca) (fun i => i ≤ s) (fun i => s - i) 0 [(10, 3)] rfl rfl ?_ ?_ ?_
  · (try cbv) <;> (repeat' (first | exact trivial | exact rfl | apply And.intro | exact fun _ => rfl | (intro _ hle; first | refine chunk_le hA rfl hle rfl ?_ | refine cat_le hA ?_ | refine upd_le hA ?_ | refine int_le ?_ | skip)))
    all_goals first | exact M0.symm | exact M0 | (exfalso; subst hA; exact absurd (ltNV_real.1 hle) (Nat.not_lt_zero _)) | (subst hA; (try simp only [zn] at *); (try (simp only [Ar.real, NV.val, zo, zt])); first | done | omega | decide | exact zi | (refine ⟨?_, ?_⟩ <;> first | omega | decide | exact zi))
  · exact Nat.zero_le _
  · intro R hR i hi
    cbv
    refine ⟨fun q1 => ?_, fun q1 => ?_⟩
    · have him : i < s := by clear hR c2 hcat MS Mle; subst hA; simp [Ar.real] at q1; omega
      have a2 := c2 i him
      have hMi := Mle i hi
      have hMS := MS i
      have hct := hcat i
      clear c2 hcat MS Mle
      cbv
      refine CS.le hA (a2) [(0, 0), (1, 1), (2, 2)] rfl rfl rfl ?_ ?_ ?_
      iterate 2 ((try cbv) <;> (repeat' (first | exact trivial | exact rfl | apply And.intro | exact fun _ => rfl | (intro _ hle; first | refine chunk_le hA rfl hle rfl ?_ | refine cat_le hA ?_ | refine upd_le hA ?_ | (try cbv)))) <;> (try (subst hA; (try simp only [zn] at *); (try (simp only [Ar.real, NV.val, zo, zt])); first | done | omega | decide | exact zi | (refine ⟨?_, ?_⟩ <;> first | omega | decide | exact zi))))
      cbv
      have hup : ∀ e, ltNV A e (.s (A.addN (M i) 64)) → leL (leSV A 4) (catG A 1 (.s (M i)) (fun e => [.int .u8 (g e.val)]) (fun e => [.int .u8 (v i e.val)]) e) [.int .u8 (g e.val)] := fun e he =>
        cat_le2 hA he rfl (fun x hx => by
          by_cases q : x < M i
          · rw [if_pos q]
          · rw [if_neg q, ← hct (x - M i) (by omega)]; congr 1; omega)
      refine ⟨⟨?_, ?_⟩, ?_, hR _ _ ⟨i + 1, 3, [(14, 3)], rfl, rfl, ?_, him, (by show s - (i + 1) < s - i; omega)⟩⟩
      iterate 3 (subst hA; (try simp only [zn] at *); (try (simp only [Ar.real, NV.val, zo, zt])); first | done | omega | decide | exact zi | (refine ⟨?_, ?_⟩ <;> first | omega | decide | exact zi))
      clear hR
      (try cbv) <;> (repeat' (first | exact trivial | exact rfl | apply And.intro | exact fun _ => rfl | (intro _ hle; first | exact hup _ hle | refine chunk_le hA rfl hle rfl ?_ | refine cat_le hA ?_ | refine upd_le hA ?_ | refine int_le ?_ | skip)))
      all_goals first | (subst hA; exact hMS.symm) | (subst hA; (try simp only [zn] at *); (try (simp only [Ar.real, NV.val, zo, zt])); first | done | omega | decide | exact zi | (refine ⟨?_, ?_⟩ <;> first | omega | decide | exact zi))
    · have him : i = s := by clear hR c2 hcat MS Mle; subst hA; simp [Ar.real] at q1; omega
      subst him
      clear hR c2 hcat MS Mle
      cbv
      refine Fin.le hA 3 [(3, 3)] (.sl 3 1 (.l 0) (.s N)) ((3, .row 5 1 (.s N) (fun e => [.int .u8 (g e.val)])) :: DH N S L ar ca) 100 rfl rfl rfl ?_ ?_ (by rw [← hK]; exact ⟨rfl, rfl, rfl⟩)
      · (try cbv) <;> (repeat' (first | exact trivial | exact rfl | apply And.intro | exact fun _ => rfl | (intro _ hle; first | refine chunk_le hA rfl hle rfl ?_ | refine cat_le hA ?_ | refine upd_le hA ?_ | (try cbv))))
        all_goals exact ME
      · (try cbv) <;> (repeat' (first | exact trivial | exact rfl | apply And.intro | exact fun _ => rfl | (intro _ hle; first | refine chunk_le hA rfl hle rfl ?_ | refine cat_le hA ?_ | refine upd_le hA ?_ | (try cbv))))
        all_goals exact ME
theorem image_fn {P : Program} {G : Gl} (hP : P = Tryz.prog) {N s : Nat} {S g : Nat → Int} {L : Int → Option (Nat → Int)} {ar : Bool} {ca : Int} (hN : N = 64 * s) (hs : s ≤ 4096) (hg : ∀ x, g x = secV S L (x / 64) (x % 64)) :
    FnTr P G 10 [.ptr 0 0] (DH N S L ar ca) 3 (Gives (By N g) (DH N S L ar ca) 100) := by
  have h1 := image_own (P := P) (G := G) (ar := ar) (ca := ca) hP hN hs hg
  generalize hA : Ar.real = A
  refine FnTr.dat hA h1 _ _ ?_
  (try cbv) <;> (repeat' (first | exact trivial | exact rfl | apply And.intro | exact fun _ => rfl | (intro _ hle; first | refine chunk_le hA rfl hle rfl ?_ | refine cat_le hA ?_ | refine upd_le hA ?_ | refine int_le ?_ | skip)))
  all_goals (subst hA; (try simp only [zn] at *); (try (simp only [Ar.real, NV.val, zo, zt])); first | done | omega | decide | exact zi | (refine ⟨?_, ?_⟩ <;> first | omega | decide | exact zi))
theorem refimage_own {P : Program} {G : Gl} (hP : P = Tryz.prog) {N s : Nat} {S L : Nat → Nat → Int} {W : Nat → Bool} {c : Int} {g : Nat → Int} (hN : N = 64 * s) (hs : s ≤ 4096) (hg : ∀ x, g x = L (x / 64) (x % 64)) :
    FnTr P G 11 [RD s S L W c] [] 0 (Gives (.sl 1 1 (.l 0) (.s N)) [(1, .row 5 1 (.s N) (fun e => [.int .u8 (g e.val)]))] 100) := by
  obtain ⟨M, hM⟩ : ∃ M : Nat → Nat, ∀ i, M i = 64 * i := ⟨_, fun _ => rfl⟩
  have M0 : M 0 = 0 := by rw [hM]
  have MS : ∀ i, M (i + 1) = M i + 64 := fun i => by rw [hM, hM]; omega
  have Mle : ∀ i, i ≤ s → M i ≤ 262144 := fun i hi => by rw [hM]; omega
  have ME : M s = N := by rw [hM, hN]
  have hcat : ∀ i y, y < 64 → g (M i + y) = L i y := fun i y hy => by rw [hg, hM, show (64 * i + y) / 64 = i by omega, show (64 * i + y) % 64 = y by omega]
  clear hg hM
  have hT : T.Ok P := hP ▸ T_ok
  refine FnTr.intro (fn := Tryz.f11) (c := bodyOf Tryz.f11) (by rw [hP]; rfl) rfl rfl hT ?_
  generalize hA : Ar.real = A
  generalize hK : Gives _ _ _ = K
  cbv
  refine LS.ghost 5 1 (.l 0) (fun _ => [.int .u8 0]) rfl ?_
  refine LS.le hT hA 1 (fun (i : Nat) => [(3, .sl 1 1 (.l 0) (.s (M i))), (4, .int .i64 (i : Int))]) (fun i => [(1, .row 5 1 (.s (M i)) (fun e => [.int .u8 (g e.val)])), (0, .cells 31 [Rw64 s S, Rw64 s L, .ro 1 (.s s) (fun e => [.bs (W e.val)]), .int .i64 c])]) (fun i => i ≤ s) (fun i => s - i) 0 [(4, 1)] rfl rfl ?_ ?_ ?_
  · (try cbv) <;> (repeat' (first | exact trivial | exact rfl | apply And.intro | exact fun _ => rfl | (intro _ hle; first | refine chunk_le hA rfl hle rfl ?_ | refine cat_le hA ?_ | refine upd_le hA ?_ | refine int_le ?_ | skip)))
    all_goals first | exact M0.symm | exact M0 | (exfalso; subst hA; exact absurd (ltNV_real.1 hle) (Nat.not_lt_zero _)) | (subst hA; (try simp only [zn] at *); (try (simp only [Ar.real, NV.val, zo, zt])); first | done | omega | decide | exact zi | (refine ⟨?_, ?_⟩ <;> first | omega | decide | exact zi)) | trace_state
  · exact Nat.zero_le _
  · intro R hR i hi
    cbv
    refine ⟨fun q1 => ?_, fun q1 => ?_⟩
    · have him : i < s := by clear hR hcat MS Mle; subst hA; simp [Ar.real] at q1; omega
      have hMi := Mle i hi
      have hMS := MS i
      have hct := hcat i
      have kn : A.nat (Int.ofNat i) = i := by clear hR; subst hA; rfl
      clear hcat MS Mle
      cbv
      have hup : ∀ e, ltNV A e (.s (A.addN (M i) 64)) → leL (leSV A 4) (catG A 1 (.s (M i)) (fun e => [.int .u8 (g e.val)]) (fun e => [.int .u8 (L (A.nat (Int.ofNat i)) e.val)]) e) [.int .u8 (g e.val)] := fun e he =>
        cat_le2 hA he rfl (fun x hx => by
          rw [kn]
          by_cases q : x < M i
          · rw [if_pos q]
          · rw [if_neg q, ← hct (x - M i) (by omega)]; congr 1; omega)
      refine ⟨?_, ⟨?_, ?_⟩, ?_, hR _ _ ⟨i + 1, 1, [(13, 1)], rfl, rfl, ?_, him, (by show s - (i + 1) < s - i; omega)⟩⟩
      iterate 4 (subst hA; (try simp only [zn] at *); (try (simp only [Ar.real, NV.val, zo, zt])); first | done | omega | decide | exact zi | (refine ⟨?_, ?_⟩ <;> first | omega | decide | exact zi))
      clear hR
      (try cbv) <;> (repeat' (first | exact trivial | exact rfl | apply And.intro | exact fun _ => rfl | (intro _ hle; first | exact hup _ hle | refine chunk_le hA rfl hle rfl ?_ | refine cat_le hA ?_ | refine upd_le hA ?_ | refine int_le ?_ | skip)))
      all_goals first | (subst hA; exact hMS.symm) | (subst hA; (try simp only [zn] at *); (try (simp only [Ar.real, NV.val, zo, zt])); first | done | omega | decide | exact zi | (refine ⟨?_, ?_⟩ <;> first | omega | decide | exact zi))
    · have him : i = s := by clear hR hcat MS Mle; subst hA; simp [Ar.real] at q1; omega
      subst him
      clear hR hcat MS Mle
      cbv
      refine Fin.le hA 1 [(1, 1)] (.sl 1 1 (.l 0) (.s N)) [(1, .row 5 1 (.s N) (fun e => [.int .u8 (g e.val)]))] 100 rfl rfl rfl ?_ ?_ (by rw [← hK]; exact ⟨rfl, rfl, rfl⟩)
      · (try cbv) <;> (repeat' (first | exact trivial | exact rfl | apply And.intro | exact fun _ => rfl | (intro _ hle; first | refine chunk_le hA rfl hle rfl ?_ | refine cat_le hA ?_ | refine upd_le hA ?_ | (try cbv))))
        all_goals exact ME
      · (try cbv) <;> (repeat' (first | exact trivial | exact rfl | apply And.intro | exact fun _ => rfl | (intro _ hle; first | refine chunk_le hA rfl hle rfl ?_ | refine cat_le hA ?_ | refine upd_le hA ?_ | (try cbv))))
        all_goals exact ME
theorem refimage_fn {P : Program} {G : Gl} (hP : P = Tryz.prog) {N s : Nat} {S L : Nat → Nat → Int} {W : Nat → Bool} {c : Int} {g : Nat → Int} (hN : N = 64 * s) (hs : s ≤ 4096) (hg : ∀ x, g x = L (x / 64) (x % 64)) :
    FnTr P G 11 [RD s S L W c] [] 0 (Gives (By N g) [] 100) := by
  have h1 := refimage_own (P := P) (G := G) (S := S) (W := W) (c := c) hP hN hs hg
  generalize hA : Ar.real = A
  refine FnTr.dat hA h1 _ _ ?_
  (try cbv) <;> (repeat' (first | exact trivial | exact rfl | apply And.intro | exact fun _ => rfl | (intro _ hle; first | refine chunk_le hA rfl hle rfl ?_ | refine cat_le hA ?_ | refine upd_le hA ?_ | refine int_le ?_ | skip)))
  all_goals (subst hA; (try simp only [zn] at *); (try (simp only [Ar.real, NV.val, zo, zt])); first | done | omega | decide | exact zi | (refine ⟨?_, ?_⟩ <;> first | omega | decide | exact zi))
end Go.Proofs.YtnjjgipblimbfaaGreatDoor.Dsk
namespace Go.Proofs.YtnjjgipblimbfaaGreatDoor.Dsk
open Go.Eng
open Go.DskLaw (SeenIs EnumIs SrtTo Mov)
set_option maxRecDepth 100000
set_option maxHeartbeats 4000000
theorem str_ty : Tryz.prog.underlying 9 = some .string := by kernel_rfl
theorem len64_fn {P : Program} {G : Gl} (hP : P = Tryz.prog) {x : Int} (hx : 0 ≤ x ∧ x ≤ 200) : FnTr P G 103 [.int .u64 x] [] 0 (Gives .any [] 0) := by
  have hu : P.underlying _ = some .string := hP ▸ str_ty
  have hT : T.Ok P := hP ▸ T_ok
  refine FnTr.intro (fn := Tryz.f103) (c := bodyOf Tryz.f103) (by rw [hP]; rfl) rfl rfl hT ?_
  generalize hA : Ar.real = A
  generalize hK : Gives _ _ _ = K
  cbv
  have k1 : A.ge x 4294967296 = false := by subst hA; simp [Ar.real]; omega
  have k2 : A.ge x 65536 = false := by subst hA; simp [Ar.real]; omega
  have k3 : A.ge x 256 = false := by subst hA; simp [Ar.real]; omega
  first | refine testR k1 rfl ?_ | refine testL k1 rfl ?_
  cbv
  first | refine testR k2 rfl ?_ | refine testL k2 rfl ?_
  cbv
  first | refine testR k3 rfl ?_ | refine testL k3 rfl ?_
  cbv
  have kc : A.conv .u8 x = x := by subst hA; show IntKind.u8.wrap x = x; obtain ⟨n, rfl⟩ : ∃ n : Nat, x = (n : Int) := ⟨x.toNat, by omega⟩; rw [wrap_u8]; omega
  refine OS.idxStr (m := 256) (kd := .u8) (i := A.conv .u8 x) hu rfl rfl (by kernel_rfl) (by rw [kc]; omega) (fun b hb1 hb2 => ?_)
  cbv
  have kb : A.conv .i64 b = b := by subst hA; show IntKind.i64.wrap b = b; rw [IntKind.wrap_i64]; omega
  have kr : A.inR .i64 (A.add 0 (A.conv .i64 b)) := by rw [kb]; subst hA; exact inR64 (by simp only [Ar.real]; omega) (by simp only [Ar.real]; omega)
  refine ⟨kr, ?_⟩
  refine Fin.le hA 0 [] (.any) ([]) 0 rfl rfl rfl ?_ ?_ (by rw [← hK]; exact ⟨rfl, rfl, rfl⟩)
  iterate 2 ((try cbv) <;> (repeat' (first | exact trivial | exact rfl | apply And.intro | exact fun _ => rfl | (intro _ hle; first | refine chunk_le hA rfl hle rfl ?_ | refine cat_le hA ?_ | refine upd_le hA ?_ | (try cbv)))))
theorem len_bits {P : Program} {G : Gl} (hP : P = Tryz.prog) {x : Int} (hx : 0 ≤ x ∧ x ≤ 200) : FnTr P G 89 [.int .u64 x] [] 0 (Gives .any [] 0) := by
  have c1 := len64_fn (P := P) (G := G) hP hx
  have hT : T.Ok P := hP ▸ T_ok
  refine FnTr.intro (fn := Tryz.f89) (c := bodyOf Tryz.f89) (by rw [hP]; rfl) rfl rfl hT ?_
  generalize hA : Ar.real = A
  generalize hK : Gives _ _ _ = K
  cbv
  refine CS.le hA (c1) [] rfl rfl rfl ?_ ?_ ?_
  iterate 2 ((try cbv) <;> (repeat' (first | exact trivial | exact rfl | apply And.intro | exact fun _ => rfl | (intro _ hle; first | refine chunk_le hA rfl hle rfl ?_ | refine cat_le hA ?_ | refine upd_le hA ?_ | (try cbv)))) <;> (try (subst hA; (try simp only [zn] at *); (try (simp only [Ar.real, NV.val, zo, zt])); first | done | omega | decide | exact zi | (refine ⟨?_, ?_⟩ <;> first | omega | decide | exact zi))))
  cbv
  refine Fin.le hA 0 [] (.any) ([]) 0 rfl rfl rfl ?_ ?_ (by rw [← hK]; exact ⟨rfl, rfl, rfl⟩)
  iterate 2 ((try cbv) <;> (repeat' (first | exact trivial | exact rfl | apply And.intro | exact fun _ => rfl | (intro _ hle; first | refine chunk_le hA rfl hle rfl ?_ | refine cat_le hA ?_ | refine upd_le hA ?_ | (try cbv)))))
theorem less_fn {P : Program} {G : Gl} (hP : P = Tryz.prog) {x y : Int} {r : Bool} (hr : r = true ↔ x < y) : FnTr P G 99 [.int .i64 x, .int .i64 y] [] 0 (Gives (.bs r) [] 0) := by
  have c1 : FnTr P G 110 [.int .i64 x] [] 0 (Gives (.bl false) [] 0) := by
    have hT : T.Ok P := hP ▸ T_ok
    refine FnTr.intro (fn := Tryz.f110) (c := bodyOf Tryz.f110) (by rw [hP]; rfl) rfl rfl hT ?_
    generalize hA : Ar.real = A
    generalize hK : Gives _ _ _ = K
    cbv
    refine Fin.le hA 0 [] (.bl false) ([]) 0 rfl rfl rfl ?_ ?_ (by rw [← hK]; exact ⟨rfl, rfl, rfl⟩)
    · (try cbv) <;> (repeat' (first | exact trivial | exact rfl | apply And.intro | exact fun _ => rfl | (intro _ hle; first | refine chunk_le hA rfl hle rfl ?_ | refine cat_le hA ?_ | refine upd_le hA ?_ | (try cbv))))
      subst hA; simp [Ar.real]
    · (try cbv) <;> (repeat' (first | exact trivial | exact rfl | apply And.intro | exact fun _ => rfl | (intro _ hle; first | refine chunk_le hA rfl hle rfl ?_ | refine cat_le hA ?_ | refine upd_le hA ?_ | (try cbv))))
  have hT : T.Ok P := hP ▸ T_ok
  refine FnTr.intro (fn := Tryz.f99) (c := bodyOf Tryz.f99) (by rw [hP]; rfl) rfl rfl hT ?_
  generalize hA : Ar.real = A
  generalize hK : Gives _ _ _ = K
  cbv
  refine CS.le hA (c1) [] rfl rfl rfl ?_ ?_ ?_
  iterate 2 ((try cbv) <;> (repeat' (first | exact trivial | exact rfl | apply And.intro | exact fun _ => rfl | (intro _ hle; first | refine chunk_le hA rfl hle rfl ?_ | refine cat_le hA ?_ | refine upd_le hA ?_ | (try cbv)))) <;> (try (subst hA; (try simp only [zn] at *); (try (simp only [Ar.real, NV.val, zo, zt])); first | done | omega | decide | exact zi | (refine ⟨?_, ?_⟩ <;> first | omega | decide | exact zi))))
  cbv
  refine Fin.le hA 0 [] (.bs r) ([]) 0 rfl rfl rfl ?_ ?_ (by rw [← hK]; exact ⟨rfl, rfl, rfl⟩)
  · (try cbv) <;> (repeat' (first | exact trivial | exact rfl | apply And.intro | exact fun _ => rfl | (intro _ hle; first | refine chunk_le hA rfl hle rfl ?_ | refine cat_le hA ?_ | refine upd_le hA ?_ | (try cbv))))
    subst hA; rw [Bool.eq_iff_iff, hr]; simp [Ar.real]
  · (try cbv) <;> (repeat' (first | exact trivial | exact rfl | apply And.intro | exact fun _ => rfl | (intro _ hle; first | refine chunk_le hA rfl hle rfl ?_ | refine cat_le hA ?_ | refine upd_le hA ?_ | (try cbv))))
theorem isort_fn {P : Program} {G : Gl} (hP : P = Tryz.prog) {n : Nat} {f g : Nat → Int} {L : Int → Option (Nat → Int)} (hn : n ≤ 1000) (hf : EnumIs L n f) (hg : ∀ f', EnumIs L n f' → SrtTo f' n → ∀ i, i < n → f' i = g i) :
    FnTr P G 93 [.sl 0 1 (.l 0) (.s n), .lit .i64 0, .int .i64 (n : Int)] [(0, .row 3 1 (.s n) (fun e => [.int .i64 (f e.val)]))] 1 (Gives (.tup []) [(0, .row 3 1 (.s n) (fun e => [.int .i64 (g e.val)]))] 1) := by
  have c1 : ∀ x y : Int, ∀ r : Bool, (r = true ↔ x < y) → FnTr P G 99 [.int .i64 x, .int .i64 y] [] 0 (Gives (.bs r) [] 0) := fun x y r h => less_fn hP h
  have hT : T.Ok P := hP ▸ T_ok
  refine FnTr.intro (fn := Tryz.f93) (c := bodyOf Tryz.f93) (by rw [hP]; rfl) rfl rfl hT ?_
  generalize hA : Ar.real = A
  generalize hK : Gives _ _ _ = K
  cbv
  refine LS.le2 hT hA 1 (fun (i : Nat) (f : Nat → Int) => [(6, .int .i64 (i : Int))]) (fun i f => [(0, .row 3 1 (.s n) (fun e => [.int .i64 (f e.val)]))]) (fun i f => 1 ≤ i ∧ (i ≤ n ∨ i = 1) ∧ EnumIs L n f ∧ SrtTo f i) (fun i _ => n - i) 1 f [] rfl rfl ?_ ?_ ?_
  · (try cbv) <;> (repeat' (first | exact trivial | exact rfl | apply And.intro | exact fun _ => rfl | (intro _ hle; first | refine chunk_le hA rfl hle rfl ?_ | refine cat_le hA ?_ | refine upd_le hA ?_ | refine int_le ?_ | skip)))
    all_goals first | (subst hA; (try simp only [zn] at *); (try (simp only [Ar.real, NV.val, zo, zt])); first | done | omega | decide | exact zi | (refine ⟨?_, ?_⟩ <;> first | omega | decide | exact zi)) | (subst hA; rfl)
  · exact ⟨Nat.le_refl _, .inr rfl, hf, fun u v h1 h2 => by omega⟩
  · intro R hR i f1 hi
    cbv
    obtain ⟨hi1, hi2, hi3, hi4⟩ := hi
    refine ⟨fun q1 => ?_, fun q1 => ?_⟩
    · have hin : i < n := by clear hR c1 hg; subst hA; simp [Ar.real] at q1; omega
      cbv
      refine LS.le2 hT hA 1 (fun (j : Nat) (f : Nat → Int) => [(7, .int .i64 (j : Int))]) (fun j f => [(0, .row 3 1 (.s n) (fun e => [.int .i64 (f e.val)]))]) (fun j f => j ≤ i ∧ EnumIs L n f ∧ Mov f i j) (fun j _ => j) i f1 [] rfl rfl ?_ ?_ ?_
      · clear hR
        (try cbv) <;> (repeat' (first | exact trivial | exact rfl | apply And.intro | exact fun _ => rfl | (intro _ hle; first | refine chunk_le hA rfl hle rfl ?_ | refine cat_le hA ?_ | refine upd_le hA ?_ | refine int_le ?_ | skip)))
      · exact ⟨Nat.le_refl _, hi3, Mov.start hi4⟩
      · intro Q hQ j f2 hj
        cbv
        obtain ⟨hj1, hj2, hj3⟩ := hj
        by_cases hj0 : j = 0
        · have k1 : A.gt (Int.ofNat j) 0 = false := by clear hR hQ; subst hA; simp [Ar.real]; omega
          have hsr := hj3.fin (.inl hj0)
          clear hQ
          refine DS.runK hA hT (by rw [hP]; exact P_mixed) 2 rfl ?_
          cbv
          first | refine testR k1 rfl ?_ | refine testL k1 rfl ?_
          cbv
          refine DF.fin (by kernel_rfl) (by kernel_rfl) ?_
          cbv
          refine ⟨(by (subst hA; (try simp only [zn] at *); (try (simp only [Ar.real, NV.val, zo, zt])); first | done | omega | decide | exact zi | (refine ⟨?_, ?_⟩ <;> first | omega | decide | exact zi))), hR _ _ _ ⟨i + 1, f2, 1, [], rfl, rfl, ?_, ⟨by omega, by omega, hj2, hsr⟩, (by show n - (i + 1) < n - i; omega)⟩⟩
          clear hR
          (try cbv) <;> (repeat' (first | exact trivial | exact rfl | apply And.intro | exact fun _ => rfl | (intro _ hle; first | refine chunk_le hA rfl hle rfl ?_ | refine cat_le hA ?_ | refine upd_le hA ?_ | refine int_le ?_ | skip)))
          all_goals (subst hA; (try simp only [zn] at *); (try (simp only [Ar.real, NV.val, zo, zt])); first | done | omega | decide | exact zi | (refine ⟨?_, ?_⟩ <;> first | omega | decide | exact zi))
        · have k1 : A.gt (Int.ofNat j) 0 = true := by clear hR hQ; subst hA; simp [Ar.real]; omega
          obtain ⟨y, hy⟩ : ∃ y, j = y + 1 := ⟨j - 1, by omega⟩
          have ky : A.sub (Int.ofNat j) 1 = Int.ofNat y := by clear hR hQ; subst hA; show (j : Int) - 1 = (y : Int); omega
          have kyn : A.nat (A.sub (Int.ofNat j) 1) = y := by rw [ky]; clear hR hQ; subst hA; rfl
          have kjn : A.nat (Int.ofNat j) = j := by clear hR hQ; subst hA; rfl
          have kyi : A.idx (A.sub (Int.ofNat j) 1) n := by rw [ky]; clear hR hQ; subst hA; exact ⟨Int.natCast_nonneg _, by show y < n; omega⟩
          have kji : A.idx (Int.ofNat j) n := by clear hR hQ; subst hA; exact ⟨Int.natCast_nonneg _, by show j < n; omega⟩
          have kyr : A.inR .i64 (A.sub (Int.ofNat j) 1) := by rw [ky]; clear hR hQ; subst hA; exact inR64 (by simp only [zo]; omega) (by simp only [zo]; omega)
          have kjl : A.leN (A.addN (A.nat (Int.ofNat j)) 1) n := by rw [kjn]; clear hR hQ; subst hA; show j + 1 ≤ n; omega
          have kyl : A.leN (A.addN (A.nat (A.sub (Int.ofNat j) 1)) 1) n := by rw [kyn]; clear hR hQ; subst hA; show y + 1 ≤ n; omega
          refine DS.runK hA hT (by rw [hP]; exact P_mixed) 2 rfl ?_
          cbv
          first | refine testR k1 rfl ?_ | refine testL k1 rfl ?_
          cbv
          refine ⟨kji, kjl, kyr, kyi, kyl, ?_⟩
          by_cases hlt : f2 j < f2 y
          · have a1 := c1 (f2 j) (f2 y) true ⟨fun _ => hlt, fun _ => rfl⟩
            refine CD.pass hA (FnTr.res hA a1 (.bl true) rfl) [] [] rfl ⟨rfl, rfl, rfl, rfl, ?_, ?_⟩ rfl (.inl rfl) ?_
            · clear hR hQ
              (try cbv) <;> (repeat' (first | exact trivial | exact rfl | apply And.intro | exact fun _ => rfl | (intro _ hle; first | refine chunk_le hA rfl hle rfl ?_ | refine cat_le hA ?_ | refine upd_le hA ?_ | (try cbv))))
              all_goals first | exact congrArg f2 kjn | exact congrArg f2 kyn
            · (try cbv) <;> (repeat' (first | exact trivial | exact rfl | apply And.intro | exact fun _ => rfl | (intro _ hle; first | refine chunk_le hA rfl hle rfl ?_ | refine cat_le hA ?_ | refine upd_le hA ?_ | (try cbv))))
            cbv
            refine DF.fin (by kernel_rfl) (by kernel_rfl) ?_
            cbv
            obtain ⟨f3, hf3⟩ : ∃ f3 : Nat → Int, ∀ u, f3 u = if u = j then f2 y else if u = y then f2 j else f2 u := ⟨_, fun _ => rfl⟩
            have he3 : EnumIs L n f3 := hj2.swap (j := j) (by omega) (fun u _ => by rw [hf3, show j - 1 = y by omega])
            have hm3 : Mov f3 i y := by
              have := hj3.step (f' := f3) (by omega) (by rw [show j - 1 = y by omega]; exact hlt) (fun u _ => by rw [hf3, show j - 1 = y by omega])
              rw [show j - 1 = y by omega] at this
              exact this
            have hup : ∀ e, ltNV A e (.s n) → leL (leSV A 4) (updF A 1 (.s (A.nat (A.sub (Int.ofNat j) 1))) 0 [.int .i64 (f2 (A.nat (Int.ofNat j)))] (updF A 1 (.s (A.nat (Int.ofNat j))) 0 [.int .i64 (f2 (A.nat (A.sub (Int.ofNat j) 1)))] (fun e => [.int .i64 (f2 e.val)])) e) [.int .i64 (f3 e.val)] := fun e he =>
              Ints.le hA (Ints.upd hA (A.nat (A.sub (Int.ofNat j) 1)) rfl (Ints.upd hA (A.nat (Int.ofNat j)) rfl (Ints.base .i64 f2 n))) he (Nat.le_refl _) (by
                rw [kyn, kjn, hf3]
                by_cases q : e.val = j
                · rw [if_pos q, if_neg (by omega), if_pos q]
                · rw [if_neg q, if_neg q])
            refine DS.runK hA hT (by rw [hP]; exact P_mixed) 2 rfl ?_
            cbv
            refine ⟨kyr, kyr, kyi, kyl, kji, kjl, kji, kjl, kyi, kyl, ?_⟩
            refine DF.fin (by kernel_rfl) (by kernel_rfl) ?_
            cbv
            refine ⟨kyr, hQ _ _ _ ⟨y, f3, 1, [], rfl, rfl, ?_, ⟨by omega, he3, hm3⟩, (by show y < j; omega)⟩⟩
            clear hR hQ
            (try cbv) <;> (repeat' (first | exact trivial | exact rfl | apply And.intro | exact fun _ => rfl | (intro _ hle; first | exact hup _ hle | refine chunk_le hA rfl hle rfl ?_ | refine cat_le hA ?_ | refine upd_le hA ?_ | refine int_le ?_ | skip)))
            all_goals first | exact ky | (subst hA; (try simp only [zn] at *); (try (simp only [Ar.real, NV.val, zo, zt])); first | done | omega | decide | exact zi | (refine ⟨?_, ?_⟩ <;> first | omega | decide | exact zi))
          · have a1 := c1 (f2 j) (f2 y) false ⟨fun h => (by cases h), fun h => absurd h hlt⟩
            have hne : f2 y ≠ f2 j := fun e => by have := hj2.inj y j (by omega) (by omega) e; omega
            have hsr := hj3.fin (.inr ⟨by omega, by rw [show j - 1 = y by omega]; omega⟩)
            clear hQ
            refine CD.pass hA (FnTr.res hA a1 (.bl false) rfl) [] [] rfl ⟨rfl, rfl, rfl, rfl, ?_, ?_⟩ rfl (.inl rfl) ?_
            · clear hR
              (try cbv) <;> (repeat' (first | exact trivial | exact rfl | apply And.intro | exact fun _ => rfl | (intro _ hle; first | refine chunk_le hA rfl hle rfl ?_ | refine cat_le hA ?_ | refine upd_le hA ?_ | (try cbv))))
              all_goals first | exact congrArg f2 kjn | exact congrArg f2 kyn
            · (try cbv) <;> (repeat' (first | exact trivial | exact rfl | apply And.intro | exact fun _ => rfl | (intro _ hle; first | refine chunk_le hA rfl hle rfl ?_ | refine cat_le hA ?_ | refine upd_le hA ?_ | (try cbv))))
            cbv
            refine DF.fin (by kernel_rfl) (by kernel_rfl) ?_
            cbv
            refine ⟨(by (subst hA; (try simp only [zn] at *); (try (simp only [Ar.real, NV.val, zo, zt])); first | done | omega | decide | exact zi | (refine ⟨?_, ?_⟩ <;> first | omega | decide | exact zi))), hR _ _ _ ⟨i + 1, f2, 1, [], rfl, rfl, ?_, ⟨by omega, by omega, hj2, hsr⟩, (by show n - (i + 1) < n - i; omega)⟩⟩
            clear hR
            (try cbv) <;> (repeat' (first | exact trivial | exact rfl | apply And.intro | exact fun _ => rfl | (intro _ hle; first | refine chunk_le hA rfl hle rfl ?_ | refine cat_le hA ?_ | refine upd_le hA ?_ | refine int_le ?_ | skip)))
            all_goals (subst hA; (try simp only [zn] at *); (try (simp only [Ar.real, NV.val, zo, zt])); first | done | omega | decide | exact zi | (refine ⟨?_, ?_⟩ <;> first | omega | decide | exact zi))
    · have hin : n ≤ i := by clear hR c1 hg; subst hA; simp [Ar.real] at q1; omega
      clear hR
      have hsr : SrtTo f1 n := fun u v h1 h2 => hi4 u v h1 (by omega)
      have hgg := hg f1 hi3 hsr
      have hp2 : ∀ e, ltNV A e (.s n) → leL (leSV A 4) [.int .i64 (f1 e.val)] [.int .i64 (g e.val)] := fun e he => by
        refine int_le ?_
        exact hgg _ (by subst hA; exact ltNV_real.1 he)
      cbv
      refine Fin.le hA 1 [] (.tup []) ([(0, .row 3 1 (.s n) (fun e => [.int .i64 (g e.val)]))]) 1 rfl rfl rfl ?_ ?_ (by rw [← hK]; exact ⟨rfl, rfl, rfl⟩)
      · (try cbv) <;> (repeat' (first | exact trivial | exact rfl | apply And.intro | exact fun _ => rfl | (intro _ hle; first | refine chunk_le hA rfl hle rfl ?_ | refine cat_le hA ?_ | refine upd_le hA ?_ | (try cbv))))
      · (try cbv) <;> (repeat' (first | exact trivial | exact rfl | apply And.intro | exact fun _ => rfl | (intro _ hle; first | exact hp2 _ hle | refine chunk_le hA rfl hle rfl ?_ | refine cat_le hA ?_ | refine upd_le hA ?_ | refine int_le ?_ | skip)))
end Go.Proofs.YtnjjgipblimbfaaGreatDoor.Dsk
namespace Go.Proofs.YtnjjgipblimbfaaGreatDoor.Dsk
open Go.Eng
open Go.DskLaw (SeenIs EnumIs SrtTo Mov left_mem left_less)
set_option maxRecDepth 100000
set_option maxHeartbeats 4000000
theorem pdq_fn {P : Program} {G : Gl} (hP : P = Tryz.prog) {n : Nat} {f g : Nat → Int} {L : Int → Option (Nat → Int)} (hn : n ≤ 12) (hf : EnumIs L n f) (hg : ∀ f', EnumIs L n f' → SrtTo f' n → ∀ i, i < n → f' i = g i) :
    FnTr P G 88 [.sl 0 1 (.l 0) (.s n), .lit .i64 0, .int .i64 (n : Int), .any] [(0, .row 3 1 (.s n) (fun e => [.int .i64 (f e.val)]))] 1 (Gives (.tup []) [(0, .row 3 1 (.s n) (fun e => [.int .i64 (g e.val)]))] 1) := by
  have c1 := isort_fn (P := P) (G := G) hP (by omega) hf hg
  have hT : T.Ok P := hP ▸ T_ok
  refine FnTr.intro (fn := Tryz.f88) (c := bodyOf Tryz.f88) (by rw [hP]; rfl) rfl rfl hT ?_
  generalize hA : Ar.real = A
  generalize hK : Gives _ _ _ = K
  cbv
  refine LS.rounds hA 1 hT ?_
  cbv
  have k1 : A.le (A.sub (Int.ofNat n) 0) 12 = true := by subst hA; simp [Ar.real]; omega
  have k2 : A.inR .i64 (A.sub (Int.ofNat n) 0) := by subst hA; exact inR64 (by simp only [Ar.real, zo]; omega) (by simp only [Ar.real, zo]; omega)
  refine ⟨k2, ?_⟩
  first | refine testR k1 rfl ?_ | refine testL k1 rfl ?_
  cbv
  refine CS.le hA c1 [(0, 0)] rfl rfl rfl ?_ ?_ ?_
  iterate 2 ((try cbv) <;> (repeat' (first | exact trivial | exact rfl | apply And.intro | exact fun _ => rfl | (intro _ hle; first | refine chunk_le hA rfl hle rfl ?_ | refine cat_le hA ?_ | refine upd_le hA ?_ | (try cbv)))))
  cbv
  refine Fin.le hA 1 [] (.tup []) ([(0, .row 3 1 (.s n) (fun e => [.int .i64 (g e.val)]))]) 1 rfl rfl rfl ?_ ?_ (by rw [← hK]; exact ⟨rfl, rfl, rfl⟩)
  iterate 2 ((try cbv) <;> (repeat' (first | exact trivial | exact rfl | apply And.intro | exact fun _ => rfl | (intro _ hle; first | refine chunk_le hA rfl hle rfl ?_ | refine cat_le hA ?_ | refine upd_le hA ?_ | (try cbv)))))
theorem sort_fn {P : Program} {G : Gl} (hP : P = Tryz.prog) {n : Nat} {f g : Nat → Int} {L : Int → Option (Nat → Int)} (hn : n ≤ 12) (hf : EnumIs L n f) (hg : ∀ f', EnumIs L n f' → SrtTo f' n → ∀ i, i < n → f' i = g i) :
    FnTr P G 77 [.sl 0 1 (.l 0) (.s n)] [(0, .row 3 1 (.s n) (fun e => [.int .i64 (f e.val)]))] 1 (Gives (.tup []) [(0, .row 3 1 (.s n) (fun e => [.int .i64 (g e.val)]))] 1) := by
  have c1 := pdq_fn (P := P) (G := G) hP hn hf hg
  have c2 := len_bits (P := P) (G := G) (x := (n : Int)) hP (by omega)
  have hT : T.Ok P := hP ▸ T_ok
  refine FnTr.intro (fn := Tryz.f77) (c := bodyOf Tryz.f77) (by rw [hP]; rfl) rfl rfl hT ?_
  generalize hA : Ar.real = A
  generalize hK : Gives _ _ _ = K
  cbv
  have k1 : A.conv .u64 (A.i2 n) = (n : Int) := by subst hA; show IntKind.u64.wrap (n : Int) = (n : Int); unfold IntKind.wrap; simp [IntKind.bits, IntKind.signed]; (try omega)
  refine CS.le hA c2 [] rfl rfl rfl ?_ ?_ ?_
  · (try cbv) <;> (repeat' (first | exact trivial | exact rfl | apply And.intro | exact fun _ => rfl | (intro _ hle; first | refine chunk_le hA rfl hle rfl ?_ | refine cat_le hA ?_ | refine upd_le hA ?_ | (try cbv))))
    exact k1
  · (try cbv) <;> (repeat' (first | exact trivial | exact rfl | apply And.intro | exact fun _ => rfl | (intro _ hle; first | refine chunk_le hA rfl hle rfl ?_ | refine cat_le hA ?_ | refine upd_le hA ?_ | (try cbv))))
  cbv
  refine CS.le hA c1 [(0, 0)] rfl rfl rfl ?_ ?_ ?_
  · (try cbv) <;> (repeat' (first | exact trivial | exact rfl | apply And.intro | exact fun _ => rfl | (intro _ hle; first | refine chunk_le hA rfl hle rfl ?_ | refine cat_le hA ?_ | refine upd_le hA ?_ | (try cbv))))
    all_goals (subst hA; (try simp only [zn] at *); (try (simp only [Ar.real, NV.val, zo, zt])); first | done | omega | decide | exact zi | (refine ⟨?_, ?_⟩ <;> first | omega | decide | exact zi))
  · (try cbv) <;> (repeat' (first | exact trivial | exact rfl | apply And.intro | exact fun _ => rfl | (intro _ hle; first | refine chunk_le hA rfl hle rfl ?_ | refine cat_le hA ?_ | refine upd_le hA ?_ | (try cbv))))
  cbv
  refine Fin.le hA 1 [] (.tup []) ([(0, .row 3 1 (.s n) (fun e => [.int .i64 (g e.val)]))]) 1 rfl rfl rfl ?_ ?_ (by rw [← hK]; exact ⟨rfl, rfl, rfl⟩)
  iterate 2 ((try cbv) <;> (repeat' (first | exact trivial | exact rfl | apply And.intro | exact fun _ => rfl | (intro _ hle; first | refine chunk_le hA rfl hle rfl ?_ | refine cat_le hA ?_ | refine upd_le hA ?_ | (try cbv)))))
theorem keys_fn {P : Program} {G : Gl} (hP : P = Tryz.prog) {L : Int → Option (Nat → Int)} :
    FnTr P G 45 [.mp 0] [(0, .wm 64 L)] 1 (Gives (.fn 78 [.ptr 1 0]) [(1, .cells 56 [.mp 0]), (0, .wm 64 L)] 4) := by
  have hT : T.Ok P := hP ▸ T_ok
  refine FnTr.intro (fn := Tryz.f45) (c := bodyOf Tryz.f45) (by rw [hP]; rfl) rfl rfl hT ?_
  generalize hA : Ar.real = A
  generalize hK : Gives _ _ _ = K
  cbv
  refine OS.did (makeFunc_did rfl) ?_
  cbv
  refine Fin.le hA 1 [(1, 1)] (.fn 78 [.ptr 1 0]) ([(1, .cells 56 [.mp 0]), (0, .wm 64 L)]) 4 rfl rfl rfl ?_ ?_ (by rw [← hK]; exact ⟨rfl, rfl, rfl⟩)
  iterate 2 ((try cbv) <;> (repeat' (first | exact trivial | exact rfl | apply And.intro | exact fun _ => rfl | (intro _ hle; first | refine chunk_le hA rfl hle rfl ?_ | refine cat_le hA ?_ | refine upd_le hA ?_ | (try cbv)))))
theorem push_int {A : Ar} (hA : Ar.real = A) {n d : Nat} {f f' : Nat → Int} {k : Int} (h : ∀ i, i < n + 1 → f' i = if i < n then f i else k) {e N : NV} (he : ltNV A e N) (hN : N.val = A.addN n 1) :
    leL (leSV A (d + 1)) (catG A 1 (.s n) (fun e => [.int .i64 (f e.val)]) (fun x => chunkS A 1 [.int .i64 k] (addNV A (.l 0) x)) e) [.int .i64 (f' e.val)] := by
  have hl := Ints.lits hA (cs := [.int .i64 k]) (kd := .i64) (ns := [k]) rfl
  refine Ints.le hA (F := catG A 1 (.s n) (fun e => [.int .i64 (f e.val)]) (fun x => chunkS A 1 [.int .i64 k] (addNV A (.l 0) x))) (Ints.cat hA (F := fun e => [.int .i64 (f e.val)]) (G := fun x => chunkS A 1 [.int .i64 k] (addNV A (.l 0) x)) (f := f) (n := n) (m := 1) (.s n) rfl (fun k => ⟨_, rfl, rfl⟩) (g := fun i => [k].getD i 0) (fun k hk => hl (.s k) hk) (fun k => ⟨_, _, rfl, rfl⟩) ⟨n, rfl⟩) he (by rw [hN]; subst hA; exact Nat.le_refl _) ?_
  have he : e.val < n + 1 := by have := ltNV_real.1 (hA ▸ he); rw [hN] at this; subst hA; exact this
  rw [h _ he]
  by_cases q : e.val < n
  · rw [if_pos q, if_pos q]
  · rw [if_neg q, if_neg q, show e.val - n = 0 by omega]; rfl
theorem appseq_fn {P : Program} {G : Gl} (hP : P = Tryz.prog) {s : Nat} {L : Int → Option (Nat → Int)} (hs : s ≤ 4096) (hk : ∀ k g, L k = some g → 0 ≤ k ∧ k < (s : Int)) :
    FnTr P G 87 [.nils, .fn 78 [.ptr 1 0]] [(0, .wm 64 L), (1, .cells 56 [.mp 0])] 2 (fun r H n => ∃ x : Nat × (Nat → Int), EnumIs L x.1 x.2 ∧ Gives (.sl 2 1 (.l 0) (.s x.1)) [(0, .wm 64 L), (2, .row 3 1 (.s x.1) (fun e => [.int .i64 (x.2 e.val)])), (1, .cells 56 [.mp 0])] 60 r H n) := by
  have hT : T.Ok P := hP ▸ T_ok
  have hM : MapTy P _ 64 := hP ▸ map_ty
  refine FnTr.intro (fn := Tryz.f87) (c := bodyOf Tryz.f87) (by rw [hP]; rfl) rfl rfl hT ?_
  generalize hA : Ar.real = A
  generalize hK : (fun (r : SV) (H : Hl) (n : Nat) => ∃ x : Nat × (Nat → Int), EnumIs L x.1 x.2 ∧ Gives (.sl 2 1 (.l 0) (.s x.1)) [(0, .wm 64 L), (2, .row 3 1 (.s x.1) (fun e => [.int .i64 (x.2 e.val)])), (1, .cells 56 [.mp 0])] 60 r H n) = K
  cbv
  refine FS.run hA (fn := Tryz.f78) (body := bodyOf Tryz.f78) (by rw [hP]; rfl) rfl rfl rfl hT rfl ?_
  intro l
  cbv
  refine OS.range (sz := 64) hM rfl rfl rfl ?_
  intro mb es c hmap
  cbv
  refine LS.ghost 3 1 (.l 0) (fun _ => [.int .i64 0]) rfl ?_
  refine LS.leU hT hA 9 (fun _ => []) [] (fun (Z : Array Nat × Nat × (Nat → Int)) => [(7, .obj (.mapIter (some mb) c Z.1 c)), (2, .cells 44 [.sl 8 1 (.l 0) (.s Z.2.1)]), (8, .row 3 1 (.s Z.2.1) (fun e => [.int .i64 (Z.2.2 e.val)]))]) (fun Z => SeenIs es Z.1 Z.2.1 Z.2.2) (fun Z => (leftOf es Z.1).size) (#[], 0, fun _ => 0) [] rfl rfl ?_ ?_ ?_
  · (try cbv) <;> (repeat' (first | exact trivial | exact rfl | apply And.intro | exact fun _ => rfl | (intro _ hle; first | refine chunk_le hA rfl hle rfl ?_ | refine cat_le hA ?_ | refine upd_le hA ?_ | refine int_le ?_ | skip)))
    all_goals first | (exfalso; subst hA; exact absurd (ltNV_real.1 hle) (Nat.not_lt_zero _)) | trace_state
  · exact SeenIs.start
  · intro R hR Z hZ
    obtain ⟨seen, n, f⟩ := Z
    have hZ : SeenIs es seen n f := hZ
    have hns : n ≤ s := hZ.le hmap hk
    cbv
    refine OS.next (sz := 64) (i := 0) hmap rfl rfl rfl rfl (fun h0 => ?_) (fun e he seen' hse => ?_)
    · have hen := hZ.fin hmap h0
      clear hR hZ
      cbv
      refine Fin.leN hA 2 [(8, 2)] (.sl 2 1 (.l 0) (.s n)) [(2, .row 3 1 (.s n) (fun e => [.int .i64 (f e.val)])), (0, .num mb (.map es c)), (1, .cells 56 [.mp 0])] _ 60 rfl rfl rfl ?_ ?_ (.cons (i := 0) rfl (blk_num hmap) (.cons (i := 2) rfl (Blkle.refl _) (.cons (i := 1) rfl (Blkle.refl _) .nil))) (by rw [← hK]; exact ⟨(n, f), hen, rfl, rfl, rfl⟩)
      iterate 2 ((try cbv) <;> (repeat' (first | exact trivial | exact rfl | apply And.intro | exact fun _ => rfl | (intro _ hle; first | refine chunk_le hA rfl hle rfl ?_ | refine cat_le hA ?_ | refine upd_le hA ?_ | (try cbv)))))
    · obtain ⟨hes, hnew⟩ := left_mem he
      obtain ⟨k, g, hke, hLk, hval⟩ := hmap.ent e hes
      obtain ⟨f', hf'⟩ : ∃ f' : Nat → Int, ∀ i, f' i = if i < n then f i else k := ⟨_, fun _ => rfl⟩
      have hZ' : SeenIs es (seen.push e.born) (n + 1) f' := hZ.step hmap hes hnew hke (fun i hi => by rw [hf', if_pos hi]) (by rw [hf', if_neg (by omega)])
      have hls : (leftOf es seen').size < (leftOf es seen).size := by rw [hse]; exact left_less he
      rw [← hse] at hZ'
      cbv
      refine OS.did (entry_did (i := 0) hmap hse rfl rfl rfl rfl hes hke hval) ?_
      cbv
      refine OS.yield hA (i := 5) hT rfl rfl rfl rfl rfl rfl ?_
      cbv
      have hup : ∀ e, ltNV A e (.s (A.addN n 1)) → leL (leSV A 4) (catG A 1 (.s n) (fun e => [.int .i64 (f e.val)]) (fun x => chunkS A 1 [.int .i64 k] (addNV A (.l 0) x)) e) [.int .i64 (f' e.val)] := fun e he => push_int hA (fun i _ => hf' i) he rfl
      have hns2 : n ≤ s := hZ.le hmap hk
      clear hns
      refine ⟨⟨(by (subst hA; (try simp only [zn] at *); (try (simp only [Ar.real, NV.val, zo, zt])); first | done | omega | decide | exact zi | (refine ⟨?_, ?_⟩ <;> first | omega | decide | exact zi))), (by subst hA; exact Nat.le_refl _), (by subst hA; show (n + 1) * 8 ≤ 140737488355328; omega)⟩, hR _ _ ⟨(seen', n + 1, f'), 9, [(19, 8)], rfl, rfl, ?_, hZ', hls⟩⟩
      clear hR
      (try cbv) <;> (repeat' (first | exact trivial | exact rfl | apply And.intro | exact fun _ => rfl | (intro _ hle; first | exact hup _ hle | refine chunk_le hA rfl hle rfl ?_ | refine cat_le hA ?_ | refine upd_le hA ?_ | refine int_le ?_ | skip)))
      all_goals (subst hA; (try simp only [zn] at *); (try (simp only [Ar.real, NV.val, zo, zt])); first | done | omega | decide | exact zi | (refine ⟨?_, ?_⟩ <;> first | omega | decide | exact zi))
theorem collect_fn {P : Program} {G : Gl} (hP : P = Tryz.prog) {s : Nat} {L : Int → Option (Nat → Int)} (hs : s ≤ 4096) (hk : ∀ k g, L k = some g → 0 ≤ k ∧ k < (s : Int)) :
    FnTr P G 76 [.fn 78 [.ptr 1 0]] [(0, .wm 64 L), (1, .cells 56 [.mp 0])] 2 (fun r H n => ∃ x : Nat × (Nat → Int), EnumIs L x.1 x.2 ∧ Gives (.sl 2 1 (.l 0) (.s x.1)) [(0, .wm 64 L), (2, .row 3 1 (.s x.1) (fun e => [.int .i64 (x.2 e.val)])), (1, .cells 56 [.mp 0])] 70 r H n) := by
  have hT : T.Ok P := hP ▸ T_ok
  have c1 := appseq_fn (P := P) (G := G) hP hs hk
  refine FnTr.intro (fn := Tryz.f76) (c := bodyOf Tryz.f76) (by rw [hP]; rfl) rfl rfl hT ?_
  generalize hA : Ar.real = A
  generalize hK : (fun (r : SV) (H : Hl) (n : Nat) => ∃ x : Nat × (Nat → Int), EnumIs L x.1 x.2 ∧ Gives (.sl 2 1 (.l 0) (.s x.1)) [(0, .wm 64 L), (2, .row 3 1 (.s x.1) (fun e => [.int .i64 (x.2 e.val)])), (1, .cells 56 [.mp 0])] 70 r H n) = K
  cbv
  refine CS.leE hA c1 [(0, 0), (1, 1)] rfl rfl rfl ?_ ?_ (fun x hx => ?_)
  iterate 2 ((try cbv) <;> (repeat' (first | exact trivial | exact rfl | apply And.intro | exact fun _ => rfl | (intro _ hle; first | refine chunk_le hA rfl hle rfl ?_ | refine cat_le hA ?_ | refine upd_le hA ?_ | (try cbv)))))
  obtain ⟨n, f⟩ := x
  cbv
  refine Fin.le hA 2 [(6, 2)] (.sl 2 1 (.l 0) (.s n)) [(0, .wm 64 L), (2, .row 3 1 (.s n) (fun e => [.int .i64 (f e.val)])), (1, .cells 56 [.mp 0])] 70 rfl rfl rfl ?_ ?_ (by rw [← hK]; exact ⟨(n, f), hx, rfl, rfl, rfl⟩)
  iterate 2 ((try cbv) <;> (repeat' (first | exact trivial | exact rfl | apply And.intro | exact fun _ => rfl | (intro _ hle; first | refine chunk_le hA rfl hle rfl ?_ | refine cat_le hA ?_ | refine upd_le hA ?_ | (try cbv)))))
theorem sorted_fn {P : Program} {G : Gl} (hP : P = Tryz.prog) {s n : Nat} {g : Nat → Int} {L : Int → Option (Nat → Int)} (hs : s ≤ 4096) (hn : n ≤ 12) (hk : ∀ k g, L k = some g → 0 ≤ k ∧ k < (s : Int)) (hg : ∀ m f', EnumIs L m f' → m = n ∧ (SrtTo f' m → ∀ i, i < n → f' i = g i)) :
    FnTr P G 44 [.fn 78 [.ptr 1 0]] [(0, .wm 64 L), (1, .cells 56 [.mp 0])] 2 (Gives (.sl 2 1 (.l 0) (.s n)) [(0, .wm 64 L), (2, .row 3 1 (.s n) (fun e => [.int .i64 (g e.val)])), (1, .cells 56 [.mp 0])] 80) := by
  have c1 := collect_fn (P := P) (G := G) hP hs hk
  have c2 : ∀ f', EnumIs L n f' → FnTr P G 77 [.sl 0 1 (.l 0) (.s n)] [(0, .row 3 1 (.s n) (fun e => [.int .i64 (f' e.val)]))] 1 (Gives (.tup []) [(0, .row 3 1 (.s n) (fun e => [.int .i64 (g e.val)]))] 1) := fun f' hf =>
    sort_fn hP hn hf (fun f'' h1 h2 => (hg n f'' h1).2 h2)
  have hT : T.Ok P := hP ▸ T_ok
  refine FnTr.intro (fn := Tryz.f44) (c := bodyOf Tryz.f44) (by rw [hP]; rfl) rfl rfl hT ?_
  generalize hA : Ar.real = A
  generalize hK : Gives _ _ _ = K
  cbv
  refine CS.leE hA c1 [(0, 0), (1, 1)] rfl rfl rfl ?_ ?_ (fun x hx => ?_)
  iterate 2 ((try cbv) <;> (repeat' (first | exact trivial | exact rfl | apply And.intro | exact fun _ => rfl | (intro _ hle; first | refine chunk_le hA rfl hle rfl ?_ | refine cat_le hA ?_ | refine upd_le hA ?_ | (try cbv)))))
  obtain ⟨m, f⟩ := x
  obtain rfl : m = n := (hg m f hx).1
  have a2 := c2 f hx
  cbv
  refine CS.le hA a2 [(6, 0)] rfl rfl rfl ?_ ?_ ?_
  iterate 2 ((try cbv) <;> (repeat' (first | exact trivial | exact rfl | apply And.intro | exact fun _ => rfl | (intro _ hle; first | refine chunk_le hA rfl hle rfl ?_ | refine cat_le hA ?_ | refine upd_le hA ?_ | (try cbv)))))
  cbv
  refine Fin.le hA 2 [(6, 2)] (.sl 2 1 (.l 0) (.s m)) ([(0, .wm 64 L), (2, .row 3 1 (.s m) (fun e => [.int .i64 (g e.val)])), (1, .cells 56 [.mp 0])]) 80 rfl rfl rfl ?_ ?_ (by rw [← hK]; exact ⟨rfl, rfl, rfl⟩)
  iterate 2 ((try cbv) <;> (repeat' (first | exact trivial | exact rfl | apply And.intro | exact fun _ => rfl | (intro _ hle; first | refine chunk_le hA rfl hle rfl ?_ | refine cat_le hA ?_ | refine upd_le hA ?_ | (try cbv)))))
theorem waits_own {P : Program} {G : Gl} (hP : P = Tryz.prog) {N s n : Nat} {S g : Nat → Int} {L : Int → Option (Nat → Int)} {ar : Bool} {ca : Int} (hs : s ≤ 4096) (hn : n ≤ 12) (hk : ∀ k g, L k = some g → 0 ≤ k ∧ k < (s : Int)) (hg : ∀ m f', EnumIs L m f' → m = n ∧ (SrtTo f' m → ∀ i, i < n → f' i = g i)) :
    FnTr P G 12 [.ptr 0 0] (DH N S L ar ca) 3 (Gives (.sl 3 1 (.l 0) (.s n)) ((3, .row 3 1 (.s n) (fun e => [.int .i64 (g e.val)])) :: DH N S L ar ca) 100) := by
  have c1 := keys_fn (P := P) (G := G) (L := L) hP
  have c2 := sorted_fn (P := P) (G := G) hP hs hn hk hg
  have hT : T.Ok P := hP ▸ T_ok
  refine FnTr.intro (fn := Tryz.f12) (c := bodyOf Tryz.f12) (by rw [hP]; rfl) rfl rfl hT ?_
  generalize hA : Ar.real = A
  generalize hK : Gives _ _ _ = K
  cbv
  refine CS.le hA c1 [(2, 0)] rfl rfl rfl ?_ ?_ ?_
  iterate 2 ((try cbv) <;> (repeat' (first | exact trivial | exact rfl | apply And.intro | exact fun _ => rfl | (intro _ hle; first | refine chunk_le hA rfl hle rfl ?_ | refine cat_le hA ?_ | refine upd_le hA ?_ | (try cbv)))))
  cbv
  refine CS.le hA c2 [(2, 0), (11, 1)] rfl rfl rfl ?_ ?_ ?_
  iterate 2 ((try cbv) <;> (repeat' (first | exact trivial | exact rfl | apply And.intro | exact fun _ => rfl | (intro _ hle; first | refine chunk_le hA rfl hle rfl ?_ | refine cat_le hA ?_ | refine upd_le hA ?_ | (try cbv)))))
  cbv
  refine Fin.le hA 3 [(16, 3)] (.sl 3 1 (.l 0) (.s n)) ((3, .row 3 1 (.s n) (fun e => [.int .i64 (g e.val)])) :: DH N S L ar ca) 100 rfl rfl rfl ?_ ?_ (by rw [← hK]; exact ⟨rfl, rfl, rfl⟩)
  iterate 2 ((try cbv) <;> (repeat' (first | exact trivial | exact rfl | apply And.intro | exact fun _ => rfl | (intro _ hle; first | refine chunk_le hA rfl hle rfl ?_ | refine cat_le hA ?_ | refine upd_le hA ?_ | (try cbv)))))
abbrev IntsR (n : Nat) (g : Nat → Int) : SV := .ro 1 (.s n) (fun e => [.int .i64 (g e.val)])
theorem waits_fn {P : Program} {G : Gl} (hP : P = Tryz.prog) {N s n : Nat} {S g : Nat → Int} {L : Int → Option (Nat → Int)} {ar : Bool} {ca : Int} (hs : s ≤ 12) (hk : ∀ k g, L k = some g → 0 ≤ k ∧ k < (s : Int)) (hg : EnumIs L n g ∧ SrtTo g n) :
    FnTr P G 12 [.ptr 0 0] (DH N S L ar ca) 3 (Gives (IntsR n g) (DH N S L ar ca) 100) := by
  have hn : n ≤ 12 := by have := hg.1.le hk; omega
  have h1 := waits_own (P := P) (G := G) (N := N) (S := S) (ar := ar) (ca := ca) (n := n) (g := g) (s := s) hP (by omega) hn hk (fun m f' hf => by
    -- any row of all keys is as long
    have e1 : m ≤ n := DskLaw.pigeon_enum hf hg.1
    have e2 : n ≤ m := DskLaw.pigeon_enum hg.1 hf
    obtain rfl : m = n := by omega
    exact ⟨rfl, fun h => (DskLaw.enum_unique hf h hg.1 hg.2).2⟩)
  generalize hA : Ar.real = A
  refine FnTr.dat hA h1 _ _ ?_
  (try cbv) <;> (repeat' (first | exact trivial | exact rfl | apply And.intro | exact fun _ => rfl | (intro _ hle; first | refine chunk_le hA rfl hle rfl ?_ | refine cat_le hA ?_ | refine upd_le hA ?_ | refine int_le ?_ | skip)))
  all_goals (subst hA; (try simp only [zn] at *); (try (simp only [Ar.real, NV.val, zo, zt])); first | done | omega | decide | exact zi | (refine ⟨?_, ?_⟩ <;> first | omega | decide | exact zi))
theorem waits_none {P : Program} {G : Gl} (hP : P = Tryz.prog) {N : Nat} {S : Nat → Int} {L : Int → Option (Nat → Int)} {ar : Bool} {ca : Int} (hL : ∀ k, L k = none) :
    FnTr P G 12 [.ptr 0 0] (DH N S L ar ca) 3 (Gives (IntsR 0 (fun _ => 0)) (DH N S L ar ca) 100) :=
  waits_fn (s := 0) hP (by omega) (fun k g h => (by rw [hL] at h; cases h)) ⟨⟨fun i hi => (by omega), fun k g h => (by rw [hL] at h; cases h), fun i j hi => (by omega)⟩, fun u v h1 h2 => by omega⟩
end Go.Proofs.YtnjjgipblimbfaaGreatDoor.Dsk
namespace Go.Proofs.YtnjjgipblimbfaaGreatDoor.Dsk
open Go.Eng
open Go.DskLaw (q64 secV isB needN pcs getP Sim wipeP)
open Go.WalLaw
open Go.CrcLaw (four)
set_option maxRecDepth 100000
set_option maxHeartbeats 1000000
section
variable {P : Program} {fr : Nat → Int} {s n : Nat} {f : Nat → Int} {L0 : Int → Option (Nat → Int)} {V : Nat → Nat → Int} {W : Nat → Bool}
theorem opens_facts (hP : P = Tryz.prog) (hfr : ∀ i, fr i = ((four i).toNat : Int)) (hn : n = 64 * s) (hs : 1 ≤ s ∧ s ≤ 4096) (hf : ∀ i, i < n → 0 ≤ f i ∧ f i ≤ 255) (hL0 : ∀ k, L0 k = none) (hV : ∀ t x, V t x = f (64 * t + x)) (hW : ∀ t, W t = false) :
    (FnTr P (Gf fr) 7 [.ptr 0 0] (DHd n ⟨f, L0, false, 0⟩) 3 (Gives (.tup [.nilp, .lit .i64 1]) (DHd n ⟨f, L0, false, 0⟩) 3) ∧ FnTr P (Gf fr) 8 [RD s V V W (-1)] [] 0 (Gives (.tup [RLd s V V W (-1), .lit .i64 1]) [] 5000)) ∨
    (FnTr P (Gf fr) 7 [.ptr 0 0] (DHd n ⟨f, L0, false, 0⟩) 3 (Gives (.tup [.nilp, .lit .i64 4]) (DHd n ⟨f, L0, false, 0⟩) 3) ∧ FnTr P (Gf fr) 8 [RD s V V W (-1)] [] 0 (Gives (.tup [RLd s V V W (-1), .lit .i64 4]) [] 5000)) ∨
    (FnTr P (Gf fr) 7 [.ptr 0 0] (DHd n ⟨f, L0, false, 0⟩) 3 (Gives (.tup [.nilp, .lit .i64 270]) (DHd n ⟨f, L0, false, 0⟩) 3) ∧ FnTr P (Gf fr) 8 [RD s V V W (-1)] [] 0 (Gives (.tup [RLd s V V W (-1), .lit .i64 270]) [] 5000)) ∨
    ∃ (d2 d3 : Dk) (gen last w0 w2 kc : Nat) (wf wf2 b : Nat → Int) (gl gl2 nl : Nat → Nat) (gf gf2 nf : Nat → Nat → Int) (S2 L2 : Nat → Nat → Int) (W2 : Nat → Bool) (c2 : Int) (im : Nat → Int),
      FnTr P (Gf fr) 7 [.ptr 0 0] (DHd n ⟨f, L0, false, 0⟩) 3 (Gives (.tup [.ptr 3 0, .lit .i64 0]) (LgH n d2 gen last w0 wf (.s 1) kc kc false (kc + 1) gl gf) 100) ∧
      FnTr P (Gf fr) 8 [RD s V V W (-1)] [] 0 (Gives (.tup [RLg s S2 L2 W2 c2 gen last w0 b kc nl nf kc false, .lit .i64 0]) [] 5000) ∧
      FnTr P (Gf fr) 10 [.ptr 0 0] (DHd n d2) 3 (Gives (By n im) (DHd n d2) 100) ∧
      FnTr P (Gf fr) 11 [RD s S2 L2 W2 c2] [] 0 (Gives (By n im) [] 100) ∧
      FnTr P (Gf fr) 12 [.ptr 0 0] (DHd n d2) 3 (Gives (IntsR 0 (fun _ => 0)) (DHd n d2) 100) ∧
      FnTr P (Gf fr) 7 [.ptr 0 0] (DHd n d2) 3 (Gives (.tup [.ptr 3 0, .lit .i64 0]) (LgH n d3 gen last w2 wf2 (.s 1) kc kc false (kc + 1) gl2 gf2) 100) ∧
      FnTr P (Gf fr) 13 [.ptr 3 0, RLg s S2 L2 W2 c2 gen last w0 b kc nl nf kc false] (LgH n d3 gen last w0 wf (.s 1) kc kc false (kc + 1) gl gf) 5 (Gives (.bl true) (LgH n d3 gen last w0 wf (.s 1) kc kc false (kc + 1) gl gf) 3000) ∧
      FnTr P (Gf fr) 13 [.ptr 3 0, RLg s S2 L2 W2 c2 gen last w0 b kc nl nf kc false] (LgH n d3 gen last w2 wf2 (.s 1) kc kc false (kc + 1) gl2 gf2) 5 (Gives (.bl true) (LgH n d3 gen last w2 wf2 (.s 1) kc kc false (kc + 1) gl2 gf2) 3000) ∧
      FnTr P (Gf fr) 10 [.ptr 0 0] (DHd n d3) 3 (Gives (By n im) (DHd n d3) 100) ∧ (∀ x, x < n → 0 ≤ im x ∧ im x < 256) := by
  by_cases hs4 : s < 4
  · exact .inl ⟨open_small hP hn hs4, ropen_small hP hs4⟩
  right
  obtain ⟨d, hd⟩ : ∃ d : Dk, d = ⟨f, L0, false, 0⟩ := ⟨_, rfl⟩
  rw [← hd]
  have hdL : ∀ k, d.L k = none := fun k => by rw [hd]; exact hL0 k
  have hdS : ∀ x, d.S x = f x := fun x => by rw [hd]
  have har : d.ar = false := by rw [hd]
  have ok : DkOk s d := ⟨by rw [hd]; exact ⟨Int.le_refl 0, (by decide : (0 : Int) ≤ 9223372036854775807)⟩, fun k g e => (by rw [hdL] at e; cases e), fun x hx => (by rw [hdS]; exact hf x (by omega)), fun k g e => (by rw [hdL] at e; cases e)⟩
  have ho : ¬ offD d := fun q => by have := q.1; rw [har] at this; cases this
  have hVe : (fun t => secV d.S d.L t) = V := by
    funext t x
    rw [hV, secV_eq hdL, hdS]
  have hVt : ∀ t, secV d.S d.L t = V t := fun t => congrFun hVe t
  have hsim : Sim s n d.S d.L d.ar d.ca V V W (-1) :=
    ⟨hn, hs, fun t x _ => by rw [hV, hdS], fun t x _ => by rw [← hVt], fun t => by rw [hW, hdL]; rfl, by rw [har]; rfl, ok.hca, fun k g e => (by rw [hdL] at e; cases e), fun x hx => ok.sb x (by omega), fun k g e => (by rw [hdL] at e; cases e)⟩
  have hVb : ∀ t, t < s → isB (V t) := fun t ht => by rw [← hVt]; exact ok.bytes t ht
  obtain ⟨g0, e0⟩ := genIs_ex (V 0) 0
  obtain ⟨g1, e1⟩ := genIs_ex (V 1) 1
  obtain ⟨gen, hgen⟩ : ∃ gen, gen = max g0 g1 := ⟨_, rfl⟩
  have hg1 := e0.le
  have hg2 := e1.le
  have cN := newest_at (P := P) (G := Gf fr) hP hn ⟨by omega, hs.2⟩ ok ho (by rw [hVt]; exact e0) (by rw [hVt]; exact e1) hgen
  have rN := rnewest_fn (P := P) (G := Gf fr) (s := s) (S := V) (L := V) (W := W) (c := -1) hP (by omega) (hVb 0 (by omega)) (hVb 1 (by omega)) e0 e1 hgen
  by_cases hgz : gen = 0
  · exact .inl ⟨open_none hP hn ⟨by omega, hs.2⟩ hgz cN, ropen_none hP (by omega) (by omega) hgz rN⟩
  right
  obtain ⟨h, hh⟩ : ∃ h, h = (s - 2) / 2 := ⟨_, rfl⟩
  obtain ⟨fi, hfi⟩ : ∃ fi, fi = 2 + gen % 2 * h := ⟨_, rfl⟩
  obtain ⟨en, hen⟩ : ∃ en, en = fi + h := ⟨_, rfl⟩
  have hr : Reg s h gen fi en := ⟨⟨by omega, hs.2⟩, hh, by omega, hfi, hen⟩
  have hle := hr.le
  obtain ⟨⟨K, gs, last⟩, hR0⟩ : ∃ r, recP V en (en - fi + 1) fi 0 (fun _ => (0, fun _ => 0)) = r := ⟨_, rfl⟩
  have hR0' : recP (fun t => secV d.S d.L t) en (en - fi + 1) fi 0 (fun _ => (0, fun _ => 0)) = (K, gs, last) := by rw [hVe]; exact hR0
  have hrl := recP_le _ hR0
  by_cases hK : K = 0
  · exact .inl ⟨open_log hP hn ⟨by omega, hs.2⟩ (by omega) hK cN (records_at hP hfr hn hr ok ho hR0'), ropen_log hP hr (by omega) (by omega) hsim hR0 hK rN⟩
  right
  have hlast : last ≤ en := hrl.2.2.1 hle.2.1
  have hbytes := recP_isB (fun i hi => hVb i (by omega)) _ hR0 (fun j hj => absurd hj (Nat.not_lt_zero _))
  have hK6 : K ≤ 1000000 := by
    have := recP_count _ hR0
    omega
  obtain ⟨on, d1, hw, ok1, hc⟩ := open_read hP hfr hn hr (by omega) ok ho (by rw [hVt]; exact e0) (by rw [hVt]; exact e1) hgen (by omega) hlast hK6 hR0'
  have arw := (wipeD_S hw).2
  have hSw := (wipeD_S hw).1
  have hwp := Prod.mk.inj hw
  rcases hc with ⟨e, _⟩ | ⟨m, e, hm, o1, _⟩ | ⟨m, d2, e, ok2, hd2, cO⟩
  · obtain ⟨m', d', h'⟩ := wipeD_run (a := last) (b := en) har
    rw [hw, e] at h'
    cases h'
  · have := o1.1
    rw [arw, har] at this
    cases this
  subst e
  -- what is left of the disk
  have hL1 : ∀ k, d1.L k = none ∨ ((last : Int) ≤ k ∧ k < (en : Int) ∧ d1.L k = some (fun _ => 0)) := fun k => by
    rcases wipeD_fr hw k with q | q
    · left; rw [q]; exact hdL k
    · exact .inr q
  have hz1 : ∀ t, last ≤ t → t < en → ∀ y, y < 64 → secV d1.S d1.L t y = 0 := fun t a b y hy => wipeD_done hw t a b y hy
  have hlo1 : ∀ t, t < last → ∀ y, secV d1.S d1.L t y = V t y := fun t ht y => by
    rcases hL1 (t : Int) with q | ⟨q, _⟩
    · rw [DskLaw.secV_none' q, hSw, hdS, hV]
    · omega
  have hS2e : ∀ t y, y < 64 → secV d2.S d2.L t y = secV d1.S d1.L t y := fun t y hy => by
    rcases hd2 with ⟨_, q⟩ | ⟨_, _, q⟩
    · rw [q]
    · rw [q, secV_eq (L := (flushD d1).L) (fun _ => rfl), flushD_S _ _ _ hy]
  have hL2n : ∀ k, d2.L k = none := fun k => by
    rcases hd2 with ⟨q0, q⟩ | ⟨_, _, q⟩
    · rw [q]
      have h1 := (wipeP_many (V := fun i => secV d.S d.L i) (ar := d.ar) (en - last) last 0 d.L d.ca m hwp.1).2 q0
      have h2 : d1.L = d.L := by rw [← hwp.2]; exact h1
      rw [h2]; exact hdL k
    · rw [q]; rfl
  have har2 : d2.ar = false := by
    rcases hd2 with ⟨_, q⟩ | ⟨_, _, q⟩
    · rw [q, arw]; exact har
    · rw [q]; show d1.ar = false; rw [arw]; exact har
  have ho2 : ¬ offD d2 := fun q => by have := q.1; rw [har2] at this; cases this
  have hV2 : ∀ t, t < last → ∀ y, y < 64 → secV d2.S d2.L t y = V t y := fun t ht y hy => by rw [hS2e t y hy]; exact hlo1 t ht y
  have hZ2 : ∀ t, last ≤ t → t < en → ∀ y, y < 64 → secV d2.S d2.L t y = 0 := fun t a b y hy => by rw [hS2e t y hy]; exact hz1 t a b y hy
  -- opened once more
  obtain ⟨gs2, hR2, hgs2⟩ := recP_alike (V' := fun t => secV d2.S d2.L t) (g2 := fun _ => (0, fun _ => 0)) _ hR0 (fun t a b y hy => hV2 t b y hy) (fun q => hZ2 last (Nat.le_refl _) q 63 (by omega)) (fun j hj => absurd hj (Nat.not_lt_zero _))
  have e0' : GenIs (secV d2.S d2.L 0) 0 g0 := genIs_congr (fun y hy => (hV2 0 (by omega) y hy).symm) e0
  have e1' : GenIs (secV d2.S d2.L 1) 1 g1 := genIs_congr (fun y hy => (hV2 1 (by omega) y hy).symm) e1
  obtain ⟨on', d1', hw', ok1', hc'⟩ := open_read hP hfr hn hr (by omega) ok2 ho2 e0' e1' hgen (by omega) hlast hK6 hR2
  have hwz := wipeP_zero (V := fun i => secV d2.S d2.L i) (en - last) last 0 d2.L d2.ca (fun t a b y hy => hZ2 t a (by omega) y hy)
  have hw2 : wipeD d2 last en = (some 0, ⟨d2.S, d2.L, d2.ar, d2.ca⟩) := by
    unfold wipeD
    rw [har2]
    simp only []
    rw [hwz]
  rw [hw2] at hw'
  obtain ⟨hon', hd1'⟩ := Prod.mk.inj hw'
  rcases hc' with ⟨e, _⟩ | ⟨m', e, hm', _⟩ | ⟨m', d3, e, ok3, hd3, cO2⟩
  · rw [e] at hon'; cases hon'
  · rw [e] at hon'; cases hon'; omega
  have hd3e : d3 = d1' := by
    rcases hd3 with ⟨_, q⟩ | ⟨q, _⟩
    · exact q
    · rw [e] at hon'; cases hon'; omega
  have hd3S : d3.S = d2.S := by rw [hd3e, ← hd1']
  have hd3L : d3.L = d2.L := by rw [hd3e, ← hd1']
  obtain ⟨kc, rfl⟩ : ∃ kc, K = kc + 1 := ⟨K - 1, by omega⟩
  rw [OpH, show kc + 1 - 1 = kc by omega] at cO cO2
  obtain ⟨L2, hL2⟩ : ∃ L2 : Nat → Nat → Int, ∀ t x, L2 t x = secV d2.S d2.L t x := ⟨_, fun _ _ => rfl⟩
  obtain ⟨b, hb⟩ : ∃ b : Nat → Int, ∀ x, b x = (gs 0).2 x := ⟨_, fun _ => rfl⟩
  obtain ⟨nl, hnl⟩ : ∃ nl : Nat → Nat, ∀ i, nl i = (gs (1 + i)).1 := ⟨_, fun _ => rfl⟩
  obtain ⟨nf, hnf⟩ : ∃ nf : Nat → Nat → Int, ∀ i x, nf i x = (gs (1 + i)).2 x := ⟨_, fun _ _ => rfl⟩
  obtain ⟨L1', hL1'⟩ : ∃ L1' : Nat → Nat → Int, ∀ t x, L1' t x = secV d.S d1.L t x := ⟨_, fun _ _ => rfl⟩
  obtain ⟨W1, hW1⟩ : ∃ W1 : Nat → Bool, ∀ t : Nat, W1 t = (d1.L (t : Int)).isSome := ⟨_, fun _ => rfl⟩
  have hwr : wipeP (fun i => secV d.S d.L i) d.ar (en - last) last 0 d.L d.ca = (some m, d1.L, d1.ca) := by
    have h1 : (wipeP (fun i => secV d.S d.L i) d.ar (en - last) last 0 d.L d.ca).1 = some m := hwp.1
    have h2 : (wipeP (fun i => secV d.S d.L i) d.ar (en - last) last 0 d.L d.ca).2.1 = d1.L := by rw [← hwp.2]
    have h3 : (wipeP (fun i => secV d.S d.L i) d.ar (en - last) last 0 d.L d.ca).2.2 = d1.ca := by rw [← hwp.2]
    exact Prod.ext h1 (Prod.ext h2 h3)
  have hcm : (-1 : Int) = if d.ar then d1.ca else -1 := by rw [har]; rfl
  obtain ⟨S2, W2, cR⟩ : ∃ (S2 : Nat → Nat → Int) (W2 : Nat → Bool), FnTr P (Gf fr) 8 [RD s V V W (-1)] [] 0 (Gives (.tup [RLg s S2 L2 W2 (-1) gen last (gs 0).1 b kc nl nf kc false, .lit .i64 0]) [] 5000) := by
    rcases hd2 with ⟨q0, q⟩ | ⟨q0, q1, q⟩
    · rw [q0] at hwr
      exact ⟨V, W1, ropen_ok0 hP hr (by omega) (by omega) hsim hR0 (by omega) hwr (fun t x => by rw [hL2, q, hSw]) hW1 hcm (by omega) rfl hb hnl hnf rN⟩
    · refine ⟨L2, fun _ => false, ropen_okF (L' := L1') (W' := W1) (c' := -1) (c2 := -1) hP hr (by omega) (by omega) hsim hR0 (by omega) q0 hwr hL1' hW1 hcm (by omega) rfl hb hnl hnf (by omega) (by omega) ?_ ?_ (fun _ => rfl) (by rw [if_neg (by omega)]) rN⟩
      · intro t x _ hx
        rw [hL2, hS2e t x hx, hL1', hSw]
      · intro t x _ hx
        rw [hL2, hS2e t x hx, hL1', hSw]
  obtain ⟨im, him⟩ : ∃ im : Nat → Int, ∀ x, im x = secV d2.S d2.L (x / 64) (x % 64) := ⟨_, fun _ => rfl⟩
  have hg0b := hbytes 0 (by omega)
  have hgs0 := hgs2 0 (by omega)
  have key : ∀ i, i < kc → (gs (1 + i)).1 ≤ 65536 ∧ ∀ y, y < (gs (1 + i)).1 → 0 ≤ (gs (1 + i)).2 y ∧ (gs (1 + i)).2 y ≤ 255 := fun i hi => hbytes (1 + i) (by omega)
  refine ⟨d2, d3, gen, last, (gs 0).1, (gs2 0).1, kc, (gs 0).2, (gs2 0).2, b, fun i => (gs i).1, fun i => (gs2 i).1, nl, fun i => (gs i).2, fun i => (gs2 i).2, nf, S2, L2, W2, -1, im, cO, cR, image_fn hP hn hs.2 him, refimage_fn hP hn hs.2 (fun x => by rw [him, hL2]), waits_none hP hL2n, cO2, ?_, ?_, ?_, ?_⟩
  · exact same27_fn (ml := nl) (mf := nf) hP hn hr hlast (by omega) rfl (fun x hx => by have := hg0b.2 x hx; omega) (fun x _ => (hb x).symm) (.inr ⟨1, rfl⟩) (by show kc + 1 = 1 + kc; omega) (by omega) (fun i hi => ⟨hnl i, by have := (key i hi).1; rw [hnl]; omega⟩) (fun i _ x => hnf i x) (fun i hi => ⟨rfl, fun x hx => by
      rw [hnl] at hx
      have := (key i hi).2 x hx
      rw [hnf]
      exact ⟨rfl, by omega, by omega⟩⟩)
  · refine same27_fn (ml := fun i => (gs2 (1 + i)).1) (mf := fun i => (gs2 (1 + i)).2) hP hn hr hlast (by rw [hgs0.1]; omega) hgs0.1 (fun x hx => ?_) (fun x hx => ?_) (.inr ⟨1, rfl⟩) (by show kc + 1 = 1 + kc; omega) (by omega) (fun i hi => ⟨rfl, ?_⟩) (fun i _ x => rfl) (fun i hi => ⟨?_, fun x hx => ?_⟩)
    · rw [hgs0.1] at hx
      rw [hgs0.2 x hx]
      have := hg0b.2 x hx; omega
    · rw [hgs0.1] at hx
      rw [hgs0.2 x hx, hb]
    · have h1 := (hgs2 (1 + i) (by omega)).1
      have h2 := (key i hi).1
      show (gs2 (1 + i)).1 ≤ 1000000
      omega
    · rw [hnl]; exact (hgs2 (1 + i) (by omega)).1
    · have h1 := hgs2 (1 + i) (by omega)
      have hx : x < (gs (1 + i)).1 := by rw [← h1.1]; exact hx
      have h2 := (key i hi).2 x hx
      show (gs2 (1 + i)).2 x = nf i x ∧ 0 ≤ (gs2 (1 + i)).2 x ∧ (gs2 (1 + i)).2 x < 256
      rw [h1.2 x hx, hnf]
      exact ⟨rfl, by omega, by omega⟩
  · exact image_fn hP hn hs.2 (fun x => by rw [him, hd3S, hd3L])
  · intro x hx
    rw [him]
    have := ok2.bytes (x / 64) (by omega) (x % 64) (by omega)
    omega
end
end Go.Proofs.YtnjjgipblimbfaaGreatDoor.Dsk
namespace Go.Proofs.YtnjjgipblimbfaaGreatDoor.Dsk
open Go.Eng
open Go.DskLaw (q64 secV isB needN pcs getP)
open Go.WalLaw
open Go.CrcLaw (four)
set_option maxRecDepth 100000
set_option maxHeartbeats 4000000
theorem lit_byte (l : List Int) (h : ∀ x ∈ l, 0 ≤ x ∧ x ≤ 255) (i : Nat) : 0 ≤ l.getD i 0 ∧ l.getD i 0 ≤ 255 := by
  rcases Nat.lt_or_ge i l.length with q | q
  · rw [List.getD_eq_getElem?_getD, List.getElem?_eq_getElem q]; exact h _ (List.getElem_mem q)
  · rw [List.getD_eq_getElem?_getD, List.getElem?_eq_none q]; decide
theorem lives27_facts {P : Program} (hP : P = Tryz.prog) {fr : Nat → Int} (hfr : ∀ i, fr i = ((four i).toNat : Int)) {z bb b1 b2 b3 : Nat → Int} {L0 : Int → Option (Nat → Int)} (hz : ∀ x, z x = 0) (hL : ∀ k, L0 k = none) (rb : ∀ i, 0 ≤ bb i ∧ bb i ≤ 255) (r1 : ∀ i, 0 ≤ b1 i ∧ b1 i ≤ 255) (r2 : ∀ i, 0 ≤ b2 i ∧ b2 i ≤ 255) (r3 : ∀ i, 0 ≤ b3 i ∧ b3 i ≤ 255) :
    ∃ (d1 d2 d3 d4 d5 d6 d7 d8 : Dk) (m0 m1 m2 m3 : Nat → Nat) (n0 n1 n2 n3 : Nat → Nat → Int) (gl nl : Nat → Nat) (gf nf : Nat → Nat → Int) (w0 : Nat) (wf : Nat → Int),
      FnTr P (Gf fr) 7 [.ptr 0 0] (DHd 640 ⟨z, L0, false, 0⟩) 3 (Gives (.tup [.nilp, .lit .i64 4]) (DHd 640 ⟨z, L0, false, 0⟩) 3) ∧
      FnTr P (Gf fr) 15 [.ptr 0 0, By 4 bb] (DHd 640 ⟨z, L0, false, 0⟩) 3 (Gives (.tup [.ptr 3 0, .lit .i64 0]) (LgH 640 d1 1 7 4 bb (.l 0) 0 0 false 0 m0 n0) 9000) ∧
      FnTr P (Gf fr) 16 [.ptr 3 0, By 3 b1] (LgH 640 d1 1 7 4 bb (.l 0) 0 0 false 0 m0 n0) 5 (Gives (.lit .i64 0) (LgQ 5 640 d2 1 8 4 bb (.l 0) 1 0 false 1 m1 n1) 3000) ∧
      FnTr P (Gf fr) 16 [.ptr 3 0, By 0 z] (LgH 640 d2 1 8 4 bb (.l 0) 1 0 false 1 m1 n1) 5 (Gives (.lit .i64 0) (LgQ 5 640 d3 1 9 4 bb (.l 0) 2 0 false 2 m2 n2) 3000) ∧
      FnTr P (Gf fr) 17 [.ptr 3 0] (LgH 640 d3 1 9 4 bb (.l 0) 2 0 false 2 m2 n2) 5 (Gives (.lit .i64 0) (LgH 640 d4 1 9 4 bb (.l 0) 2 2 false 2 m2 n2) 100) ∧
      FnTr P (Gf fr) 16 [.ptr 3 0, By 4 b2] (LgH 640 d4 1 9 4 bb (.l 0) 2 2 false 2 m2 n2) 5 (Gives (.lit .i64 0) (LgQ 5 640 d5 1 10 4 bb (.l 0) 3 2 false 3 m3 n3) 3000) ∧
      FnTr P (Gf fr) 18 [.ptr 0 0, .ro 2 (.s 0) (fun e => [.int .i64 (z e.val), .int .i64 (z e.val)])] (DHd 640 d5) 3 (Gives (.tup []) (DHd 640 d6) 3) ∧
      FnTr P (Gf fr) 7 [.ptr 0 0] (DHd 640 d6) 3 (Gives (.tup [.ptr 3 0, .lit .i64 0]) (LgH 640 d7 1 9 w0 wf (.s 1) 2 2 false 3 gl gf) 100) ∧
      FnTr P (Gf fr) 19 [.ptr 3 0] (LgH 640 d7 1 9 w0 wf (.s 1) 2 2 false 3 gl gf) 5 (Gives (NtS 2 nl nf) (LgH 640 d7 1 9 w0 wf (.s 1) 2 2 false 3 gl gf) 6) ∧
      (nl 0 = 3 ∧ nl 1 = 0 ∧ ∀ x, x < 3 → nf 0 x = b1 x) ∧
      FnTr P (Gf fr) 16 [.ptr 3 0, By 59 z] (LgH 640 d7 1 9 w0 wf (.s 1) 2 2 false 3 gl gf) 5 (Gives (.lit .i64 2) (LgH 640 d7 1 9 w0 wf (.s 1) 2 2 false 3 gl gf) 3000) ∧
      FnTr P (Gf fr) 20 [.ptr 3 0, By 3 b3] (LgH 640 d7 1 9 w0 wf (.s 1) 2 2 false 3 gl gf) 5 (Gives (.lit .i64 0) (LgQ 5 640 d8 2 3 3 b3 (.l 0) 0 0 false 0 m0 n0) 5000) := by
  obtain ⟨m0, hm0⟩ : ∃ m0 : Nat → Nat, m0 = fun _ => 0 := ⟨_, rfl⟩
  obtain ⟨n0, hn0⟩ : ∃ n0 : Nat → Nat → Int, n0 = fun _ _ => 0 := ⟨_, rfl⟩
  obtain ⟨m1, hm1⟩ : ∃ m1 : Nat → Nat, ∀ i, m1 i = if i < 0 then m0 i else 3 := ⟨_, fun _ => rfl⟩
  obtain ⟨n1, hn1⟩ : ∃ n1 : Nat → Nat → Int, ∀ i x, n1 i x = if i < 0 then n0 i x else b1 x := ⟨_, fun _ _ => rfl⟩
  obtain ⟨m2, hm2⟩ : ∃ m2 : Nat → Nat, ∀ i, m2 i = if i < 1 then m1 i else 0 := ⟨_, fun _ => rfl⟩
  obtain ⟨n2, hn2⟩ : ∃ n2 : Nat → Nat → Int, ∀ i x, n2 i x = if i < 1 then n1 i x else z x := ⟨_, fun _ _ => rfl⟩
  obtain ⟨m3, hm3⟩ : ∃ m3 : Nat → Nat, ∀ i, m3 i = if i < 2 then m2 i else 4 := ⟨_, fun _ => rfl⟩
  obtain ⟨n3, hn3⟩ : ∃ n3 : Nat → Nat → Int, ∀ i x, n3 i x = if i < 2 then n2 i x else b2 x := ⟨_, fun _ _ => rfl⟩
  have rz : ∀ i, 0 ≤ z i ∧ z i ≤ 255 := fun i => by rw [hz]; decide
  have reg1 : Reg 10 4 1 6 10 := ⟨by omega, rfl, by omega, rfl, rfl⟩
  have reg2 : Reg 10 4 2 2 6 := ⟨by omega, rfl, by omega, rfl, rfl⟩
  have ok0 : DkOk 10 ⟨z, L0, false, 0⟩ := ⟨(by show (0 : Int) ≤ 0 ∧ (0 : Int) ≤ _; decide), fun k g e => (by have e : L0 k = some g := e; rw [hL] at e; cases e), fun x _ => rz x, fun k g e => (by have e : L0 k = some g := e; rw [hL] at e; cases e)⟩
  have off0 : ∀ d : Dk, d.ar = false → ¬ offD d := fun d h q => by have := q.1; rw [h] at this; cases this
  have hd0 : HdI ⟨z, L0, false, 0⟩ 0 := ⟨fun x _ => (by show z _ = _; rw [hz, headB_zero]), fun x _ => (by show z _ = _; rw [hz]; exact (headB_zero x).symm), hL 0, hL 1⟩
  obtain ⟨g0, g1, e0, e1, eg⟩ := hd0.gens (by omega)
  have cO := open_none (P := P) (G := Gf fr) (N := 640) (s := 10) hP rfl (by omega) rfl (newest_at hP rfl (by omega) ok0 (off0 _ rfl) e0 e1 eg)
  obtain ⟨d1, ar1, _, st1, cB⟩ := begin_st hP hfr (N := 640) (d := ⟨z, L0, false, 0⟩) rfl reg1 (bn := 4) (b := bb) (fun i _ => rb i) (by omega) (by decide) hz hL rfl rfl m0 n0
  have a1 : atL 6 4 m0 0 = 7 := by show 6 + needN 8 = 7; decide
  obtain ⟨d2, ar2, a2, st2, cA⟩ := append_run hP hfr (N := 640) rfl st1 (fun i _ => r1 i) (by omega) hm1 hn1 ar1 (by rw [a1]; decide)
  have a2 : atL 6 4 m1 1 = 8 := a2.trans (by rw [a1]; decide)
  obtain ⟨d3, ar3, a3, st3, cA2⟩ := append_run hP hfr (N := 640) rfl st2 (n := 0) (f := z) (fun i _ => rz i) (by omega) hm2 hn2 ar2 (by rw [a2]; decide)
  have a3 : atL 6 4 m2 2 = 9 := a3.trans (by rw [a2]; decide)
  obtain ⟨d4, ar4, _, st4, cS⟩ := sync_st (P := P) (G := Gf fr) (N := 640) hP rfl st3 (off0 _ ar3)
  obtain ⟨d5, ar5, a5, st5, cA3⟩ := append_run hP hfr (N := 640) rfl st4 (n := 4) (f := b2) (fun i _ => r2 i) (by omega) hm3 hn3 (ar4.trans ar3) (by rw [a3]; decide)
  have a5 : atL 6 4 m3 3 = 10 := a5.trans (by rw [a3]; decide)
  have ok6 : DkOk 10 (crashD d5 z z 0) := st5.ok.crash
  have i6 : ImgD (crashD d5 z z 0) 1 6 10 3 (cons0 4 m3) (cons0 bb n3) := st5.log.crash0 st5.hd (by omega)
  have cC := crash_fn (P := P) (G := Gf fr) (N := 640) (s := 10) (n := 0) (S := d5.S) (L := d5.L) (S' := (crashD d5 z z 0).S) (L' := (crashD d5 z z 0).L) (ar := d5.ar) (ca := d5.ca) (ks := z) (kb := z) hP rfl (by omega) (by omega) st5.ok.key (fun x _ => rfl) (fun _ => rfl)
  obtain ⟨d7, gs, last, ok7, i7, same7, hlast, ar7, cO7⟩ := open_run hP hfr (N := 640) rfl reg1 (by omega) ok6 (fun _ => rfl) i6 rfl
  have hm30 : m3 0 = 3 := by rw [hm3, if_pos (by omega), hm2, if_pos (by omega), hm1, if_neg (by omega)]
  have hm31 : m3 1 = 0 := by rw [hm3, if_pos (by omega), hm2, if_neg (by omega)]
  have el : last = 9 := by
    rw [hlast]
    show stN 6 (cons0 4 m3) 2 + needN (cons0 4 m3 2 + 4) = 9
    show 6 + needN 8 + needN (m3 0 + 4) + needN (m3 1 + 4) = 9
    rw [hm30, hm31]
    decide
  rw [el] at cO7
  obtain ⟨nl, hnl⟩ : ∃ nl : Nat → Nat, ∀ i, nl i = (gs (1 + i)).1 := ⟨_, fun _ => rfl⟩
  obtain ⟨nf, hnf⟩ : ∃ nf : Nat → Nat → Int, ∀ i x, nf i x = (gs (1 + i)).2 x := ⟨_, fun _ _ => rfl⟩
  have s1 := same7 1 (by omega)
  have s2 := same7 2 (by omega)
  have s10 : (gs 1).1 = 3 := s1.1.trans hm30
  have s20 : (gs 2).1 = 0 := s2.1.trans hm31
  have cN := notes_fn (P := P) (G := Gf fr) (N := 640) (gen := 1) (at1 := 9) (nb := (gs 0).1) (b := (gs 0).2) (su := 2) (d := d7) (dead := false) (o := .s 1) (c := 2) (cn := 3) (nl := fun i => (gs i).1) (nf := fun i => (gs i).2) (ml := nl) (mf := nf) hP (.inr ⟨1, rfl⟩) rfl (by omega) (fun i hi => ⟨hnl i, by
    rw [hnl]
    rcases (show i = 0 ∨ i = 1 by omega) with rfl | rfl
    · rw [s10]; omega
    · rw [s20]; omega⟩) (fun i _ x => hnf i x)
  have cF := append_full (P := P) (G := Gf fr) (f := z) (n := 59) hP rfl (fits_fn (P := P) (G := Gf fr) (N := 640) (d := d7) (gen := 1) (at1 := 9) (nb := (gs 0).1) (b := (gs 0).2) (o := .s 1) (c := 2) (su := 2) (dead := false) (cn := 3) (nl := fun i => (gs i).1) (nf := fun i => (gs i).2) (n := (59 : Nat)) (nn := 59) (m := 2) (r := false) hP rfl reg1 (by omega) rfl (by omega) (by decide) ⟨fun h => (by cases h), fun h => absurd h (by decide)⟩)
  obtain ⟨d8, at', e, hl⟩ := layIs_ex d7 2 2 6 7 (sealF 3 b3)
  have he : e = 0 := hl.run (nb := 3) ar7
  rcases lay_fn (N := 640) hP hfr rfl reg2 (nb := 3) (fun i _ => r3 i) rfl (by omega) (by decide) ok7 hl with ⟨e6, _⟩ | ⟨_, _, cL⟩
  · omega
  rw [show 2 + needN (3 + 4) = 3 by decide] at cL
  have cW := switch_ok (P := P) (N := 640) (s := 10) (h := 4) (gen := 1) (at1 := 9) (nb := (gs 0).1) (b := (gs 0).2) (o := .s 1) (c := 2) (su := 2) (cn := 3) (dead := false) (nl := fun i => (gs i).1) (nf := fun i => (gs i).2) (at2 := 3) (ml := m0) (mf := n0) hP rfl rfl (by omega) rfl (by omega) (by decide) (by omega) rfl cL
  rw [a1] at cB cA
  rw [a2] at cA cA2
  rw [a3] at cA2 cS cA3
  rw [a5] at cA3
  exact ⟨d1, d2, d3, d4, d5, _, d7, d8, m0, m1, m2, m3, n0, n1, n2, n3, _, nl, _, nf, _, _, cO, cB, cA, cA2, cS, cA3, cC, cO7, cN, ⟨by rw [hnl]; exact s10, by rw [hnl]; exact s20, fun x hx => by
    rw [hnf, s1.2 x (by rw [hm30.symm] at hx; exact hx)]
    show n3 0 x = _
    rw [hn3, if_pos (by omega), hn2, if_pos (by omega), hn1, if_neg (by omega)]⟩, cF, cW⟩
end Go.Proofs.YtnjjgipblimbfaaGreatDoor.Dsk
namespace Go.Proofs.YtnjjgipblimbfaaGreatDoor.Dsk
open Go.Eng
open Go.DskLaw (q64 secV isB needN pcs getP)
open Go.WalLaw
open Go.CrcLaw (four)
set_option maxRecDepth 100000
set_option maxHeartbeats 4000000
theorem three_bytes {n : Nat} {f : Nat → Int} {a b c : Nat} (hn : n = 3) (h0 : f 0 = (a : Int)) (h1 : f 1 = (b : Int)) (h2 : f 2 = (c : Int)) : Ar.real.eqL (Ar.real.bytes n f) [UInt8.ofNat a, UInt8.ofNat b, UInt8.ofNat c] = true := by
  subst hn
  show ([UInt8.ofNat (f 0).toNat, UInt8.ofNat (f 1).toNat, UInt8.ofNat (f 2).toNat] == [UInt8.ofNat a, UInt8.ofNat b, UInt8.ofNat c]) = true
  rw [h0, h1, h2]
  exact beq_self_eq_true _
theorem lives27_fn {P : Program} (hP : P = Tryz.prog) {fr : Nat → Int} (hfr : ∀ i, fr i = ((four i).toNat : Int)) : FnTr P (Gf fr) 4 [] [] 0 (Gives (.bl true) [] 1000) := by
  obtain ⟨z, hz⟩ : ∃ z : Nat → Int, ∀ x, z x = 0 := ⟨fun _ => 0, fun _ => rfl⟩
  obtain ⟨L0, hL0⟩ : ∃ L0 : Int → Option (Nat → Int), ∀ k, L0 k = none := ⟨fun _ => none, fun _ => rfl⟩
  obtain ⟨bb, hbb⟩ : ∃ bb : Nat → Int, ∀ i, bb i = ([98, 97, 115, 101] : List Int).getD i 0 := ⟨_, fun _ => rfl⟩
  obtain ⟨b1, hb1⟩ : ∃ b1 : Nat → Int, ∀ i, b1 i = ([111, 110, 101] : List Int).getD i 0 := ⟨_, fun _ => rfl⟩
  obtain ⟨b2, hb2⟩ : ∃ b2 : Nat → Int, ∀ i, b2 i = ([108, 111, 115, 116] : List Int).getD i 0 := ⟨_, fun _ => rfl⟩
  obtain ⟨b3, hb3⟩ : ∃ b3 : Nat → Int, ∀ i, b3 i = ([110, 101, 119] : List Int).getD i 0 := ⟨_, fun _ => rfl⟩
  obtain ⟨d1, d2, d3, d4, d5, d6, d7, d8, m0, m1, m2, m3, n0, n1, n2, n3, gl, nl, gf, nf, w0, wf, cO, cB, cA, cA2, cS, cA3, cC, cO7, cN, hN, cF, cW⟩ := lives27_facts (P := P) hP hfr (z := z) (bb := bb) (b1 := b1) (b2 := b2) (b3 := b3) hz hL0 (fun i => (by rw [hbb]; exact lit_byte _ (by decide) i)) (fun i => (by rw [hb1]; exact lit_byte _ (by decide) i)) (fun i => (by rw [hb2]; exact lit_byte _ (by decide) i)) (fun i => (by rw [hb3]; exact lit_byte _ (by decide) i))
  have c1 := new_ok (P := P) (G := Gf fr) (n := 10) (s := 10) (N := 640) (S := z) (L := L0) hP rfl (by omega) rfl hz hL0
  have reg2 : Reg 10 4 2 2 6 := ⟨by omega, rfl, by omega, rfl, rfl⟩
  have e1 := base_fn (P := P) (G := Gf fr) (N := 640) (gen := 2) (at1 := 3) (nb := 3) (b := b3) (o := .l 0) (c := 0) (su := 0) (cn := 0) (d := d8) (dead := false) (nl := m0) (nf := n0) hP (by omega)
  have e2 := notes_fn (P := P) (G := Gf fr) (N := 640) (gen := 2) (at1 := 3) (nb := 3) (b := b3) (o := .l 0) (c := 0) (su := 0) (cn := 0) (d := d8) (dead := false) (nl := m0) (nf := n0) (ml := m0) (mf := n0) hP (.inl rfl) rfl (by omega) (fun i hi => by omega) (fun i hi => by omega)
  have e3 := generation_fn (P := P) (G := Gf fr) (N := 640) (gen := 2) (at1 := 3) (nb := 3) (b := b3) (o := .l 0) (c := 0) (su := 0) (cn := 0) (d := d8) (dead := false) (nl := m0) (nf := n0) hP
  have e4 := room_fn (P := P) (G := Gf fr) (N := 640) (gen := 2) (at1 := 3) (nb := 3) (b := b3) (o := .l 0) (c := 0) (su := 0) (cn := 0) (d := d8) (dead := false) (nl := m0) (nf := n0) hP rfl reg2 (by omega)
  have e5 := sureof_fn (P := P) (G := Gf fr) (N := 640) (gen := 2) (at1 := 3) (nb := 3) (b := b3) (o := .l 0) (c := 0) (su := 0) (cn := 0) (d := d8) (dead := false) (nl := m0) (nf := n0) hP
  have e6 := fits_fn (P := P) (G := Gf fr) (N := 640) (gen := 2) (at1 := 3) (nb := 3) (b := b3) (o := .l 0) (c := 0) (su := 0) (cn := 0) (d := d8) (dead := false) (nl := m0) (nf := n0) (n := 58) (nn := 58) (m := 1) (r := true) hP rfl reg2 (by omega) rfl (by omega) (by decide) ⟨fun _ => by decide, fun _ => rfl⟩
  have e7 := sync_nil (P := P) (G := Gf fr) hP
  have hT : T.Ok P := hP ▸ T_ok
  refine FnTr.intro (fn := Tryz.f4) (c := bodyOf Tryz.f4) (by rw [hP]; rfl) rfl rfl hT ?_
  generalize hA : Ar.real = A
  generalize hK : Gives _ _ _ = K
  cbv
  refine CS.le hA (c1) [] rfl rfl rfl ?_ ?_ ?_
  iterate 2 ((try cbv) <;> (repeat' (first | exact trivial | exact rfl | apply And.intro | exact fun _ => rfl | (intro _ hle; first | refine chunk_le hA rfl hle rfl ?_ | refine cat_le hA ?_ | refine upd_le hA ?_ | (try cbv)))) <;> (try (subst hA; (try simp only [zn] at *); (try (simp only [Ar.real, NV.val, zo, zt])); first | done | omega | decide | exact zi | (refine ⟨?_, ?_⟩ <;> first | omega | decide | exact zi))))
  cbv
  refine CS.le hA (cO) [(1, 0), (2, 1), (3, 2)] rfl rfl rfl ?_ ?_ ?_
  iterate 2 ((try cbv) <;> (repeat' (first | exact trivial | exact rfl | apply And.intro | exact fun _ => rfl | (intro _ hle; first | refine chunk_le hA rfl hle rfl ?_ | refine cat_le hA ?_ | refine upd_le hA ?_ | (try cbv)))) <;> (try (subst hA; (try simp only [zn] at *); (try (simp only [Ar.real, NV.val, zo, zt])); first | done | omega | decide | exact zi | (refine ⟨?_, ?_⟩ <;> first | omega | decide | exact zi))))
  cbv
  refine CS.frzA hA (by (try cbv) <;> (repeat' (first | exact trivial | exact rfl | apply And.intro | exact fun _ => rfl | (intro _ hle; first | refine chunk_le hA rfl hle rfl ?_ | refine cat_le hA ?_ | refine upd_le hA ?_ | (try cbv)))); all_goals (subst hA; (try simp only [zn] at *); (try (simp only [Ar.real, NV.val, zo, zt])); first | done | omega | decide | exact zi | (refine ⟨?_, ?_⟩ <;> first | omega | decide | exact zi))) ?_
  cbv
  refine CS.le hA (cB) [(1, 0), (2, 1), (3, 2)] rfl rfl rfl ?_ ?_ ?_
  iterate 2 ((try cbv) <;> (repeat' (first | exact trivial | exact rfl | apply And.intro | exact fun _ => rfl | (intro _ hle; first | refine chunk_le hA rfl hle rfl ?_ | refine cat_le hA ?_ | refine upd_le hA ?_ | (try cbv)))) <;> (try (subst hA; (try simp only [zn] at *); (try (simp only [Ar.real, NV.val, zo, zt])); first | done | omega | decide | exact zi | (refine ⟨?_, ?_⟩ <;> first | omega | decide | exact zi))) <;> (try first | exact (hbb _)))
  cbv
  refine CS.frzA hA (by (try cbv) <;> (repeat' (first | exact trivial | exact rfl | apply And.intro | exact fun _ => rfl | (intro _ hle; first | refine chunk_le hA rfl hle rfl ?_ | refine cat_le hA ?_ | refine upd_le hA ?_ | (try cbv)))); all_goals (subst hA; (try simp only [zn] at *); (try (simp only [Ar.real, NV.val, zo, zt])); first | done | omega | decide | exact zi | (refine ⟨?_, ?_⟩ <;> first | omega | decide | exact zi))) ?_
  cbv
  refine CS.le hA (cA) [(1, 0), (2, 1), (3, 2), (30, 3), (31, 4)] rfl rfl rfl ?_ ?_ ?_
  iterate 2 ((try cbv) <;> (repeat' (first | exact trivial | exact rfl | apply And.intro | exact fun _ => rfl | (intro _ hle; first | refine chunk_le hA rfl hle rfl ?_ | refine cat_le hA ?_ | refine upd_le hA ?_ | (try cbv)))) <;> (try (subst hA; (try simp only [zn] at *); (try (simp only [Ar.real, NV.val, zo, zt])); first | done | omega | decide | exact zi | (refine ⟨?_, ?_⟩ <;> first | omega | decide | exact zi))) <;> (try first | exact (hb1 _)))
  cbv
  refine CS.le hA (cA2) [(1, 0), (2, 1), (3, 2), (30, 3), (9046, 4)] rfl rfl rfl ?_ ?_ ?_
  iterate 2 ((try cbv) <;> (repeat' (first | exact trivial | exact rfl | apply And.intro | exact fun _ => rfl | (intro _ hle; first | refine chunk_le hA rfl hle rfl ?_ | refine cat_le hA ?_ | refine upd_le hA ?_ | (try cbv)))) <;> (try (subst hA; (try simp only [zn] at *); (try (simp only [Ar.real, NV.val, zo, zt])); first | done | omega | decide | exact zi | (refine ⟨?_, ?_⟩ <;> first | omega | decide | exact zi))))
  cbv
  refine CS.le hA (cS) [(1, 0), (2, 1), (3, 2), (30, 3), (12047, 4)] rfl rfl rfl ?_ ?_ ?_
  iterate 2 ((try cbv) <;> (repeat' (first | exact trivial | exact rfl | apply And.intro | exact fun _ => rfl | (intro _ hle; first | refine chunk_le hA rfl hle rfl ?_ | refine cat_le hA ?_ | refine upd_le hA ?_ | (try cbv)))) <;> (try (subst hA; (try simp only [zn] at *); (try (simp only [Ar.real, NV.val, zo, zt])); first | done | omega | decide | exact zi | (refine ⟨?_, ?_⟩ <;> first | omega | decide | exact zi))))
  cbv
  refine CS.frzA hA (by (try cbv) <;> (repeat' (first | exact trivial | exact rfl | apply And.intro | exact fun _ => rfl | (intro _ hle; first | refine chunk_le hA rfl hle rfl ?_ | refine cat_le hA ?_ | refine upd_le hA ?_ | (try cbv)))); all_goals (subst hA; (try simp only [zn] at *); (try (simp only [Ar.real, NV.val, zo, zt])); first | done | omega | decide | exact zi | (refine ⟨?_, ?_⟩ <;> first | omega | decide | exact zi))) ?_
  cbv
  refine CS.le hA (cA3) [(1, 0), (2, 1), (3, 2), (30, 3), (12047, 4)] rfl rfl rfl ?_ ?_ ?_
  iterate 2 ((try cbv) <;> (repeat' (first | exact trivial | exact rfl | apply And.intro | exact fun _ => rfl | (intro _ hle; first | refine chunk_le hA rfl hle rfl ?_ | refine cat_le hA ?_ | refine upd_le hA ?_ | (try cbv)))) <;> (try (subst hA; (try simp only [zn] at *); (try (simp only [Ar.real, NV.val, zo, zt])); first | done | omega | decide | exact zi | (refine ⟨?_, ?_⟩ <;> first | omega | decide | exact zi))) <;> (try first | exact (hb2 _)))
  cbv
  refine CS.le hA (cC) [(1, 0), (2, 1), (3, 2)] rfl rfl rfl ?_ ?_ ?_
  iterate 2 ((try cbv) <;> (repeat' (first | exact trivial | exact rfl | apply And.intro | exact fun _ => rfl | (intro _ hle; first | refine chunk_le hA rfl hle rfl ?_ | refine cat_le hA ?_ | refine upd_le hA ?_ | (try cbv)))) <;> (try (subst hA; (try simp only [zn] at *); (try (simp only [Ar.real, NV.val, zo, zt])); first | done | omega | decide | exact zi | (refine ⟨?_, ?_⟩ <;> first | omega | decide | exact zi))))
  cbv
  refine CS.le hA (cO7) [(1, 0), (2, 1), (3, 2)] rfl rfl rfl ?_ ?_ ?_
  iterate 2 ((try cbv) <;> (repeat' (first | exact trivial | exact rfl | apply And.intro | exact fun _ => rfl | (intro _ hle; first | refine chunk_le hA rfl hle rfl ?_ | refine cat_le hA ?_ | refine upd_le hA ?_ | (try cbv)))) <;> (try (subst hA; (try simp only [zn] at *); (try (simp only [Ar.real, NV.val, zo, zt])); first | done | omega | decide | exact zi | (refine ⟨?_, ?_⟩ <;> first | omega | decide | exact zi))))
  cbv
  refine CS.ren 30 [(18158, 30), (18159, 31)] rfl rfl ?_
  cbv
  refine CS.leR hA (cN) (.ro 1 (.l 2) (fun e => [.ro 1 (.s (nl e.val)) (fun x => [.int .u8 (nf e.val x.val)])])) [(1, 0), (2, 1), (3, 2), (30, 3), (31, 4)] rfl rfl rfl ?_ ?_ ?_ ?_
  iterate 3 ((try cbv) <;> (repeat' (first | exact trivial | exact rfl | apply And.intro | exact fun _ => rfl | (intro _ hle; first | refine chunk_le hA rfl hle rfl ?_ | refine cat_le hA ?_ | refine upd_le hA ?_ | (try cbv)))) <;> (try (subst hA; (try simp only [zn] at *); (try (simp only [Ar.real, NV.val, zo, zt])); first | done | omega | decide | exact zi | (refine ⟨?_, ?_⟩ <;> first | omega | decide | exact zi))))
  cbv
  refine ⟨⟨?_, ?_, ?_, ?_⟩, ?_⟩
  iterate 4 (subst hA; (try simp only [zn] at *); (try (simp only [Ar.real, NV.val, zo, zt])); first | done | omega | decide | exact zi | (refine ⟨?_, ?_⟩ <;> first | omega | decide | exact zi))
  refine CS.frzA hA (by (try cbv) <;> (repeat' (first | exact trivial | exact rfl | apply And.intro | exact fun _ => rfl | (intro _ hle; first | refine chunk_le hA rfl hle rfl ?_ | refine cat_le hA ?_ | refine upd_le hA ?_ | (try cbv)))); all_goals (subst hA; (try simp only [zn] at *); (try (simp only [Ar.real, NV.val, zo, zt])); first | done | omega | decide | exact zi | (refine ⟨?_, ?_⟩ <;> first | omega | decide | exact zi))) ?_
  cbv
  refine CS.le hA (cF) [(1, 0), (2, 1), (3, 2), (30, 3), (31, 4)] rfl rfl rfl ?_ ?_ ?_
  iterate 2 ((try cbv) <;> (repeat' (first | exact trivial | exact rfl | apply And.intro | exact fun _ => rfl | (intro _ hle; first | refine chunk_le hA rfl hle rfl ?_ | refine cat_le hA ?_ | refine upd_le hA ?_ | (try cbv)))) <;> (try (subst hA; (try simp only [zn] at *); (try (simp only [Ar.real, NV.val, zo, zt])); first | done | omega | decide | exact zi | (refine ⟨?_, ?_⟩ <;> first | omega | decide | exact zi))) <;> (try first | exact (hz _).symm))
  cbv
  refine CS.frzA hA (by (try cbv) <;> (repeat' (first | exact trivial | exact rfl | apply And.intro | exact fun _ => rfl | (intro _ hle; first | refine chunk_le hA rfl hle rfl ?_ | refine cat_le hA ?_ | refine upd_le hA ?_ | (try cbv)))); all_goals (subst hA; (try simp only [zn] at *); (try (simp only [Ar.real, NV.val, zo, zt])); first | done | omega | decide | exact zi | (refine ⟨?_, ?_⟩ <;> first | omega | decide | exact zi))) ?_
  cbv
  refine CS.le hA (cW) [(1, 0), (2, 1), (3, 2), (30, 3), (31, 4)] rfl rfl rfl ?_ ?_ ?_
  iterate 2 ((try cbv) <;> (repeat' (first | exact trivial | exact rfl | apply And.intro | exact fun _ => rfl | (intro _ hle; first | refine chunk_le hA rfl hle rfl ?_ | refine cat_le hA ?_ | refine upd_le hA ?_ | (try cbv)))) <;> (try (subst hA; (try simp only [zn] at *); (try (simp only [Ar.real, NV.val, zo, zt])); first | done | omega | decide | exact zi | (refine ⟨?_, ?_⟩ <;> first | omega | decide | exact zi))) <;> (try first | exact (hb3 _)))
  cbv
  refine ⟨fun e _ => rfl, ?_⟩
  have k1 : A.eqL (A.bytes (nl (NV.l 0).val) (byteAt fun x => [SV.int IntKind.u8 (nf (NV.l 0).val x.val)])) [111, 110, 101] = true := by
    subst hA
    exact three_bytes (a := 111) (b := 110) (c := 101) hN.1 (by show nf 0 0 = _; rw [hN.2.2 0 (by omega), hb1]; rfl) (by show nf 0 1 = _; rw [hN.2.2 1 (by omega), hb1]; rfl) (by show nf 0 2 = _; rw [hN.2.2 2 (by omega), hb1]; rfl)
  have k2 : A.eq (A.i2 (nl (NV.l 1).val)) 0 = true := by subst hA; show decide (((nl 1 : Nat) : Int) = 0) = true; rw [hN.2.1]; rfl
  first | refine testR k1 rfl ?_ | refine testL k1 rfl ?_
  cbv
  first | refine testR k2 rfl ?_ | refine testL k2 rfl ?_
  cbv
  refine CS.ren 30 [(30, 30), (3050, 31)] rfl rfl ?_
  cbv
  refine CS.le hA (e1) [(1, 0), (2, 1), (3, 2), (30, 3), (31, 4)] rfl rfl rfl ?_ ?_ ?_
  iterate 2 ((try cbv) <;> (repeat' (first | exact trivial | exact rfl | apply And.intro | exact fun _ => rfl | (intro _ hle; first | refine chunk_le hA rfl hle rfl ?_ | refine cat_le hA ?_ | refine upd_le hA ?_ | (try cbv)))) <;> (try (subst hA; (try simp only [zn] at *); (try (simp only [Ar.real, NV.val, zo, zt])); first | done | omega | decide | exact zi | (refine ⟨?_, ?_⟩ <;> first | omega | decide | exact zi))))
  cbv
  have k3 : A.eqL (A.bytes 3 (byteAt fun e => [SV.int IntKind.u8 (b3 e.val)])) [110, 101, 119] = true := by
    subst hA
    exact three_bytes (a := 110) (b := 101) (c := 119) rfl (by show b3 0 = _; rw [hb3]; rfl) (by show b3 1 = _; rw [hb3]; rfl) (by show b3 2 = _; rw [hb3]; rfl)
  refine ⟨fun e _ => rfl, ?_⟩
  first | refine testR k3 rfl ?_ | refine testL k3 rfl ?_
  cbv
  refine CS.leR hA (e2) (.ro 1 (.l 0) (fun e => [.any])) [(1, 0), (2, 1), (3, 2), (30, 3), (31, 4)] rfl rfl rfl ?_ ?_ ?_ ?_
  iterate 3 ((try cbv) <;> (repeat' (first | exact trivial | exact rfl | apply And.intro | exact fun _ => rfl | (intro _ hle; first | refine chunk_le hA rfl hle rfl ?_ | refine cat_le hA ?_ | refine upd_le hA ?_ | (try cbv)))) <;> (try (subst hA; (try simp only [zn] at *); (try (simp only [Ar.real, NV.val, zo, zt])); first | done | omega | decide | exact zi | (refine ⟨?_, ?_⟩ <;> first | omega | decide | exact zi))))
  cbv
  refine CS.leR hA (e3) (.lit .i64 2) [(1, 0), (2, 1), (3, 2), (30, 3), (31, 4)] rfl rfl rfl ?_ ?_ ?_ ?_
  iterate 3 ((try cbv) <;> (repeat' (first | exact trivial | exact rfl | apply And.intro | exact fun _ => rfl | (intro _ hle; first | refine chunk_le hA rfl hle rfl ?_ | refine cat_le hA ?_ | refine upd_le hA ?_ | (try cbv)))) <;> (try (subst hA; (try simp only [zn] at *); (try (simp only [Ar.real, NV.val, zo, zt])); first | done | omega | decide | exact zi | (refine ⟨?_, ?_⟩ <;> first | omega | decide | exact zi))))
  cbv
  refine CS.leR hA (e4) (.lit .i64 3) [(1, 0), (2, 1), (3, 2), (30, 3), (31, 4)] rfl rfl rfl ?_ ?_ ?_ ?_
  iterate 3 ((try cbv) <;> (repeat' (first | exact trivial | exact rfl | apply And.intro | exact fun _ => rfl | (intro _ hle; first | refine chunk_le hA rfl hle rfl ?_ | refine cat_le hA ?_ | refine upd_le hA ?_ | (try cbv)))) <;> (try (subst hA; (try simp only [zn] at *); (try (simp only [Ar.real, NV.val, zo, zt])); first | done | omega | decide | exact zi | (refine ⟨?_, ?_⟩ <;> first | omega | decide | exact zi))))
  cbv
  refine CS.leR hA (e5) (.lit .i64 0) [(1, 0), (2, 1), (3, 2), (30, 3), (31, 4)] rfl rfl rfl ?_ ?_ ?_ ?_
  iterate 3 ((try cbv) <;> (repeat' (first | exact trivial | exact rfl | apply And.intro | exact fun _ => rfl | (intro _ hle; first | refine chunk_le hA rfl hle rfl ?_ | refine cat_le hA ?_ | refine upd_le hA ?_ | (try cbv)))) <;> (try (subst hA; (try simp only [zn] at *); (try (simp only [Ar.real, NV.val, zo, zt])); first | done | omega | decide | exact zi | (refine ⟨?_, ?_⟩ <;> first | omega | decide | exact zi))))
  cbv
  refine CS.leR hA (e6) (.bl true) [(1, 0), (2, 1), (3, 2), (30, 3), (31, 4)] rfl rfl rfl ?_ ?_ ?_ ?_
  iterate 3 ((try cbv) <;> (repeat' (first | exact trivial | exact rfl | apply And.intro | exact fun _ => rfl | (intro _ hle; first | refine chunk_le hA rfl hle rfl ?_ | refine cat_le hA ?_ | refine upd_le hA ?_ | (try cbv)))) <;> (try (subst hA; (try simp only [zn] at *); (try (simp only [Ar.real, NV.val, zo, zt])); first | done | omega | decide | exact zi | (refine ⟨?_, ?_⟩ <;> first | omega | decide | exact zi))))
  cbv
  refine CS.leR hA (e7) (.lit .i64 7) [] rfl rfl rfl ?_ ?_ ?_ ?_
  iterate 3 ((try cbv) <;> (repeat' (first | exact trivial | exact rfl | apply And.intro | exact fun _ => rfl | (intro _ hle; first | refine chunk_le hA rfl hle rfl ?_ | refine cat_le hA ?_ | refine upd_le hA ?_ | (try cbv)))) <;> (try (subst hA; (try simp only [zn] at *); (try (simp only [Ar.real, NV.val, zo, zt])); first | done | omega | decide | exact zi | (refine ⟨?_, ?_⟩ <;> first | omega | decide | exact zi))))
  cbv
  refine Fin.le hA 0 [] (.bl true) ([]) 1000 rfl rfl rfl ?_ ?_ (by rw [← hK]; exact ⟨rfl, rfl, rfl⟩)
  iterate 2 ((try cbv) <;> (repeat' (first | exact trivial | exact rfl | apply And.intro | exact fun _ => rfl | (intro _ hle; first | refine chunk_le hA rfl hle rfl ?_ | refine cat_le hA ?_ | refine upd_le hA ?_ | (try cbv)))))
end Go.Proofs.YtnjjgipblimbfaaGreatDoor.Dsk
