/-
  A verified symbolic executor over the code of the model, and what it shows of this program: part 7 of 7 (LawWalOpens).
-/
import Derived.Test.YtnjjgipblimbfaaGreatDoorWalOpensPartF
set_option linter.unusedVariables false
set_option linter.unusedSimpArgs false
namespace Go.Proofs.YtnjjgipblimbfaaGreatDoor.Dsk
open Go.Eng
open Go.DskLaw (q64 secV isB needN pcs getP Sim wipeP)
open Go.WalLaw
open Go.CrcLaw (four)
set_option maxRecDepth 100000
set_option maxHeartbeats 4000000
theorem opens27_law {P : Program} (hP : P = Tryz.prog) {fr : Nat → Int} (hfr : ∀ i, fr i = ((four i).toNat : Int)) {n : Nat} {f : Nat → Int} (hn : n ≤ 9223372036854775807) (hf : ∀ i, i < n → 0 ≤ f i ∧ f i ≤ 255) :
    FnTr P (Gf fr) 3 [By n f] [] 0 (Gives (.bl true) [] 100000) := by
  have cl := lives27_fn (P := P) hP hfr
  by_cases h2000 : 2000 < n
  · skip
    have hT : T.Ok P := hP ▸ T_ok
    refine FnTr.intro (fn := Tryz.f3) (c := bodyOf Tryz.f3) (by rw [hP]; rfl) rfl rfl hT ?_
    generalize hA : Ar.real = A
    generalize hK : Gives _ _ _ = K
    cbv
    have k1 : A.gt (A.i2 n) 2000 = true := by clear cl; subst hA; simp [Ar.real]; omega
    first | refine testR k1 rfl ?_ | refine testL k1 rfl ?_
    cbv
    refine CS.le hA (cl) [] rfl rfl rfl ?_ ?_ ?_
    iterate 2 ((try cbv) <;> (repeat' (first | exact trivial | exact rfl | apply And.intro | exact fun _ => rfl | (intro _ hle; first | refine chunk_le hA rfl hle rfl ?_ | refine cat_le hA ?_ | refine upd_le hA ?_ | (try cbv)))) <;> (try (subst hA; (try simp only [zn] at *); (try (simp only [Ar.real, NV.val, zo, zt])); first | done | omega | decide | exact zi | (refine ⟨?_, ?_⟩ <;> first | omega | decide | exact zi))))
    cbv
    refine Fin.le hA 0 [] (.bl true) ([]) 100000 rfl rfl rfl ?_ ?_ (by rw [← hK]; exact ⟨rfl, rfl, rfl⟩)
    iterate 2 ((try cbv) <;> (repeat' (first | exact trivial | exact rfl | apply And.intro | exact fun _ => rfl | (intro _ hle; first | refine chunk_le hA rfl hle rfl ?_ | refine cat_le hA ?_ | refine upd_le hA ?_ | (try cbv)))))
  by_cases hbad : n / 64 < 1 ∨ 4096 < n / 64 ∨ n % 64 ≠ 0
  · have c1 := of_bad (P := P) (G := Gf fr) (n := n) (f := f) hP (by omega) hbad
    have c2 := refof_bad (P := P) (G := Gf fr) (n := n) (f := f) hP (by omega) hbad
    have hT : T.Ok P := hP ▸ T_ok
    refine FnTr.intro (fn := Tryz.f3) (c := bodyOf Tryz.f3) (by rw [hP]; rfl) rfl rfl hT ?_
    generalize hA : Ar.real = A
    generalize hK : Gives _ _ _ = K
    cbv
    have k1 : A.gt (A.i2 n) 2000 = false := by clear cl c1 c2; subst hA; simp [Ar.real]; omega
    first | refine testR k1 rfl ?_ | refine testL k1 rfl ?_
    cbv
    refine CS.le hA (c1) [] rfl rfl rfl ?_ ?_ ?_
    iterate 2 ((try cbv) <;> (repeat' (first | exact trivial | exact rfl | apply And.intro | exact fun _ => rfl | (intro _ hle; first | refine chunk_le hA rfl hle rfl ?_ | refine cat_le hA ?_ | refine upd_le hA ?_ | (try cbv)))) <;> (try (subst hA; (try simp only [zn] at *); (try (simp only [Ar.real, NV.val, zo, zt])); first | done | omega | decide | exact zi | (refine ⟨?_, ?_⟩ <;> first | omega | decide | exact zi))))
    cbv
    refine CS.le hA (c2) [] rfl rfl rfl ?_ ?_ ?_
    iterate 2 ((try cbv) <;> (repeat' (first | exact trivial | exact rfl | apply And.intro | exact fun _ => rfl | (intro _ hle; first | refine chunk_le hA rfl hle rfl ?_ | refine cat_le hA ?_ | refine upd_le hA ?_ | (try cbv)))) <;> (try (subst hA; (try simp only [zn] at *); (try (simp only [Ar.real, NV.val, zo, zt])); first | done | omega | decide | exact zi | (refine ⟨?_, ?_⟩ <;> first | omega | decide | exact zi))))
    cbv
    refine CS.le hA (cl) [] rfl rfl rfl ?_ ?_ ?_
    iterate 2 ((try cbv) <;> (repeat' (first | exact trivial | exact rfl | apply And.intro | exact fun _ => rfl | (intro _ hle; first | refine chunk_le hA rfl hle rfl ?_ | refine cat_le hA ?_ | refine upd_le hA ?_ | (try cbv)))) <;> (try (subst hA; (try simp only [zn] at *); (try (simp only [Ar.real, NV.val, zo, zt])); first | done | omega | decide | exact zi | (refine ⟨?_, ?_⟩ <;> first | omega | decide | exact zi))))
    cbv
    refine Fin.le hA 0 [] (.bl true) ([]) 100000 rfl rfl rfl ?_ ?_ (by rw [← hK]; exact ⟨rfl, rfl, rfl⟩)
    iterate 2 ((try cbv) <;> (repeat' (first | exact trivial | exact rfl | apply And.intro | exact fun _ => rfl | (intro _ hle; first | refine chunk_le hA rfl hle rfl ?_ | refine cat_le hA ?_ | refine upd_le hA ?_ | (try cbv)))))
  obtain ⟨s, hs⟩ : ∃ s, n = 64 * s := ⟨n / 64, by omega⟩
  obtain ⟨L, hL⟩ : ∃ L : Int → Option (Nat → Int), ∀ k, L k = none := ⟨fun _ => none, fun _ => rfl⟩
  obtain ⟨V, hV⟩ : ∃ V : Nat → Nat → Int, ∀ i x, V i x = f (64 * i + x) := ⟨fun i x => f (64 * i + x), fun _ _ => rfl⟩
  obtain ⟨W, hW⟩ : ∃ W : Nat → Bool, ∀ i, W i = false := ⟨fun _ => false, fun _ => rfl⟩
  obtain ⟨g, hg⟩ : ∃ g : Nat → Int, ∀ x, g x = secV f L (x / 64) (x % 64) := ⟨_, fun _ => rfl⟩
  have hgf : ∀ x, g x = f x := fun x => by rw [hg, DskLaw.secV_none' (hL _), show 64 * (x / 64) + x % 64 = x by omega]
  have hgV : ∀ x, g x = V (x / 64) (x % 64) := fun x => by rw [hgf, hV, show 64 * (x / 64) + x % 64 = x by omega]
  have hgr : ∀ x, x < n → 0 ≤ g x ∧ g x < 256 := fun x hx => by rw [hgf]; have := hf x hx; omega
  have c1 := of_ok (P := P) (G := Gf fr) (n := n) (s := s) (f := f) (L := L) hP hs (by omega) hL
  have c2 := refof_ok (P := P) (G := Gf fr) (n := n) (s := s) (f := f) (S := V) (L := V) (W := W) hP hs (by omega) (fun i x _ _ => hV i x) (fun i x _ _ => hV i x) hW
  have c3 := image_fn (P := P) (G := Gf fr) (N := n) (s := s) (S := f) (g := g) (L := L) (ar := false) (ca := 0) hP hs (by omega) hg
  have c4 := refimage_fn (P := P) (G := Gf fr) (N := n) (s := s) (S := V) (L := V) (W := W) (c := -1) (g := g) hP hs (by omega) hgV
  have c5 := same_fn (P := P) (G := Gf fr) (n := n) (m := n) (f := g) (g := g) (res := true) hP hgr hgr ⟨fun _ => ⟨rfl, fun _ _ => rfl⟩, fun _ => rfl⟩
  have c6 := waits_none (P := P) (G := Gf fr) (N := n) (S := f) (L := L) (ar := false) (ca := 0) hP hL
  rcases opens_facts hP hfr hs (by omega) hf hL hV hW with ⟨o1, o2⟩ | ⟨o1, o2⟩ | ⟨o1, o2⟩ | ⟨d2, d3, gen, last, w0, w2, kc, wf, wf2, b, gl, gl2, nl, gf, gf2, nf, S2, L2, W2, c2', im, o1, o2, o3, o4, o5, o6, o7, o8, o9, him⟩
  · clear hf hV hg hgf hgV hgr
    have hT : T.Ok P := hP ▸ T_ok
    refine FnTr.intro (fn := Tryz.f3) (c := bodyOf Tryz.f3) (by rw [hP]; rfl) rfl rfl hT ?_
    generalize hA : Ar.real = A
    generalize hK : Gives _ _ _ = K
    cbv
    have k0 : A.gt (A.i2 0) 0 = false := by clear cl c1 c2 c3 c4 c5 c6 o1 o2; subst hA; rfl
    have k1 : A.gt (A.i2 n) 2000 = false := by clear cl c1 c2 c3 c4 c5 c6 o1 o2; subst hA; simp [Ar.real]; omega
    first | refine testR k1 rfl ?_ | refine testL k1 rfl ?_
    cbv
    refine CS.le hA (c1) [] rfl rfl rfl ?_ ?_ ?_
    iterate 2 ((try cbv) <;> (repeat' (first | exact trivial | exact rfl | apply And.intro | exact fun _ => rfl | (intro _ hle; first | refine chunk_le hA rfl hle rfl ?_ | refine cat_le hA ?_ | refine upd_le hA ?_ | (try cbv)))) <;> (try (subst hA; (try simp only [zn] at *); (try (simp only [Ar.real, NV.val, zo, zt])); first | done | omega | decide | exact zi | (refine ⟨?_, ?_⟩ <;> first | omega | decide | exact zi))))
    cbv
    refine CS.le hA (c2) [] rfl rfl rfl ?_ ?_ ?_
    iterate 2 ((try cbv) <;> (repeat' (first | exact trivial | exact rfl | apply And.intro | exact fun _ => rfl | (intro _ hle; first | refine chunk_le hA rfl hle rfl ?_ | refine cat_le hA ?_ | refine upd_le hA ?_ | (try cbv)))) <;> (try (subst hA; (try simp only [zn] at *); (try (simp only [Ar.real, NV.val, zo, zt])); first | done | omega | decide | exact zi | (refine ⟨?_, ?_⟩ <;> first | omega | decide | exact zi))))
    cbv
    refine CS.le hA (o1) [(5, 0), (6, 1), (7, 2)] rfl rfl rfl ?_ ?_ ?_
    iterate 2 ((try cbv) <;> (repeat' (first | exact trivial | exact rfl | apply And.intro | exact fun _ => rfl | (intro _ hle; first | refine chunk_le hA rfl hle rfl ?_ | refine cat_le hA ?_ | refine upd_le hA ?_ | (try cbv)))) <;> (try (subst hA; (try simp only [zn] at *); (try (simp only [Ar.real, NV.val, zo, zt])); first | done | omega | decide | exact zi | (refine ⟨?_, ?_⟩ <;> first | omega | decide | exact zi))))
    cbv
    refine CS.le hA (o2) [] rfl rfl rfl ?_ ?_ ?_
    iterate 2 ((try cbv) <;> (repeat' (first | exact trivial | exact rfl | apply And.intro | exact fun _ => rfl | (intro _ hle; first | refine chunk_le hA rfl hle rfl ?_ | refine cat_le hA ?_ | refine upd_le hA ?_ | (try cbv)))) <;> (try (subst hA; (try simp only [zn] at *); (try (simp only [Ar.real, NV.val, zo, zt])); first | done | omega | decide | exact zi | (refine ⟨?_, ?_⟩ <;> first | omega | decide | exact zi))))
    cbv
    refine DS.runK hA hT (by rw [hP]; exact P_mixed) 300 rfl ?_
    cbv
    refine CD.pass hA (c3) [(5, 0), (6, 1), (7, 2)] [] rfl ⟨rfl, rfl, rfl, rfl, ?_, ?_⟩ rfl (.inl rfl) ?_
    iterate 2 ((try cbv) <;> (repeat' (first | exact trivial | exact rfl | apply And.intro | exact fun _ => rfl | (intro _ hle; first | refine chunk_le hA rfl hle rfl ?_ | refine cat_le hA ?_ | refine upd_le hA ?_ | (try cbv)))) <;> (try (subst hA; (try simp only [zn] at *); (try (simp only [Ar.real, NV.val, zo, zt])); first | done | omega | decide | exact zi | (refine ⟨?_, ?_⟩ <;> first | omega | decide | exact zi))))
    cbv
    refine CD.pass hA (c4) [] [] rfl ⟨rfl, rfl, rfl, rfl, ?_, ?_⟩ rfl (.inl rfl) ?_
    iterate 2 ((try cbv) <;> (repeat' (first | exact trivial | exact rfl | apply And.intro | exact fun _ => rfl | (intro _ hle; first | refine chunk_le hA rfl hle rfl ?_ | refine cat_le hA ?_ | refine upd_le hA ?_ | (try cbv)))) <;> (try (subst hA; (try simp only [zn] at *); (try (simp only [Ar.real, NV.val, zo, zt])); first | done | omega | decide | exact zi | (refine ⟨?_, ?_⟩ <;> first | omega | decide | exact zi))))
    cbv
    refine CD.pass hA (FnTr.res hA c5 (.bl true) rfl) [] [] rfl ⟨rfl, rfl, rfl, rfl, ?_, ?_⟩ rfl (.inl rfl) ?_
    iterate 2 ((try cbv) <;> (repeat' (first | exact trivial | exact rfl | apply And.intro | exact fun _ => rfl | (intro _ hle; first | refine chunk_le hA rfl hle rfl ?_ | refine cat_le hA ?_ | refine upd_le hA ?_ | (try cbv)))) <;> (try (subst hA; (try simp only [zn] at *); (try (simp only [Ar.real, NV.val, zo, zt])); first | done | omega | decide | exact zi | (refine ⟨?_, ?_⟩ <;> first | omega | decide | exact zi))))
    cbv
    refine CD.pass hA (c6) [(5, 0), (6, 1), (7, 2)] [] rfl ⟨rfl, rfl, rfl, rfl, ?_, ?_⟩ rfl (.inl rfl) ?_
    iterate 2 ((try cbv) <;> (repeat' (first | exact trivial | exact rfl | apply And.intro | exact fun _ => rfl | (intro _ hle; first | refine chunk_le hA rfl hle rfl ?_ | refine cat_le hA ?_ | refine upd_le hA ?_ | (try cbv)))) <;> (try (subst hA; (try simp only [zn] at *); (try (simp only [Ar.real, NV.val, zo, zt])); first | done | omega | decide | exact zi | (refine ⟨?_, ?_⟩ <;> first | omega | decide | exact zi))))
    cbv
    refine DF.fin (by kernel_rfl) (by kernel_rfl) ?_
    cbv
    first | refine testR k0 rfl ?_ | refine testL k0 rfl ?_
    cbv
    refine CS.le hA (cl) [] rfl rfl rfl ?_ ?_ ?_
    iterate 2 ((try cbv) <;> (repeat' (first | exact trivial | exact rfl | apply And.intro | exact fun _ => rfl | (intro _ hle; first | refine chunk_le hA rfl hle rfl ?_ | refine cat_le hA ?_ | refine upd_le hA ?_ | (try cbv)))) <;> (try (subst hA; (try simp only [zn] at *); (try (simp only [Ar.real, NV.val, zo, zt])); first | done | omega | decide | exact zi | (refine ⟨?_, ?_⟩ <;> first | omega | decide | exact zi))))
    cbv
    refine Fin.le hA 0 [] (.bl true) ([]) 100000 rfl rfl rfl ?_ ?_ (by rw [← hK]; exact ⟨rfl, rfl, rfl⟩)
    iterate 2 ((try cbv) <;> (repeat' (first | exact trivial | exact rfl | apply And.intro | exact fun _ => rfl | (intro _ hle; first | refine chunk_le hA rfl hle rfl ?_ | refine cat_le hA ?_ | refine upd_le hA ?_ | (try cbv)))))
  · clear hf hV hg hgf hgV hgr
    have hT : T.Ok P := hP ▸ T_ok
    refine FnTr.intro (fn := Tryz.f3) (c := bodyOf Tryz.f3) (by rw [hP]; rfl) rfl rfl hT ?_
    generalize hA : Ar.real = A
    generalize hK : Gives _ _ _ = K
    cbv
    have k0 : A.gt (A.i2 0) 0 = false := by clear cl c1 c2 c3 c4 c5 c6 o1 o2; subst hA; rfl
    have k1 : A.gt (A.i2 n) 2000 = false := by clear cl c1 c2 c3 c4 c5 c6 o1 o2; subst hA; simp [Ar.real]; omega
    first | refine testR k1 rfl ?_ | refine testL k1 rfl ?_
    cbv
    refine CS.le hA (c1) [] rfl rfl rfl ?_ ?_ ?_
    iterate 2 ((try cbv) <;> (repeat' (first | exact trivial | exact rfl | apply And.intro | exact fun _ => rfl | (intro _ hle; first | refine chunk_le hA rfl hle rfl ?_ | refine cat_le hA ?_ | refine upd_le hA ?_ | (try cbv)))) <;> (try (subst hA; (try simp only [zn] at *); (try (simp only [Ar.real, NV.val, zo, zt])); first | done | omega | decide | exact zi | (refine ⟨?_, ?_⟩ <;> first | omega | decide | exact zi))))
    cbv
    refine CS.le hA (c2) [] rfl rfl rfl ?_ ?_ ?_
    iterate 2 ((try cbv) <;> (repeat' (first | exact trivial | exact rfl | apply And.intro | exact fun _ => rfl | (intro _ hle; first | refine chunk_le hA rfl hle rfl ?_ | refine cat_le hA ?_ | refine upd_le hA ?_ | (try cbv)))) <;> (try (subst hA; (try simp only [zn] at *); (try (simp only [Ar.real, NV.val, zo, zt])); first | done | omega | decide | exact zi | (refine ⟨?_, ?_⟩ <;> first | omega | decide | exact zi))))
    cbv
    refine CS.le hA (o1) [(5, 0), (6, 1), (7, 2)] rfl rfl rfl ?_ ?_ ?_
    iterate 2 ((try cbv) <;> (repeat' (first | exact trivial | exact rfl | apply And.intro | exact fun _ => rfl | (intro _ hle; first | refine chunk_le hA rfl hle rfl ?_ | refine cat_le hA ?_ | refine upd_le hA ?_ | (try cbv)))) <;> (try (subst hA; (try simp only [zn] at *); (try (simp only [Ar.real, NV.val, zo, zt])); first | done | omega | decide | exact zi | (refine ⟨?_, ?_⟩ <;> first | omega | decide | exact zi))))
    cbv
    refine CS.le hA (o2) [] rfl rfl rfl ?_ ?_ ?_
    iterate 2 ((try cbv) <;> (repeat' (first | exact trivial | exact rfl | apply And.intro | exact fun _ => rfl | (intro _ hle; first | refine chunk_le hA rfl hle rfl ?_ | refine cat_le hA ?_ | refine upd_le hA ?_ | (try cbv)))) <;> (try (subst hA; (try simp only [zn] at *); (try (simp only [Ar.real, NV.val, zo, zt])); first | done | omega | decide | exact zi | (refine ⟨?_, ?_⟩ <;> first | omega | decide | exact zi))))
    cbv
    refine DS.runK hA hT (by rw [hP]; exact P_mixed) 300 rfl ?_
    cbv
    refine CD.pass hA (c3) [(5, 0), (6, 1), (7, 2)] [] rfl ⟨rfl, rfl, rfl, rfl, ?_, ?_⟩ rfl (.inl rfl) ?_
    iterate 2 ((try cbv) <;> (repeat' (first | exact trivial | exact rfl | apply And.intro | exact fun _ => rfl | (intro _ hle; first | refine chunk_le hA rfl hle rfl ?_ | refine cat_le hA ?_ | refine upd_le hA ?_ | (try cbv)))) <;> (try (subst hA; (try simp only [zn] at *); (try (simp only [Ar.real, NV.val, zo, zt])); first | done | omega | decide | exact zi | (refine ⟨?_, ?_⟩ <;> first | omega | decide | exact zi))))
    cbv
    refine CD.pass hA (c4) [] [] rfl ⟨rfl, rfl, rfl, rfl, ?_, ?_⟩ rfl (.inl rfl) ?_
    iterate 2 ((try cbv) <;> (repeat' (first | exact trivial | exact rfl | apply And.intro | exact fun _ => rfl | (intro _ hle; first | refine chunk_le hA rfl hle rfl ?_ | refine cat_le hA ?_ | refine upd_le hA ?_ | (try cbv)))) <;> (try (subst hA; (try simp only [zn] at *); (try (simp only [Ar.real, NV.val, zo, zt])); first | done | omega | decide | exact zi | (refine ⟨?_, ?_⟩ <;> first | omega | decide | exact zi))))
    cbv
    refine CD.pass hA (FnTr.res hA c5 (.bl true) rfl) [] [] rfl ⟨rfl, rfl, rfl, rfl, ?_, ?_⟩ rfl (.inl rfl) ?_
    iterate 2 ((try cbv) <;> (repeat' (first | exact trivial | exact rfl | apply And.intro | exact fun _ => rfl | (intro _ hle; first | refine chunk_le hA rfl hle rfl ?_ | refine cat_le hA ?_ | refine upd_le hA ?_ | (try cbv)))) <;> (try (subst hA; (try simp only [zn] at *); (try (simp only [Ar.real, NV.val, zo, zt])); first | done | omega | decide | exact zi | (refine ⟨?_, ?_⟩ <;> first | omega | decide | exact zi))))
    cbv
    refine CD.pass hA (c6) [(5, 0), (6, 1), (7, 2)] [] rfl ⟨rfl, rfl, rfl, rfl, ?_, ?_⟩ rfl (.inl rfl) ?_
    iterate 2 ((try cbv) <;> (repeat' (first | exact trivial | exact rfl | apply And.intro | exact fun _ => rfl | (intro _ hle; first | refine chunk_le hA rfl hle rfl ?_ | refine cat_le hA ?_ | refine upd_le hA ?_ | (try cbv)))) <;> (try (subst hA; (try simp only [zn] at *); (try (simp only [Ar.real, NV.val, zo, zt])); first | done | omega | decide | exact zi | (refine ⟨?_, ?_⟩ <;> first | omega | decide | exact zi))))
    cbv
    refine DF.fin (by kernel_rfl) (by kernel_rfl) ?_
    cbv
    first | refine testR k0 rfl ?_ | refine testL k0 rfl ?_
    cbv
    refine CS.le hA (cl) [] rfl rfl rfl ?_ ?_ ?_
    iterate 2 ((try cbv) <;> (repeat' (first | exact trivial | exact rfl | apply And.intro | exact fun _ => rfl | (intro _ hle; first | refine chunk_le hA rfl hle rfl ?_ | refine cat_le hA ?_ | refine upd_le hA ?_ | (try cbv)))) <;> (try (subst hA; (try simp only [zn] at *); (try (simp only [Ar.real, NV.val, zo, zt])); first | done | omega | decide | exact zi | (refine ⟨?_, ?_⟩ <;> first | omega | decide | exact zi))))
    cbv
    refine Fin.le hA 0 [] (.bl true) ([]) 100000 rfl rfl rfl ?_ ?_ (by rw [← hK]; exact ⟨rfl, rfl, rfl⟩)
    iterate 2 ((try cbv) <;> (repeat' (first | exact trivial | exact rfl | apply And.intro | exact fun _ => rfl | (intro _ hle; first | refine chunk_le hA rfl hle rfl ?_ | refine cat_le hA ?_ | refine upd_le hA ?_ | (try cbv)))))
  · clear hf hV hg hgf hgV hgr
    have hT : T.Ok P := hP ▸ T_ok
    refine FnTr.intro (fn := Tryz.f3) (c := bodyOf Tryz.f3) (by rw [hP]; rfl) rfl rfl hT ?_
    generalize hA : Ar.real = A
    generalize hK : Gives _ _ _ = K
    cbv
    have k0 : A.gt (A.i2 0) 0 = false := by clear cl c1 c2 c3 c4 c5 c6 o1 o2; subst hA; rfl
    have k1 : A.gt (A.i2 n) 2000 = false := by clear cl c1 c2 c3 c4 c5 c6 o1 o2; subst hA; simp [Ar.real]; omega
    first | refine testR k1 rfl ?_ | refine testL k1 rfl ?_
    cbv
    refine CS.le hA (c1) [] rfl rfl rfl ?_ ?_ ?_
    iterate 2 ((try cbv) <;> (repeat' (first | exact trivial | exact rfl | apply And.intro | exact fun _ => rfl | (intro _ hle; first | refine chunk_le hA rfl hle rfl ?_ | refine cat_le hA ?_ | refine upd_le hA ?_ | (try cbv)))) <;> (try (subst hA; (try simp only [zn] at *); (try (simp only [Ar.real, NV.val, zo, zt])); first | done | omega | decide | exact zi | (refine ⟨?_, ?_⟩ <;> first | omega | decide | exact zi))))
    cbv
    refine CS.le hA (c2) [] rfl rfl rfl ?_ ?_ ?_
    iterate 2 ((try cbv) <;> (repeat' (first | exact trivial | exact rfl | apply And.intro | exact fun _ => rfl | (intro _ hle; first | refine chunk_le hA rfl hle rfl ?_ | refine cat_le hA ?_ | refine upd_le hA ?_ | (try cbv)))) <;> (try (subst hA; (try simp only [zn] at *); (try (simp only [Ar.real, NV.val, zo, zt])); first | done | omega | decide | exact zi | (refine ⟨?_, ?_⟩ <;> first | omega | decide | exact zi))))
    cbv
    refine CS.le hA (o1) [(5, 0), (6, 1), (7, 2)] rfl rfl rfl ?_ ?_ ?_
    iterate 2 ((try cbv) <;> (repeat' (first | exact trivial | exact rfl | apply And.intro | exact fun _ => rfl | (intro _ hle; first | refine chunk_le hA rfl hle rfl ?_ | refine cat_le hA ?_ | refine upd_le hA ?_ | (try cbv)))) <;> (try (subst hA; (try simp only [zn] at *); (try (simp only [Ar.real, NV.val, zo, zt])); first | done | omega | decide | exact zi | (refine ⟨?_, ?_⟩ <;> first | omega | decide | exact zi))))
    cbv
    refine CS.le hA (o2) [] rfl rfl rfl ?_ ?_ ?_
    iterate 2 ((try cbv) <;> (repeat' (first | exact trivial | exact rfl | apply And.intro | exact fun _ => rfl | (intro _ hle; first | refine chunk_le hA rfl hle rfl ?_ | refine cat_le hA ?_ | refine upd_le hA ?_ | (try cbv)))) <;> (try (subst hA; (try simp only [zn] at *); (try (simp only [Ar.real, NV.val, zo, zt])); first | done | omega | decide | exact zi | (refine ⟨?_, ?_⟩ <;> first | omega | decide | exact zi))))
    cbv
    refine DS.runK hA hT (by rw [hP]; exact P_mixed) 300 rfl ?_
    cbv
    refine CD.pass hA (c3) [(5, 0), (6, 1), (7, 2)] [] rfl ⟨rfl, rfl, rfl, rfl, ?_, ?_⟩ rfl (.inl rfl) ?_
    iterate 2 ((try cbv) <;> (repeat' (first | exact trivial | exact rfl | apply And.intro | exact fun _ => rfl | (intro _ hle; first | refine chunk_le hA rfl hle rfl ?_ | refine cat_le hA ?_ | refine upd_le hA ?_ | (try cbv)))) <;> (try (subst hA; (try simp only [zn] at *); (try (simp only [Ar.real, NV.val, zo, zt])); first | done | omega | decide | exact zi | (refine ⟨?_, ?_⟩ <;> first | omega | decide | exact zi))))
    cbv
    refine CD.pass hA (c4) [] [] rfl ⟨rfl, rfl, rfl, rfl, ?_, ?_⟩ rfl (.inl rfl) ?_
    iterate 2 ((try cbv) <;> (repeat' (first | exact trivial | exact rfl | apply And.intro | exact fun _ => rfl | (intro _ hle; first | refine chunk_le hA rfl hle rfl ?_ | refine cat_le hA ?_ | refine upd_le hA ?_ | (try cbv)))) <;> (try (subst hA; (try simp only [zn] at *); (try (simp only [Ar.real, NV.val, zo, zt])); first | done | omega | decide | exact zi | (refine ⟨?_, ?_⟩ <;> first | omega | decide | exact zi))))
    cbv
    refine CD.pass hA (FnTr.res hA c5 (.bl true) rfl) [] [] rfl ⟨rfl, rfl, rfl, rfl, ?_, ?_⟩ rfl (.inl rfl) ?_
    iterate 2 ((try cbv) <;> (repeat' (first | exact trivial | exact rfl | apply And.intro | exact fun _ => rfl | (intro _ hle; first | refine chunk_le hA rfl hle rfl ?_ | refine cat_le hA ?_ | refine upd_le hA ?_ | (try cbv)))) <;> (try (subst hA; (try simp only [zn] at *); (try (simp only [Ar.real, NV.val, zo, zt])); first | done | omega | decide | exact zi | (refine ⟨?_, ?_⟩ <;> first | omega | decide | exact zi))))
    cbv
    refine CD.pass hA (c6) [(5, 0), (6, 1), (7, 2)] [] rfl ⟨rfl, rfl, rfl, rfl, ?_, ?_⟩ rfl (.inl rfl) ?_
    iterate 2 ((try cbv) <;> (repeat' (first | exact trivial | exact rfl | apply And.intro | exact fun _ => rfl | (intro _ hle; first | refine chunk_le hA rfl hle rfl ?_ | refine cat_le hA ?_ | refine upd_le hA ?_ | (try cbv)))) <;> (try (subst hA; (try simp only [zn] at *); (try (simp only [Ar.real, NV.val, zo, zt])); first | done | omega | decide | exact zi | (refine ⟨?_, ?_⟩ <;> first | omega | decide | exact zi))))
    cbv
    refine DF.fin (by kernel_rfl) (by kernel_rfl) ?_
    cbv
    first | refine testR k0 rfl ?_ | refine testL k0 rfl ?_
    cbv
    refine CS.le hA (cl) [] rfl rfl rfl ?_ ?_ ?_
    iterate 2 ((try cbv) <;> (repeat' (first | exact trivial | exact rfl | apply And.intro | exact fun _ => rfl | (intro _ hle; first | refine chunk_le hA rfl hle rfl ?_ | refine cat_le hA ?_ | refine upd_le hA ?_ | (try cbv)))) <;> (try (subst hA; (try simp only [zn] at *); (try (simp only [Ar.real, NV.val, zo, zt])); first | done | omega | decide | exact zi | (refine ⟨?_, ?_⟩ <;> first | omega | decide | exact zi))))
    cbv
    refine Fin.le hA 0 [] (.bl true) ([]) 100000 rfl rfl rfl ?_ ?_ (by rw [← hK]; exact ⟨rfl, rfl, rfl⟩)
    iterate 2 ((try cbv) <;> (repeat' (first | exact trivial | exact rfl | apply And.intro | exact fun _ => rfl | (intro _ hle; first | refine chunk_le hA rfl hle rfl ?_ | refine cat_le hA ?_ | refine upd_le hA ?_ | (try cbv)))))
  · have c7 := same_fn (P := P) (G := Gf fr) (n := n) (m := n) (f := im) (g := im) (res := true) hP him him ⟨fun _ => ⟨rfl, fun _ _ => rfl⟩, fun _ => rfl⟩
    clear hf hV hg hgf hgV hgr him
    have hT : T.Ok P := hP ▸ T_ok
    refine FnTr.intro (fn := Tryz.f3) (c := bodyOf Tryz.f3) (by rw [hP]; rfl) rfl rfl hT ?_
    generalize hA : Ar.real = A
    generalize hK : Gives _ _ _ = K
    cbv
    have k0 : A.gt (A.i2 0) 0 = false := by clear cl c1 c2 c3 c4 c5 c6 c7 o1 o2 o3 o4 o5 o6 o7 o8 o9; subst hA; rfl
    have k1 : A.gt (A.i2 n) 2000 = false := by clear cl c1 c2 c3 c4 c5 c6 c7 o1 o2 o3 o4 o5 o6 o7 o8 o9; subst hA; simp [Ar.real]; omega
    first | refine testR k1 rfl ?_ | refine testL k1 rfl ?_
    cbv
    refine CS.le hA (c1) [] rfl rfl rfl ?_ ?_ ?_
    iterate 2 ((try cbv) <;> (repeat' (first | exact trivial | exact rfl | apply And.intro | exact fun _ => rfl | (intro _ hle; first | refine chunk_le hA rfl hle rfl ?_ | refine cat_le hA ?_ | refine upd_le hA ?_ | (try cbv)))) <;> (try (subst hA; (try simp only [zn] at *); (try (simp only [Ar.real, NV.val, zo, zt])); first | done | omega | decide | exact zi | (refine ⟨?_, ?_⟩ <;> first | omega | decide | exact zi))))
    cbv
    refine CS.le hA (c2) [] rfl rfl rfl ?_ ?_ ?_
    iterate 2 ((try cbv) <;> (repeat' (first | exact trivial | exact rfl | apply And.intro | exact fun _ => rfl | (intro _ hle; first | refine chunk_le hA rfl hle rfl ?_ | refine cat_le hA ?_ | refine upd_le hA ?_ | (try cbv)))) <;> (try (subst hA; (try simp only [zn] at *); (try (simp only [Ar.real, NV.val, zo, zt])); first | done | omega | decide | exact zi | (refine ⟨?_, ?_⟩ <;> first | omega | decide | exact zi))))
    cbv
    refine CS.le hA (o1) [(5, 0), (6, 1), (7, 2)] rfl rfl rfl ?_ ?_ ?_
    iterate 2 ((try cbv) <;> (repeat' (first | exact trivial | exact rfl | apply And.intro | exact fun _ => rfl | (intro _ hle; first | refine chunk_le hA rfl hle rfl ?_ | refine cat_le hA ?_ | refine upd_le hA ?_ | (try cbv)))) <;> (try (subst hA; (try simp only [zn] at *); (try (simp only [Ar.real, NV.val, zo, zt])); first | done | omega | decide | exact zi | (refine ⟨?_, ?_⟩ <;> first | omega | decide | exact zi))))
    cbv
    refine CS.le hA (o2) [] rfl rfl rfl ?_ ?_ ?_
    iterate 2 ((try cbv) <;> (repeat' (first | exact trivial | exact rfl | apply And.intro | exact fun _ => rfl | (intro _ hle; first | refine chunk_le hA rfl hle rfl ?_ | refine cat_le hA ?_ | refine upd_le hA ?_ | (try cbv)))) <;> (try (subst hA; (try simp only [zn] at *); (try (simp only [Ar.real, NV.val, zo, zt])); first | done | omega | decide | exact zi | (refine ⟨?_, ?_⟩ <;> first | omega | decide | exact zi))))
    cbv
    refine DS.runK hA hT (by rw [hP]; exact P_mixed) 300 rfl ?_
    cbv
    refine CD.pass hA (o3) [(5, 0), (6, 1), (7, 2)] [] rfl ⟨rfl, rfl, rfl, rfl, ?_, ?_⟩ rfl (.inl rfl) ?_
    iterate 2 ((try cbv) <;> (repeat' (first | exact trivial | exact rfl | apply And.intro | exact fun _ => rfl | (intro _ hle; first | refine chunk_le hA rfl hle rfl ?_ | refine cat_le hA ?_ | refine upd_le hA ?_ | (try cbv)))) <;> (try (subst hA; (try simp only [zn] at *); (try (simp only [Ar.real, NV.val, zo, zt])); first | done | omega | decide | exact zi | (refine ⟨?_, ?_⟩ <;> first | omega | decide | exact zi))))
    cbv
    refine CD.pass hA (o4) [] [] rfl ⟨rfl, rfl, rfl, rfl, ?_, ?_⟩ rfl (.inl rfl) ?_
    iterate 2 ((try cbv) <;> (repeat' (first | exact trivial | exact rfl | apply And.intro | exact fun _ => rfl | (intro _ hle; first | refine chunk_le hA rfl hle rfl ?_ | refine cat_le hA ?_ | refine upd_le hA ?_ | (try cbv)))) <;> (try (subst hA; (try simp only [zn] at *); (try (simp only [Ar.real, NV.val, zo, zt])); first | done | omega | decide | exact zi | (refine ⟨?_, ?_⟩ <;> first | omega | decide | exact zi))))
    cbv
    refine CD.pass hA (FnTr.res hA c7 (.bl true) rfl) [] [] rfl ⟨rfl, rfl, rfl, rfl, ?_, ?_⟩ rfl (.inl rfl) ?_
    iterate 2 ((try cbv) <;> (repeat' (first | exact trivial | exact rfl | apply And.intro | exact fun _ => rfl | (intro _ hle; first | refine chunk_le hA rfl hle rfl ?_ | refine cat_le hA ?_ | refine upd_le hA ?_ | (try cbv)))) <;> (try (subst hA; (try simp only [zn] at *); (try (simp only [Ar.real, NV.val, zo, zt])); first | done | omega | decide | exact zi | (refine ⟨?_, ?_⟩ <;> first | omega | decide | exact zi))))
    cbv
    refine CD.pass hA (o5) [(5, 0), (6, 1), (7, 2)] [] rfl ⟨rfl, rfl, rfl, rfl, ?_, ?_⟩ rfl (.inl rfl) ?_
    iterate 2 ((try cbv) <;> (repeat' (first | exact trivial | exact rfl | apply And.intro | exact fun _ => rfl | (intro _ hle; first | refine chunk_le hA rfl hle rfl ?_ | refine cat_le hA ?_ | refine upd_le hA ?_ | (try cbv)))) <;> (try (subst hA; (try simp only [zn] at *); (try (simp only [Ar.real, NV.val, zo, zt])); first | done | omega | decide | exact zi | (refine ⟨?_, ?_⟩ <;> first | omega | decide | exact zi))))
    cbv
    refine DF.fin (by kernel_rfl) (by kernel_rfl) ?_
    cbv
    first | refine testR k0 rfl ?_ | refine testL k0 rfl ?_
    cbv
    refine CS.ren 8 [(436, 8), (437, 9), (5542, 10)] rfl rfl ?_
    cbv
    refine CS.le hA (o3) [(5, 0), (6, 1), (7, 2)] rfl rfl rfl ?_ ?_ ?_
    iterate 2 ((try cbv) <;> (repeat' (first | exact trivial | exact rfl | apply And.intro | exact fun _ => rfl | (intro _ hle; first | refine chunk_le hA rfl hle rfl ?_ | refine cat_le hA ?_ | refine upd_le hA ?_ | (try cbv)))) <;> (try (subst hA; (try simp only [zn] at *); (try (simp only [Ar.real, NV.val, zo, zt])); first | done | omega | decide | exact zi | (refine ⟨?_, ?_⟩ <;> first | omega | decide | exact zi))))
    cbv
    refine CS.le hA (o6) [(5, 0), (6, 1), (7, 2)] rfl rfl rfl ?_ ?_ ?_
    iterate 2 ((try cbv) <;> (repeat' (first | exact trivial | exact rfl | apply And.intro | exact fun _ => rfl | (intro _ hle; first | refine chunk_le hA rfl hle rfl ?_ | refine cat_le hA ?_ | refine upd_le hA ?_ | (try cbv)))) <;> (try (subst hA; (try simp only [zn] at *); (try (simp only [Ar.real, NV.val, zo, zt])); first | done | omega | decide | exact zi | (refine ⟨?_, ?_⟩ <;> first | omega | decide | exact zi))))
    cbv
    refine CS.le hA (o7) [(5, 0), (6, 1), (7, 2), (8, 3), (9, 4)] rfl rfl rfl ?_ ?_ ?_
    iterate 2 ((try cbv) <;> (repeat' (first | exact trivial | exact rfl | apply And.intro | exact fun _ => rfl | (intro _ hle; first | refine chunk_le hA rfl hle rfl ?_ | refine cat_le hA ?_ | refine upd_le hA ?_ | (try cbv)))) <;> (try (subst hA; (try simp only [zn] at *); (try (simp only [Ar.real, NV.val, zo, zt])); first | done | omega | decide | exact zi | (refine ⟨?_, ?_⟩ <;> first | omega | decide | exact zi))))
    cbv
    refine CS.le hA (o8) [(5, 0), (6, 1), (7, 2), (116, 3), (117, 4)] rfl rfl rfl ?_ ?_ ?_
    iterate 2 ((try cbv) <;> (repeat' (first | exact trivial | exact rfl | apply And.intro | exact fun _ => rfl | (intro _ hle; first | refine chunk_le hA rfl hle rfl ?_ | refine cat_le hA ?_ | refine upd_le hA ?_ | (try cbv)))) <;> (try (subst hA; (try simp only [zn] at *); (try (simp only [Ar.real, NV.val, zo, zt])); first | done | omega | decide | exact zi | (refine ⟨?_, ?_⟩ <;> first | omega | decide | exact zi))))
    cbv
    refine CS.le hA (o9) [(5, 0), (6, 1), (7, 2)] rfl rfl rfl ?_ ?_ ?_
    iterate 2 ((try cbv) <;> (repeat' (first | exact trivial | exact rfl | apply And.intro | exact fun _ => rfl | (intro _ hle; first | refine chunk_le hA rfl hle rfl ?_ | refine cat_le hA ?_ | refine upd_le hA ?_ | (try cbv)))) <;> (try (subst hA; (try simp only [zn] at *); (try (simp only [Ar.real, NV.val, zo, zt])); first | done | omega | decide | exact zi | (refine ⟨?_, ?_⟩ <;> first | omega | decide | exact zi))))
    cbv
    refine CS.leR hA (c7) (.bl true) [] rfl rfl rfl ?_ ?_ ?_ ?_
    iterate 3 ((try cbv) <;> (repeat' (first | exact trivial | exact rfl | apply And.intro | exact fun _ => rfl | (intro _ hle; first | refine chunk_le hA rfl hle rfl ?_ | refine cat_le hA ?_ | refine upd_le hA ?_ | (try cbv)))) <;> (try (subst hA; (try simp only [zn] at *); (try (simp only [Ar.real, NV.val, zo, zt])); first | done | omega | decide | exact zi | (refine ⟨?_, ?_⟩ <;> first | omega | decide | exact zi))))
    cbv
    refine CS.le hA (cl) [] rfl rfl rfl ?_ ?_ ?_
    iterate 2 ((try cbv) <;> (repeat' (first | exact trivial | exact rfl | apply And.intro | exact fun _ => rfl | (intro _ hle; first | refine chunk_le hA rfl hle rfl ?_ | refine cat_le hA ?_ | refine upd_le hA ?_ | (try cbv)))) <;> (try (subst hA; (try simp only [zn] at *); (try (simp only [Ar.real, NV.val, zo, zt])); first | done | omega | decide | exact zi | (refine ⟨?_, ?_⟩ <;> first | omega | decide | exact zi))))
    cbv
    refine Fin.le hA 0 [] (.bl true) ([]) 100000 rfl rfl rfl ?_ ?_ (by rw [← hK]; exact ⟨rfl, rfl, rfl⟩)
    iterate 2 ((try cbv) <;> (repeat' (first | exact trivial | exact rfl | apply And.intro | exact fun _ => rfl | (intro _ hle; first | refine chunk_le hA rfl hle rfl ?_ | refine cat_le hA ?_ | refine upd_le hA ?_ | (try cbv)))))
end Go.Proofs.YtnjjgipblimbfaaGreatDoor.Dsk
namespace Go.Proofs.YtnjjgipblimbfaaGreatDoor.Dsk
open Go.Eng Go.RowKit
set_option maxRecDepth 100000
variable {W : World} {v0 v1 v2 v3 v4 : Value}
theorem opens_at (h : Lib.TabIs Tryz.prog W "copse/crc.four" .u32 zs4) (hg : Tryz.prog.globalNamed "copse/crc.four" = some 0)
    {n : Nat} {a : Nat → bysh.Den} (wf0 : n ≤ 9223372036854775807 ∧ ∀ i, i < n → bysh.wf (a i)) (r0 : Rep W (fun b => b < W.heap.size) Vln.no (.ro bysh.size (.s n) (fun e => bysh.svs (a e.val))) v0) :
    Calls Tryz.prog 3 #[v0] W fun e w' => e = .returned (.bool true) ∧ Below W.heap.size W w' :=
  FnTr.law (opens27_law rfl fr4_four (f := fun i => (a i).1) wf0.1 (fun i hi => (wf0.2 i hi).1)) (fun r H n h => .inr h.1) (four_rep h hg) rfl (reps_cons r0 reps_nil)
end Go.Proofs.YtnjjgipblimbfaaGreatDoor.Dsk
