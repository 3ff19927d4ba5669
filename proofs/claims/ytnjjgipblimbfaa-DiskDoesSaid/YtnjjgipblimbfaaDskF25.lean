/-
  Disks: an act, both ways.
-/
import Derived.Test.YtnjjgipblimbfaaDskF24
import Derived.Test.YtnjjgipblimbfaaDskS
set_option linter.unusedVariables false
set_option linter.unusedSimpArgs false
namespace Go.Proofs.Ytnjjgipblimbfaa.Dsk
open Go.Eng
open Go.DskLaw (q64 secV Sim crashP clampB fromP)
set_option maxRecDepth 100000
set_option maxHeartbeats 4000000
set_option linter.unusedVariables false

/-- What an act leaves, both ways. -/
def DoIs (P : Program) (G : Gl) (s N : Nat) (S : Nat → Int) (L : Int → Option (Nat → Int)) (ar : Bool) (ca : Int) (RS RL : Nat → Nat → Int) (W : Nat → Bool) (c : Int) (o : SV) : Prop :=
  ∃ S' L' ar' ca' RS' RL' W' c', Sim s N S' L' ar' ca' RS' RL' W' c' ∧ FnTr P G 25 [.ptr 0 0, RD s RS RL W c, o] (DH N S L ar ca) 3 (Gives (.tup [RD s RS' RL' W' c', .bl true]) (DH N S' L' ar' ca') 3)
variable {P : Program} {G : Gl} {s N : Nat} {S : Nat → Int} {L : Int → Option (Nat → Int)} {ar : Bool} {ca : Int} {RS RL : Nat → Nat → Int} {W : Nat → Bool} {c : Int} {d a : Int} {bn kn : Nat} {b ks kb : Nat → Int}
abbrev ActS (d a : Int) (bn : Nat) (b : Nat → Int) (kn : Nat) (ks kb : Nat → Int) : SV := .agg [.int .i64 d, .int .i64 a, .ro 1 (.s bn) (fun x => [.int .u8 (b x.val)]), .ro 2 (.s kn) (fun x => [.int .i64 (ks x.val), .int .i64 (kb x.val)])]

theorem do_write (hP : P = Try.prog) (h : Sim s N S L ar ca RS RL W c) (hd : d = 0) (hb : ∀ x, x < bn → 0 ≤ b x ∧ b x ≤ 255) : DoIs P G s N S L ar ca RS RL W c (ActS d a bn b kn ks kb) := by
  by_cases ho : c = 0
  · refine ⟨S, L, ar, ca, RS, RL, W, c, h, ?_⟩
    have c1 := refwrite_off (P := P) (G := G) (s := s) (n := bn) (S := RS) (L := RL) (f := b) (W := W) (i := a) hP ho
    have c2 := write_off (P := P) (G := G) (N := N) (n := bn) (S := S) (f := b) (L := L) (i := a) hP (h.off.1 ho)
    clear h hb
    have hT : T.Ok P := hP ▸ T_ok
    refine FnTr.intro (fn := Try.f25) (c := bodyOf Try.f25) (by rw [hP]; rfl) rfl rfl hT ?_
    generalize hA : Ar.real = A
    generalize hK : Gives _ _ _ = K
    cbv
    have k1 : A.eq d 0 = true := by subst hA; rw [hd]; rfl
    first | refine testR k1 rfl ?_ | refine testL k1 rfl ?_
    cbv
    refine CS.le hA (c1) [] rfl rfl rfl ?_ ?_ ?_
    · (try cbv) <;> (repeat' (first | exact trivial | exact rfl | apply And.intro | exact fun _ => rfl | (intro _ hle; first | refine chunk_le hA rfl hle rfl ?_ | refine cat_le hA ?_ | refine upd_le hA ?_ | (try cbv)))) <;> (try (subst hA; (try simp only [natCast_eq] at *); (try (simp only [Ar.real, NV.val, Int.ofNat_eq_natCast, Int.toNat_natCast])); first | done | omega | decide | exact inR64 (by omega) (by omega) | (refine ⟨?_, ?_⟩ <;> first | omega | decide | exact inR64 (by omega) (by omega))))
    · (try cbv) <;> (repeat' (first | exact trivial | exact rfl | apply And.intro | exact fun _ => rfl | (intro _ hle; first | refine chunk_le hA rfl hle rfl ?_ | refine cat_le hA ?_ | refine upd_le hA ?_ | (try cbv))))
    cbv
    refine DS.runK hA hT (by rw [hP]; exact P_mixed) 300 rfl ?_
    cbv
    refine CD.pass hA (c2) [(0, 0), (1, 1), (2, 2)] [] rfl ⟨rfl, rfl, rfl, rfl, ?_, ?_⟩ rfl (.inl rfl) ?_
    · (try cbv) <;> (repeat' (first | exact trivial | exact rfl | apply And.intro | exact fun _ => rfl | (intro _ hle; first | refine chunk_le hA rfl hle rfl ?_ | refine cat_le hA ?_ | refine upd_le hA ?_ | (try cbv)))) <;> (try (subst hA; (try simp only [natCast_eq] at *); (try (simp only [Ar.real, NV.val, Int.ofNat_eq_natCast, Int.toNat_natCast])); first | done | omega | decide | exact inR64 (by omega) (by omega) | (refine ⟨?_, ?_⟩ <;> first | omega | decide | exact inR64 (by omega) (by omega))))
    · (try cbv) <;> (repeat' (first | exact trivial | exact rfl | apply And.intro | exact fun _ => rfl | (intro _ hle; first | refine chunk_le hA rfl hle rfl ?_ | refine cat_le hA ?_ | refine upd_le hA ?_ | (try cbv))))
    cbv
    refine DF.fin (by kernel_rfl) (by kernel_rfl) ?_
    cbv
    refine Fin.le hA 3 [] (.tup [RD s RS RL W c, .bl true]) (DH N S L ar ca) 3 rfl rfl rfl ?_ ?_ (by rw [← hK]; exact ⟨rfl, rfl, rfl⟩)
    · (try cbv) <;> (repeat' (first | exact trivial | exact rfl | apply And.intro | exact fun _ => rfl | (intro _ hle; first | refine chunk_le hA rfl hle rfl ?_ | refine cat_le hA ?_ | refine upd_le hA ?_ | (try cbv))))
    · (try cbv) <;> (repeat' (first | exact trivial | exact rfl | apply And.intro | exact fun _ => rfl | (intro _ hle; first | refine chunk_le hA rfl hle rfl ?_ | refine cat_le hA ?_ | refine upd_le hA ?_ | (try cbv))))
  by_cases hi : a < 0 ∨ (s : Int) ≤ a ∨ bn ≠ 64
  · refine ⟨S, L, ar, ca, RS, RL, W, c, h, ?_⟩
    have c1 := refwrite_arg (P := P) (G := G) (s := s) (n := bn) (S := RS) (L := RL) (f := b) (W := W) (i := a) hP ho hi
    have c2 := write_arg (P := P) (G := G) (N := N) (s := s) (n := bn) (S := S) (f := b) (L := L) (i := a) hP (fun q => ho (h.off.2 q)) h.hN h.hs.2 hi
    clear h hb
    have hT : T.Ok P := hP ▸ T_ok
    refine FnTr.intro (fn := Try.f25) (c := bodyOf Try.f25) (by rw [hP]; rfl) rfl rfl hT ?_
    generalize hA : Ar.real = A
    generalize hK : Gives _ _ _ = K
    cbv
    have k1 : A.eq d 0 = true := by subst hA; rw [hd]; rfl
    first | refine testR k1 rfl ?_ | refine testL k1 rfl ?_
    cbv
    refine CS.le hA (c1) [] rfl rfl rfl ?_ ?_ ?_
    · (try cbv) <;> (repeat' (first | exact trivial | exact rfl | apply And.intro | exact fun _ => rfl | (intro _ hle; first | refine chunk_le hA rfl hle rfl ?_ | refine cat_le hA ?_ | refine upd_le hA ?_ | (try cbv)))) <;> (try (subst hA; (try simp only [natCast_eq] at *); (try (simp only [Ar.real, NV.val, Int.ofNat_eq_natCast, Int.toNat_natCast])); first | done | omega | decide | exact inR64 (by omega) (by omega) | (refine ⟨?_, ?_⟩ <;> first | omega | decide | exact inR64 (by omega) (by omega))))
    · (try cbv) <;> (repeat' (first | exact trivial | exact rfl | apply And.intro | exact fun _ => rfl | (intro _ hle; first | refine chunk_le hA rfl hle rfl ?_ | refine cat_le hA ?_ | refine upd_le hA ?_ | (try cbv))))
    cbv
    refine DS.runK hA hT (by rw [hP]; exact P_mixed) 300 rfl ?_
    cbv
    refine CD.pass hA (c2) [(0, 0), (1, 1), (2, 2)] [] rfl ⟨rfl, rfl, rfl, rfl, ?_, ?_⟩ rfl (.inl rfl) ?_
    · (try cbv) <;> (repeat' (first | exact trivial | exact rfl | apply And.intro | exact fun _ => rfl | (intro _ hle; first | refine chunk_le hA rfl hle rfl ?_ | refine cat_le hA ?_ | refine upd_le hA ?_ | (try cbv)))) <;> (try (subst hA; (try simp only [natCast_eq] at *); (try (simp only [Ar.real, NV.val, Int.ofNat_eq_natCast, Int.toNat_natCast])); first | done | omega | decide | exact inR64 (by omega) (by omega) | (refine ⟨?_, ?_⟩ <;> first | omega | decide | exact inR64 (by omega) (by omega))))
    · (try cbv) <;> (repeat' (first | exact trivial | exact rfl | apply And.intro | exact fun _ => rfl | (intro _ hle; first | refine chunk_le hA rfl hle rfl ?_ | refine cat_le hA ?_ | refine upd_le hA ?_ | (try cbv))))
    cbv
    refine DF.fin (by kernel_rfl) (by kernel_rfl) ?_
    cbv
    refine Fin.le hA 3 [] (.tup [RD s RS RL W c, .bl true]) (DH N S L ar ca) 3 rfl rfl rfl ?_ ?_ (by rw [← hK]; exact ⟨rfl, rfl, rfl⟩)
    · (try cbv) <;> (repeat' (first | exact trivial | exact rfl | apply And.intro | exact fun _ => rfl | (intro _ hle; first | refine chunk_le hA rfl hle rfl ?_ | refine cat_le hA ?_ | refine upd_le hA ?_ | (try cbv))))
    · (try cbv) <;> (repeat' (first | exact trivial | exact rfl | apply And.intro | exact fun _ => rfl | (intro _ hle; first | refine chunk_le hA rfl hle rfl ?_ | refine cat_le hA ?_ | refine upd_le hA ?_ | (try cbv))))
  obtain ⟨i, hai⟩ : ∃ i : Nat, a = (i : Int) := ⟨a.toNat, by omega⟩
  subst hai
  have hbn : bn = 64 := by omega
  have his : i < s := by omega
  obtain ⟨L', hL'⟩ : ∃ L' : Int → Option (Nat → Int), ∀ k, L' k = if k = (i : Int) then some b else L k := ⟨_, fun _ => rfl⟩
  obtain ⟨RL', hRL'⟩ : ∃ RL' : Nat → Nat → Int, ∀ t x, RL' t x = if t = i then b x else RL t x := ⟨_, fun _ _ => rfl⟩
  obtain ⟨W', hW'⟩ : ∃ W' : Nat → Bool, ∀ t, W' t = if t = i then true else W t := ⟨_, fun _ => rfl⟩
  obtain ⟨ca', hca'⟩ : ∃ ca', ca' = if ar then ca - 1 else ca := ⟨_, rfl⟩
  obtain ⟨c', hc'⟩ : ∃ c', c' = if 0 < c then c - 1 else c := ⟨_, rfl⟩
  refine ⟨S, L', ar, ca', RS, RL', W', c', h.write ho his (fun x hx => hb x (by omega)) hL' hca' hRL' hW' hc', ?_⟩
  have c1 := refwrite_ok (P := P) (G := G) (s := s) (n := bn) (i := i) (S := RS) (L := RL) (L' := RL') (f := b) (W := W) (W' := W') hP h.hs.2 ho h.crange his hbn (fun t x _ _ => hRL' t x) (fun t _ => hW' t) hc'
  have c2 := write_ok (P := P) (G := G) (N := N) (s := s) (n := bn) (i := i) (S := S) (f := b) (L := L) (L' := L') hP (fun q => ho (h.off.2 q)) h.hN h.hs.2 his hbn hL' hca' h.hca
  clear h hb hL' hRL' hW' hca' hc'
  have hT : T.Ok P := hP ▸ T_ok
  refine FnTr.intro (fn := Try.f25) (c := bodyOf Try.f25) (by rw [hP]; rfl) rfl rfl hT ?_
  generalize hA : Ar.real = A
  generalize hK : Gives _ _ _ = K
  cbv
  have k1 : A.eq d 0 = true := by subst hA; rw [hd]; rfl
  first | refine testR k1 rfl ?_ | refine testL k1 rfl ?_
  cbv
  refine CS.le hA (c1) [] rfl rfl rfl ?_ ?_ ?_
  · (try cbv) <;> (repeat' (first | exact trivial | exact rfl | apply And.intro | exact fun _ => rfl | (intro _ hle; first | refine chunk_le hA rfl hle rfl ?_ | refine cat_le hA ?_ | refine upd_le hA ?_ | (try cbv)))) <;> (try (subst hA; (try simp only [natCast_eq] at *); (try (simp only [Ar.real, NV.val, Int.ofNat_eq_natCast, Int.toNat_natCast])); first | done | omega | decide | exact inR64 (by omega) (by omega) | (refine ⟨?_, ?_⟩ <;> first | omega | decide | exact inR64 (by omega) (by omega))))
  · (try cbv) <;> (repeat' (first | exact trivial | exact rfl | apply And.intro | exact fun _ => rfl | (intro _ hle; first | refine chunk_le hA rfl hle rfl ?_ | refine cat_le hA ?_ | refine upd_le hA ?_ | (try cbv))))
  cbv
  refine DS.runK hA hT (by rw [hP]; exact P_mixed) 300 rfl ?_
  cbv
  refine CD.pass hA (c2) [(0, 0), (1, 1), (2, 2)] [] rfl ⟨rfl, rfl, rfl, rfl, ?_, ?_⟩ rfl (.inl rfl) ?_
  · (try cbv) <;> (repeat' (first | exact trivial | exact rfl | apply And.intro | exact fun _ => rfl | (intro _ hle; first | refine chunk_le hA rfl hle rfl ?_ | refine cat_le hA ?_ | refine upd_le hA ?_ | (try cbv)))) <;> (try (subst hA; (try simp only [natCast_eq] at *); (try (simp only [Ar.real, NV.val, Int.ofNat_eq_natCast, Int.toNat_natCast])); first | done | omega | decide | exact inR64 (by omega) (by omega) | (refine ⟨?_, ?_⟩ <;> first | omega | decide | exact inR64 (by omega) (by omega))))
  · (try cbv) <;> (repeat' (first | exact trivial | exact rfl | apply And.intro | exact fun _ => rfl | (intro _ hle; first | refine chunk_le hA rfl hle rfl ?_ | refine cat_le hA ?_ | refine upd_le hA ?_ | (try cbv))))
  cbv
  refine DF.fin (by kernel_rfl) (by kernel_rfl) ?_
  cbv
  refine Fin.le hA 3 [] (.tup [RD s RS RL' W' c', .bl true]) (DH N S L' ar ca') 3 rfl rfl rfl ?_ ?_ (by rw [← hK]; exact ⟨rfl, rfl, rfl⟩)
  · (try cbv) <;> (repeat' (first | exact trivial | exact rfl | apply And.intro | exact fun _ => rfl | (intro _ hle; first | refine chunk_le hA rfl hle rfl ?_ | refine cat_le hA ?_ | refine upd_le hA ?_ | (try cbv))))
  · (try cbv) <;> (repeat' (first | exact trivial | exact rfl | apply And.intro | exact fun _ => rfl | (intro _ hle; first | refine chunk_le hA rfl hle rfl ?_ | refine cat_le hA ?_ | refine upd_le hA ?_ | (try cbv))))
theorem do_flush (hP : P = Try.prog) (h : Sim s N S L ar ca RS RL W c) (hd : d = 1) : DoIs P G s N S L ar ca RS RL W c (ActS d a bn b kn ks kb) := by
  by_cases ho : c = 0
  · refine ⟨S, L, ar, ca, RS, RL, W, c, h, ?_⟩
    have c1 := refflush_off (P := P) (G := G) (s := s) (S := RS) (L := RL) (W := W) hP ho
    have c2 := flush_off (P := P) (G := G) (N := N) (S := S) (L := L) hP (h.off.1 ho)
    clear h
    have hT : T.Ok P := hP ▸ T_ok
    refine FnTr.intro (fn := Try.f25) (c := bodyOf Try.f25) (by rw [hP]; rfl) rfl rfl hT ?_
    generalize hA : Ar.real = A
    generalize hK : Gives _ _ _ = K
    cbv
    have k1 : A.eq d 0 = false := by subst hA; rw [hd]; rfl
    have k2 : A.eq d 1 = true := by subst hA; rw [hd]; rfl
    first | refine testR k1 rfl ?_ | refine testL k1 rfl ?_
    cbv
    first | refine testR k2 rfl ?_ | refine testL k2 rfl ?_
    cbv
    refine CS.le hA (c1) [] rfl rfl rfl ?_ ?_ ?_
    · (try cbv) <;> (repeat' (first | exact trivial | exact rfl | apply And.intro | exact fun _ => rfl | (intro _ hle; first | refine chunk_le hA rfl hle rfl ?_ | refine cat_le hA ?_ | refine upd_le hA ?_ | (try cbv)))) <;> (try (subst hA; (try simp only [natCast_eq] at *); (try (simp only [Ar.real, NV.val, Int.ofNat_eq_natCast, Int.toNat_natCast])); first | done | omega | decide | exact inR64 (by omega) (by omega) | (refine ⟨?_, ?_⟩ <;> first | omega | decide | exact inR64 (by omega) (by omega))))
    · (try cbv) <;> (repeat' (first | exact trivial | exact rfl | apply And.intro | exact fun _ => rfl | (intro _ hle; first | refine chunk_le hA rfl hle rfl ?_ | refine cat_le hA ?_ | refine upd_le hA ?_ | (try cbv))))
    cbv
    refine DS.runK hA hT (by rw [hP]; exact P_mixed) 300 rfl ?_
    cbv
    refine CD.pass hA (c2) [(0, 0), (1, 1), (2, 2)] [] rfl ⟨rfl, rfl, rfl, rfl, ?_, ?_⟩ rfl (.inl rfl) ?_
    · (try cbv) <;> (repeat' (first | exact trivial | exact rfl | apply And.intro | exact fun _ => rfl | (intro _ hle; first | refine chunk_le hA rfl hle rfl ?_ | refine cat_le hA ?_ | refine upd_le hA ?_ | (try cbv)))) <;> (try (subst hA; (try simp only [natCast_eq] at *); (try (simp only [Ar.real, NV.val, Int.ofNat_eq_natCast, Int.toNat_natCast])); first | done | omega | decide | exact inR64 (by omega) (by omega) | (refine ⟨?_, ?_⟩ <;> first | omega | decide | exact inR64 (by omega) (by omega))))
    · (try cbv) <;> (repeat' (first | exact trivial | exact rfl | apply And.intro | exact fun _ => rfl | (intro _ hle; first | refine chunk_le hA rfl hle rfl ?_ | refine cat_le hA ?_ | refine upd_le hA ?_ | (try cbv))))
    cbv
    refine DF.fin (by kernel_rfl) (by kernel_rfl) ?_
    cbv
    refine Fin.le hA 3 [] (.tup [RD s RS RL W c, .bl true]) (DH N S L ar ca) 3 rfl rfl rfl ?_ ?_ (by rw [← hK]; exact ⟨rfl, rfl, rfl⟩)
    · (try cbv) <;> (repeat' (first | exact trivial | exact rfl | apply And.intro | exact fun _ => rfl | (intro _ hle; first | refine chunk_le hA rfl hle rfl ?_ | refine cat_le hA ?_ | refine upd_le hA ?_ | (try cbv))))
    · (try cbv) <;> (repeat' (first | exact trivial | exact rfl | apply And.intro | exact fun _ => rfl | (intro _ hle; first | refine chunk_le hA rfl hle rfl ?_ | refine cat_le hA ?_ | refine upd_le hA ?_ | (try cbv))))
  obtain ⟨S', hS'⟩ : ∃ S' : Nat → Int, ∀ x, S' x = secV S L (x / 64) (x % 64) := ⟨_, fun _ => rfl⟩
  obtain ⟨L', hL'⟩ : ∃ L' : Int → Option (Nat → Int), ∀ k, L' k = none := ⟨fun _ => none, fun _ => rfl⟩
  obtain ⟨W', hW'⟩ : ∃ W' : Nat → Bool, ∀ t, W' t = false := ⟨fun _ => false, fun _ => rfl⟩
  obtain ⟨ca', hca'⟩ : ∃ ca', ca' = if ar then ca - 1 else ca := ⟨_, rfl⟩
  obtain ⟨c', hc'⟩ : ∃ c', c' = if 0 < c then c - 1 else c := ⟨_, rfl⟩
  refine ⟨S', L', ar, ca', RL, RL, W', c', h.flush ho hS' hL' hca' hW' hc', ?_⟩
  have c1 := refflush_ok (P := P) (G := G) (s := s) (S := RS) (L := RL) (S' := RL) (L' := RL) (W := W) (W' := W') hP h.hs.2 ho h.crange (fun t x _ _ => rfl) (fun t x _ _ => rfl) hW' hc'
  have c2 := flush_ok (P := P) (G := G) (N := N) (s := s) (S := S) (S' := S') (L := L) (L' := L') hP (fun q => ho (h.off.2 q)) h.hN h.hs hca' h.hca h.key (fun x _ => hS' x) hL'
  clear h hS' hL' hW' hca' hc'
  have hT : T.Ok P := hP ▸ T_ok
  refine FnTr.intro (fn := Try.f25) (c := bodyOf Try.f25) (by rw [hP]; rfl) rfl rfl hT ?_
  generalize hA : Ar.real = A
  generalize hK : Gives _ _ _ = K
  cbv
  have k1 : A.eq d 0 = false := by subst hA; rw [hd]; rfl
  have k2 : A.eq d 1 = true := by subst hA; rw [hd]; rfl
  first | refine testR k1 rfl ?_ | refine testL k1 rfl ?_
  cbv
  first | refine testR k2 rfl ?_ | refine testL k2 rfl ?_
  cbv
  refine CS.le hA (c1) [] rfl rfl rfl ?_ ?_ ?_
  · (try cbv) <;> (repeat' (first | exact trivial | exact rfl | apply And.intro | exact fun _ => rfl | (intro _ hle; first | refine chunk_le hA rfl hle rfl ?_ | refine cat_le hA ?_ | refine upd_le hA ?_ | (try cbv)))) <;> (try (subst hA; (try simp only [natCast_eq] at *); (try (simp only [Ar.real, NV.val, Int.ofNat_eq_natCast, Int.toNat_natCast])); first | done | omega | decide | exact inR64 (by omega) (by omega) | (refine ⟨?_, ?_⟩ <;> first | omega | decide | exact inR64 (by omega) (by omega))))
  · (try cbv) <;> (repeat' (first | exact trivial | exact rfl | apply And.intro | exact fun _ => rfl | (intro _ hle; first | refine chunk_le hA rfl hle rfl ?_ | refine cat_le hA ?_ | refine upd_le hA ?_ | (try cbv))))
  cbv
  refine DS.runK hA hT (by rw [hP]; exact P_mixed) 300 rfl ?_
  cbv
  refine CD.pass hA (c2) [(0, 0), (1, 1), (2, 2)] [] rfl ⟨rfl, rfl, rfl, rfl, ?_, ?_⟩ rfl (.inl rfl) ?_
  · (try cbv) <;> (repeat' (first | exact trivial | exact rfl | apply And.intro | exact fun _ => rfl | (intro _ hle; first | refine chunk_le hA rfl hle rfl ?_ | refine cat_le hA ?_ | refine upd_le hA ?_ | (try cbv)))) <;> (try (subst hA; (try simp only [natCast_eq] at *); (try (simp only [Ar.real, NV.val, Int.ofNat_eq_natCast, Int.toNat_natCast])); first | done | omega | decide | exact inR64 (by omega) (by omega) | (refine ⟨?_, ?_⟩ <;> first | omega | decide | exact inR64 (by omega) (by omega))))
  · (try cbv) <;> (repeat' (first | exact trivial | exact rfl | apply And.intro | exact fun _ => rfl | (intro _ hle; first | refine chunk_le hA rfl hle rfl ?_ | refine cat_le hA ?_ | refine upd_le hA ?_ | (try cbv))))
  cbv
  refine DF.fin (by kernel_rfl) (by kernel_rfl) ?_
  cbv
  refine Fin.le hA 3 [] (.tup [RD s RL RL W' c', .bl true]) (DH N S' L' ar ca') 3 rfl rfl rfl ?_ ?_ (by rw [← hK]; exact ⟨rfl, rfl, rfl⟩)
  · (try cbv) <;> (repeat' (first | exact trivial | exact rfl | apply And.intro | exact fun _ => rfl | (intro _ hle; first | refine chunk_le hA rfl hle rfl ?_ | refine cat_le hA ?_ | refine upd_le hA ?_ | (try cbv))))
  · (try cbv) <;> (repeat' (first | exact trivial | exact rfl | apply And.intro | exact fun _ => rfl | (intro _ hle; first | refine chunk_le hA rfl hle rfl ?_ | refine cat_le hA ?_ | refine upd_le hA ?_ | (try cbv))))
theorem do_stop (hP : P = Try.prog) (h : Sim s N S L ar ca RS RL W c) (hd : d = 2) (ha : a ≤ 9223372036854775807) : DoIs P G s N S L ar ca RS RL W c (ActS d a bn b kn ks kb) := by
  obtain ⟨ar', ca', c', hs', h1, h2⟩ : ∃ ar' ca' c', Sim s N S L ar' ca' RS RL W c' ∧ ((ar = true ∧ ca = 0 ∧ ar' = ar ∧ ca' = ca) ∨ (¬ (ar = true ∧ ca = 0) ∧ (ar' = true ↔ 0 ≤ a) ∧ ca' = if a < 0 then 0 else a)) ∧ c' = if c = 0 then c else if a < 0 then -1 else a := by
    by_cases ho : c = 0
    · exact ⟨ar, ca, c, h, .inl ⟨(h.off.1 ho).1, (h.off.1 ho).2, rfl, rfl⟩, by rw [if_pos ho]⟩
    · refine ⟨decide (0 ≤ a), _, _, h.stop (n := a) ho ha (by simp) rfl rfl, .inr ⟨fun q => ho (h.off.2 q), by simp, rfl⟩, by rw [if_neg ho]⟩
  refine ⟨S, L, ar', ca', RS, RL, W, c', hs', ?_⟩
  have c1 := stop_fn (P := P) (G := G) (N := N) (S := S) (L := L) hP h1
  have c2 := refstop_fn (P := P) (G := G) (s := s) (S := RS) (L := RL) (W := W) hP h2
  clear h hs' h1 h2
  have hT : T.Ok P := hP ▸ T_ok
  refine FnTr.intro (fn := Try.f25) (c := bodyOf Try.f25) (by rw [hP]; rfl) rfl rfl hT ?_
  generalize hA : Ar.real = A
  generalize hK : Gives _ _ _ = K
  cbv
  have k1 : A.eq d 0 = false := by subst hA; rw [hd]; rfl
  have k2 : A.eq d 1 = false := by subst hA; rw [hd]; rfl
  have k3 : A.eq d 2 = true := by subst hA; rw [hd]; rfl
  first | refine testR k1 rfl ?_ | refine testL k1 rfl ?_
  cbv
  first | refine testR k2 rfl ?_ | refine testL k2 rfl ?_
  cbv
  first | refine testR k3 rfl ?_ | refine testL k3 rfl ?_
  cbv
  refine CS.le hA (c1) [(0, 0), (1, 1), (2, 2)] rfl rfl rfl ?_ ?_ ?_
  · (try cbv) <;> (repeat' (first | exact trivial | exact rfl | apply And.intro | exact fun _ => rfl | (intro _ hle; first | refine chunk_le hA rfl hle rfl ?_ | refine cat_le hA ?_ | refine upd_le hA ?_ | (try cbv)))) <;> (try (subst hA; (try simp only [natCast_eq] at *); (try (simp only [Ar.real, NV.val, Int.ofNat_eq_natCast, Int.toNat_natCast])); first | done | omega | decide | exact inR64 (by omega) (by omega) | (refine ⟨?_, ?_⟩ <;> first | omega | decide | exact inR64 (by omega) (by omega))))
  · (try cbv) <;> (repeat' (first | exact trivial | exact rfl | apply And.intro | exact fun _ => rfl | (intro _ hle; first | refine chunk_le hA rfl hle rfl ?_ | refine cat_le hA ?_ | refine upd_le hA ?_ | (try cbv))))
  cbv
  refine CS.le hA (c2) [] rfl rfl rfl ?_ ?_ ?_
  · (try cbv) <;> (repeat' (first | exact trivial | exact rfl | apply And.intro | exact fun _ => rfl | (intro _ hle; first | refine chunk_le hA rfl hle rfl ?_ | refine cat_le hA ?_ | refine upd_le hA ?_ | (try cbv)))) <;> (try (subst hA; (try simp only [natCast_eq] at *); (try (simp only [Ar.real, NV.val, Int.ofNat_eq_natCast, Int.toNat_natCast])); first | done | omega | decide | exact inR64 (by omega) (by omega) | (refine ⟨?_, ?_⟩ <;> first | omega | decide | exact inR64 (by omega) (by omega))))
  · (try cbv) <;> (repeat' (first | exact trivial | exact rfl | apply And.intro | exact fun _ => rfl | (intro _ hle; first | refine chunk_le hA rfl hle rfl ?_ | refine cat_le hA ?_ | refine upd_le hA ?_ | (try cbv))))
  cbv
  refine Fin.le hA 3 [] (.tup [RD s RS RL W c', .bl true]) (DH N S L ar' ca') 3 rfl rfl rfl ?_ ?_ (by rw [← hK]; exact ⟨rfl, rfl, rfl⟩)
  · (try cbv) <;> (repeat' (first | exact trivial | exact rfl | apply And.intro | exact fun _ => rfl | (intro _ hle; first | refine chunk_le hA rfl hle rfl ?_ | refine cat_le hA ?_ | refine upd_le hA ?_ | (try cbv))))
  · (try cbv) <;> (repeat' (first | exact trivial | exact rfl | apply And.intro | exact fun _ => rfl | (intro _ hle; first | refine chunk_le hA rfl hle rfl ?_ | refine cat_le hA ?_ | refine upd_le hA ?_ | (try cbv))))
theorem do_crash (hP : P = Try.prog) (h : Sim s N S L ar ca RS RL W c) (hd : d = 3) (hk : kn ≤ 1000000) : DoIs P G s N S L ar ca RS RL W c (ActS d a bn b kn ks kb) := by
  obtain ⟨S', hS'⟩ : ∃ S' : Nat → Int, ∀ x, S' x = (crashP S L ks kb kn).1 x := ⟨_, fun _ => rfl⟩
  obtain ⟨L', hL'⟩ : ∃ L' : Int → Option (Nat → Int), ∀ k, L' k = none := ⟨fun _ => none, fun _ => rfl⟩
  obtain ⟨W', hW'⟩ : ∃ W' : Nat → Bool, ∀ t, W' t = false := ⟨fun _ => false, fun _ => rfl⟩
  obtain ⟨M, hM⟩ : ∃ M : Nat → Nat, ∀ t, M t = if W t then clampB (fromP ks kb (t : Int) kn kn) else 0 := ⟨_, fun _ => rfl⟩
  obtain ⟨R', hR'⟩ : ∃ R' : Nat → Nat → Int, ∀ t x, R' t x = if x < M t then RL t x else RS t x := ⟨_, fun _ _ => rfl⟩
  refine ⟨S', L', false, 0, R', R', W', -1, h.crash hS' hL' hM hR' hW', ?_⟩
  have c1 := crash_fn (P := P) (G := G) (N := N) (s := s) (n := kn) (S := S) (S' := S') (L := L) (L' := L') (ar := ar) (ca := ca) (ks := ks) (kb := kb) hP h.hN h.hs.2 hk h.key (fun x _ => hS' x) hL'
  have c2 := refcrash_fn (P := P) (G := G) (s := s) (n := kn) (S := RS) (L := RL) (S' := R') (W := W) (W' := W') (c := c) (ks := ks) (kb := kb) (M := M) hP h.hs.2 hk (fun t _ => hM t) (fun t x _ _ => hR' t x) hW'
  clear h hS' hL' hW' hM hR'
  have hT : T.Ok P := hP ▸ T_ok
  refine FnTr.intro (fn := Try.f25) (c := bodyOf Try.f25) (by rw [hP]; rfl) rfl rfl hT ?_
  generalize hA : Ar.real = A
  generalize hK : Gives _ _ _ = K
  cbv
  have k1 : A.eq d 0 = false := by subst hA; rw [hd]; rfl
  have k2 : A.eq d 1 = false := by subst hA; rw [hd]; rfl
  have k3 : A.eq d 2 = false := by subst hA; rw [hd]; rfl
  have k4 : A.eq d 3 = true := by subst hA; rw [hd]; rfl
  first | refine testR k1 rfl ?_ | refine testL k1 rfl ?_
  cbv
  first | refine testR k2 rfl ?_ | refine testL k2 rfl ?_
  cbv
  first | refine testR k3 rfl ?_ | refine testL k3 rfl ?_
  cbv
  first | refine testR k4 rfl ?_ | refine testL k4 rfl ?_
  cbv
  refine CS.le hA (c1) [(0, 0), (1, 1), (2, 2)] rfl rfl rfl ?_ ?_ ?_
  · (try cbv) <;> (repeat' (first | exact trivial | exact rfl | apply And.intro | exact fun _ => rfl | (intro _ hle; first | refine chunk_le hA rfl hle rfl ?_ | refine cat_le hA ?_ | refine upd_le hA ?_ | (try cbv)))) <;> (try (subst hA; (try simp only [natCast_eq] at *); (try (simp only [Ar.real, NV.val, Int.ofNat_eq_natCast, Int.toNat_natCast])); first | done | omega | decide | exact inR64 (by omega) (by omega) | (refine ⟨?_, ?_⟩ <;> first | omega | decide | exact inR64 (by omega) (by omega))))
  · (try cbv) <;> (repeat' (first | exact trivial | exact rfl | apply And.intro | exact fun _ => rfl | (intro _ hle; first | refine chunk_le hA rfl hle rfl ?_ | refine cat_le hA ?_ | refine upd_le hA ?_ | (try cbv))))
  cbv
  refine CS.le hA (c2) [] rfl rfl rfl ?_ ?_ ?_
  · (try cbv) <;> (repeat' (first | exact trivial | exact rfl | apply And.intro | exact fun _ => rfl | (intro _ hle; first | refine chunk_le hA rfl hle rfl ?_ | refine cat_le hA ?_ | refine upd_le hA ?_ | (try cbv)))) <;> (try (subst hA; (try simp only [natCast_eq] at *); (try (simp only [Ar.real, NV.val, Int.ofNat_eq_natCast, Int.toNat_natCast])); first | done | omega | decide | exact inR64 (by omega) (by omega) | (refine ⟨?_, ?_⟩ <;> first | omega | decide | exact inR64 (by omega) (by omega))))
  · (try cbv) <;> (repeat' (first | exact trivial | exact rfl | apply And.intro | exact fun _ => rfl | (intro _ hle; first | refine chunk_le hA rfl hle rfl ?_ | refine cat_le hA ?_ | refine upd_le hA ?_ | (try cbv))))
  cbv
  refine Fin.le hA 3 [] (.tup [RD s R' R' W' (-1), .bl true]) (DH N S' L' false 0) 3 rfl rfl rfl ?_ ?_ (by rw [← hK]; exact ⟨rfl, rfl, rfl⟩)
  · (try cbv) <;> (repeat' (first | exact trivial | exact rfl | apply And.intro | exact fun _ => rfl | (intro _ hle; first | refine chunk_le hA rfl hle rfl ?_ | refine cat_le hA ?_ | refine upd_le hA ?_ | (try cbv))))
  · (try cbv) <;> (repeat' (first | exact trivial | exact rfl | apply And.intro | exact fun _ => rfl | (intro _ hle; first | refine chunk_le hA rfl hle rfl ?_ | refine cat_le hA ?_ | refine upd_le hA ?_ | (try cbv))))
theorem do_read (hP : P = Try.prog) (h : Sim s N S L ar ca RS RL W c) (hd : d ≠ 0 ∧ d ≠ 1 ∧ d ≠ 2 ∧ d ≠ 3) : DoIs P G s N S L ar ca RS RL W c (ActS d a bn b kn ks kb) := by
  refine ⟨S, L, ar, ca, RS, RL, W, c, h, ?_⟩
  have c0 := same_fn (P := P) (G := G) (n := 0) (m := 0) (f := fun _ => 0) (g := fun _ => 0) (res := true) hP (fun i hi => by omega) (fun i hi => by omega) ⟨fun _ => ⟨rfl, fun _ _ => rfl⟩, fun _ => rfl⟩
  by_cases ho : c = 0
  · have c1 := refread_off (P := P) (G := G) (s := s) (S := RS) (L := RL) (W := W) (i := a) hP ho
    have c2 := read_off (P := P) (G := G) (N := N) (S := S) (L := L) (i := a) hP (h.off.1 ho)
    clear h
    have hT : T.Ok P := hP ▸ T_ok
    refine FnTr.intro (fn := Try.f25) (c := bodyOf Try.f25) (by rw [hP]; rfl) rfl rfl hT ?_
    generalize hA : Ar.real = A
    generalize hK : Gives _ _ _ = K
    cbv
    have k1 : A.eq d 0 = false := by subst hA; simp [Ar.real]; exact hd.1
    have k2 : A.eq d 1 = false := by subst hA; simp [Ar.real]; exact hd.2.1
    have k3 : A.eq d 2 = false := by subst hA; simp [Ar.real]; exact hd.2.2.1
    have k4 : A.eq d 3 = false := by subst hA; simp [Ar.real]; exact hd.2.2.2
    first | refine testR k1 rfl ?_ | refine testL k1 rfl ?_
    cbv
    first | refine testR k2 rfl ?_ | refine testL k2 rfl ?_
    cbv
    first | refine testR k3 rfl ?_ | refine testL k3 rfl ?_
    cbv
    first | refine testR k4 rfl ?_ | refine testL k4 rfl ?_
    cbv
    refine CS.le hA (c1) [] rfl rfl rfl ?_ ?_ ?_
    · (try cbv) <;> (repeat' (first | exact trivial | exact rfl | apply And.intro | exact fun _ => rfl | (intro _ hle; first | refine chunk_le hA rfl hle rfl ?_ | refine cat_le hA ?_ | refine upd_le hA ?_ | (try cbv)))) <;> (try (subst hA; (try simp only [natCast_eq] at *); (try (simp only [Ar.real, NV.val, Int.ofNat_eq_natCast, Int.toNat_natCast])); first | done | omega | decide | exact inR64 (by omega) (by omega) | (refine ⟨?_, ?_⟩ <;> first | omega | decide | exact inR64 (by omega) (by omega))))
    · (try cbv) <;> (repeat' (first | exact trivial | exact rfl | apply And.intro | exact fun _ => rfl | (intro _ hle; first | refine chunk_le hA rfl hle rfl ?_ | refine cat_le hA ?_ | refine upd_le hA ?_ | (try cbv))))
    cbv
    refine CS.le hA (c2) [(0, 0), (1, 1), (2, 2)] rfl rfl rfl ?_ ?_ ?_
    · (try cbv) <;> (repeat' (first | exact trivial | exact rfl | apply And.intro | exact fun _ => rfl | (intro _ hle; first | refine chunk_le hA rfl hle rfl ?_ | refine cat_le hA ?_ | refine upd_le hA ?_ | (try cbv)))) <;> (try (subst hA; (try simp only [natCast_eq] at *); (try (simp only [Ar.real, NV.val, Int.ofNat_eq_natCast, Int.toNat_natCast])); first | done | omega | decide | exact inR64 (by omega) (by omega) | (refine ⟨?_, ?_⟩ <;> first | omega | decide | exact inR64 (by omega) (by omega))))
    · (try cbv) <;> (repeat' (first | exact trivial | exact rfl | apply And.intro | exact fun _ => rfl | (intro _ hle; first | refine chunk_le hA rfl hle rfl ?_ | refine cat_le hA ?_ | refine upd_le hA ?_ | (try cbv))))
    cbv
    refine DS.runK hA hT (by rw [hP]; exact P_mixed) 300 rfl ?_
    cbv
    refine CD.pass hA (FnTr.res hA c0 (.bl true) rfl) [] [] rfl ⟨rfl, rfl, rfl, rfl, ?_, ?_⟩ rfl (.inl rfl) ?_
    · (try cbv) <;> (repeat' (first | exact trivial | exact rfl | apply And.intro | exact fun _ => rfl | (intro _ hle; first | refine chunk_le hA rfl hle rfl ?_ | refine cat_le hA ?_ | refine upd_le hA ?_ | (try cbv))))
    · (try cbv) <;> (repeat' (first | exact trivial | exact rfl | apply And.intro | exact fun _ => rfl | (intro _ hle; first | refine chunk_le hA rfl hle rfl ?_ | refine cat_le hA ?_ | refine upd_le hA ?_ | (try cbv))))
    cbv
    refine DF.fin (by kernel_rfl) (by kernel_rfl) ?_
    cbv
    refine Fin.le hA 3 [] (.tup [RD s RS RL W c, .bl true]) (DH N S L ar ca) 3 rfl rfl rfl ?_ ?_ (by rw [← hK]; exact ⟨rfl, rfl, rfl⟩)
    · (try cbv) <;> (repeat' (first | exact trivial | exact rfl | apply And.intro | exact fun _ => rfl | (intro _ hle; first | refine chunk_le hA rfl hle rfl ?_ | refine cat_le hA ?_ | refine upd_le hA ?_ | (try cbv))))
    · (try cbv) <;> (repeat' (first | exact trivial | exact rfl | apply And.intro | exact fun _ => rfl | (intro _ hle; first | refine chunk_le hA rfl hle rfl ?_ | refine cat_le hA ?_ | refine upd_le hA ?_ | (try cbv))))
  by_cases hi : a < 0 ∨ (s : Int) ≤ a
  · have c1 := refread_arg (P := P) (G := G) (s := s) (S := RS) (L := RL) (W := W) (i := a) hP ho hi
    have c2 := read_arg (P := P) (G := G) (N := N) (s := s) (S := S) (L := L) (i := a) hP (fun q => ho (h.off.2 q)) h.hN h.hs.2 hi
    clear h
    have hT : T.Ok P := hP ▸ T_ok
    refine FnTr.intro (fn := Try.f25) (c := bodyOf Try.f25) (by rw [hP]; rfl) rfl rfl hT ?_
    generalize hA : Ar.real = A
    generalize hK : Gives _ _ _ = K
    cbv
    have k1 : A.eq d 0 = false := by subst hA; simp [Ar.real]; exact hd.1
    have k2 : A.eq d 1 = false := by subst hA; simp [Ar.real]; exact hd.2.1
    have k3 : A.eq d 2 = false := by subst hA; simp [Ar.real]; exact hd.2.2.1
    have k4 : A.eq d 3 = false := by subst hA; simp [Ar.real]; exact hd.2.2.2
    first | refine testR k1 rfl ?_ | refine testL k1 rfl ?_
    cbv
    first | refine testR k2 rfl ?_ | refine testL k2 rfl ?_
    cbv
    first | refine testR k3 rfl ?_ | refine testL k3 rfl ?_
    cbv
    first | refine testR k4 rfl ?_ | refine testL k4 rfl ?_
    cbv
    refine CS.le hA (c1) [] rfl rfl rfl ?_ ?_ ?_
    · (try cbv) <;> (repeat' (first | exact trivial | exact rfl | apply And.intro | exact fun _ => rfl | (intro _ hle; first | refine chunk_le hA rfl hle rfl ?_ | refine cat_le hA ?_ | refine upd_le hA ?_ | (try cbv)))) <;> (try (subst hA; (try simp only [natCast_eq] at *); (try (simp only [Ar.real, NV.val, Int.ofNat_eq_natCast, Int.toNat_natCast])); first | done | omega | decide | exact inR64 (by omega) (by omega) | (refine ⟨?_, ?_⟩ <;> first | omega | decide | exact inR64 (by omega) (by omega))))
    · (try cbv) <;> (repeat' (first | exact trivial | exact rfl | apply And.intro | exact fun _ => rfl | (intro _ hle; first | refine chunk_le hA rfl hle rfl ?_ | refine cat_le hA ?_ | refine upd_le hA ?_ | (try cbv))))
    cbv
    refine CS.le hA (c2) [(0, 0), (1, 1), (2, 2)] rfl rfl rfl ?_ ?_ ?_
    · (try cbv) <;> (repeat' (first | exact trivial | exact rfl | apply And.intro | exact fun _ => rfl | (intro _ hle; first | refine chunk_le hA rfl hle rfl ?_ | refine cat_le hA ?_ | refine upd_le hA ?_ | (try cbv)))) <;> (try (subst hA; (try simp only [natCast_eq] at *); (try (simp only [Ar.real, NV.val, Int.ofNat_eq_natCast, Int.toNat_natCast])); first | done | omega | decide | exact inR64 (by omega) (by omega) | (refine ⟨?_, ?_⟩ <;> first | omega | decide | exact inR64 (by omega) (by omega))))
    · (try cbv) <;> (repeat' (first | exact trivial | exact rfl | apply And.intro | exact fun _ => rfl | (intro _ hle; first | refine chunk_le hA rfl hle rfl ?_ | refine cat_le hA ?_ | refine upd_le hA ?_ | (try cbv))))
    cbv
    refine DS.runK hA hT (by rw [hP]; exact P_mixed) 300 rfl ?_
    cbv
    refine CD.pass hA (FnTr.res hA c0 (.bl true) rfl) [] [] rfl ⟨rfl, rfl, rfl, rfl, ?_, ?_⟩ rfl (.inl rfl) ?_
    · (try cbv) <;> (repeat' (first | exact trivial | exact rfl | apply And.intro | exact fun _ => rfl | (intro _ hle; first | refine chunk_le hA rfl hle rfl ?_ | refine cat_le hA ?_ | refine upd_le hA ?_ | (try cbv))))
    · (try cbv) <;> (repeat' (first | exact trivial | exact rfl | apply And.intro | exact fun _ => rfl | (intro _ hle; first | refine chunk_le hA rfl hle rfl ?_ | refine cat_le hA ?_ | refine upd_le hA ?_ | (try cbv))))
    cbv
    refine DF.fin (by kernel_rfl) (by kernel_rfl) ?_
    cbv
    refine Fin.le hA 3 [] (.tup [RD s RS RL W c, .bl true]) (DH N S L ar ca) 3 rfl rfl rfl ?_ ?_ (by rw [← hK]; exact ⟨rfl, rfl, rfl⟩)
    · (try cbv) <;> (repeat' (first | exact trivial | exact rfl | apply And.intro | exact fun _ => rfl | (intro _ hle; first | refine chunk_le hA rfl hle rfl ?_ | refine cat_le hA ?_ | refine upd_le hA ?_ | (try cbv))))
    · (try cbv) <;> (repeat' (first | exact trivial | exact rfl | apply And.intro | exact fun _ => rfl | (intro _ hle; first | refine chunk_le hA rfl hle rfl ?_ | refine cat_le hA ?_ | refine upd_le hA ?_ | (try cbv))))
  obtain ⟨i, hai⟩ : ∃ i : Nat, a = (i : Int) := ⟨a.toNat, by omega⟩
  subst hai
  have his : i < s := by omega
  obtain ⟨v, hv⟩ : ∃ v : Nat → Int, v = RL i := ⟨_, rfl⟩
  obtain ⟨v2, hv2⟩ : ∃ v : Nat → Int, v = secV S L i := ⟨_, rfl⟩
  obtain ⟨m64, h64⟩ : ∃ m, m = 64 := ⟨_, rfl⟩
  have c1 := refread_ok (P := P) (G := G) (s := s) (i := i) (S := RS) (L := RL) (v := v) (W := W) hP ho his hv
  have c2 := read_fn (P := P) (G := G) (N := N) (s := s) (i := i) (S := S) (v := v2) (L := L) hP (fun q => ho (h.off.2 q)) h.hN h.hs.2 his hv2
  have c3 := same_fn (P := P) (G := G) (n := m64) (m := m64) (f := v) (g := v2) (res := true) hP (fun x hx => by rw [hv]; have := h.rbytes i his x (by omega); omega) (fun x hx => by rw [hv2]; have := h.bytes i his x (by omega); omega) ⟨fun _ => ⟨rfl, fun x hx => by rw [hv, hv2]; exact h.rl i x (by omega)⟩, fun _ => rfl⟩
  clear h hv hv2
  have hT : T.Ok P := hP ▸ T_ok
  refine FnTr.intro (fn := Try.f25) (c := bodyOf Try.f25) (by rw [hP]; rfl) rfl rfl hT ?_
  generalize hA : Ar.real = A
  generalize hK : Gives _ _ _ = K
  cbv
  have k1 : A.eq d 0 = false := by subst hA; simp [Ar.real]; exact hd.1
  have k2 : A.eq d 1 = false := by subst hA; simp [Ar.real]; exact hd.2.1
  have k3 : A.eq d 2 = false := by subst hA; simp [Ar.real]; exact hd.2.2.1
  have k4 : A.eq d 3 = false := by subst hA; simp [Ar.real]; exact hd.2.2.2
  first | refine testR k1 rfl ?_ | refine testL k1 rfl ?_
  cbv
  first | refine testR k2 rfl ?_ | refine testL k2 rfl ?_
  cbv
  first | refine testR k3 rfl ?_ | refine testL k3 rfl ?_
  cbv
  first | refine testR k4 rfl ?_ | refine testL k4 rfl ?_
  cbv
  refine CS.le hA (c1) [] rfl rfl rfl ?_ ?_ ?_
  · (try cbv) <;> (repeat' (first | exact trivial | exact rfl | apply And.intro | exact fun _ => rfl | (intro _ hle; first | refine chunk_le hA rfl hle rfl ?_ | refine cat_le hA ?_ | refine upd_le hA ?_ | (try cbv)))) <;> (try (subst hA; (try simp only [natCast_eq] at *); (try (simp only [Ar.real, NV.val, Int.ofNat_eq_natCast, Int.toNat_natCast])); first | done | omega | decide | exact inR64 (by omega) (by omega) | (refine ⟨?_, ?_⟩ <;> first | omega | decide | exact inR64 (by omega) (by omega))))
  · (try cbv) <;> (repeat' (first | exact trivial | exact rfl | apply And.intro | exact fun _ => rfl | (intro _ hle; first | refine chunk_le hA rfl hle rfl ?_ | refine cat_le hA ?_ | refine upd_le hA ?_ | (try cbv))))
  cbv
  refine CS.le hA (c2) [(0, 0), (1, 1), (2, 2)] rfl rfl rfl ?_ ?_ ?_
  · (try cbv) <;> (repeat' (first | exact trivial | exact rfl | apply And.intro | exact fun _ => rfl | (intro _ hle; first | refine chunk_le hA rfl hle rfl ?_ | refine cat_le hA ?_ | refine upd_le hA ?_ | (try cbv)))) <;> (try (subst hA; (try simp only [natCast_eq] at *); (try (simp only [Ar.real, NV.val, Int.ofNat_eq_natCast, Int.toNat_natCast])); first | done | omega | decide | exact inR64 (by omega) (by omega) | (refine ⟨?_, ?_⟩ <;> first | omega | decide | exact inR64 (by omega) (by omega))))
  · (try cbv) <;> (repeat' (first | exact trivial | exact rfl | apply And.intro | exact fun _ => rfl | (intro _ hle; first | refine chunk_le hA rfl hle rfl ?_ | refine cat_le hA ?_ | refine upd_le hA ?_ | (try cbv))))
  cbv
  refine DS.runK hA hT (by rw [hP]; exact P_mixed) 300 rfl ?_
  cbv
  refine CD.pass hA (FnTr.res hA c3 (.bl true) rfl) [] [] rfl ⟨rfl, rfl, rfl, rfl, ?_, ?_⟩ rfl (.inl rfl) ?_
  · (try cbv) <;> (repeat' (first | exact trivial | exact rfl | apply And.intro | exact fun _ => rfl | (intro _ hle; first | refine chunk_le hA rfl hle rfl ?_ | refine cat_le hA ?_ | refine upd_le hA ?_ | (try cbv))))
    all_goals (subst hA; (try simp only [natCast_eq] at *); (try (simp only [Ar.real, NV.val, Int.ofNat_eq_natCast, Int.toNat_natCast])); first | done | omega | decide | exact inR64 (by omega) (by omega) | (refine ⟨?_, ?_⟩ <;> first | omega | decide | exact inR64 (by omega) (by omega)))
  · (try cbv) <;> (repeat' (first | exact trivial | exact rfl | apply And.intro | exact fun _ => rfl | (intro _ hle; first | refine chunk_le hA rfl hle rfl ?_ | refine cat_le hA ?_ | refine upd_le hA ?_ | (try cbv))))
  cbv
  refine DF.fin (by kernel_rfl) (by kernel_rfl) ?_
  cbv
  refine Fin.le hA 3 [] (.tup [RD s RS RL W c, .bl true]) (DH N S L ar ca) 3 rfl rfl rfl ?_ ?_ (by rw [← hK]; exact ⟨rfl, rfl, rfl⟩)
  · (try cbv) <;> (repeat' (first | exact trivial | exact rfl | apply And.intro | exact fun _ => rfl | (intro _ hle; first | refine chunk_le hA rfl hle rfl ?_ | refine cat_le hA ?_ | refine upd_le hA ?_ | (try cbv))))
  · (try cbv) <;> (repeat' (first | exact trivial | exact rfl | apply And.intro | exact fun _ => rfl | (intro _ hle; first | refine chunk_le hA rfl hle rfl ?_ | refine cat_le hA ?_ | refine upd_le hA ?_ | (try cbv))))
/-- An act, both ways. -/
theorem do_any (hP : P = Try.prog) (h : Sim s N S L ar ca RS RL W c) (ha : a ≤ 9223372036854775807) (hb : ∀ x, x < bn → 0 ≤ b x ∧ b x ≤ 255) (hk : kn ≤ 1000000) : DoIs P G s N S L ar ca RS RL W c (ActS d a bn b kn ks kb) := by
  by_cases h0 : d = 0
  · exact do_write hP h h0 hb
  by_cases h1 : d = 1
  · exact do_flush hP h h1
  by_cases h2 : d = 2
  · exact do_stop hP h h2 ha
  by_cases h3 : d = 3
  · exact do_crash hP h h3 hk
  · exact do_read hP h ⟨h0, h1, h2, h3⟩
end Go.Proofs.Ytnjjgipblimbfaa.Dsk
