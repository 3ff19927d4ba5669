/-
  Records on sectors: the law SlabCrash, as the code runs it.
-/
import Derived.Test.YtnjjgipblimbfaaDskF13
import Derived.Test.YtnjjgipblimbfaaDskC
set_option linter.unusedVariables false
set_option linter.unusedSimpArgs false
namespace Go.Proofs.Ytnjjgipblimbfaa.Dsk
open Go.Eng
open Go.DskLaw (q64 secV needN pcs padOk isB usedP getP scanP atN rowS rowW rowS_0 rowW_0 rowW_some rowW_step rowS_flush crash_left atN_le)
set_option maxRecDepth 100000
set_option maxHeartbeats 4000000
set_option linter.unusedVariables false

theorem crash_tail {P : Program} {G : Gl} (hP : P = Try.prog) {len : Nat → Nat} {r : Nat → Nat → Int} {m nk put sure f w : Nat} {l : Nat → Nat × (Nat → Int)} {ks kb : Nat → Int} {ca : Int} (len_i : ∀ i, (l i).1 = len i) (r_i : ∀ i x, (l i).2 x = r i x)
    (hm : m ≤ 1000000) (hnk : nk ≤ 1000000) (hlen : ∀ i, i < put → len i ≤ 65536) (hb : ∀ i, i < m → ∀ x, x < len i → 0 ≤ r i x ∧ r i x ≤ 255) (hpm : put ≤ m) (hsp : sure ≤ put) (hf : f = atN 0 len sure) (hfw : f ≤ w) (hw : w ≤ atN 0 len put) (hw40 : w ≤ 40) :
    ∃ (S' : Nat → Int) (L' : Int → Option (Nat → Int)) (c0 : Nat) (gs : Nat → Nat × (Nat → Int)) (last : Nat), sure ≤ c0 ∧ c0 ≤ put ∧
      FnTr P G 18 [.ptr 0 0, .ro 2 (.s nk) (fun e => [.int .i64 (ks e.val), .int .i64 (kb e.val)])] (DH 2560 (rowS len r m f) (rowW len r m f w) true ca) 3 (Gives (.tup []) (DH 2560 S' L' false 0) 3) ∧
      FnTr P G 14 [.ptr 0 0, .int .i64 0, .int .i64 40] (DH 2560 S' L' false 0) 3 (Gives (.tup [RecS c0 gs, .int .i64 (last : Int), .lit .i64 0]) (DH 2560 S' L' false 0) 4) ∧
      FnTr P G 15 [RecS c0 gs, RecS c0 l] [] 0 (Gives (.bl true) [] 0) := by
  obtain ⟨S', V, c0, gs, last, h1, h2, h3, h4, h5, h6⟩ := crash_left (n := nk) (ks := ks) (kb := kb) hlen hb hpm hsp hf hfw hw hw40
  refine ⟨S', fun _ => none, c0, gs, last, h1, h2, ?_, ?_, ?_⟩
  · refine crash_fn (s := 40) hP rfl (by omega) hnk (fun k g h => ?_) (fun x _ => h3 x) (fun _ => rfl)
    have := rowW_some h
    omega
  · exact scan_fn (s := 40) (first := 0) (fin := 40) hP rfl (by omega) (by omega) (fun h => by cases h.1) h4 h5
  · refine sameall_fn (lf := fun u => (gs u).1) (lg := fun u => (l u).1) (f := fun u => (gs u).2) (g := fun u => (l u).2) hP rfl (by omega) (fun u hu => ?_)
    obtain ⟨g1, g2⟩ := h6 u hu
    refine ⟨by rw [len_i]; exact g1, fun x hx => ?_⟩
    show (gs u).2 x = (l u).2 x ∧ 0 ≤ (gs u).2 x ∧ (gs u).2 x < 256
    have hx : x < (gs u).1 := hx
    rw [g1] at hx
    rw [g2 x hx, r_i]
    have := hb u (by omega) x hx
    exact ⟨rfl, by omega, by omega⟩

theorem crash_law {P : Program} {G : Gl} (hP : P = Try.prog) {m nk : Nat} {l : Nat → Nat × (Nat → Int)} {ev cs : Int} {ks kb : Nat → Int} (hm : m ≤ 9223372036854775807) (hnk : nk ≤ 9223372036854775807) (hl : ∀ i, i < m → (l i).1 ≤ 9223372036854775807) (hb : ∀ i, i < m → ∀ x, x < (l i).1 → 0 ≤ (l i).2 x ∧ (l i).2 x ≤ 255) (hev : 0 ≤ ev ∧ ev ≤ 255) (hcs : 0 ≤ cs ∧ cs ≤ 255) :
    FnTr P G 4 [RecS m l, .int .u8 ev, .int .u8 cs, .ro 2 (.s nk) (fun e => [.int .i64 (ks e.val), .int .i64 (kb e.val)])] [] 0 (Gives (.bl true) [] 300) := by
  have cl := lives26_fn (P := P) (G := G) hP
  by_cases hm12 : 12 < m
  · skip
    have hT : T.Ok P := hP ▸ T_ok
    refine FnTr.intro (fn := Try.f4) (c := bodyOf Try.f4) (by rw [hP]; rfl) rfl rfl hT ?_
    generalize hA : Ar.real = A
    generalize hK : Gives _ _ _ = K
    cbv
    have k1 : A.gt (A.i2 m) 12 = true := by subst hA; simp [Ar.real]; omega
    first | refine testR k1 rfl ?_ | refine testL k1 rfl ?_
    cbv
    refine CS.le hA (cl) [] rfl rfl rfl ?_ ?_ ?_
    · (try cbv) <;> (repeat' (first | exact trivial | exact rfl | apply And.intro | exact fun _ => rfl | (intro _ hle; first | refine chunk_le hA rfl hle rfl ?_ | refine cat_le hA ?_ | refine upd_le hA ?_ | (try cbv)))) <;> (try (subst hA; (try simp only [natCast_eq] at *); (try (simp only [Ar.real, NV.val, Int.ofNat_eq_natCast, Int.toNat_natCast])); first | done | omega | decide | exact inR64 (by omega) (by omega) | (refine ⟨?_, ?_⟩ <;> first | omega | decide | exact inR64 (by omega) (by omega))))
    · (try cbv) <;> (repeat' (first | exact trivial | exact rfl | apply And.intro | exact fun _ => rfl | (intro _ hle; first | refine chunk_le hA rfl hle rfl ?_ | refine cat_le hA ?_ | refine upd_le hA ?_ | (try cbv))))
    cbv
    refine Fin.le hA 0 [] (.bl true) ([]) 300 rfl rfl rfl ?_ ?_ (by rw [← hK]; exact ⟨rfl, rfl, rfl⟩)
    · (try cbv) <;> (repeat' (first | exact trivial | exact rfl | apply And.intro | exact fun _ => rfl | (intro _ hle; first | refine chunk_le hA rfl hle rfl ?_ | refine cat_le hA ?_ | refine upd_le hA ?_ | (try cbv))))
    · (try cbv) <;> (repeat' (first | exact trivial | exact rfl | apply And.intro | exact fun _ => rfl | (intro _ hle; first | refine chunk_le hA rfl hle rfl ?_ | refine cat_le hA ?_ | refine upd_le hA ?_ | (try cbv))))
  by_cases hk60 : 60 < nk
  · skip
    have hT : T.Ok P := hP ▸ T_ok
    refine FnTr.intro (fn := Try.f4) (c := bodyOf Try.f4) (by rw [hP]; rfl) rfl rfl hT ?_
    generalize hA : Ar.real = A
    generalize hK : Gives _ _ _ = K
    cbv
    have k1 : A.gt (A.i2 m) 12 = false := by subst hA; simp [Ar.real]; omega
    have k2 : A.gt (A.i2 nk) 60 = true := by subst hA; simp [Ar.real]; omega
    first | refine testR k1 rfl ?_ | refine testL k1 rfl ?_
    cbv
    first | refine testR k2 rfl ?_ | refine testL k2 rfl ?_
    cbv
    refine CS.le hA (cl) [] rfl rfl rfl ?_ ?_ ?_
    · (try cbv) <;> (repeat' (first | exact trivial | exact rfl | apply And.intro | exact fun _ => rfl | (intro _ hle; first | refine chunk_le hA rfl hle rfl ?_ | refine cat_le hA ?_ | refine upd_le hA ?_ | (try cbv)))) <;> (try (subst hA; (try simp only [natCast_eq] at *); (try (simp only [Ar.real, NV.val, Int.ofNat_eq_natCast, Int.toNat_natCast])); first | done | omega | decide | exact inR64 (by omega) (by omega) | (refine ⟨?_, ?_⟩ <;> first | omega | decide | exact inR64 (by omega) (by omega))))
    · (try cbv) <;> (repeat' (first | exact trivial | exact rfl | apply And.intro | exact fun _ => rfl | (intro _ hle; first | refine chunk_le hA rfl hle rfl ?_ | refine cat_le hA ?_ | refine upd_le hA ?_ | (try cbv))))
    cbv
    refine Fin.le hA 0 [] (.bl true) ([]) 300 rfl rfl rfl ?_ ?_ (by rw [← hK]; exact ⟨rfl, rfl, rfl⟩)
    · (try cbv) <;> (repeat' (first | exact trivial | exact rfl | apply And.intro | exact fun _ => rfl | (intro _ hle; first | refine chunk_le hA rfl hle rfl ?_ | refine cat_le hA ?_ | refine upd_le hA ?_ | (try cbv))))
    · (try cbv) <;> (repeat' (first | exact trivial | exact rfl | apply And.intro | exact fun _ => rfl | (intro _ hle; first | refine chunk_le hA rfl hle rfl ?_ | refine cat_le hA ?_ | refine upd_le hA ?_ | (try cbv))))
  obtain ⟨len, hlen⟩ : ∃ len : Nat → Nat, len = fun i => (l i).1 := ⟨_, rfl⟩
  obtain ⟨r, hr⟩ : ∃ r : Nat → Nat → Int, r = fun i => (l i).2 := ⟨_, rfl⟩
  obtain ⟨at', hat⟩ : ∃ at' : Nat → Nat, at' = atN 0 len := ⟨_, rfl⟩
  have len_i : ∀ i, (l i).1 = len i := fun i => by rw [hlen]
  have r_i : ∀ i x, (l i).2 x = r i x := fun i x => by rw [hr]
  have at0 : at' 0 = 0 := by rw [hat]; rfl
  have atm : ∀ a b, a ≤ b → at' a ≤ at' b := fun a b h => by rw [hat]; exact DskLaw.atN_mono h
  have nd : ∀ i, ∃ q, q = needN (len i) ∧ at' (i + 1) = at' i + q ∧ 1 ≤ q := fun i => ⟨_, rfl, by rw [hat]; rfl, DskLaw.need1 _⟩
  simp only [len_i, r_i] at hb hl
  obtain ⟨Ss, hSs⟩ : ∃ Ss : Nat → Nat → Int, ∀ f, Ss f = rowS len r m f := ⟨_, fun _ => rfl⟩
  obtain ⟨Ls, hLs⟩ : ∃ Ls : Nat → Nat → Int → Option (Nat → Int), ∀ f w, Ls f w = rowW len r m f w := ⟨_, fun _ _ => rfl⟩
  have c1 := new_ok (P := P) (G := G) (n := 40) (s := 40) (N := 2560) (S := Ss 0) (L := Ls 0 0) hP rfl (by omega) rfl (fun x => by rw [hSs]; exact rowS_0 x) (fun k => by rw [hLs]; exact rowW_0 k)
  have c2 := stop_fn (P := P) (G := G) (N := 2560) (S := Ss 0) (L := Ls 0 0) (ar := false) (ar' := true) (ca := 0) (ca' := cs) (n := cs) hP (.inr ⟨fun h => (by cases h.1), ⟨fun _ => hcs.1, fun _ => rfl⟩, by rw [if_neg (by omega)]⟩)
  have pfull : ∀ i f ca q, i < m → len i ≤ 300 → q = needN (len i) → at' i ≤ 40 → 40 < at' i + q → FnTr P G 12 [.ptr 0 0, .int .i64 (at' i : Int), .int .i64 40, By (len i) (r i)] (DH 2560 (Ss f) (Ls f (at' i)) true ca) 3 (Gives (.tup [.lit .i64 0, .lit .i64 2]) (DH 2560 (Ss f) (Ls f (at' i)) true ca) 3) := fun i f ca q hi hle hq h1 h2 =>
    put_full (s := 40) hP rfl (by omega) (by omega) (by omega) (by omega)
  have pok : ∀ i f (ca : Int) q, i < m → len i ≤ 300 → q = needN (len i) → f ≤ at' i → at' i + q ≤ 40 → (q : Int) ≤ ca → ca ≤ 255 → FnTr P G 12 [.ptr 0 0, .int .i64 (at' i : Int), .int .i64 40, By (len i) (r i)] (DH 2560 (Ss f) (Ls f (at' i)) true ca) 3 (Gives (.tup [.int .i64 (at' (i + 1) : Int), .lit .i64 0]) (DH 2560 (Ss f) (Ls f (at' (i + 1))) true (ca - q)) 3) := fun i f ca q hi hle hq hf h1 h2 h3 => by
    have e1 : at' (i + 1) = at' i + q := by rw [hq, hat]; rfl
    refine FnTr.res rfl (put_ok (s := 40) (first := at' i) (fin := 40) (k := q) (ca' := ca - q) (at' := (at' (i + 1) : Int)) (e' := 0) hP rfl (by omega) ⟨by omega, by omega⟩ (by omega) (by omega) (.inr ⟨rfl, by rw [← hq]; omega⟩) (fun k => ?_) rfl (.inl ⟨hq, by rw [e1, hq], rfl⟩)) _ ?_
    · rw [hLs, hLs, e1, hat]
      exact rowW_step hi (by rw [← hat]; exact hf) (by omega) k
    · exact ⟨rfl, rfl, trivial⟩
  have poff : ∀ i f (ca : Int) q, i < m → len i ≤ 300 → q = needN (len i) → f ≤ at' i → at' i + q ≤ 40 → ca < (q : Int) → 0 ≤ ca → FnTr P G 12 [.ptr 0 0, .int .i64 (at' i : Int), .int .i64 40, By (len i) (r i)] (DH 2560 (Ss f) (Ls f (at' i)) true ca) 3 (Gives (.tup [.lit .i64 0, .lit .i64 6]) (DH 2560 (Ss f) (Ls f (at' i + ca.toNat)) true 0) 3) := fun i f ca q hi hle hq hf h1 h2 h3 => by
    have e1 : at' (i + 1) = at' i + q := by rw [hq, hat]; rfl
    refine FnTr.res rfl (put_ok (s := 40) (first := at' i) (fin := 40) (k := ca.toNat) (ca' := 0) (at' := 0) (e' := 6) hP rfl (by omega) ⟨by omega, by omega⟩ (by omega) (by omega) (.inr ⟨rfl, by rw [← hq]; omega⟩) (fun k => ?_) (by rw [if_pos rfl]; omega) (.inr ⟨by omega, rfl, rfl⟩)) _ ?_
    · rw [hLs, hLs, hat]
      exact rowW_step hi (by rw [← hat]; exact hf) (by omega) k
    · exact ⟨rfl, rfl, trivial⟩
  have fok : ∀ f w (ca : Int), f ≤ w → w ≤ 40 → 0 < ca → ca ≤ 255 → FnTr P G 17 [.ptr 0 0] (DH 2560 (Ss f) (Ls f w) true ca) 3 (Gives (.lit .i64 0) (DH 2560 (Ss w) (Ls w w) true (ca - 1)) 3) := fun f w ca hf hw h1 h2 =>
    flush_ok (s := 40) hP (fun h => by omega) rfl (by omega) rfl (by omega) (fun k g h => by rw [hLs] at h; have := rowW_some h; omega) (fun x _ => by rw [hSs, hSs, hLs]; exact rowS_flush hf x) (fun k => by rw [hLs]; exact rowW_0 k)
  have foff : ∀ f w, FnTr P G 17 [.ptr 0 0] (DH 2560 (Ss f) (Ls f w) true 0) 3 (Gives (.lit .i64 6) (DH 2560 (Ss f) (Ls f w) true 0) 3) := fun f w => flush_off hP ⟨rfl, rfl⟩
  have tail : ∀ pu su w (ca : Int), (∀ u, u < pu → len u ≤ 300) → pu ≤ m → su ≤ pu → at' su ≤ w → w ≤ at' pu → w ≤ 40 → _ := fun pu su w ca h1 h2 h3 h4 h5 h6 =>
    crash_tail (P := P) (G := G) (nk := nk) (ks := ks) (kb := kb) (ca := ca) hP len_i r_i (by omega) (by omega) (fun u hu => by have := h1 u hu; omega) hb h2 h3 (show at' su = atN 0 len su by rw [hat]) h4 (by rw [← hat]; exact h5) h6
  simp only [← hSs, ← hLs] at tail
  obtain ⟨dv, hdv, hdv4⟩ : ∃ dv : Int, dv = 1 + Int.tmod ev 4 ∧ 1 ≤ dv ∧ dv ≤ 4 := ⟨_, rfl, by rw [Int.tmod_eq_emod_of_nonneg (by omega)]; omega⟩
  clear hb hl hSs hLs hat
  have hT : T.Ok P := hP ▸ T_ok
  refine FnTr.intro (fn := Try.f4) (c := bodyOf Try.f4) (by rw [hP]; rfl) rfl rfl hT ?_
  generalize hA : Ar.real = A
  generalize hK : Gives _ _ _ = K
  cbv
  have k1 : A.gt (A.i2 m) 12 = false := by subst hA; simp [Ar.real]; omega
  have k2 : A.gt (A.i2 nk) 60 = false := by subst hA; simp [Ar.real]; omega
  first | refine testR k1 rfl ?_ | refine testL k1 rfl ?_
  cbv
  first | refine testR k2 rfl ?_ | refine testL k2 rfl ?_
  cbv
  refine CS.le hA (c1) [] rfl rfl rfl ?_ ?_ ?_
  · (try cbv) <;> (repeat' (first | exact trivial | exact rfl | apply And.intro | exact fun _ => rfl | (intro _ hle; first | refine chunk_le hA rfl hle rfl ?_ | refine cat_le hA ?_ | refine upd_le hA ?_ | (try cbv)))) <;> (try (subst hA; (try simp only [natCast_eq] at *); (try (simp only [Ar.real, NV.val, Int.ofNat_eq_natCast, Int.toNat_natCast])); first | done | omega | decide | exact inR64 (by omega) (by omega) | (refine ⟨?_, ?_⟩ <;> first | omega | decide | exact inR64 (by omega) (by omega))))
  · (try cbv) <;> (repeat' (first | exact trivial | exact rfl | apply And.intro | exact fun _ => rfl | (intro _ hle; first | refine chunk_le hA rfl hle rfl ?_ | refine cat_le hA ?_ | refine upd_le hA ?_ | (try cbv))))
  cbv
  refine CS.le hA c2 [(9, 0), (10, 1), (11, 2)] rfl rfl rfl ?_ ?_ ?_
  · (try cbv) <;> (repeat' (first | exact trivial | exact rfl | apply And.intro | exact fun _ => rfl | (intro _ hle; first | refine chunk_le hA rfl hle rfl ?_ | refine cat_le hA ?_ | refine upd_le hA ?_ | (try cbv))))
    subst hA; show IntKind.i64.wrap cs = cs; rw [IntKind.wrap_i64]; omega
  · (try cbv) <;> (repeat' (first | exact trivial | exact rfl | apply And.intro | exact fun _ => rfl | (intro _ hle; first | refine chunk_le hA rfl hle rfl ?_ | refine cat_le hA ?_ | refine upd_le hA ?_ | (try cbv))))
  cbv
  refine LS.le3 hT hA 12 (fun (i : Nat) (su : Nat) (_ : Int) => [(11, .int .i64 (at' i : Int)), (12, .int .i64 (su : Int)), (13, .int .i64 (i : Int)), (14, .int .i64 (i : Int))]) (fun i su ca => DHn 9 10 11 2560 (Ss (at' su)) (Ls (at' su) (at' i)) true ca) (fun i su ca => i ≤ m ∧ su ≤ i ∧ at' i ≤ 40 ∧ (0 ≤ ca ∧ ca ≤ 255) ∧ ∀ u, u < i → len u ≤ 300) (fun i _ _ => m - i) 0 0 cs [] rfl rfl ?_ ?_ ?_
  · (try cbv) <;> (repeat' (first | exact trivial | exact rfl | apply And.intro | exact fun _ => rfl | (intro _ hle; first | refine chunk_le hA rfl hle rfl ?_ | refine cat_le hA ?_ | refine upd_le hA ?_ | refine int_le ?_ | skip)))
    all_goals first | (intro k; rw [at0]) | (rw [at0]; done) | (rw [at0]; rfl) | (subst hA; (try simp only [natCast_eq] at *); (try (simp only [Ar.real, NV.val, Int.ofNat_eq_natCast, Int.toNat_natCast])); first | done | omega | decide | exact inR64 (by omega) (by omega) | (refine ⟨?_, ?_⟩ <;> first | omega | decide | exact inR64 (by omega) (by omega)))
  · exact ⟨Nat.zero_le _, Nat.zero_le _, by rw [at0]; omega, hcs, fun u hu => by omega⟩
  · intro R hR i su ca hi
    obtain ⟨hi1, hi2, hi3, hi4, hi5⟩ := hi
    have hsu := atm su i hi2
    cbv
    refine ⟨fun h1 => ?_, fun h1 => ?_⟩
    · have him : i < m := by clear tail pfull pok poff fok foff nd atm len_i r_i hR; subst hA; simp [Ar.real] at h1; omega
      cbv
      refine ⟨(by (subst hA; (try simp only [natCast_eq] at *); (try (simp only [Ar.real, NV.val, Int.ofNat_eq_natCast, Int.toNat_natCast])); first | done | omega | decide | exact inR64 (by omega) (by omega) | (refine ⟨?_, ?_⟩ <;> first | omega | decide | exact inR64 (by omega) (by omega)))), ?_⟩
      by_cases h300 : len i ≤ 300
      · have k3 : A.gt (A.i2 ((l (A.nat (Int.ofNat i))).1)) 300 = false := by
          clear hR
          subst hA; show decide (((l i).1 : Int) > 300) = false; rw [len_i]; simp; omega
        first | refine testR k3 rfl ?_ | refine testL k3 rfl ?_
        cbv
        obtain ⟨q, hq, hqa, hq1⟩ := nd i
        have hi6 : ∀ u, u < i + 1 → len u ≤ 300 := fun u hu => by
          rcases Nat.lt_or_ge u i with e | e
          · exact hi5 u e
          · rw [show u = i by omega]; exact h300
        refine ⟨(by (subst hA; (try simp only [natCast_eq] at *); (try (simp only [Ar.real, NV.val, Int.ofNat_eq_natCast, Int.toNat_natCast])); first | done | omega | decide | exact inR64 (by omega) (by omega) | (refine ⟨?_, ?_⟩ <;> first | omega | decide | exact inR64 (by omega) (by omega)))), ?_⟩
        by_cases hfit : at' i + q ≤ 40
        · by_cases hca : (q : Int) ≤ ca
          · have a1 := pok i (at' su) ca q him h300 hq hsu hfit hca hi4.2
            refine CS.le hA a1 [(9, 0), (10, 1), (11, 2)] rfl rfl rfl ?_ ?_ ?_
            · (try cbv) <;> (repeat' (first | exact trivial | exact rfl | apply And.intro | exact fun _ => rfl | (intro _ hle; first | refine chunk_le hA rfl hle rfl ?_ | refine cat_le hA ?_ | refine upd_le hA ?_ | refine int_le ?_ | skip)))
              all_goals (clear hR; subst hA; first | exact len_i i | exact r_i i _ | rfl)
            · (try cbv) <;> (repeat' (first | exact trivial | exact rfl | apply And.intro | exact fun _ => rfl | (intro _ hle; first | refine chunk_le hA rfl hle rfl ?_ | refine cat_le hA ?_ | refine upd_le hA ?_ | (try cbv))))
            cbv
            refine ⟨(by (subst hA; (try simp only [natCast_eq] at *); (try (simp only [Ar.real, NV.val, Int.ofNat_eq_natCast, Int.toNat_natCast])); first | done | omega | decide | exact inR64 (by omega) (by omega) | (refine ⟨?_, ?_⟩ <;> first | omega | decide | exact inR64 (by omega) (by omega)))), ?_⟩
            have kd : A.add 1 (A.rem (A.conv .i64 ev) 4) = dv := by
              clear hR
              subst hA
              have : IntKind.i64.wrap ev = ev := by rw [IntKind.wrap_i64]; omega
              show 1 + Int.tmod (IntKind.i64.wrap ev) 4 = dv
              rw [this, hdv]
            have kd1 : A.inR .i64 (A.add 1 (A.rem (A.conv .i64 ev) 4)) := by rw [kd]; clear hR; subst hA; exact inR64 (by omega) (by omega)
            have kd2 : A.ne0 (A.add 1 (A.rem (A.conv .i64 ev) 4)) := by rw [kd]; clear hR; subst hA; show dv ≠ 0; omega
            refine ⟨by subst hA; show (4 : Int) ≠ 0; decide, kd1, kd2, ?_⟩
            refine ⟨fun h2 => ?_, fun h2 => ?_⟩
            · clear h2
              by_cases hc0 : ca - q = 0
              · have a2 := foff (at' su) (at' (i + 1))
                clear hR
                rw [← hc0] at a2
                cbv
                refine CS.le hA (a2) [(9, 0), (10, 1), (11, 2)] rfl rfl rfl ?_ ?_ ?_
                · (try cbv) <;> (repeat' (first | exact trivial | exact rfl | apply And.intro | exact fun _ => rfl | (intro _ hle; first | refine chunk_le hA rfl hle rfl ?_ | refine cat_le hA ?_ | refine upd_le hA ?_ | (try cbv)))) <;> (try (subst hA; (try simp only [natCast_eq] at *); (try (simp only [Ar.real, NV.val, Int.ofNat_eq_natCast, Int.toNat_natCast])); first | done | omega | decide | exact inR64 (by omega) (by omega) | (refine ⟨?_, ?_⟩ <;> first | omega | decide | exact inR64 (by omega) (by omega))))
                · (try cbv) <;> (repeat' (first | exact trivial | exact rfl | apply And.intro | exact fun _ => rfl | (intro _ hle; first | refine chunk_le hA rfl hle rfl ?_ | refine cat_le hA ?_ | refine upd_le hA ?_ | (try cbv))))
                cbv
                obtain ⟨S', L', c0, gs, last, g1, g2, d1, d2, d3⟩ := tail (i + 1) su (at' (i + 1)) (ca - q) hi6 him (by (try simp only [natCast_eq] at *); omega) (by have := atm su (i + 1) (by (try simp only [natCast_eq] at *); omega); omega) (Nat.le_refl _) (by (try simp only [natCast_eq] at *); omega)
                clear tail pfull pok poff fok foff hdv4 nd atm len_i r_i
                cbv
                refine CS.le hA (d1) [(9, 0), (10, 1), (11, 2)] rfl rfl rfl ?_ ?_ ?_
                · (try cbv) <;> (repeat' (first | exact trivial | exact rfl | apply And.intro | exact fun _ => rfl | (intro _ hle; first | refine chunk_le hA rfl hle rfl ?_ | refine cat_le hA ?_ | refine upd_le hA ?_ | (try cbv)))) <;> (try (subst hA; (try simp only [natCast_eq] at *); (try (simp only [Ar.real, NV.val, Int.ofNat_eq_natCast, Int.toNat_natCast])); first | done | omega | decide | exact inR64 (by omega) (by omega) | (refine ⟨?_, ?_⟩ <;> first | omega | decide | exact inR64 (by omega) (by omega))))
                · (try cbv) <;> (repeat' (first | exact trivial | exact rfl | apply And.intro | exact fun _ => rfl | (intro _ hle; first | refine chunk_le hA rfl hle rfl ?_ | refine cat_le hA ?_ | refine upd_le hA ?_ | (try cbv))))
                cbv
                refine CS.le hA (d2) [(9, 0), (10, 1), (11, 2)] rfl rfl rfl ?_ ?_ ?_
                · (try cbv) <;> (repeat' (first | exact trivial | exact rfl | apply And.intro | exact fun _ => rfl | (intro _ hle; first | refine chunk_le hA rfl hle rfl ?_ | refine cat_le hA ?_ | refine upd_le hA ?_ | (try cbv)))) <;> (try (subst hA; (try simp only [natCast_eq] at *); (try (simp only [Ar.real, NV.val, Int.ofNat_eq_natCast, Int.toNat_natCast])); first | done | omega | decide | exact inR64 (by omega) (by omega) | (refine ⟨?_, ?_⟩ <;> first | omega | decide | exact inR64 (by omega) (by omega))))
                · (try cbv) <;> (repeat' (first | exact trivial | exact rfl | apply And.intro | exact fun _ => rfl | (intro _ hle; first | refine chunk_le hA rfl hle rfl ?_ | refine cat_le hA ?_ | refine upd_le hA ?_ | (try cbv))))
                cbv
                have kge : A.ge (A.i2 c0) (Int.ofNat su) = true := by subst hA; simp only [natCast_eq] at *; simp [Ar.real]; omega
                have kle : A.le (A.i2 c0) (A.add (Int.ofNat i) 1) = true := by subst hA; simp only [natCast_eq] at *; simp [Ar.real]; omega
                first | refine testR kge rfl ?_ | refine testL kge rfl ?_
                cbv
                first | refine testR kle rfl ?_ | refine testL kle rfl ?_
                cbv
                refine ⟨⟨(by (subst hA; (try simp only [natCast_eq] at *); (try (simp only [Ar.real, NV.val, Int.ofNat_eq_natCast, Int.toNat_natCast])); first | done | omega | decide | exact inR64 (by omega) (by omega) | (refine ⟨?_, ?_⟩ <;> first | omega | decide | exact inR64 (by omega) (by omega)))), (by (subst hA; (try simp only [natCast_eq] at *); (try (simp only [Ar.real, NV.val, Int.ofNat_eq_natCast, Int.toNat_natCast])); first | done | omega | decide | exact inR64 (by omega) (by omega) | (refine ⟨?_, ?_⟩ <;> first | omega | decide | exact inR64 (by omega) (by omega))))⟩, ?_⟩
                refine CS.le hA d3 [] rfl rfl rfl ?_ ?_ ?_
                · (try cbv) <;> (repeat' (first | exact trivial | exact rfl | apply And.intro | exact fun _ => rfl | (intro _ hle; first | refine chunk_le hA rfl hle rfl ?_ | refine cat_le hA ?_ | refine upd_le hA ?_ | refine int_le ?_ | skip)))
                  all_goals (subst hA; rfl)
                · (try cbv) <;> (repeat' (first | exact trivial | exact rfl | apply And.intro | exact fun _ => rfl | (intro _ hle; first | refine chunk_le hA rfl hle rfl ?_ | refine cat_le hA ?_ | refine upd_le hA ?_ | (try cbv))))
                cbv
                refine CS.le hA (cl) [] rfl rfl rfl ?_ ?_ ?_
                · (try cbv) <;> (repeat' (first | exact trivial | exact rfl | apply And.intro | exact fun _ => rfl | (intro _ hle; first | refine chunk_le hA rfl hle rfl ?_ | refine cat_le hA ?_ | refine upd_le hA ?_ | (try cbv)))) <;> (try (subst hA; (try simp only [natCast_eq] at *); (try (simp only [Ar.real, NV.val, Int.ofNat_eq_natCast, Int.toNat_natCast])); first | done | omega | decide | exact inR64 (by omega) (by omega) | (refine ⟨?_, ?_⟩ <;> first | omega | decide | exact inR64 (by omega) (by omega))))
                · (try cbv) <;> (repeat' (first | exact trivial | exact rfl | apply And.intro | exact fun _ => rfl | (intro _ hle; first | refine chunk_le hA rfl hle rfl ?_ | refine cat_le hA ?_ | refine upd_le hA ?_ | (try cbv))))
                cbv
                refine Fin.le hA 0 [] (.bl true) ([]) 300 rfl rfl rfl ?_ ?_ (by rw [← hK]; exact ⟨rfl, rfl, rfl⟩)
                · (try cbv) <;> (repeat' (first | exact trivial | exact rfl | apply And.intro | exact fun _ => rfl | (intro _ hle; first | refine chunk_le hA rfl hle rfl ?_ | refine cat_le hA ?_ | refine upd_le hA ?_ | (try cbv))))
                · (try cbv) <;> (repeat' (first | exact trivial | exact rfl | apply And.intro | exact fun _ => rfl | (intro _ hle; first | refine chunk_le hA rfl hle rfl ?_ | refine cat_le hA ?_ | refine upd_le hA ?_ | (try cbv))))

              · have a2 := fok (at' su) (at' (i + 1)) (ca - q) (atm _ _ (by (try simp only [natCast_eq] at *); omega)) (by (try simp only [natCast_eq] at *); omega) (by (try simp only [natCast_eq] at *); omega) (by (try simp only [natCast_eq] at *); omega)
                cbv
                refine CS.le hA (a2) [(9, 0), (10, 1), (11, 2)] rfl rfl rfl ?_ ?_ ?_
                · (try cbv) <;> (repeat' (first | exact trivial | exact rfl | apply And.intro | exact fun _ => rfl | (intro _ hle; first | refine chunk_le hA rfl hle rfl ?_ | refine cat_le hA ?_ | refine upd_le hA ?_ | (try cbv)))) <;> (try (subst hA; (try simp only [natCast_eq] at *); (try (simp only [Ar.real, NV.val, Int.ofNat_eq_natCast, Int.toNat_natCast])); first | done | omega | decide | exact inR64 (by omega) (by omega) | (refine ⟨?_, ?_⟩ <;> first | omega | decide | exact inR64 (by omega) (by omega))))
                · (try cbv) <;> (repeat' (first | exact trivial | exact rfl | apply And.intro | exact fun _ => rfl | (intro _ hle; first | refine chunk_le hA rfl hle rfl ?_ | refine cat_le hA ?_ | refine upd_le hA ?_ | (try cbv))))
                cbv
                refine ⟨(by (subst hA; (try simp only [natCast_eq] at *); (try (simp only [Ar.real, NV.val, Int.ofNat_eq_natCast, Int.toNat_natCast])); first | done | omega | decide | exact inR64 (by omega) (by omega) | (refine ⟨?_, ?_⟩ <;> first | omega | decide | exact inR64 (by omega) (by omega)))), (by (subst hA; (try simp only [natCast_eq] at *); (try (simp only [Ar.real, NV.val, Int.ofNat_eq_natCast, Int.toNat_natCast])); first | done | omega | decide | exact inR64 (by omega) (by omega) | (refine ⟨?_, ?_⟩ <;> first | omega | decide | exact inR64 (by omega) (by omega)))), hR _ _ _ _ ⟨i + 1, i + 1, ca - q - 1, 12, [], rfl, rfl, ?_, ⟨him, Nat.le_refl _, (by (try simp only [natCast_eq] at *); omega), (by (try simp only [natCast_eq] at *); omega), hi6⟩, (by show m - (i + 1) < m - i; omega)⟩⟩
                clear hR
                (try cbv) <;> (repeat' (first | exact trivial | exact rfl | apply And.intro | exact fun _ => rfl | (intro _ hle; first | refine chunk_le hA rfl hle rfl ?_ | refine cat_le hA ?_ | refine upd_le hA ?_ | refine int_le ?_ | skip)))
                all_goals (subst hA; (try simp only [natCast_eq] at *); (try (simp only [Ar.real, NV.val, Int.ofNat_eq_natCast, Int.toNat_natCast])); first | done | omega | decide | exact inR64 (by omega) (by omega) | (refine ⟨?_, ?_⟩ <;> first | omega | decide | exact inR64 (by omega) (by omega)))
            · clear h2
              cbv
              refine ⟨(by (subst hA; (try simp only [natCast_eq] at *); (try (simp only [Ar.real, NV.val, Int.ofNat_eq_natCast, Int.toNat_natCast])); first | done | omega | decide | exact inR64 (by omega) (by omega) | (refine ⟨?_, ?_⟩ <;> first | omega | decide | exact inR64 (by omega) (by omega)))), hR _ _ _ _ ⟨i + 1, su, ca - q, 12, [], rfl, rfl, ?_, ⟨him, (by (try simp only [natCast_eq] at *); omega), (by (try simp only [natCast_eq] at *); omega), (by (try simp only [natCast_eq] at *); omega), hi6⟩, (by show m - (i + 1) < m - i; omega)⟩⟩
              clear hR
              (try cbv) <;> (repeat' (first | exact trivial | exact rfl | apply And.intro | exact fun _ => rfl | (intro _ hle; first | refine chunk_le hA rfl hle rfl ?_ | refine cat_le hA ?_ | refine upd_le hA ?_ | refine int_le ?_ | skip)))
              all_goals (subst hA; (try simp only [natCast_eq] at *); (try (simp only [Ar.real, NV.val, Int.ofNat_eq_natCast, Int.toNat_natCast])); first | done | omega | decide | exact inR64 (by omega) (by omega) | (refine ⟨?_, ?_⟩ <;> first | omega | decide | exact inR64 (by omega) (by omega)))
          · have a1 := poff i (at' su) ca q him h300 hq hsu hfit (by (try simp only [natCast_eq] at *); omega) hi4.1
            clear hR
            refine CS.le hA a1 [(9, 0), (10, 1), (11, 2)] rfl rfl rfl ?_ ?_ ?_
            · (try cbv) <;> (repeat' (first | exact trivial | exact rfl | apply And.intro | exact fun _ => rfl | (intro _ hle; first | refine chunk_le hA rfl hle rfl ?_ | refine cat_le hA ?_ | refine upd_le hA ?_ | refine int_le ?_ | skip)))
              all_goals (subst hA; first | exact len_i i | exact r_i i _ | rfl)
            · (try cbv) <;> (repeat' (first | exact trivial | exact rfl | apply And.intro | exact fun _ => rfl | (intro _ hle; first | refine chunk_le hA rfl hle rfl ?_ | refine cat_le hA ?_ | refine upd_le hA ?_ | (try cbv))))
            cbv
            refine ⟨(by (subst hA; (try simp only [natCast_eq] at *); (try (simp only [Ar.real, NV.val, Int.ofNat_eq_natCast, Int.toNat_natCast])); first | done | omega | decide | exact inR64 (by omega) (by omega) | (refine ⟨?_, ?_⟩ <;> first | omega | decide | exact inR64 (by omega) (by omega)))), ?_⟩
            obtain ⟨S', L', c0, gs, last, g1, g2, d1, d2, d3⟩ := tail (i + 1) su (at' i + ca.toNat) 0 hi6 him (by (try simp only [natCast_eq] at *); omega) (by (try simp only [natCast_eq] at *); omega) (by (try simp only [natCast_eq] at *); omega) (by (try simp only [natCast_eq] at *); omega)
            clear tail pfull pok poff fok foff hdv4 nd atm len_i r_i
            cbv
            refine CS.le hA (d1) [(9, 0), (10, 1), (11, 2)] rfl rfl rfl ?_ ?_ ?_
            · (try cbv) <;> (repeat' (first | exact trivial | exact rfl | apply And.intro | exact fun _ => rfl | (intro _ hle; first | refine chunk_le hA rfl hle rfl ?_ | refine cat_le hA ?_ | refine upd_le hA ?_ | (try cbv)))) <;> (try (subst hA; (try simp only [natCast_eq] at *); (try (simp only [Ar.real, NV.val, Int.ofNat_eq_natCast, Int.toNat_natCast])); first | done | omega | decide | exact inR64 (by omega) (by omega) | (refine ⟨?_, ?_⟩ <;> first | omega | decide | exact inR64 (by omega) (by omega))))
            · (try cbv) <;> (repeat' (first | exact trivial | exact rfl | apply And.intro | exact fun _ => rfl | (intro _ hle; first | refine chunk_le hA rfl hle rfl ?_ | refine cat_le hA ?_ | refine upd_le hA ?_ | (try cbv))))
            cbv
            refine CS.le hA (d2) [(9, 0), (10, 1), (11, 2)] rfl rfl rfl ?_ ?_ ?_
            · (try cbv) <;> (repeat' (first | exact trivial | exact rfl | apply And.intro | exact fun _ => rfl | (intro _ hle; first | refine chunk_le hA rfl hle rfl ?_ | refine cat_le hA ?_ | refine upd_le hA ?_ | (try cbv)))) <;> (try (subst hA; (try simp only [natCast_eq] at *); (try (simp only [Ar.real, NV.val, Int.ofNat_eq_natCast, Int.toNat_natCast])); first | done | omega | decide | exact inR64 (by omega) (by omega) | (refine ⟨?_, ?_⟩ <;> first | omega | decide | exact inR64 (by omega) (by omega))))
            · (try cbv) <;> (repeat' (first | exact trivial | exact rfl | apply And.intro | exact fun _ => rfl | (intro _ hle; first | refine chunk_le hA rfl hle rfl ?_ | refine cat_le hA ?_ | refine upd_le hA ?_ | (try cbv))))
            cbv
            have kge : A.ge (A.i2 c0) (Int.ofNat su) = true := by subst hA; simp only [natCast_eq] at *; simp [Ar.real]; omega
            have kle : A.le (A.i2 c0) (A.add (Int.ofNat i) 1) = true := by subst hA; simp only [natCast_eq] at *; simp [Ar.real]; omega
            first | refine testR kge rfl ?_ | refine testL kge rfl ?_
            cbv
            first | refine testR kle rfl ?_ | refine testL kle rfl ?_
            cbv
            refine ⟨⟨(by (subst hA; (try simp only [natCast_eq] at *); (try (simp only [Ar.real, NV.val, Int.ofNat_eq_natCast, Int.toNat_natCast])); first | done | omega | decide | exact inR64 (by omega) (by omega) | (refine ⟨?_, ?_⟩ <;> first | omega | decide | exact inR64 (by omega) (by omega)))), (by (subst hA; (try simp only [natCast_eq] at *); (try (simp only [Ar.real, NV.val, Int.ofNat_eq_natCast, Int.toNat_natCast])); first | done | omega | decide | exact inR64 (by omega) (by omega) | (refine ⟨?_, ?_⟩ <;> first | omega | decide | exact inR64 (by omega) (by omega))))⟩, ?_⟩
            refine CS.le hA d3 [] rfl rfl rfl ?_ ?_ ?_
            · (try cbv) <;> (repeat' (first | exact trivial | exact rfl | apply And.intro | exact fun _ => rfl | (intro _ hle; first | refine chunk_le hA rfl hle rfl ?_ | refine cat_le hA ?_ | refine upd_le hA ?_ | refine int_le ?_ | skip)))
              all_goals (subst hA; rfl)
            · (try cbv) <;> (repeat' (first | exact trivial | exact rfl | apply And.intro | exact fun _ => rfl | (intro _ hle; first | refine chunk_le hA rfl hle rfl ?_ | refine cat_le hA ?_ | refine upd_le hA ?_ | (try cbv))))
            cbv
            refine CS.le hA (cl) [] rfl rfl rfl ?_ ?_ ?_
            · (try cbv) <;> (repeat' (first | exact trivial | exact rfl | apply And.intro | exact fun _ => rfl | (intro _ hle; first | refine chunk_le hA rfl hle rfl ?_ | refine cat_le hA ?_ | refine upd_le hA ?_ | (try cbv)))) <;> (try (subst hA; (try simp only [natCast_eq] at *); (try (simp only [Ar.real, NV.val, Int.ofNat_eq_natCast, Int.toNat_natCast])); first | done | omega | decide | exact inR64 (by omega) (by omega) | (refine ⟨?_, ?_⟩ <;> first | omega | decide | exact inR64 (by omega) (by omega))))
            · (try cbv) <;> (repeat' (first | exact trivial | exact rfl | apply And.intro | exact fun _ => rfl | (intro _ hle; first | refine chunk_le hA rfl hle rfl ?_ | refine cat_le hA ?_ | refine upd_le hA ?_ | (try cbv))))
            cbv
            refine Fin.le hA 0 [] (.bl true) ([]) 300 rfl rfl rfl ?_ ?_ (by rw [← hK]; exact ⟨rfl, rfl, rfl⟩)
            · (try cbv) <;> (repeat' (first | exact trivial | exact rfl | apply And.intro | exact fun _ => rfl | (intro _ hle; first | refine chunk_le hA rfl hle rfl ?_ | refine cat_le hA ?_ | refine upd_le hA ?_ | (try cbv))))
            · (try cbv) <;> (repeat' (first | exact trivial | exact rfl | apply And.intro | exact fun _ => rfl | (intro _ hle; first | refine chunk_le hA rfl hle rfl ?_ | refine cat_le hA ?_ | refine upd_le hA ?_ | (try cbv))))

        · have a1 := pfull i (at' su) ca q him h300 hq hi3 (by (try simp only [natCast_eq] at *); omega)
          clear hR
          refine CS.le hA a1 [(9, 0), (10, 1), (11, 2)] rfl rfl rfl ?_ ?_ ?_
          · (try cbv) <;> (repeat' (first | exact trivial | exact rfl | apply And.intro | exact fun _ => rfl | (intro _ hle; first | refine chunk_le hA rfl hle rfl ?_ | refine cat_le hA ?_ | refine upd_le hA ?_ | refine int_le ?_ | skip)))
            all_goals (subst hA; first | exact len_i i | exact r_i i _ | rfl)
          · (try cbv) <;> (repeat' (first | exact trivial | exact rfl | apply And.intro | exact fun _ => rfl | (intro _ hle; first | refine chunk_le hA rfl hle rfl ?_ | refine cat_le hA ?_ | refine upd_le hA ?_ | (try cbv))))
          cbv
          obtain ⟨S', L', c0, gs, last, g1, g2, d1, d2, d3⟩ := tail i su (at' i) ca hi5 hi1 hi2 hsu (Nat.le_refl _) hi3
          clear tail pfull pok poff fok foff hdv4 nd atm len_i r_i
          cbv
          refine CS.le hA (d1) [(9, 0), (10, 1), (11, 2)] rfl rfl rfl ?_ ?_ ?_
          · (try cbv) <;> (repeat' (first | exact trivial | exact rfl | apply And.intro | exact fun _ => rfl | (intro _ hle; first | refine chunk_le hA rfl hle rfl ?_ | refine cat_le hA ?_ | refine upd_le hA ?_ | (try cbv)))) <;> (try (subst hA; (try simp only [natCast_eq] at *); (try (simp only [Ar.real, NV.val, Int.ofNat_eq_natCast, Int.toNat_natCast])); first | done | omega | decide | exact inR64 (by omega) (by omega) | (refine ⟨?_, ?_⟩ <;> first | omega | decide | exact inR64 (by omega) (by omega))))
          · (try cbv) <;> (repeat' (first | exact trivial | exact rfl | apply And.intro | exact fun _ => rfl | (intro _ hle; first | refine chunk_le hA rfl hle rfl ?_ | refine cat_le hA ?_ | refine upd_le hA ?_ | (try cbv))))
          cbv
          refine CS.le hA (d2) [(9, 0), (10, 1), (11, 2)] rfl rfl rfl ?_ ?_ ?_
          · (try cbv) <;> (repeat' (first | exact trivial | exact rfl | apply And.intro | exact fun _ => rfl | (intro _ hle; first | refine chunk_le hA rfl hle rfl ?_ | refine cat_le hA ?_ | refine upd_le hA ?_ | (try cbv)))) <;> (try (subst hA; (try simp only [natCast_eq] at *); (try (simp only [Ar.real, NV.val, Int.ofNat_eq_natCast, Int.toNat_natCast])); first | done | omega | decide | exact inR64 (by omega) (by omega) | (refine ⟨?_, ?_⟩ <;> first | omega | decide | exact inR64 (by omega) (by omega))))
          · (try cbv) <;> (repeat' (first | exact trivial | exact rfl | apply And.intro | exact fun _ => rfl | (intro _ hle; first | refine chunk_le hA rfl hle rfl ?_ | refine cat_le hA ?_ | refine upd_le hA ?_ | (try cbv))))
          cbv
          have kge : A.ge (A.i2 c0) (Int.ofNat su) = true := by subst hA; simp only [natCast_eq] at *; simp [Ar.real]; omega
          have kle : A.le (A.i2 c0) (Int.ofNat i) = true := by subst hA; simp only [natCast_eq] at *; simp [Ar.real]; omega
          first | refine testR kge rfl ?_ | refine testL kge rfl ?_
          cbv
          first | refine testR kle rfl ?_ | refine testL kle rfl ?_
          cbv
          refine ⟨⟨(by (subst hA; (try simp only [natCast_eq] at *); (try (simp only [Ar.real, NV.val, Int.ofNat_eq_natCast, Int.toNat_natCast])); first | done | omega | decide | exact inR64 (by omega) (by omega) | (refine ⟨?_, ?_⟩ <;> first | omega | decide | exact inR64 (by omega) (by omega)))), (by (subst hA; (try simp only [natCast_eq] at *); (try (simp only [Ar.real, NV.val, Int.ofNat_eq_natCast, Int.toNat_natCast])); first | done | omega | decide | exact inR64 (by omega) (by omega) | (refine ⟨?_, ?_⟩ <;> first | omega | decide | exact inR64 (by omega) (by omega))))⟩, ?_⟩
          refine CS.le hA d3 [] rfl rfl rfl ?_ ?_ ?_
          · (try cbv) <;> (repeat' (first | exact trivial | exact rfl | apply And.intro | exact fun _ => rfl | (intro _ hle; first | refine chunk_le hA rfl hle rfl ?_ | refine cat_le hA ?_ | refine upd_le hA ?_ | refine int_le ?_ | skip)))
            all_goals (subst hA; rfl)
          · (try cbv) <;> (repeat' (first | exact trivial | exact rfl | apply And.intro | exact fun _ => rfl | (intro _ hle; first | refine chunk_le hA rfl hle rfl ?_ | refine cat_le hA ?_ | refine upd_le hA ?_ | (try cbv))))
          cbv
          refine CS.le hA (cl) [] rfl rfl rfl ?_ ?_ ?_
          · (try cbv) <;> (repeat' (first | exact trivial | exact rfl | apply And.intro | exact fun _ => rfl | (intro _ hle; first | refine chunk_le hA rfl hle rfl ?_ | refine cat_le hA ?_ | refine upd_le hA ?_ | (try cbv)))) <;> (try (subst hA; (try simp only [natCast_eq] at *); (try (simp only [Ar.real, NV.val, Int.ofNat_eq_natCast, Int.toNat_natCast])); first | done | omega | decide | exact inR64 (by omega) (by omega) | (refine ⟨?_, ?_⟩ <;> first | omega | decide | exact inR64 (by omega) (by omega))))
          · (try cbv) <;> (repeat' (first | exact trivial | exact rfl | apply And.intro | exact fun _ => rfl | (intro _ hle; first | refine chunk_le hA rfl hle rfl ?_ | refine cat_le hA ?_ | refine upd_le hA ?_ | (try cbv))))
          cbv
          refine Fin.le hA 0 [] (.bl true) ([]) 300 rfl rfl rfl ?_ ?_ (by rw [← hK]; exact ⟨rfl, rfl, rfl⟩)
          · (try cbv) <;> (repeat' (first | exact trivial | exact rfl | apply And.intro | exact fun _ => rfl | (intro _ hle; first | refine chunk_le hA rfl hle rfl ?_ | refine cat_le hA ?_ | refine upd_le hA ?_ | (try cbv))))
          · (try cbv) <;> (repeat' (first | exact trivial | exact rfl | apply And.intro | exact fun _ => rfl | (intro _ hle; first | refine chunk_le hA rfl hle rfl ?_ | refine cat_le hA ?_ | refine upd_le hA ?_ | (try cbv))))

      · have k3 : A.gt (A.i2 ((l (A.nat (Int.ofNat i))).1)) 300 = true := by
          clear hR
          subst hA; show decide (((l i).1 : Int) > 300) = true; rw [len_i]; simp; omega
        clear hR tail pfull pok poff fok foff
        first | refine testR k3 rfl ?_ | refine testL k3 rfl ?_
        cbv
        refine CS.le hA (cl) [] rfl rfl rfl ?_ ?_ ?_
        · (try cbv) <;> (repeat' (first | exact trivial | exact rfl | apply And.intro | exact fun _ => rfl | (intro _ hle; first | refine chunk_le hA rfl hle rfl ?_ | refine cat_le hA ?_ | refine upd_le hA ?_ | (try cbv)))) <;> (try (subst hA; (try simp only [natCast_eq] at *); (try (simp only [Ar.real, NV.val, Int.ofNat_eq_natCast, Int.toNat_natCast])); first | done | omega | decide | exact inR64 (by omega) (by omega) | (refine ⟨?_, ?_⟩ <;> first | omega | decide | exact inR64 (by omega) (by omega))))
        · (try cbv) <;> (repeat' (first | exact trivial | exact rfl | apply And.intro | exact fun _ => rfl | (intro _ hle; first | refine chunk_le hA rfl hle rfl ?_ | refine cat_le hA ?_ | refine upd_le hA ?_ | (try cbv))))
        cbv
        refine Fin.le hA 0 [] (.bl true) ([]) 300 rfl rfl rfl ?_ ?_ (by rw [← hK]; exact ⟨rfl, rfl, rfl⟩)
        · (try cbv) <;> (repeat' (first | exact trivial | exact rfl | apply And.intro | exact fun _ => rfl | (intro _ hle; first | refine chunk_le hA rfl hle rfl ?_ | refine cat_le hA ?_ | refine upd_le hA ?_ | (try cbv))))
        · (try cbv) <;> (repeat' (first | exact trivial | exact rfl | apply And.intro | exact fun _ => rfl | (intro _ hle; first | refine chunk_le hA rfl hle rfl ?_ | refine cat_le hA ?_ | refine upd_le hA ?_ | (try cbv))))
    · have him : i = m := by clear tail pfull pok poff fok foff nd atm len_i r_i hR; subst hA; simp [Ar.real] at h1; omega
      clear hR
      obtain ⟨S', L', c0, gs, last, g1, g2, d1, d2, d3⟩ := tail i su (at' i) ca hi5 hi1 hi2 hsu (Nat.le_refl _) hi3
      clear tail pfull pok poff fok foff hdv4 nd atm len_i r_i
      cbv
      refine CS.le hA (d1) [(9, 0), (10, 1), (11, 2)] rfl rfl rfl ?_ ?_ ?_
      · (try cbv) <;> (repeat' (first | exact trivial | exact rfl | apply And.intro | exact fun _ => rfl | (intro _ hle; first | refine chunk_le hA rfl hle rfl ?_ | refine cat_le hA ?_ | refine upd_le hA ?_ | (try cbv)))) <;> (try (subst hA; (try simp only [natCast_eq] at *); (try (simp only [Ar.real, NV.val, Int.ofNat_eq_natCast, Int.toNat_natCast])); first | done | omega | decide | exact inR64 (by omega) (by omega) | (refine ⟨?_, ?_⟩ <;> first | omega | decide | exact inR64 (by omega) (by omega))))
      · (try cbv) <;> (repeat' (first | exact trivial | exact rfl | apply And.intro | exact fun _ => rfl | (intro _ hle; first | refine chunk_le hA rfl hle rfl ?_ | refine cat_le hA ?_ | refine upd_le hA ?_ | (try cbv))))
      cbv
      refine CS.le hA (d2) [(9, 0), (10, 1), (11, 2)] rfl rfl rfl ?_ ?_ ?_
      · (try cbv) <;> (repeat' (first | exact trivial | exact rfl | apply And.intro | exact fun _ => rfl | (intro _ hle; first | refine chunk_le hA rfl hle rfl ?_ | refine cat_le hA ?_ | refine upd_le hA ?_ | (try cbv)))) <;> (try (subst hA; (try simp only [natCast_eq] at *); (try (simp only [Ar.real, NV.val, Int.ofNat_eq_natCast, Int.toNat_natCast])); first | done | omega | decide | exact inR64 (by omega) (by omega) | (refine ⟨?_, ?_⟩ <;> first | omega | decide | exact inR64 (by omega) (by omega))))
      · (try cbv) <;> (repeat' (first | exact trivial | exact rfl | apply And.intro | exact fun _ => rfl | (intro _ hle; first | refine chunk_le hA rfl hle rfl ?_ | refine cat_le hA ?_ | refine upd_le hA ?_ | (try cbv))))
      cbv
      have kge : A.ge (A.i2 c0) (Int.ofNat su) = true := by subst hA; simp only [natCast_eq] at *; simp [Ar.real]; omega
      have kle : A.le (A.i2 c0) (Int.ofNat i) = true := by subst hA; simp only [natCast_eq] at *; simp [Ar.real]; omega
      first | refine testR kge rfl ?_ | refine testL kge rfl ?_
      cbv
      first | refine testR kle rfl ?_ | refine testL kle rfl ?_
      cbv
      refine ⟨⟨(by (subst hA; (try simp only [natCast_eq] at *); (try (simp only [Ar.real, NV.val, Int.ofNat_eq_natCast, Int.toNat_natCast])); first | done | omega | decide | exact inR64 (by omega) (by omega) | (refine ⟨?_, ?_⟩ <;> first | omega | decide | exact inR64 (by omega) (by omega)))), (by (subst hA; (try simp only [natCast_eq] at *); (try (simp only [Ar.real, NV.val, Int.ofNat_eq_natCast, Int.toNat_natCast])); first | done | omega | decide | exact inR64 (by omega) (by omega) | (refine ⟨?_, ?_⟩ <;> first | omega | decide | exact inR64 (by omega) (by omega))))⟩, ?_⟩
      refine CS.le hA d3 [] rfl rfl rfl ?_ ?_ ?_
      · (try cbv) <;> (repeat' (first | exact trivial | exact rfl | apply And.intro | exact fun _ => rfl | (intro _ hle; first | refine chunk_le hA rfl hle rfl ?_ | refine cat_le hA ?_ | refine upd_le hA ?_ | refine int_le ?_ | skip)))
        all_goals (subst hA; rfl)
      · (try cbv) <;> (repeat' (first | exact trivial | exact rfl | apply And.intro | exact fun _ => rfl | (intro _ hle; first | refine chunk_le hA rfl hle rfl ?_ | refine cat_le hA ?_ | refine upd_le hA ?_ | (try cbv))))
      cbv
      refine CS.le hA (cl) [] rfl rfl rfl ?_ ?_ ?_
      · (try cbv) <;> (repeat' (first | exact trivial | exact rfl | apply And.intro | exact fun _ => rfl | (intro _ hle; first | refine chunk_le hA rfl hle rfl ?_ | refine cat_le hA ?_ | refine upd_le hA ?_ | (try cbv)))) <;> (try (subst hA; (try simp only [natCast_eq] at *); (try (simp only [Ar.real, NV.val, Int.ofNat_eq_natCast, Int.toNat_natCast])); first | done | omega | decide | exact inR64 (by omega) (by omega) | (refine ⟨?_, ?_⟩ <;> first | omega | decide | exact inR64 (by omega) (by omega))))
      · (try cbv) <;> (repeat' (first | exact trivial | exact rfl | apply And.intro | exact fun _ => rfl | (intro _ hle; first | refine chunk_le hA rfl hle rfl ?_ | refine cat_le hA ?_ | refine upd_le hA ?_ | (try cbv))))
      cbv
      refine Fin.le hA 0 [] (.bl true) ([]) 300 rfl rfl rfl ?_ ?_ (by rw [← hK]; exact ⟨rfl, rfl, rfl⟩)
      · (try cbv) <;> (repeat' (first | exact trivial | exact rfl | apply And.intro | exact fun _ => rfl | (intro _ hle; first | refine chunk_le hA rfl hle rfl ?_ | refine cat_le hA ?_ | refine upd_le hA ?_ | (try cbv))))
      · (try cbv) <;> (repeat' (first | exact trivial | exact rfl | apply And.intro | exact fun _ => rfl | (intro _ hle; first | refine chunk_le hA rfl hle rfl ?_ | refine cat_le hA ?_ | refine upd_le hA ?_ | (try cbv))))
end Go.Proofs.Ytnjjgipblimbfaa.Dsk
