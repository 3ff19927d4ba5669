/-
  A verified symbolic executor over the code of the model, and what it shows of this program: part 5 of 7 (LawWalOpens).
-/
import Derived.Test.YtnjjgipblimbfaaGreatDoorWalOpensPartD
set_option linter.unusedVariables false
set_option linter.unusedSimpArgs false
namespace Go.Proofs.YtnjjgipblimbfaaGreatDoor.Dsk
open Go.Eng
open Go.DskLaw (q64 secV isB needN)
open Go.WalLaw
set_option maxRecDepth 100000
set_option maxHeartbeats 1000000
theorem newest_off {P : Program} {G : Gl} (hP : P = Tryz.prog) {N : Nat} {S : Nat → Int} {L : Int → Option (Nat → Int)} {ar : Bool} {ca : Int} (h : ar = true ∧ ca = 0) :
    FnTr P G 28 [.ptr 0 0] (DH N S L ar ca) 3 (Gives (.tup [.lit .i64 0, .lit .i64 6]) (DH N S L ar ca) 3) := by
  have a1 := gen_off (P := P) (G := G) (N := N) (S := S) (L := L) (i := 0) hP h
  have hT : T.Ok P := hP ▸ T_ok
  refine FnTr.intro (fn := Tryz.f28) (c := bodyOf Tryz.f28) (by rw [hP]; rfl) rfl rfl hT ?_
  generalize hA : Ar.real = A
  generalize hK : Gives _ _ _ = K
  cbv
  refine LS.rounds hA 1 hT ?_
  cbv
  refine CS.le hA (a1) [(0, 0), (1, 1), (2, 2)] rfl rfl rfl ?_ ?_ ?_
  iterate 2 ((try cbv) <;> (repeat' (first | exact trivial | exact rfl | apply And.intro | exact fun _ => rfl | (intro _ hle; first | refine chunk_le hA rfl hle rfl ?_ | refine cat_le hA ?_ | refine upd_le hA ?_ | (try cbv)))) <;> (try (subst hA; (try simp only [zn] at *); (try (simp only [Ar.real, NV.val, zo, zt])); first | done | omega | decide | exact zi | (refine ⟨?_, ?_⟩ <;> first | omega | decide | exact zi))))
  cbv
  refine Fin.le hA 3 [] (.tup [.lit .i64 0, .lit .i64 6]) (DH N S L ar ca) 3 rfl rfl rfl ?_ ?_ (by rw [← hK]; exact ⟨rfl, rfl, rfl⟩)
  iterate 2 ((try cbv) <;> (repeat' (first | exact trivial | exact rfl | apply And.intro | exact fun _ => rfl | (intro _ hle; first | refine chunk_le hA rfl hle rfl ?_ | refine cat_le hA ?_ | refine upd_le hA ?_ | (try cbv)))))
theorem newest_fn {P : Program} {G : Gl} (hP : P = Tryz.prog) {N s g0 g1 g : Nat} {S : Nat → Int} {V : Nat → Nat → Int} {L : Int → Option (Nat → Int)} {ar : Bool} {ca : Int} (h : ¬ (ar = true ∧ ca = 0)) (hN : N = 64 * s) (hs : 4 ≤ s ∧ s ≤ 4096) (hV : ∀ i, i < 2 → V i = secV S L i ∧ isB (V i)) (h0 : GenIs (V 0) 0 g0) (h1 : GenIs (V 1) 1 g1) (hg : g = max g0 g1) :
    FnTr P G 28 [.ptr 0 0] (DH N S L ar ca) 3 (Gives (.tup [.int .i64 (g : Int), .lit .i64 0]) (DH N S L ar ca) 3) := by
  have a1 := gen_fn (P := P) (G := G) hP h hN hs (sec := 0) (by omega) (hV 0 (by omega)).1 (hV 0 (by omega)).2 h0
  have a2 := gen_fn (P := P) (G := G) hP h hN hs (sec := 1) (by omega) (hV 1 (by omega)).1 (hV 1 (by omega)).2 h1
  have hm : max (max (0 : Int) (g0 : Int)) (g1 : Int) = (g : Int) := by omega
  clear hV h0 h1 hg
  have hT : T.Ok P := hP ▸ T_ok
  refine FnTr.intro (fn := Tryz.f28) (c := bodyOf Tryz.f28) (by rw [hP]; rfl) rfl rfl hT ?_
  generalize hA : Ar.real = A
  generalize hK : Gives _ _ _ = K
  cbv
  refine LS.rounds hA 3 hT ?_
  cbv
  refine CS.le hA (a1) [(0, 0), (1, 1), (2, 2)] rfl rfl rfl ?_ ?_ ?_
  iterate 2 ((try cbv) <;> (repeat' (first | exact trivial | exact rfl | apply And.intro | exact fun _ => rfl | (intro _ hle; first | refine chunk_le hA rfl hle rfl ?_ | refine cat_le hA ?_ | refine upd_le hA ?_ | (try cbv)))) <;> (try (subst hA; (try simp only [zn] at *); (try (simp only [Ar.real, NV.val, zo, zt])); first | done | omega | decide | exact zi | (refine ⟨?_, ?_⟩ <;> first | omega | decide | exact zi))))
  cbv
  refine CS.le hA (a2) [(0, 0), (1, 1), (2, 2)] rfl rfl rfl ?_ ?_ ?_
  iterate 2 ((try cbv) <;> (repeat' (first | exact trivial | exact rfl | apply And.intro | exact fun _ => rfl | (intro _ hle; first | refine chunk_le hA rfl hle rfl ?_ | refine cat_le hA ?_ | refine upd_le hA ?_ | (try cbv)))) <;> (try (subst hA; (try simp only [zn] at *); (try (simp only [Ar.real, NV.val, zo, zt])); first | done | omega | decide | exact zi | (refine ⟨?_, ?_⟩ <;> first | omega | decide | exact zi))))
  cbv
  refine Fin.le hA 3 [] (.tup [.int .i64 (g : Int), .lit .i64 0]) (DH N S L ar ca) 3 rfl rfl rfl ?_ ?_ (by rw [← hK]; exact ⟨rfl, rfl, rfl⟩)
  · (try cbv) <;> (repeat' (first | exact trivial | exact rfl | apply And.intro | exact fun _ => rfl | (intro _ hle; first | refine chunk_le hA rfl hle rfl ?_ | refine cat_le hA ?_ | refine upd_le hA ?_ | (try cbv))))
    subst hA
    simp only [zn] at *
    simp only [Ar.real, zo]
    split <;> split <;> omega
  · (try cbv) <;> (repeat' (first | exact trivial | exact rfl | apply And.intro | exact fun _ => rfl | (intro _ hle; first | refine chunk_le hA rfl hle rfl ?_ | refine cat_le hA ?_ | refine upd_le hA ?_ | (try cbv))))
theorem wasked_small {P : Program} {G : Gl} (hP : P = Tryz.prog) {N s : Nat} {S : Nat → Int} {L : Int → Option (Nat → Int)} {ar : Bool} {ca : Int} (hN : N = 64 * s) (hs : s < 4) :
    FnTr P G 27 [.ptr 0 0] (DH N S L ar ca) 3 (Gives (.lit .i64 1) (DH N S L ar ca) 3) := by
  have a1 := len_fn (P := P) (G := G) (S := S) (L := L) (ar := ar) (ca := ca) hP hN (by omega)
  have hT : T.Ok P := hP ▸ T_ok
  refine FnTr.intro (fn := Tryz.f27) (c := bodyOf Tryz.f27) (by rw [hP]; rfl) rfl rfl hT ?_
  generalize hA : Ar.real = A
  generalize hK : Gives _ _ _ = K
  cbv
  have k1 : A.lt (s : Int) 4 = true := by subst hA; simp [Ar.real]; omega
  refine CS.le hA (a1) [(0, 0), (1, 1), (2, 2)] rfl rfl rfl ?_ ?_ ?_
  iterate 2 ((try cbv) <;> (repeat' (first | exact trivial | exact rfl | apply And.intro | exact fun _ => rfl | (intro _ hle; first | refine chunk_le hA rfl hle rfl ?_ | refine cat_le hA ?_ | refine upd_le hA ?_ | (try cbv)))) <;> (try (subst hA; (try simp only [zn] at *); (try (simp only [Ar.real, NV.val, zo, zt])); first | done | omega | decide | exact zi | (refine ⟨?_, ?_⟩ <;> first | omega | decide | exact zi))))
  cbv
  first | refine testR k1 rfl ?_ | refine testL k1 rfl ?_
  cbv
  refine Fin.le hA 3 [] (.lit .i64 1) (DH N S L ar ca) 3 rfl rfl rfl ?_ ?_ (by rw [← hK]; exact ⟨rfl, rfl, rfl⟩)
  iterate 2 ((try cbv) <;> (repeat' (first | exact trivial | exact rfl | apply And.intro | exact fun _ => rfl | (intro _ hle; first | refine chunk_le hA rfl hle rfl ?_ | refine cat_le hA ?_ | refine upd_le hA ?_ | (try cbv)))))
theorem wasked_ok {P : Program} {G : Gl} (hP : P = Tryz.prog) {N s : Nat} {S : Nat → Int} {L : Int → Option (Nat → Int)} {ar : Bool} {ca : Int} (hN : N = 64 * s) (hs : 4 ≤ s ∧ s ≤ 4096) :
    FnTr P G 27 [.ptr 0 0] (DH N S L ar ca) 3 (Gives (.lit .i64 0) (DH N S L ar ca) 3) := by
  have a1 := len_fn (P := P) (G := G) (S := S) (L := L) (ar := ar) (ca := ca) hP hN (by omega)
  have hT : T.Ok P := hP ▸ T_ok
  refine FnTr.intro (fn := Tryz.f27) (c := bodyOf Tryz.f27) (by rw [hP]; rfl) rfl rfl hT ?_
  generalize hA : Ar.real = A
  generalize hK : Gives _ _ _ = K
  cbv
  have k1 : A.lt (s : Int) 4 = false := by subst hA; simp [Ar.real]; omega
  refine CS.le hA (a1) [(0, 0), (1, 1), (2, 2)] rfl rfl rfl ?_ ?_ ?_
  iterate 2 ((try cbv) <;> (repeat' (first | exact trivial | exact rfl | apply And.intro | exact fun _ => rfl | (intro _ hle; first | refine chunk_le hA rfl hle rfl ?_ | refine cat_le hA ?_ | refine upd_le hA ?_ | (try cbv)))) <;> (try (subst hA; (try simp only [zn] at *); (try (simp only [Ar.real, NV.val, zo, zt])); first | done | omega | decide | exact zi | (refine ⟨?_, ?_⟩ <;> first | omega | decide | exact zi))))
  cbv
  first | refine testR k1 rfl ?_ | refine testL k1 rfl ?_
  cbv
  refine Fin.le hA 3 [] (.lit .i64 0) (DH N S L ar ca) 3 rfl rfl rfl ?_ ?_ (by rw [← hK]; exact ⟨rfl, rfl, rfl⟩)
  iterate 2 ((try cbv) <;> (repeat' (first | exact trivial | exact rfl | apply And.intro | exact fun _ => rfl | (intro _ hle; first | refine chunk_le hA rfl hle rfl ?_ | refine cat_le hA ?_ | refine upd_le hA ?_ | (try cbv)))))
theorem full_fn {P : Program} {G : Gl} (hP : P = Tryz.prog) {N s h n m : Nat} {S f : Nat → Int} {L : Int → Option (Nat → Int)} {ar : Bool} {ca : Int} {r : Bool} (hN : N = 64 * s) (hs : 4 ≤ s ∧ s ≤ 4096) (hh : h = (s - 2) / 2) (hn : n ≤ 1000000) (hm : m = needN (n + 4)) (hr : r = true ↔ (65536 < n + 4 ∨ h < m)) :
    FnTr P G 48 [.ptr 0 0, By n f] (DH N S L ar ca) 3 (Gives (.bs r) (DH N S L ar ca) 10) := by
  have a1 := half_fn (P := P) (G := G) (S := S) (L := L) (ar := ar) (ca := ca) hP hN hs hh
  have a2 := need_fn (P := P) (G := G) (n := (n : Int) + 4) (m := m) hP (by omega) (by rw [hm]; congr 1)
  by_cases q1 : 65536 < n + 4
  · have hr : r = true := hr.2 (.inl q1)
    subst hr
    have hT : T.Ok P := hP ▸ T_ok
    refine FnTr.intro (fn := Tryz.f48) (c := bodyOf Tryz.f48) (by rw [hP]; rfl) rfl rfl hT ?_
    generalize hA : Ar.real = A
    generalize hK : Gives _ _ _ = K
    cbv
    have k1 : A.gt (A.add (A.i2 n) 4) 65536 = true := by subst hA; simp [Ar.real]; omega
    refine ⟨(by (subst hA; (try simp only [zn] at *); (try (simp only [Ar.real, NV.val, zo, zt])); first | done | omega | decide | exact zi | (refine ⟨?_, ?_⟩ <;> first | omega | decide | exact zi))), ?_⟩
    first | refine testR k1 rfl ?_ | refine testL k1 rfl ?_
    cbv
    refine Fin.le hA 3 [] (.bs true) (DH N S L ar ca) 10 rfl rfl rfl ?_ ?_ (by rw [← hK]; exact ⟨rfl, rfl, rfl⟩)
    iterate 2 ((try cbv) <;> (repeat' (first | exact trivial | exact rfl | apply And.intro | exact fun _ => rfl | (intro _ hle; first | refine chunk_le hA rfl hle rfl ?_ | refine cat_le hA ?_ | refine upd_le hA ?_ | (try cbv)))))
  · have hr : r = true ↔ h < m := hr.trans ⟨fun q => q.resolve_left q1, .inr⟩
    clear hm hh
    have hT : T.Ok P := hP ▸ T_ok
    refine FnTr.intro (fn := Tryz.f48) (c := bodyOf Tryz.f48) (by rw [hP]; rfl) rfl rfl hT ?_
    generalize hA : Ar.real = A
    generalize hK : Gives _ _ _ = K
    cbv
    have k1 : A.gt (A.add (A.i2 n) 4) 65536 = false := by clear hr; subst hA; simp [Ar.real]; omega
    refine ⟨(by (subst hA; (try simp only [zn] at *); (try (simp only [Ar.real, NV.val, zo, zt])); first | done | omega | decide | exact zi | (refine ⟨?_, ?_⟩ <;> first | omega | decide | exact zi))), ?_⟩
    first | refine testR k1 rfl ?_ | refine testL k1 rfl ?_
    cbv
    refine ⟨(by (subst hA; (try simp only [zn] at *); (try (simp only [Ar.real, NV.val, zo, zt])); first | done | omega | decide | exact zi | (refine ⟨?_, ?_⟩ <;> first | omega | decide | exact zi))), ?_⟩
    refine CS.le hA (a2) [] rfl rfl rfl ?_ ?_ ?_
    iterate 2 ((try cbv) <;> (repeat' (first | exact trivial | exact rfl | apply And.intro | exact fun _ => rfl | (intro _ hle; first | refine chunk_le hA rfl hle rfl ?_ | refine cat_le hA ?_ | refine upd_le hA ?_ | (try cbv)))) <;> (try (subst hA; (try simp only [zn] at *); (try (simp only [Ar.real, NV.val, zo, zt])); first | done | omega | decide | exact zi | (refine ⟨?_, ?_⟩ <;> first | omega | decide | exact zi))))
    cbv
    refine CS.le hA (a1) [(0, 0), (1, 1), (2, 2)] rfl rfl rfl ?_ ?_ ?_
    iterate 2 ((try cbv) <;> (repeat' (first | exact trivial | exact rfl | apply And.intro | exact fun _ => rfl | (intro _ hle; first | refine chunk_le hA rfl hle rfl ?_ | refine cat_le hA ?_ | refine upd_le hA ?_ | (try cbv)))) <;> (try (subst hA; (try simp only [zn] at *); (try (simp only [Ar.real, NV.val, zo, zt])); first | done | omega | decide | exact zi | (refine ⟨?_, ?_⟩ <;> first | omega | decide | exact zi))))
    cbv
    refine Fin.le hA 3 [] (.bs r) (DH N S L ar ca) 10 rfl rfl rfl ?_ ?_ (by rw [← hK]; exact ⟨rfl, rfl, rfl⟩)
    · (try cbv) <;> (repeat' (first | exact trivial | exact rfl | apply And.intro | exact fun _ => rfl | (intro _ hle; first | refine chunk_le hA rfl hle rfl ?_ | refine cat_le hA ?_ | refine upd_le hA ?_ | (try cbv))))
      subst hA
      rw [Bool.eq_iff_iff, hr]
      simp [Ar.real]
    · (try cbv) <;> (repeat' (first | exact trivial | exact rfl | apply And.intro | exact fun _ => rfl | (intro _ hle; first | refine chunk_le hA rfl hle rfl ?_ | refine cat_le hA ?_ | refine upd_le hA ?_ | (try cbv))))
end Go.Proofs.YtnjjgipblimbfaaGreatDoor.Dsk
namespace Go.WalLaw
open Go.DskLaw
structure Dk where
  S : Nat → Int
  L : Int → Option (Nat → Int)
  ar : Bool
  ca : Int
def offD (d : Dk) : Prop := d.ar = true ∧ d.ca = 0
structure DkOk (s : Nat) (d : Dk) : Prop where
  hca : 0 ≤ d.ca ∧ d.ca ≤ 9223372036854775807
  key : ∀ k g, d.L k = some g → 0 ≤ k ∧ k < (s : Int)
  sb : ∀ x, x < 64 * s → 0 ≤ d.S x ∧ d.S x ≤ 255
  lb : ∀ k g, d.L k = some g → ∀ x, x < 64 → 0 ≤ g x ∧ g x ≤ 255
def decD (d : Dk) : Int := if d.ar then d.ca - 1 else d.ca
def flushD (d : Dk) : Dk := ⟨fun x => secV d.S d.L (x / 64) (x % 64), fun _ => none, d.ar, decD d⟩
def writeD (d : Dk) (i : Nat) (f : Nat → Int) : Dk := ⟨d.S, fun k => if k = (i : Int) then some f else d.L k, d.ar, decD d⟩
def putK (d : Dk) (n : Nat) : Nat := if d.ar then min (needN n) d.ca.toNat else needN n
def putD (d : Dk) (first n : Nat) (f : Nat → Int) : Dk := ⟨d.S, fun i => if (first : Int) ≤ i ∧ i < (first : Int) + putK d n then some (pcs n f (i - first).toNat) else d.L i, d.ar, if d.ar then d.ca - putK d n else d.ca⟩
noncomputable def wipeD (d : Dk) (first fin : Nat) : Option Nat × Dk :=
  let r := wipeP (fun i => secV d.S d.L i) d.ar (fin - first) first 0 d.L d.ca
  (r.1, ⟨d.S, r.2.1, d.ar, r.2.2⟩)
theorem putK_le (d : Dk) (n : Nat) : putK d n ≤ needN n := by
  unfold putK; split
  · exact Nat.min_le_left _ _
  · exact Nat.le_refl _
inductive LayIs (d : Dk) (gen fi en n : Nat) (f : Nat → Int) : Dk → Int → Int → Prop
  | put : putK d n < needN n → LayIs d gen fi en n f (putD d fi n f) 0 6
  | wipe0 : putK d n = needN n → offD (putD d fi n f) → LayIs d gen fi en n f (putD d fi n f) 0 6
  | wipe {d2 : Dk} : putK d n = needN n → ¬ offD (putD d fi n f) → wipeD (putD d fi n f) (fi + needN n) en = (none, d2) → LayIs d gen fi en n f d2 0 6
  | flush {d2 : Dk} {m : Nat} : putK d n = needN n → ¬ offD (putD d fi n f) → wipeD (putD d fi n f) (fi + needN n) en = (some m, d2) → offD d2 → LayIs d gen fi en n f d2 0 6
  | write {d2 : Dk} {m : Nat} : putK d n = needN n → ¬ offD (putD d fi n f) → wipeD (putD d fi n f) (fi + needN n) en = (some m, d2) → ¬ offD d2 → offD (flushD d2) → LayIs d gen fi en n f (flushD d2) 0 6
  | again {d2 : Dk} {m : Nat} : putK d n = needN n → ¬ offD (putD d fi n f) → wipeD (putD d fi n f) (fi + needN n) en = (some m, d2) → ¬ offD d2 → ¬ offD (flushD d2) → offD (writeD (flushD d2) (gen % 2) (headB gen)) → LayIs d gen fi en n f (writeD (flushD d2) (gen % 2) (headB gen)) 0 6
  | ok {d2 : Dk} {m : Nat} : putK d n = needN n → ¬ offD (putD d fi n f) → wipeD (putD d fi n f) (fi + needN n) en = (some m, d2) → ¬ offD d2 → ¬ offD (flushD d2) → ¬ offD (writeD (flushD d2) (gen % 2) (headB gen)) → LayIs d gen fi en n f (flushD (writeD (flushD d2) (gen % 2) (headB gen))) ((fi + needN n : Nat) : Int) 0
theorem layIs_ex (d : Dk) (gen fi en n : Nat) (f : Nat → Int) : ∃ d' at' e, LayIs d gen fi en n f d' at' e := by
  rcases Nat.lt_or_ge (putK d n) (needN n) with h | h
  · exact ⟨_, _, _, .put h⟩
  have h : putK d n = needN n := Nat.le_antisymm (putK_le d n) h
  by_cases h1 : offD (putD d fi n f)
  · exact ⟨_, _, _, .wipe0 h h1⟩
  obtain ⟨⟨on, d2⟩, hw⟩ : ∃ r, wipeD (putD d fi n f) (fi + needN n) en = r := ⟨_, rfl⟩
  cases on with
  | none => exact ⟨_, _, _, .wipe h h1 hw⟩
  | some m =>
    by_cases h2 : offD d2
    · exact ⟨_, _, _, .flush h h1 hw h2⟩
    by_cases h3 : offD (flushD d2)
    · exact ⟨_, _, _, .write h h1 hw h2 h3⟩
    by_cases h4 : offD (writeD (flushD d2) (gen % 2) (headB gen))
    · exact ⟨_, _, _, .again h h1 hw h2 h3 h4⟩
    · exact ⟨_, _, _, .ok h h1 hw h2 h3 h4⟩
section
variable {s : Nat} {d : Dk}
theorem DkOk.dec (h : DkOk s d) (ho : ¬ offD d) : 0 ≤ decD d ∧ decD d ≤ 9223372036854775807 := by
  have := h.hca
  unfold decD
  split
  · have : d.ca ≠ 0 := fun e => ho ⟨by assumption, e⟩
    omega
  · exact this
theorem DkOk.bytes (h : DkOk s d) (t : Nat) (ht : t < s) : isB (secV d.S d.L t) := by
  intro x hx
  unfold secV
  cases e : d.L (t : Int) with
  | some g => exact h.lb _ g e x hx
  | none => exact h.sb _ (by omega)
theorem DkOk.flush (h : DkOk s d) (ho : ¬ offD d) : DkOk s (flushD d) where
  hca := h.dec ho
  key := fun k g e => by cases e
  sb := fun x hx => h.bytes (x / 64) (by omega) (x % 64) (by omega)
  lb := fun k g e => by cases e
theorem DkOk.write (h : DkOk s d) (ho : ¬ offD d) {i : Nat} {f : Nat → Int} (hi : i < s) (hf : ∀ x, x < 64 → 0 ≤ f x ∧ f x ≤ 255) : DkOk s (writeD d i f) where
  hca := h.dec ho
  key := fun k g e => by
    have e : (if k = (i : Int) then some f else d.L k) = some g := e
    by_cases q : k = (i : Int)
    · omega
    · rw [if_neg q] at e; exact h.key k g e
  sb := h.sb
  lb := fun k g e => by
    have e : (if k = (i : Int) then some f else d.L k) = some g := e
    by_cases q : k = (i : Int)
    · rw [if_pos q] at e; cases e; exact hf
    · rw [if_neg q] at e; exact h.lb k g e
theorem pcs_range {n : Nat} {f : Nat → Int} (hf : ∀ i, i < n → 0 ≤ f i ∧ f i ≤ 255) (j x : Nat) : 0 ≤ pcs n f j x ∧ pcs n f j x ≤ 255 := by
  unfold pcs
  split
  · split
    · exact hf _ (by assumption)
    · omega
  · split
    · omega
    · split
      · split <;> omega
      · omega
theorem DkOk.put (h : DkOk s d) {first n : Nat} {f : Nat → Int} (hi : first + needN n ≤ s) (hf : ∀ i, i < n → 0 ≤ f i ∧ f i ≤ 255) : DkOk s (putD d first n f) where
  hca := by
    have := h.hca
    show 0 ≤ (if d.ar then d.ca - putK d n else d.ca) ∧ (if d.ar then d.ca - putK d n else d.ca) ≤ _
    unfold putK
    split
    · omega
    · exact this
  key := fun k g e => by
    have e : (if (first : Int) ≤ k ∧ k < (first : Int) + putK d n then some (pcs n f (k - first).toNat) else d.L k) = some g := e
    have := putK_le d n
    by_cases q : (first : Int) ≤ k ∧ k < (first : Int) + putK d n
    · omega
    · rw [if_neg q] at e; exact h.key k g e
  sb := h.sb
  lb := fun k g e => by
    have e : (if (first : Int) ≤ k ∧ k < (first : Int) + putK d n then some (pcs n f (k - first).toNat) else d.L k) = some g := e
    by_cases q : (first : Int) ≤ k ∧ k < (first : Int) + putK d n
    · rw [if_pos q] at e; cases e; exact fun x _ => pcs_range hf _ x
    · rw [if_neg q] at e; exact h.lb k g e
end
structure LOk (s : Nat) (L : Int → Option (Nat → Int)) : Prop where
  key : ∀ k g, L k = some g → 0 ≤ k ∧ k < (s : Int)
  lb : ∀ k g, L k = some g → ∀ x, x < 64 → 0 ≤ g x ∧ g x ≤ 255
theorem wipeP_ok {s : Nat} {V : Nat → Nat → Int} {ar : Bool} : ∀ (k x n : Nat) (L : Int → Option (Nat → Int)) (ca : Int), x + k ≤ s → LOk s L → (0 ≤ ca ∧ ca ≤ 9223372036854775807) →
    LOk s (wipeP V ar k x n L ca).2.1 ∧ (0 ≤ (wipeP V ar k x n L ca).2.2 ∧ (wipeP V ar k x n L ca).2.2 ≤ 9223372036854775807) := by
  intro k
  induction k with
  | zero => intro x n L ca _ h1 h2; exact ⟨h1, h2⟩
  | succ k ih =>
    intro x n L ca hx h1 h2
    by_cases ho : ar = true ∧ ca = 0
    · rw [wipeP_off ho]; exact ⟨h1, h2⟩
    · by_cases hb : ∀ i, i < 64 → V x i = 0
      · rw [wipeP_blank ho hb]; exact ih _ _ _ _ (by omega) h1 h2
      · rw [wipeP_full ho hb]
        refine ih _ _ _ _ (by omega) ⟨fun j g e => ?_, fun j g e => ?_⟩ ?_
        · have e : (if j = (x : Int) then some (fun _ => (0 : Int)) else L j) = some g := e
          by_cases q : j = (x : Int)
          · omega
          · rw [if_neg q] at e; exact h1.key j g e
        · have e : (if j = (x : Int) then some (fun _ => (0 : Int)) else L j) = some g := e
          by_cases q : j = (x : Int)
          · rw [if_pos q] at e; cases e; intro y _; exact ⟨Int.le_refl 0, (by decide : (0 : Int) ≤ 255)⟩
          · rw [if_neg q] at e; exact h1.lb j g e
        · split
          · have : ca ≠ 0 := fun e => ho ⟨by assumption, e⟩
            omega
          · exact h2
theorem DkOk.wipe {s : Nat} {d d2 : Dk} {first fin : Nat} {on : Option Nat} (h : DkOk s d) (hf : first ≤ fin ∧ fin ≤ s) (hw : wipeD d first fin = (on, d2)) : DkOk s d2 := by
  obtain ⟨_, e2⟩ := Prod.mk.inj hw
  subst e2
  have := wipeP_ok (s := s) (V := fun i => secV d.S d.L i) (ar := d.ar) (fin - first) first 0 d.L d.ca (by omega) ⟨h.key, h.lb⟩ h.hca
  exact ⟨this.2, this.1.key, h.sb, this.1.lb⟩
def cutF (n : Nat) (b : Nat → Int) (i : Nat) : Int := if i < n then b i else 0
def bvF (n : Nat) (b : Nat → Int) (i : Nat) : BitVec 32 := BitVec.ofInt 32 (cutF n b i)
def sealF (n : Nat) (b : Nat → Int) (i : Nat) : Int := CrcLaw.sealB (cutF n b) (CrcLaw.more (bvF n b) 0#32 n) n i
theorem cutF_range {n : Nat} {b : Nat → Int} (hb : ∀ i, i < n → 0 ≤ b i ∧ b i ≤ 255) (i : Nat) : 0 ≤ cutF n b i ∧ cutF n b i < 256 := by
  unfold cutF
  split
  · have := hb i (by assumption); omega
  · omega
theorem bvF_nat {n : Nat} {b : Nat → Int} (hb : ∀ i, i < n → 0 ≤ b i ∧ b i ≤ 255) (i : Nat) : cutF n b i = ((bvF n b i).toNat : Int) := by
  have h := cutF_range hb i
  unfold bvF
  obtain ⟨k, hk⟩ : ∃ k : Nat, cutF n b i = (k : Int) := ⟨(cutF n b i).toNat, by omega⟩
  rw [hk, BitVec.ofInt_natCast, BitVec.toNat_ofNat, Nat.mod_eq_of_lt (by omega)]
theorem bvF_lt {n : Nat} {b : Nat → Int} (hb : ∀ i, i < n → 0 ≤ b i ∧ b i ≤ 255) (i : Nat) : (bvF n b i).toNat < 256 := by
  have h := cutF_range hb i
  rw [bvF_nat hb] at h
  omega
theorem sealF_range {n : Nat} {b : Nat → Int} (hb : ∀ i, i < n → 0 ≤ b i ∧ b i ≤ 255) (i : Nat) : 0 ≤ sealF n b i ∧ sealF n b i ≤ 255 := by
  have := CrcLaw.sealB_rng (s := CrcLaw.more (bvF n b) 0#32 n) (n := n) (fun i _ => cutF_range hb i) i
  unfold sealF
  omega
end Go.WalLaw
namespace Go.Proofs.YtnjjgipblimbfaaGreatDoor.Dsk
open Go.Eng
open Go.DskLaw (q64 secV isB needN pcs wipeP)
open Go.WalLaw
open Go.CrcLaw (four)
set_option maxRecDepth 100000
set_option maxHeartbeats 1000000
theorem seal2_fn {P : Program} (hP : P = Tryz.prog) {n m : Nat} {fr b hi : Nat → Int} (hfr : ∀ i, fr i = ((four i).toNat : Int)) (hb : ∀ i, i < n → 0 ≤ b i ∧ b i ≤ 255) (hn : n ≤ 1000000000) (hm : m = n + 4) (hh : ∀ i, i < m → hi i = sealF n b i) :
    FnTr P (Gf fr) 53 [By n b] [] 0 (Gives (By m hi) [] 1) := by
  have h := seal_fn hP hfr (gi := cutF n b) (g := bvF n b) (bvF_nat hb) hn hm hh
  obtain ⟨c, hc⟩ : ∃ c : Nat → Int, c = cutF n b := ⟨_, rfl⟩
  have hcb : ∀ i, i < n → b i = c i := fun i hi => by rw [hc]; unfold cutF; rw [if_pos hi]
  rw [← hc] at h
  generalize hA : Ar.real = A
  refine FnTr.as hA h ?_ ?_ ?_ rfl
  · (try cbv) <;> (repeat' (first | exact trivial | exact rfl | apply And.intro | exact fun _ => rfl | (intro _ hle; first | refine chunk_le hA rfl hle rfl ?_ | refine cat_le hA ?_ | refine upd_le hA ?_ | (try cbv))))
    all_goals (refine hcb _ ?_; subst hA; exact ltNV_real.1 (by assumption))
  iterate 2 ((try cbv) <;> (repeat' (first | exact trivial | exact rfl | apply And.intro | exact fun _ => rfl | (intro _ hle; first | refine chunk_le hA rfl hle rfl ?_ | refine cat_le hA ?_ | refine upd_le hA ?_ | (try cbv)))))
abbrev DHd (N : Nat) (d : Dk) : Hl := DH N d.S d.L d.ar d.ca
section
variable {P : Program} {G : Gl} {N s : Nat} {d d1 d2 : Dk}
theorem put_all (hP : P = Tryz.prog) {n first fin : Nat} {f : Nat → Int} {at' : Int} (hN : N = 64 * s) (hs : s ≤ 4096) (hok : DkOk s d) (h : first + needN n ≤ fin ∧ fin ≤ s) (hn : n ≤ 65536) (hk : putK d n = needN n) (hd : d1 = putD d first n f) (ha : at' = ((first + needN n : Nat) : Int)) :
    FnTr P G 52 [.ptr 0 0, .int .i64 (first : Int), .int .i64 (fin : Int), By n f] (DHd N d) 3 (Gives (.tup [.int .i64 at', .lit .i64 0]) (DHd N d1) 3) := by
  have h1 := put_ok (P := P) (G := G) (S := d.S) (L := d.L) (L' := d1.L) (f := f) (ar := d.ar) (ca := d.ca) (ca' := d1.ca) (at' := at') (e' := 0) (k := putK d n) hP hN hs h hn hok.hca (by
    unfold putK; cases e : d.ar
    · exact .inl ⟨rfl, rfl⟩
    · exact .inr ⟨rfl, rfl⟩) (fun i => by rw [hd]; rfl) (by rw [hd]; rfl) (.inl ⟨hk, ha, rfl⟩)
  have eS : d1.S = d.S := by rw [hd]; rfl
  have eA : d1.ar = d.ar := by rw [hd]; rfl
  show FnTr _ _ _ _ _ _ (Gives _ (DH N d1.S d1.L d1.ar d1.ca) 3)
  rw [eS, eA]
  clear hd hk ha hok
  generalize hA : Ar.real = A
  refine FnTr.as hA h1 ?_ ?_ ?_ rfl
  iterate 2 ((try cbv) <;> (repeat' (first | exact trivial | exact rfl | apply And.intro | exact fun _ => rfl | (intro _ hle; first | refine chunk_le hA rfl hle rfl ?_ | refine cat_le hA ?_ | refine upd_le hA ?_ | (try cbv)))))
  · (try cbv) <;> (repeat' (first | exact trivial | exact rfl | apply And.intro | exact fun _ => rfl | (intro _ hle; first | refine chunk_le hA rfl hle rfl ?_ | refine cat_le hA ?_ | refine upd_le hA ?_ | (try cbv))))
theorem put_part (hP : P = Tryz.prog) {n first fin : Nat} {f : Nat → Int} (hN : N = 64 * s) (hs : s ≤ 4096) (hok : DkOk s d) (h : first + needN n ≤ fin ∧ fin ≤ s) (hn : n ≤ 65536) (hk : putK d n < needN n) (hd : d1 = putD d first n f) :
    FnTr P G 52 [.ptr 0 0, .int .i64 (first : Int), .int .i64 (fin : Int), By n f] (DHd N d) 3 (Gives (.tup [.lit .i64 0, .lit .i64 6]) (DHd N d1) 3) := by
  have h1 := put_ok (P := P) (G := G) (S := d.S) (L := d.L) (L' := d1.L) (f := f) (ar := d.ar) (ca := d.ca) (ca' := d1.ca) (at' := 0) (e' := 6) (k := putK d n) hP hN hs h hn hok.hca (by
    unfold putK; cases e : d.ar
    · exact .inl ⟨rfl, rfl⟩
    · exact .inr ⟨rfl, rfl⟩) (fun i => by rw [hd]; rfl) (by rw [hd]; rfl) (.inr ⟨hk, rfl, rfl⟩)
  have eS : d1.S = d.S := by rw [hd]; rfl
  have eA : d1.ar = d.ar := by rw [hd]; rfl
  show FnTr _ _ _ _ _ _ (Gives _ (DH N d1.S d1.L d1.ar d1.ca) 3)
  rw [eS, eA]
  clear hd hk hok
  generalize hA : Ar.real = A
  refine FnTr.as hA h1 ?_ ?_ ?_ rfl
  iterate 2 ((try cbv) <;> (repeat' (first | exact trivial | exact rfl | apply And.intro | exact fun _ => rfl | (intro _ hle; first | refine chunk_le hA rfl hle rfl ?_ | refine cat_le hA ?_ | refine upd_le hA ?_ | (try cbv)))))
  · (try cbv) <;> (repeat' (first | exact trivial | exact rfl | apply And.intro | exact fun _ => rfl | (intro _ hle; first | refine chunk_le hA rfl hle rfl ?_ | refine cat_le hA ?_ | refine upd_le hA ?_ | (try cbv))))
theorem wipe_all (hP : P = Tryz.prog) {first fin m : Nat} (hN : N = 64 * s) (hs : s ≤ 4096) (hok : 0 ≤ d.ca ∧ d.ca ≤ 9223372036854775807) (h : first ≤ fin ∧ fin ≤ s) (ho : ¬ offD d) (hw : wipeD d first fin = (some m, d1)) :
    FnTr P G 30 [.ptr 0 0, .int .i64 (first : Int), .int .i64 (fin : Int)] (DHd N d) 3 (Gives (.tup [.int .i64 (m : Int), .lit .i64 0]) (DHd N d1) 3) := by
  obtain ⟨⟨on, L', c'⟩, hr⟩ : ∃ r, wipeP (fun i => secV d.S d.L i) d.ar (fin - first) first 0 d.L d.ca = r := ⟨_, rfl⟩
  have hw : ((wipeP (fun i => secV d.S d.L i) d.ar (fin - first) first 0 d.L d.ca).1, (⟨d.S, (wipeP (fun i => secV d.S d.L i) d.ar (fin - first) first 0 d.L d.ca).2.1, d.ar, (wipeP (fun i => secV d.S d.L i) d.ar (fin - first) first 0 d.L d.ca).2.2⟩ : Dk)) = (some m, d1) := hw
  rw [hr] at hw
  obtain ⟨e1, e2⟩ := Prod.mk.inj hw
  subst e2
  exact wipe_ok hP hN hs h ho hok (V := fun i => secV d.S d.L i) (fun _ _ => rfl) hr (fun n hn => by have q := hn.symm.trans e1; cases q; exact ⟨rfl, rfl, rfl⟩) (fun hn => by have q := hn.symm.trans e1; cases q)
theorem wipe_part (hP : P = Tryz.prog) {first fin : Nat} (hN : N = 64 * s) (hs : s ≤ 4096) (hok : 0 ≤ d.ca ∧ d.ca ≤ 9223372036854775807) (h : first ≤ fin ∧ fin ≤ s) (ho : ¬ offD d) (hw : wipeD d first fin = (none, d1)) :
    FnTr P G 30 [.ptr 0 0, .int .i64 (first : Int), .int .i64 (fin : Int)] (DHd N d) 3 (Gives (.tup [.lit .i64 0, .lit .i64 6]) (DHd N d1) 3) := by
  obtain ⟨⟨on, L', c'⟩, hr⟩ : ∃ r, wipeP (fun i => secV d.S d.L i) d.ar (fin - first) first 0 d.L d.ca = r := ⟨_, rfl⟩
  have hw : ((wipeP (fun i => secV d.S d.L i) d.ar (fin - first) first 0 d.L d.ca).1, (⟨d.S, (wipeP (fun i => secV d.S d.L i) d.ar (fin - first) first 0 d.L d.ca).2.1, d.ar, (wipeP (fun i => secV d.S d.L i) d.ar (fin - first) first 0 d.L d.ca).2.2⟩ : Dk)) = (none, d1) := hw
  rw [hr] at hw
  obtain ⟨e1, e2⟩ := Prod.mk.inj hw
  subst e2
  exact wipe_ok hP hN hs h ho hok (V := fun i => secV d.S d.L i) (fun _ _ => rfl) hr (fun n hn => by have q := hn.symm.trans e1; cases q) (fun hn => ⟨rfl, rfl, rfl⟩)
theorem flush_all (hP : P = Tryz.prog) (hN : N = 64 * s) (hs : 1 ≤ s ∧ s ≤ 4096) (hok : DkOk s d) (ho : ¬ offD d) (hd : d1 = flushD d) :
    FnTr P G 32 [.ptr 0 0] (DHd N d) 3 (Gives (.lit .i64 0) (DHd N d1) 3) := by
  subst hd
  exact flush_ok (S' := (flushD d).S) (L' := (flushD d).L) (ca' := (flushD d).ca) hP ho hN hs rfl hok.hca hok.key (fun _ _ => rfl) (fun _ => rfl)
theorem write_all (hP : P = Tryz.prog) {i : Nat} {f : Nat → Int} (hN : N = 64 * s) (hs : s ≤ 4096) (hok : DkOk s d) (ho : ¬ offD d) (hi : i < s) (hd : d1 = writeD d i f) :
    FnTr P G 65 [.ptr 0 0, .int .i64 (i : Int), By 64 f] (DHd N d) 3 (Gives (.lit .i64 0) (DHd N d1) 3) := by
  subst hd
  exact write_ok (L' := (writeD d i f).L) (ca' := (writeD d i f).ca) hP ho hN hs hi rfl (fun _ => rfl) rfl hok.hca
end
end Go.Proofs.YtnjjgipblimbfaaGreatDoor.Dsk
namespace Go.Proofs.YtnjjgipblimbfaaGreatDoor.Dsk
open Go.Eng
open Go.DskLaw (q64 secV isB needN pcs wipeP)
open Go.WalLaw
open Go.CrcLaw (four)
set_option maxRecDepth 100000
set_option maxHeartbeats 1000000
section
variable {P : Program} {fr : Nat → Int} {N s h gen fi en nb n a1 m : Nat} {b f hd : Nat → Int} {d d1 d2 d3 d4 d5 : Dk}
theorem lay_put (hP : P = Tryz.prog) (hfr : ∀ i, fr i = ((four i).toNat : Int)) (hN : N = 64 * s) (hs : 4 ≤ s ∧ s ≤ 4096) (hh : h = (s - 2) / 2) (hg : gen ≤ 1099511627777) (hfi : fi = 2 + gen % 2 * h) (hen : en = fi + h) (hb : ∀ i, i < nb → 0 ≤ b i ∧ b i ≤ 255) (hn : n = nb + 4) (hn6 : n ≤ 65536) (hnh : needN n ≤ h) (hf : ∀ i, i < n → f i = sealF nb b i) (hes : en ≤ s) (ha1 : a1 = fi + needN n) (ok : DkOk s d) (hk : putK d n < needN n) (hd1 : d1 = putD d fi n f) :
    FnTr P (Gf fr) 49 [.ptr 0 0, .int .i64 (gen : Int), By nb b] (DHd N d) 3 (Gives (.tup [.lit .i64 0, .lit .i64 6]) (DHd N d1) 3) := by
  have c1 := first_fn (P := P) (G := Gf fr) (S := d.S) (L := d.L) (ar := d.ar) (ca := d.ca) hP hN hs hh hg hfi
  have c2 := end_fn (P := P) (G := Gf fr) (S := d.S) (L := d.L) (ar := d.ar) (ca := d.ca) hP hN hs hh hg hfi hen
  have c3 := seal2_fn (P := P) hP hfr hb (by omega) hn hf
  have c4 := put_part (P := P) (G := Gf fr) (f := f) hP hN hs.2 ok ⟨by omega, hes⟩ hn6 hk hd1
  clear hfr hh hfi hen hb hn hn6 hnh hf hes ha1 ok hN hs hk hd1
  have hT : T.Ok P := hP ▸ T_ok
  refine FnTr.introD (fn := Tryz.f49) (fg := Tryz.f79) (g := 79) (by rw [hP]; rfl) rfl rfl (by rw [hP]; rfl) rfl rfl rfl rfl rfl rfl rfl rfl rfl hT ?_
  generalize hA : Ar.real = A
  generalize hK : Gives _ _ _ = K
  cbv
  refine CS.le hA (c1) [(0, 0), (1, 1), (2, 2)] rfl rfl rfl ?_ ?_ ?_
  iterate 2 ((try cbv) <;> (repeat' (first | exact trivial | exact rfl | apply And.intro | exact fun _ => rfl | (intro _ hle; first | refine chunk_le hA rfl hle rfl ?_ | refine cat_le hA ?_ | refine upd_le hA ?_ | (try cbv)))) <;> (try (subst hA; (try simp only [zn] at *); (try (simp only [Ar.real, NV.val, zo, zt])); first | done | omega | decide | exact zi | (refine ⟨?_, ?_⟩ <;> first | omega | decide | exact zi))))
  cbv
  refine CS.le hA (c2) [(0, 0), (1, 1), (2, 2)] rfl rfl rfl ?_ ?_ ?_
  iterate 2 ((try cbv) <;> (repeat' (first | exact trivial | exact rfl | apply And.intro | exact fun _ => rfl | (intro _ hle; first | refine chunk_le hA rfl hle rfl ?_ | refine cat_le hA ?_ | refine upd_le hA ?_ | (try cbv)))) <;> (try (subst hA; (try simp only [zn] at *); (try (simp only [Ar.real, NV.val, zo, zt])); first | done | omega | decide | exact zi | (refine ⟨?_, ?_⟩ <;> first | omega | decide | exact zi))))
  cbv
  refine CS.le hA (c3) [] rfl rfl rfl ?_ ?_ ?_
  iterate 2 ((try cbv) <;> (repeat' (first | exact trivial | exact rfl | apply And.intro | exact fun _ => rfl | (intro _ hle; first | refine chunk_le hA rfl hle rfl ?_ | refine cat_le hA ?_ | refine upd_le hA ?_ | (try cbv)))) <;> (try (subst hA; (try simp only [zn] at *); (try (simp only [Ar.real, NV.val, zo, zt])); first | done | omega | decide | exact zi | (refine ⟨?_, ?_⟩ <;> first | omega | decide | exact zi))))
  cbv
  refine CS.le hA (c4) [(0, 0), (1, 1), (2, 2)] rfl rfl rfl ?_ ?_ ?_
  iterate 2 ((try cbv) <;> (repeat' (first | exact trivial | exact rfl | apply And.intro | exact fun _ => rfl | (intro _ hle; first | refine chunk_le hA rfl hle rfl ?_ | refine cat_le hA ?_ | refine upd_le hA ?_ | (try cbv)))) <;> (try (subst hA; (try simp only [zn] at *); (try (simp only [Ar.real, NV.val, zo, zt])); first | done | omega | decide | exact zi | (refine ⟨?_, ?_⟩ <;> first | omega | decide | exact zi))))
  cbv
  refine DS.runK hA hT (by rw [hP]; exact P_mixed) 1 rfl ?_
  cbv
  refine DF.fin (by kernel_rfl) (by kernel_rfl) ?_
  cbv
  refine Fin.le hA 3 [] (.tup [.lit .i64 0, .lit .i64 6]) (DHd N d1) 3 rfl rfl rfl ?_ ?_ (by rw [← hK]; exact ⟨rfl, rfl, rfl⟩)
  iterate 2 ((try cbv) <;> (repeat' (first | exact trivial | exact rfl | apply And.intro | exact fun _ => rfl | (intro _ hle; first | refine chunk_le hA rfl hle rfl ?_ | refine cat_le hA ?_ | refine upd_le hA ?_ | (try cbv)))))
theorem lay_wipe0 (hP : P = Tryz.prog) (hfr : ∀ i, fr i = ((four i).toNat : Int)) (hN : N = 64 * s) (hs : 4 ≤ s ∧ s ≤ 4096) (hh : h = (s - 2) / 2) (hg : gen ≤ 1099511627777) (hfi : fi = 2 + gen % 2 * h) (hen : en = fi + h) (hb : ∀ i, i < nb → 0 ≤ b i ∧ b i ≤ 255) (hn : n = nb + 4) (hn6 : n ≤ 65536) (hnh : needN n ≤ h) (hf : ∀ i, i < n → f i = sealF nb b i) (hes : en ≤ s) (ha1 : a1 = fi + needN n) (ok : DkOk s d) (hk : putK d n = needN n) (hd1 : d1 = putD d fi n f) (o1 : offD d1) :
    FnTr P (Gf fr) 49 [.ptr 0 0, .int .i64 (gen : Int), By nb b] (DHd N d) 3 (Gives (.tup [.lit .i64 0, .lit .i64 6]) (DHd N d1) 3) := by
  have c1 := first_fn (P := P) (G := Gf fr) (S := d.S) (L := d.L) (ar := d.ar) (ca := d.ca) hP hN hs hh hg hfi
  have c2 := end_fn (P := P) (G := Gf fr) (S := d.S) (L := d.L) (ar := d.ar) (ca := d.ca) hP hN hs hh hg hfi hen
  have c3 := seal2_fn (P := P) hP hfr hb (by omega) hn hf
  have c2' := end_fn (P := P) (G := Gf fr) (S := d1.S) (L := d1.L) (ar := d1.ar) (ca := d1.ca) hP hN hs hh hg hfi hen
  have c4 := put_all (P := P) (G := Gf fr) (f := f) hP hN hs.2 ok ⟨by omega, hes⟩ hn6 hk hd1 (at' := (a1 : Int)) (by rw [ha1])
  have c5 := wipe_off (P := P) (G := Gf fr) (S := d1.S) (L := d1.L) (a := (a1 : Int)) (b := (en : Int)) hP hN hs.2 ⟨by omega, by omega, by omega⟩ o1
  clear hfr hh hfi hen hb hn hn6 hnh hf hes ha1 ok hN hs hk hd1 o1
  have hT : T.Ok P := hP ▸ T_ok
  refine FnTr.introD (fn := Tryz.f49) (fg := Tryz.f79) (g := 79) (by rw [hP]; rfl) rfl rfl (by rw [hP]; rfl) rfl rfl rfl rfl rfl rfl rfl rfl rfl hT ?_
  generalize hA : Ar.real = A
  generalize hK : Gives _ _ _ = K
  cbv
  refine CS.le hA (c1) [(0, 0), (1, 1), (2, 2)] rfl rfl rfl ?_ ?_ ?_
  iterate 2 ((try cbv) <;> (repeat' (first | exact trivial | exact rfl | apply And.intro | exact fun _ => rfl | (intro _ hle; first | refine chunk_le hA rfl hle rfl ?_ | refine cat_le hA ?_ | refine upd_le hA ?_ | (try cbv)))) <;> (try (subst hA; (try simp only [zn] at *); (try (simp only [Ar.real, NV.val, zo, zt])); first | done | omega | decide | exact zi | (refine ⟨?_, ?_⟩ <;> first | omega | decide | exact zi))))
  cbv
  refine CS.le hA (c2) [(0, 0), (1, 1), (2, 2)] rfl rfl rfl ?_ ?_ ?_
  iterate 2 ((try cbv) <;> (repeat' (first | exact trivial | exact rfl | apply And.intro | exact fun _ => rfl | (intro _ hle; first | refine chunk_le hA rfl hle rfl ?_ | refine cat_le hA ?_ | refine upd_le hA ?_ | (try cbv)))) <;> (try (subst hA; (try simp only [zn] at *); (try (simp only [Ar.real, NV.val, zo, zt])); first | done | omega | decide | exact zi | (refine ⟨?_, ?_⟩ <;> first | omega | decide | exact zi))))
  cbv
  refine CS.le hA (c3) [] rfl rfl rfl ?_ ?_ ?_
  iterate 2 ((try cbv) <;> (repeat' (first | exact trivial | exact rfl | apply And.intro | exact fun _ => rfl | (intro _ hle; first | refine chunk_le hA rfl hle rfl ?_ | refine cat_le hA ?_ | refine upd_le hA ?_ | (try cbv)))) <;> (try (subst hA; (try simp only [zn] at *); (try (simp only [Ar.real, NV.val, zo, zt])); first | done | omega | decide | exact zi | (refine ⟨?_, ?_⟩ <;> first | omega | decide | exact zi))))
  cbv
  refine CS.le hA (c4) [(0, 0), (1, 1), (2, 2)] rfl rfl rfl ?_ ?_ ?_
  iterate 2 ((try cbv) <;> (repeat' (first | exact trivial | exact rfl | apply And.intro | exact fun _ => rfl | (intro _ hle; first | refine chunk_le hA rfl hle rfl ?_ | refine cat_le hA ?_ | refine upd_le hA ?_ | (try cbv)))) <;> (try (subst hA; (try simp only [zn] at *); (try (simp only [Ar.real, NV.val, zo, zt])); first | done | omega | decide | exact zi | (refine ⟨?_, ?_⟩ <;> first | omega | decide | exact zi))))
  cbv
  refine DS.runK hA hT (by rw [hP]; exact P_mixed) 12 rfl ?_
  cbv
  refine CD.pass hA (c2') [(0, 0), (1, 1), (2, 2)] [] rfl ⟨rfl, rfl, rfl, rfl, ?_, ?_⟩ rfl (.inl rfl) ?_
  iterate 2 ((try cbv) <;> (repeat' (first | exact trivial | exact rfl | apply And.intro | exact fun _ => rfl | (intro _ hle; first | refine chunk_le hA rfl hle rfl ?_ | refine cat_le hA ?_ | refine upd_le hA ?_ | (try cbv)))) <;> (try (subst hA; (try simp only [zn] at *); (try (simp only [Ar.real, NV.val, zo, zt])); first | done | omega | decide | exact zi | (refine ⟨?_, ?_⟩ <;> first | omega | decide | exact zi))))
  cbv
  refine CD.pass hA (c5) [(0, 0), (1, 1), (2, 2)] [] rfl ⟨rfl, rfl, rfl, rfl, ?_, ?_⟩ rfl (.inl rfl) ?_
  iterate 2 ((try cbv) <;> (repeat' (first | exact trivial | exact rfl | apply And.intro | exact fun _ => rfl | (intro _ hle; first | refine chunk_le hA rfl hle rfl ?_ | refine cat_le hA ?_ | refine upd_le hA ?_ | (try cbv)))) <;> (try (subst hA; (try simp only [zn] at *); (try (simp only [Ar.real, NV.val, zo, zt])); first | done | omega | decide | exact zi | (refine ⟨?_, ?_⟩ <;> first | omega | decide | exact zi))))
  cbv
  refine DF.fin (by kernel_rfl) (by kernel_rfl) ?_
  cbv
  refine DS.runK hA hT (by rw [hP]; exact P_mixed) 1 rfl ?_
  cbv
  refine DF.fin (by kernel_rfl) (by kernel_rfl) ?_
  cbv
  refine Fin.le hA 3 [] (.tup [.lit .i64 0, .lit .i64 6]) (DHd N d1) 3 rfl rfl rfl ?_ ?_ (by rw [← hK]; exact ⟨rfl, rfl, rfl⟩)
  iterate 2 ((try cbv) <;> (repeat' (first | exact trivial | exact rfl | apply And.intro | exact fun _ => rfl | (intro _ hle; first | refine chunk_le hA rfl hle rfl ?_ | refine cat_le hA ?_ | refine upd_le hA ?_ | (try cbv)))))
theorem lay_wipe (hP : P = Tryz.prog) (hfr : ∀ i, fr i = ((four i).toNat : Int)) (hN : N = 64 * s) (hs : 4 ≤ s ∧ s ≤ 4096) (hh : h = (s - 2) / 2) (hg : gen ≤ 1099511627777) (hfi : fi = 2 + gen % 2 * h) (hen : en = fi + h) (hb : ∀ i, i < nb → 0 ≤ b i ∧ b i ≤ 255) (hn : n = nb + 4) (hn6 : n ≤ 65536) (hnh : needN n ≤ h) (hf : ∀ i, i < n → f i = sealF nb b i) (hes : en ≤ s) (ha1 : a1 = fi + needN n) (ok : DkOk s d) (hk : putK d n = needN n) (hd1 : d1 = putD d fi n f) (hw : wipeD d1 a1 en = (none, d2)) (o1 : ¬ offD d1) (k1 : 0 ≤ d1.ca ∧ d1.ca ≤ 9223372036854775807) :
    FnTr P (Gf fr) 49 [.ptr 0 0, .int .i64 (gen : Int), By nb b] (DHd N d) 3 (Gives (.tup [.lit .i64 0, .lit .i64 6]) (DHd N d2) 3) := by
  have c1 := first_fn (P := P) (G := Gf fr) (S := d.S) (L := d.L) (ar := d.ar) (ca := d.ca) hP hN hs hh hg hfi
  have c2 := end_fn (P := P) (G := Gf fr) (S := d.S) (L := d.L) (ar := d.ar) (ca := d.ca) hP hN hs hh hg hfi hen
  have c3 := seal2_fn (P := P) hP hfr hb (by omega) hn hf
  have c2' := end_fn (P := P) (G := Gf fr) (S := d1.S) (L := d1.L) (ar := d1.ar) (ca := d1.ca) hP hN hs hh hg hfi hen
  have c4 := put_all (P := P) (G := Gf fr) (f := f) hP hN hs.2 ok ⟨by omega, hes⟩ hn6 hk hd1 (at' := (a1 : Int)) (by rw [ha1])
  have c5 := wipe_part (P := P) (G := Gf fr) hP hN hs.2 k1 ⟨by omega, hes⟩ o1 hw
  clear hfr hh hfi hen hb hn hn6 hnh hf hes ha1 ok hN hs hk hd1 hw o1 k1
  have hT : T.Ok P := hP ▸ T_ok
  refine FnTr.introD (fn := Tryz.f49) (fg := Tryz.f79) (g := 79) (by rw [hP]; rfl) rfl rfl (by rw [hP]; rfl) rfl rfl rfl rfl rfl rfl rfl rfl rfl hT ?_
  generalize hA : Ar.real = A
  generalize hK : Gives _ _ _ = K
  cbv
  refine CS.le hA (c1) [(0, 0), (1, 1), (2, 2)] rfl rfl rfl ?_ ?_ ?_
  iterate 2 ((try cbv) <;> (repeat' (first | exact trivial | exact rfl | apply And.intro | exact fun _ => rfl | (intro _ hle; first | refine chunk_le hA rfl hle rfl ?_ | refine cat_le hA ?_ | refine upd_le hA ?_ | (try cbv)))) <;> (try (subst hA; (try simp only [zn] at *); (try (simp only [Ar.real, NV.val, zo, zt])); first | done | omega | decide | exact zi | (refine ⟨?_, ?_⟩ <;> first | omega | decide | exact zi))))
  cbv
  refine CS.le hA (c2) [(0, 0), (1, 1), (2, 2)] rfl rfl rfl ?_ ?_ ?_
  iterate 2 ((try cbv) <;> (repeat' (first | exact trivial | exact rfl | apply And.intro | exact fun _ => rfl | (intro _ hle; first | refine chunk_le hA rfl hle rfl ?_ | refine cat_le hA ?_ | refine upd_le hA ?_ | (try cbv)))) <;> (try (subst hA; (try simp only [zn] at *); (try (simp only [Ar.real, NV.val, zo, zt])); first | done | omega | decide | exact zi | (refine ⟨?_, ?_⟩ <;> first | omega | decide | exact zi))))
  cbv
  refine CS.le hA (c3) [] rfl rfl rfl ?_ ?_ ?_
  iterate 2 ((try cbv) <;> (repeat' (first | exact trivial | exact rfl | apply And.intro | exact fun _ => rfl | (intro _ hle; first | refine chunk_le hA rfl hle rfl ?_ | refine cat_le hA ?_ | refine upd_le hA ?_ | (try cbv)))) <;> (try (subst hA; (try simp only [zn] at *); (try (simp only [Ar.real, NV.val, zo, zt])); first | done | omega | decide | exact zi | (refine ⟨?_, ?_⟩ <;> first | omega | decide | exact zi))))
  cbv
  refine CS.le hA (c4) [(0, 0), (1, 1), (2, 2)] rfl rfl rfl ?_ ?_ ?_
  iterate 2 ((try cbv) <;> (repeat' (first | exact trivial | exact rfl | apply And.intro | exact fun _ => rfl | (intro _ hle; first | refine chunk_le hA rfl hle rfl ?_ | refine cat_le hA ?_ | refine upd_le hA ?_ | (try cbv)))) <;> (try (subst hA; (try simp only [zn] at *); (try (simp only [Ar.real, NV.val, zo, zt])); first | done | omega | decide | exact zi | (refine ⟨?_, ?_⟩ <;> first | omega | decide | exact zi))))
  cbv
  refine DS.runK hA hT (by rw [hP]; exact P_mixed) 12 rfl ?_
  cbv
  refine CD.pass hA (c2') [(0, 0), (1, 1), (2, 2)] [] rfl ⟨rfl, rfl, rfl, rfl, ?_, ?_⟩ rfl (.inl rfl) ?_
  iterate 2 ((try cbv) <;> (repeat' (first | exact trivial | exact rfl | apply And.intro | exact fun _ => rfl | (intro _ hle; first | refine chunk_le hA rfl hle rfl ?_ | refine cat_le hA ?_ | refine upd_le hA ?_ | (try cbv)))) <;> (try (subst hA; (try simp only [zn] at *); (try (simp only [Ar.real, NV.val, zo, zt])); first | done | omega | decide | exact zi | (refine ⟨?_, ?_⟩ <;> first | omega | decide | exact zi))))
  cbv
  refine CD.pass hA (c5) [(0, 0), (1, 1), (2, 2)] [] rfl ⟨rfl, rfl, rfl, rfl, ?_, ?_⟩ rfl (.inl rfl) ?_
  iterate 2 ((try cbv) <;> (repeat' (first | exact trivial | exact rfl | apply And.intro | exact fun _ => rfl | (intro _ hle; first | refine chunk_le hA rfl hle rfl ?_ | refine cat_le hA ?_ | refine upd_le hA ?_ | (try cbv)))) <;> (try (subst hA; (try simp only [zn] at *); (try (simp only [Ar.real, NV.val, zo, zt])); first | done | omega | decide | exact zi | (refine ⟨?_, ?_⟩ <;> first | omega | decide | exact zi))))
  cbv
  refine DF.fin (by kernel_rfl) (by kernel_rfl) ?_
  cbv
  refine DS.runK hA hT (by rw [hP]; exact P_mixed) 1 rfl ?_
  cbv
  refine DF.fin (by kernel_rfl) (by kernel_rfl) ?_
  cbv
  refine Fin.le hA 3 [] (.tup [.lit .i64 0, .lit .i64 6]) (DHd N d2) 3 rfl rfl rfl ?_ ?_ (by rw [← hK]; exact ⟨rfl, rfl, rfl⟩)
  iterate 2 ((try cbv) <;> (repeat' (first | exact trivial | exact rfl | apply And.intro | exact fun _ => rfl | (intro _ hle; first | refine chunk_le hA rfl hle rfl ?_ | refine cat_le hA ?_ | refine upd_le hA ?_ | (try cbv)))))
theorem lay_flush (hP : P = Tryz.prog) (hfr : ∀ i, fr i = ((four i).toNat : Int)) (hN : N = 64 * s) (hs : 4 ≤ s ∧ s ≤ 4096) (hh : h = (s - 2) / 2) (hg : gen ≤ 1099511627777) (hfi : fi = 2 + gen % 2 * h) (hen : en = fi + h) (hb : ∀ i, i < nb → 0 ≤ b i ∧ b i ≤ 255) (hn : n = nb + 4) (hn6 : n ≤ 65536) (hnh : needN n ≤ h) (hf : ∀ i, i < n → f i = sealF nb b i) (hes : en ≤ s) (ha1 : a1 = fi + needN n) (ok : DkOk s d) (hk : putK d n = needN n) (hd1 : d1 = putD d fi n f) (hw : wipeD d1 a1 en = (some m, d2)) (o1 : ¬ offD d1) (k1 : 0 ≤ d1.ca ∧ d1.ca ≤ 9223372036854775807) (o2 : offD d2) :
    FnTr P (Gf fr) 49 [.ptr 0 0, .int .i64 (gen : Int), By nb b] (DHd N d) 3 (Gives (.tup [.lit .i64 0, .lit .i64 6]) (DHd N d2) 3) := by
  have c1 := first_fn (P := P) (G := Gf fr) (S := d.S) (L := d.L) (ar := d.ar) (ca := d.ca) hP hN hs hh hg hfi
  have c2 := end_fn (P := P) (G := Gf fr) (S := d.S) (L := d.L) (ar := d.ar) (ca := d.ca) hP hN hs hh hg hfi hen
  have c3 := seal2_fn (P := P) hP hfr hb (by omega) hn hf
  have c2' := end_fn (P := P) (G := Gf fr) (S := d1.S) (L := d1.L) (ar := d1.ar) (ca := d1.ca) hP hN hs hh hg hfi hen
  have c4 := put_all (P := P) (G := Gf fr) (f := f) hP hN hs.2 ok ⟨by omega, hes⟩ hn6 hk hd1 (at' := (a1 : Int)) (by rw [ha1])
  have c5 := wipe_all (P := P) (G := Gf fr) hP hN hs.2 k1 ⟨by omega, hes⟩ o1 hw
  have c6 := flush_off (P := P) (G := Gf fr) (N := N) (S := d2.S) (L := d2.L) hP o2
  clear hfr hh hfi hen hb hn hn6 hnh hf hes ha1 ok hN hs hk hd1 hw o1 k1 o2
  have hT : T.Ok P := hP ▸ T_ok
  refine FnTr.introD (fn := Tryz.f49) (fg := Tryz.f79) (g := 79) (by rw [hP]; rfl) rfl rfl (by rw [hP]; rfl) rfl rfl rfl rfl rfl rfl rfl rfl rfl hT ?_
  generalize hA : Ar.real = A
  generalize hK : Gives _ _ _ = K
  cbv
  refine CS.le hA (c1) [(0, 0), (1, 1), (2, 2)] rfl rfl rfl ?_ ?_ ?_
  iterate 2 ((try cbv) <;> (repeat' (first | exact trivial | exact rfl | apply And.intro | exact fun _ => rfl | (intro _ hle; first | refine chunk_le hA rfl hle rfl ?_ | refine cat_le hA ?_ | refine upd_le hA ?_ | (try cbv)))) <;> (try (subst hA; (try simp only [zn] at *); (try (simp only [Ar.real, NV.val, zo, zt])); first | done | omega | decide | exact zi | (refine ⟨?_, ?_⟩ <;> first | omega | decide | exact zi))))
  cbv
  refine CS.le hA (c2) [(0, 0), (1, 1), (2, 2)] rfl rfl rfl ?_ ?_ ?_
  iterate 2 ((try cbv) <;> (repeat' (first | exact trivial | exact rfl | apply And.intro | exact fun _ => rfl | (intro _ hle; first | refine chunk_le hA rfl hle rfl ?_ | refine cat_le hA ?_ | refine upd_le hA ?_ | (try cbv)))) <;> (try (subst hA; (try simp only [zn] at *); (try (simp only [Ar.real, NV.val, zo, zt])); first | done | omega | decide | exact zi | (refine ⟨?_, ?_⟩ <;> first | omega | decide | exact zi))))
  cbv
  refine CS.le hA (c3) [] rfl rfl rfl ?_ ?_ ?_
  iterate 2 ((try cbv) <;> (repeat' (first | exact trivial | exact rfl | apply And.intro | exact fun _ => rfl | (intro _ hle; first | refine chunk_le hA rfl hle rfl ?_ | refine cat_le hA ?_ | refine upd_le hA ?_ | (try cbv)))) <;> (try (subst hA; (try simp only [zn] at *); (try (simp only [Ar.real, NV.val, zo, zt])); first | done | omega | decide | exact zi | (refine ⟨?_, ?_⟩ <;> first | omega | decide | exact zi))))
  cbv
  refine CS.le hA (c4) [(0, 0), (1, 1), (2, 2)] rfl rfl rfl ?_ ?_ ?_
  iterate 2 ((try cbv) <;> (repeat' (first | exact trivial | exact rfl | apply And.intro | exact fun _ => rfl | (intro _ hle; first | refine chunk_le hA rfl hle rfl ?_ | refine cat_le hA ?_ | refine upd_le hA ?_ | (try cbv)))) <;> (try (subst hA; (try simp only [zn] at *); (try (simp only [Ar.real, NV.val, zo, zt])); first | done | omega | decide | exact zi | (refine ⟨?_, ?_⟩ <;> first | omega | decide | exact zi))))
  cbv
  refine DS.runK hA hT (by rw [hP]; exact P_mixed) 12 rfl ?_
  cbv
  refine CD.pass hA (c2') [(0, 0), (1, 1), (2, 2)] [] rfl ⟨rfl, rfl, rfl, rfl, ?_, ?_⟩ rfl (.inl rfl) ?_
  iterate 2 ((try cbv) <;> (repeat' (first | exact trivial | exact rfl | apply And.intro | exact fun _ => rfl | (intro _ hle; first | refine chunk_le hA rfl hle rfl ?_ | refine cat_le hA ?_ | refine upd_le hA ?_ | (try cbv)))) <;> (try (subst hA; (try simp only [zn] at *); (try (simp only [Ar.real, NV.val, zo, zt])); first | done | omega | decide | exact zi | (refine ⟨?_, ?_⟩ <;> first | omega | decide | exact zi))))
  cbv
  refine CD.pass hA (c5) [(0, 0), (1, 1), (2, 2)] [] rfl ⟨rfl, rfl, rfl, rfl, ?_, ?_⟩ rfl (.inl rfl) ?_
  iterate 2 ((try cbv) <;> (repeat' (first | exact trivial | exact rfl | apply And.intro | exact fun _ => rfl | (intro _ hle; first | refine chunk_le hA rfl hle rfl ?_ | refine cat_le hA ?_ | refine upd_le hA ?_ | (try cbv)))) <;> (try (subst hA; (try simp only [zn] at *); (try (simp only [Ar.real, NV.val, zo, zt])); first | done | omega | decide | exact zi | (refine ⟨?_, ?_⟩ <;> first | omega | decide | exact zi))))
  cbv
  refine DF.fin (by kernel_rfl) (by kernel_rfl) ?_
  cbv
  refine CS.le hA (c6) [(0, 0), (1, 1), (2, 2)] rfl rfl rfl ?_ ?_ ?_
  iterate 2 ((try cbv) <;> (repeat' (first | exact trivial | exact rfl | apply And.intro | exact fun _ => rfl | (intro _ hle; first | refine chunk_le hA rfl hle rfl ?_ | refine cat_le hA ?_ | refine upd_le hA ?_ | (try cbv)))) <;> (try (subst hA; (try simp only [zn] at *); (try (simp only [Ar.real, NV.val, zo, zt])); first | done | omega | decide | exact zi | (refine ⟨?_, ?_⟩ <;> first | omega | decide | exact zi))))
  cbv
  refine DS.runK hA hT (by rw [hP]; exact P_mixed) 1 rfl ?_
  cbv
  refine DF.fin (by kernel_rfl) (by kernel_rfl) ?_
  cbv
  refine Fin.le hA 3 [] (.tup [.lit .i64 0, .lit .i64 6]) (DHd N d2) 3 rfl rfl rfl ?_ ?_ (by rw [← hK]; exact ⟨rfl, rfl, rfl⟩)
  iterate 2 ((try cbv) <;> (repeat' (first | exact trivial | exact rfl | apply And.intro | exact fun _ => rfl | (intro _ hle; first | refine chunk_le hA rfl hle rfl ?_ | refine cat_le hA ?_ | refine upd_le hA ?_ | (try cbv)))))
theorem lay_write (hP : P = Tryz.prog) (hfr : ∀ i, fr i = ((four i).toNat : Int)) (hN : N = 64 * s) (hs : 4 ≤ s ∧ s ≤ 4096) (hh : h = (s - 2) / 2) (hg : gen ≤ 1099511627777) (hfi : fi = 2 + gen % 2 * h) (hen : en = fi + h) (hb : ∀ i, i < nb → 0 ≤ b i ∧ b i ≤ 255) (hn : n = nb + 4) (hn6 : n ≤ 65536) (hnh : needN n ≤ h) (hf : ∀ i, i < n → f i = sealF nb b i) (hes : en ≤ s) (ha1 : a1 = fi + needN n) (ok : DkOk s d) (hk : putK d n = needN n) (hd1 : d1 = putD d fi n f) (hw : wipeD d1 a1 en = (some m, d2)) (o1 : ¬ offD d1) (k1 : 0 ≤ d1.ca ∧ d1.ca ≤ 9223372036854775807) (o2 : ¬ offD d2) (ok2 : DkOk s d2) (hd3 : d3 = flushD d2) (hhd : hd = headB gen) (o3 : offD d3) :
    FnTr P (Gf fr) 49 [.ptr 0 0, .int .i64 (gen : Int), By nb b] (DHd N d) 3 (Gives (.tup [.lit .i64 0, .lit .i64 6]) (DHd N d3) 3) := by
  have c1 := first_fn (P := P) (G := Gf fr) (S := d.S) (L := d.L) (ar := d.ar) (ca := d.ca) hP hN hs hh hg hfi
  have c2 := end_fn (P := P) (G := Gf fr) (S := d.S) (L := d.L) (ar := d.ar) (ca := d.ca) hP hN hs hh hg hfi hen
  have c3 := seal2_fn (P := P) hP hfr hb (by omega) hn hf
  have c2' := end_fn (P := P) (G := Gf fr) (S := d1.S) (L := d1.L) (ar := d1.ar) (ca := d1.ca) hP hN hs hh hg hfi hen
  have c4 := put_all (P := P) (G := Gf fr) (f := f) hP hN hs.2 ok ⟨by omega, hes⟩ hn6 hk hd1 (at' := (a1 : Int)) (by rw [ha1])
  have c5 := wipe_all (P := P) (G := Gf fr) hP hN hs.2 k1 ⟨by omega, hes⟩ o1 hw
  have c6 := flush_all (P := P) (G := Gf fr) hP hN ⟨by omega, hs.2⟩ ok2 o2 hd3
  have c7 := head_fn (P := P) (G := Gf fr) (g := gen) (f := hd) hP hg (fun i _ => by rw [hhd])
  have c8 := write_off (P := P) (G := Gf fr) (N := N) (n := 64) (S := d3.S) (L := d3.L) (f := hd) (i := ((gen % 2 : Nat) : Int)) hP o3
  clear hfr hh hfi hen hb hn hn6 hnh hf hes ha1 ok hN hs hk hd1 hw o1 k1 o2 ok2 hd3 hhd o3
  have hT : T.Ok P := hP ▸ T_ok
  refine FnTr.introD (fn := Tryz.f49) (fg := Tryz.f79) (g := 79) (by rw [hP]; rfl) rfl rfl (by rw [hP]; rfl) rfl rfl rfl rfl rfl rfl rfl rfl rfl hT ?_
  generalize hA : Ar.real = A
  generalize hK : Gives _ _ _ = K
  cbv
  refine CS.le hA (c1) [(0, 0), (1, 1), (2, 2)] rfl rfl rfl ?_ ?_ ?_
  iterate 2 ((try cbv) <;> (repeat' (first | exact trivial | exact rfl | apply And.intro | exact fun _ => rfl | (intro _ hle; first | refine chunk_le hA rfl hle rfl ?_ | refine cat_le hA ?_ | refine upd_le hA ?_ | (try cbv)))) <;> (try (subst hA; (try simp only [zn] at *); (try (simp only [Ar.real, NV.val, zo, zt])); first | done | omega | decide | exact zi | (refine ⟨?_, ?_⟩ <;> first | omega | decide | exact zi))))
  cbv
  refine CS.le hA (c2) [(0, 0), (1, 1), (2, 2)] rfl rfl rfl ?_ ?_ ?_
  iterate 2 ((try cbv) <;> (repeat' (first | exact trivial | exact rfl | apply And.intro | exact fun _ => rfl | (intro _ hle; first | refine chunk_le hA rfl hle rfl ?_ | refine cat_le hA ?_ | refine upd_le hA ?_ | (try cbv)))) <;> (try (subst hA; (try simp only [zn] at *); (try (simp only [Ar.real, NV.val, zo, zt])); first | done | omega | decide | exact zi | (refine ⟨?_, ?_⟩ <;> first | omega | decide | exact zi))))
  cbv
  refine CS.le hA (c3) [] rfl rfl rfl ?_ ?_ ?_
  iterate 2 ((try cbv) <;> (repeat' (first | exact trivial | exact rfl | apply And.intro | exact fun _ => rfl | (intro _ hle; first | refine chunk_le hA rfl hle rfl ?_ | refine cat_le hA ?_ | refine upd_le hA ?_ | (try cbv)))) <;> (try (subst hA; (try simp only [zn] at *); (try (simp only [Ar.real, NV.val, zo, zt])); first | done | omega | decide | exact zi | (refine ⟨?_, ?_⟩ <;> first | omega | decide | exact zi))))
  cbv
  refine CS.le hA (c4) [(0, 0), (1, 1), (2, 2)] rfl rfl rfl ?_ ?_ ?_
  iterate 2 ((try cbv) <;> (repeat' (first | exact trivial | exact rfl | apply And.intro | exact fun _ => rfl | (intro _ hle; first | refine chunk_le hA rfl hle rfl ?_ | refine cat_le hA ?_ | refine upd_le hA ?_ | (try cbv)))) <;> (try (subst hA; (try simp only [zn] at *); (try (simp only [Ar.real, NV.val, zo, zt])); first | done | omega | decide | exact zi | (refine ⟨?_, ?_⟩ <;> first | omega | decide | exact zi))))
  cbv
  refine DS.runK hA hT (by rw [hP]; exact P_mixed) 12 rfl ?_
  cbv
  refine CD.pass hA (c2') [(0, 0), (1, 1), (2, 2)] [] rfl ⟨rfl, rfl, rfl, rfl, ?_, ?_⟩ rfl (.inl rfl) ?_
  iterate 2 ((try cbv) <;> (repeat' (first | exact trivial | exact rfl | apply And.intro | exact fun _ => rfl | (intro _ hle; first | refine chunk_le hA rfl hle rfl ?_ | refine cat_le hA ?_ | refine upd_le hA ?_ | (try cbv)))) <;> (try (subst hA; (try simp only [zn] at *); (try (simp only [Ar.real, NV.val, zo, zt])); first | done | omega | decide | exact zi | (refine ⟨?_, ?_⟩ <;> first | omega | decide | exact zi))))
  cbv
  refine CD.pass hA (c5) [(0, 0), (1, 1), (2, 2)] [] rfl ⟨rfl, rfl, rfl, rfl, ?_, ?_⟩ rfl (.inl rfl) ?_
  iterate 2 ((try cbv) <;> (repeat' (first | exact trivial | exact rfl | apply And.intro | exact fun _ => rfl | (intro _ hle; first | refine chunk_le hA rfl hle rfl ?_ | refine cat_le hA ?_ | refine upd_le hA ?_ | (try cbv)))) <;> (try (subst hA; (try simp only [zn] at *); (try (simp only [Ar.real, NV.val, zo, zt])); first | done | omega | decide | exact zi | (refine ⟨?_, ?_⟩ <;> first | omega | decide | exact zi))))
  cbv
  refine DF.fin (by kernel_rfl) (by kernel_rfl) ?_
  cbv
  refine CS.le hA (c6) [(0, 0), (1, 1), (2, 2)] rfl rfl rfl ?_ ?_ ?_
  iterate 2 ((try cbv) <;> (repeat' (first | exact trivial | exact rfl | apply And.intro | exact fun _ => rfl | (intro _ hle; first | refine chunk_le hA rfl hle rfl ?_ | refine cat_le hA ?_ | refine upd_le hA ?_ | (try cbv)))) <;> (try (subst hA; (try simp only [zn] at *); (try (simp only [Ar.real, NV.val, zo, zt])); first | done | omega | decide | exact zi | (refine ⟨?_, ?_⟩ <;> first | omega | decide | exact zi))))
  cbv
  have kr : A.rem (Int.ofNat gen) 2 = ((gen % 2 : Nat) : Int) := by subst hA; rfl
  refine ⟨(by (subst hA; (try simp only [zn] at *); (try (simp only [Ar.real, NV.val, zo, zt])); first | done | omega | decide | exact zi | (refine ⟨?_, ?_⟩ <;> first | omega | decide | exact zi))), ?_⟩
  refine CS.le hA (c7) [] rfl rfl rfl ?_ ?_ ?_
  iterate 2 ((try cbv) <;> (repeat' (first | exact trivial | exact rfl | apply And.intro | exact fun _ => rfl | (intro _ hle; first | refine chunk_le hA rfl hle rfl ?_ | refine cat_le hA ?_ | refine upd_le hA ?_ | (try cbv)))) <;> (try (subst hA; (try simp only [zn] at *); (try (simp only [Ar.real, NV.val, zo, zt])); first | done | omega | decide | exact zi | (refine ⟨?_, ?_⟩ <;> first | omega | decide | exact zi))))
  cbv
  refine CS.le hA c8 [(0, 0), (1, 1), (2, 2)] rfl rfl rfl ?_ ?_ ?_
  · (try cbv) <;> (repeat' (first | exact trivial | exact rfl | apply And.intro | exact fun _ => rfl | (intro _ hle; first | refine chunk_le hA rfl hle rfl ?_ | refine cat_le hA ?_ | refine upd_le hA ?_ | (try cbv))))
    all_goals first | exact kr | (subst hA; rfl)
  · (try cbv) <;> (repeat' (first | exact trivial | exact rfl | apply And.intro | exact fun _ => rfl | (intro _ hle; first | refine chunk_le hA rfl hle rfl ?_ | refine cat_le hA ?_ | refine upd_le hA ?_ | (try cbv))))
  cbv
  refine DS.runK hA hT (by rw [hP]; exact P_mixed) 1 rfl ?_
  cbv
  refine DF.fin (by kernel_rfl) (by kernel_rfl) ?_
  cbv
  refine Fin.le hA 3 [] (.tup [.lit .i64 0, .lit .i64 6]) (DHd N d3) 3 rfl rfl rfl ?_ ?_ (by rw [← hK]; exact ⟨rfl, rfl, rfl⟩)
  iterate 2 ((try cbv) <;> (repeat' (first | exact trivial | exact rfl | apply And.intro | exact fun _ => rfl | (intro _ hle; first | refine chunk_le hA rfl hle rfl ?_ | refine cat_le hA ?_ | refine upd_le hA ?_ | (try cbv)))))
theorem lay_again (hP : P = Tryz.prog) (hfr : ∀ i, fr i = ((four i).toNat : Int)) (hN : N = 64 * s) (hs : 4 ≤ s ∧ s ≤ 4096) (hh : h = (s - 2) / 2) (hg : gen ≤ 1099511627777) (hfi : fi = 2 + gen % 2 * h) (hen : en = fi + h) (hb : ∀ i, i < nb → 0 ≤ b i ∧ b i ≤ 255) (hn : n = nb + 4) (hn6 : n ≤ 65536) (hnh : needN n ≤ h) (hf : ∀ i, i < n → f i = sealF nb b i) (hes : en ≤ s) (ha1 : a1 = fi + needN n) (ok : DkOk s d) (hk : putK d n = needN n) (hd1 : d1 = putD d fi n f) (hw : wipeD d1 a1 en = (some m, d2)) (o1 : ¬ offD d1) (k1 : 0 ≤ d1.ca ∧ d1.ca ≤ 9223372036854775807) (o2 : ¬ offD d2) (ok2 : DkOk s d2) (hd3 : d3 = flushD d2) (hhd : hd = headB gen) (o3 : ¬ offD d3) (ok3 : DkOk s d3) (hd4 : d4 = writeD d3 (gen % 2) hd) (o4 : offD d4) :
    FnTr P (Gf fr) 49 [.ptr 0 0, .int .i64 (gen : Int), By nb b] (DHd N d) 3 (Gives (.tup [.lit .i64 0, .lit .i64 6]) (DHd N d4) 3) := by
  have c1 := first_fn (P := P) (G := Gf fr) (S := d.S) (L := d.L) (ar := d.ar) (ca := d.ca) hP hN hs hh hg hfi
  have c2 := end_fn (P := P) (G := Gf fr) (S := d.S) (L := d.L) (ar := d.ar) (ca := d.ca) hP hN hs hh hg hfi hen
  have c3 := seal2_fn (P := P) hP hfr hb (by omega) hn hf
  have c2' := end_fn (P := P) (G := Gf fr) (S := d1.S) (L := d1.L) (ar := d1.ar) (ca := d1.ca) hP hN hs hh hg hfi hen
  have c4 := put_all (P := P) (G := Gf fr) (f := f) hP hN hs.2 ok ⟨by omega, hes⟩ hn6 hk hd1 (at' := (a1 : Int)) (by rw [ha1])
  have c5 := wipe_all (P := P) (G := Gf fr) hP hN hs.2 k1 ⟨by omega, hes⟩ o1 hw
  have c6 := flush_all (P := P) (G := Gf fr) hP hN ⟨by omega, hs.2⟩ ok2 o2 hd3
  have c7 := head_fn (P := P) (G := Gf fr) (g := gen) (f := hd) hP hg (fun i _ => by rw [hhd])
  have c8 := write_all (P := P) (G := Gf fr) (f := hd) hP hN hs.2 ok3 o3 (i := gen % 2) (by omega) hd4
  have c9 := flush_off (P := P) (G := Gf fr) (N := N) (S := d4.S) (L := d4.L) hP o4
  clear hfr hh hfi hen hb hn hn6 hnh hf hes ha1 ok hN hs hk hd1 hw o1 k1 o2 ok2 hd3 hhd o3 ok3 hd4 o4
  have hT : T.Ok P := hP ▸ T_ok
  refine FnTr.introD (fn := Tryz.f49) (fg := Tryz.f79) (g := 79) (by rw [hP]; rfl) rfl rfl (by rw [hP]; rfl) rfl rfl rfl rfl rfl rfl rfl rfl rfl hT ?_
  generalize hA : Ar.real = A
  generalize hK : Gives _ _ _ = K
  cbv
  refine CS.le hA (c1) [(0, 0), (1, 1), (2, 2)] rfl rfl rfl ?_ ?_ ?_
  iterate 2 ((try cbv) <;> (repeat' (first | exact trivial | exact rfl | apply And.intro | exact fun _ => rfl | (intro _ hle; first | refine chunk_le hA rfl hle rfl ?_ | refine cat_le hA ?_ | refine upd_le hA ?_ | (try cbv)))) <;> (try (subst hA; (try simp only [zn] at *); (try (simp only [Ar.real, NV.val, zo, zt])); first | done | omega | decide | exact zi | (refine ⟨?_, ?_⟩ <;> first | omega | decide | exact zi))))
  cbv
  refine CS.le hA (c2) [(0, 0), (1, 1), (2, 2)] rfl rfl rfl ?_ ?_ ?_
  iterate 2 ((try cbv) <;> (repeat' (first | exact trivial | exact rfl | apply And.intro | exact fun _ => rfl | (intro _ hle; first | refine chunk_le hA rfl hle rfl ?_ | refine cat_le hA ?_ | refine upd_le hA ?_ | (try cbv)))) <;> (try (subst hA; (try simp only [zn] at *); (try (simp only [Ar.real, NV.val, zo, zt])); first | done | omega | decide | exact zi | (refine ⟨?_, ?_⟩ <;> first | omega | decide | exact zi))))
  cbv
  refine CS.le hA (c3) [] rfl rfl rfl ?_ ?_ ?_
  iterate 2 ((try cbv) <;> (repeat' (first | exact trivial | exact rfl | apply And.intro | exact fun _ => rfl | (intro _ hle; first | refine chunk_le hA rfl hle rfl ?_ | refine cat_le hA ?_ | refine upd_le hA ?_ | (try cbv)))) <;> (try (subst hA; (try simp only [zn] at *); (try (simp only [Ar.real, NV.val, zo, zt])); first | done | omega | decide | exact zi | (refine ⟨?_, ?_⟩ <;> first | omega | decide | exact zi))))
  cbv
  refine CS.le hA (c4) [(0, 0), (1, 1), (2, 2)] rfl rfl rfl ?_ ?_ ?_
  iterate 2 ((try cbv) <;> (repeat' (first | exact trivial | exact rfl | apply And.intro | exact fun _ => rfl | (intro _ hle; first | refine chunk_le hA rfl hle rfl ?_ | refine cat_le hA ?_ | refine upd_le hA ?_ | (try cbv)))) <;> (try (subst hA; (try simp only [zn] at *); (try (simp only [Ar.real, NV.val, zo, zt])); first | done | omega | decide | exact zi | (refine ⟨?_, ?_⟩ <;> first | omega | decide | exact zi))))
  cbv
  refine DS.runK hA hT (by rw [hP]; exact P_mixed) 12 rfl ?_
  cbv
  refine CD.pass hA (c2') [(0, 0), (1, 1), (2, 2)] [] rfl ⟨rfl, rfl, rfl, rfl, ?_, ?_⟩ rfl (.inl rfl) ?_
  iterate 2 ((try cbv) <;> (repeat' (first | exact trivial | exact rfl | apply And.intro | exact fun _ => rfl | (intro _ hle; first | refine chunk_le hA rfl hle rfl ?_ | refine cat_le hA ?_ | refine upd_le hA ?_ | (try cbv)))) <;> (try (subst hA; (try simp only [zn] at *); (try (simp only [Ar.real, NV.val, zo, zt])); first | done | omega | decide | exact zi | (refine ⟨?_, ?_⟩ <;> first | omega | decide | exact zi))))
  cbv
  refine CD.pass hA (c5) [(0, 0), (1, 1), (2, 2)] [] rfl ⟨rfl, rfl, rfl, rfl, ?_, ?_⟩ rfl (.inl rfl) ?_
  iterate 2 ((try cbv) <;> (repeat' (first | exact trivial | exact rfl | apply And.intro | exact fun _ => rfl | (intro _ hle; first | refine chunk_le hA rfl hle rfl ?_ | refine cat_le hA ?_ | refine upd_le hA ?_ | (try cbv)))) <;> (try (subst hA; (try simp only [zn] at *); (try (simp only [Ar.real, NV.val, zo, zt])); first | done | omega | decide | exact zi | (refine ⟨?_, ?_⟩ <;> first | omega | decide | exact zi))))
  cbv
  refine DF.fin (by kernel_rfl) (by kernel_rfl) ?_
  cbv
  refine CS.le hA (c6) [(0, 0), (1, 1), (2, 2)] rfl rfl rfl ?_ ?_ ?_
  iterate 2 ((try cbv) <;> (repeat' (first | exact trivial | exact rfl | apply And.intro | exact fun _ => rfl | (intro _ hle; first | refine chunk_le hA rfl hle rfl ?_ | refine cat_le hA ?_ | refine upd_le hA ?_ | (try cbv)))) <;> (try (subst hA; (try simp only [zn] at *); (try (simp only [Ar.real, NV.val, zo, zt])); first | done | omega | decide | exact zi | (refine ⟨?_, ?_⟩ <;> first | omega | decide | exact zi))))
  cbv
  have kr : A.rem (Int.ofNat gen) 2 = ((gen % 2 : Nat) : Int) := by subst hA; rfl
  refine ⟨(by (subst hA; (try simp only [zn] at *); (try (simp only [Ar.real, NV.val, zo, zt])); first | done | omega | decide | exact zi | (refine ⟨?_, ?_⟩ <;> first | omega | decide | exact zi))), ?_⟩
  refine CS.le hA (c7) [] rfl rfl rfl ?_ ?_ ?_
  iterate 2 ((try cbv) <;> (repeat' (first | exact trivial | exact rfl | apply And.intro | exact fun _ => rfl | (intro _ hle; first | refine chunk_le hA rfl hle rfl ?_ | refine cat_le hA ?_ | refine upd_le hA ?_ | (try cbv)))) <;> (try (subst hA; (try simp only [zn] at *); (try (simp only [Ar.real, NV.val, zo, zt])); first | done | omega | decide | exact zi | (refine ⟨?_, ?_⟩ <;> first | omega | decide | exact zi))))
  cbv
  refine CS.le hA c8 [(0, 0), (1, 1), (2, 2)] rfl rfl rfl ?_ ?_ ?_
  · (try cbv) <;> (repeat' (first | exact trivial | exact rfl | apply And.intro | exact fun _ => rfl | (intro _ hle; first | refine chunk_le hA rfl hle rfl ?_ | refine cat_le hA ?_ | refine upd_le hA ?_ | (try cbv))))
    all_goals first | exact kr | (subst hA; rfl)
  · (try cbv) <;> (repeat' (first | exact trivial | exact rfl | apply And.intro | exact fun _ => rfl | (intro _ hle; first | refine chunk_le hA rfl hle rfl ?_ | refine cat_le hA ?_ | refine upd_le hA ?_ | (try cbv))))
  cbv
  refine DS.runK hA hT (by rw [hP]; exact P_mixed) 12 rfl ?_
  cbv
  refine CD.pass hA (c9) [(0, 0), (1, 1), (2, 2)] [] rfl ⟨rfl, rfl, rfl, rfl, ?_, ?_⟩ rfl (.inl rfl) ?_
  iterate 2 ((try cbv) <;> (repeat' (first | exact trivial | exact rfl | apply And.intro | exact fun _ => rfl | (intro _ hle; first | refine chunk_le hA rfl hle rfl ?_ | refine cat_le hA ?_ | refine upd_le hA ?_ | (try cbv)))) <;> (try (subst hA; (try simp only [zn] at *); (try (simp only [Ar.real, NV.val, zo, zt])); first | done | omega | decide | exact zi | (refine ⟨?_, ?_⟩ <;> first | omega | decide | exact zi))))
  cbv
  refine DF.fin (by kernel_rfl) (by kernel_rfl) ?_
  cbv
  refine Fin.le hA 3 [] (.tup [.lit .i64 0, .lit .i64 6]) (DHd N d4) 3 rfl rfl rfl ?_ ?_ (by rw [← hK]; exact ⟨rfl, rfl, rfl⟩)
  iterate 2 ((try cbv) <;> (repeat' (first | exact trivial | exact rfl | apply And.intro | exact fun _ => rfl | (intro _ hle; first | refine chunk_le hA rfl hle rfl ?_ | refine cat_le hA ?_ | refine upd_le hA ?_ | (try cbv)))))
theorem lay_ok (hP : P = Tryz.prog) (hfr : ∀ i, fr i = ((four i).toNat : Int)) (hN : N = 64 * s) (hs : 4 ≤ s ∧ s ≤ 4096) (hh : h = (s - 2) / 2) (hg : gen ≤ 1099511627777) (hfi : fi = 2 + gen % 2 * h) (hen : en = fi + h) (hb : ∀ i, i < nb → 0 ≤ b i ∧ b i ≤ 255) (hn : n = nb + 4) (hn6 : n ≤ 65536) (hnh : needN n ≤ h) (hf : ∀ i, i < n → f i = sealF nb b i) (hes : en ≤ s) (ha1 : a1 = fi + needN n) (ok : DkOk s d) (hk : putK d n = needN n) (hd1 : d1 = putD d fi n f) (hw : wipeD d1 a1 en = (some m, d2)) (o1 : ¬ offD d1) (k1 : 0 ≤ d1.ca ∧ d1.ca ≤ 9223372036854775807) (o2 : ¬ offD d2) (ok2 : DkOk s d2) (hd3 : d3 = flushD d2) (hhd : hd = headB gen) (o3 : ¬ offD d3) (ok3 : DkOk s d3) (hd4 : d4 = writeD d3 (gen % 2) hd) (o4 : ¬ offD d4) (ok4 : DkOk s d4) (hd5 : d5 = flushD d4) :
    FnTr P (Gf fr) 49 [.ptr 0 0, .int .i64 (gen : Int), By nb b] (DHd N d) 3 (Gives (.tup [.int .i64 (a1 : Int), .lit .i64 0]) (DHd N d5) 3) := by
  have c1 := first_fn (P := P) (G := Gf fr) (S := d.S) (L := d.L) (ar := d.ar) (ca := d.ca) hP hN hs hh hg hfi
  have c2 := end_fn (P := P) (G := Gf fr) (S := d.S) (L := d.L) (ar := d.ar) (ca := d.ca) hP hN hs hh hg hfi hen
  have c3 := seal2_fn (P := P) hP hfr hb (by omega) hn hf
  have c2' := end_fn (P := P) (G := Gf fr) (S := d1.S) (L := d1.L) (ar := d1.ar) (ca := d1.ca) hP hN hs hh hg hfi hen
  have c4 := put_all (P := P) (G := Gf fr) (f := f) hP hN hs.2 ok ⟨by omega, hes⟩ hn6 hk hd1 (at' := (a1 : Int)) (by rw [ha1])
  have c5 := wipe_all (P := P) (G := Gf fr) hP hN hs.2 k1 ⟨by omega, hes⟩ o1 hw
  have c6 := flush_all (P := P) (G := Gf fr) hP hN ⟨by omega, hs.2⟩ ok2 o2 hd3
  have c7 := head_fn (P := P) (G := Gf fr) (g := gen) (f := hd) hP hg (fun i _ => by rw [hhd])
  have c8 := write_all (P := P) (G := Gf fr) (f := hd) hP hN hs.2 ok3 o3 (i := gen % 2) (by omega) hd4
  have c9 := flush_all (P := P) (G := Gf fr) hP hN ⟨by omega, hs.2⟩ ok4 o4 hd5
  clear hfr hh hfi hen hb hn hn6 hnh hf hes ha1 ok hN hs hk hd1 hw o1 k1 o2 ok2 hd3 hhd o3 ok3 hd4 o4 ok4 hd5
  have hT : T.Ok P := hP ▸ T_ok
  refine FnTr.introD (fn := Tryz.f49) (fg := Tryz.f79) (g := 79) (by rw [hP]; rfl) rfl rfl (by rw [hP]; rfl) rfl rfl rfl rfl rfl rfl rfl rfl rfl hT ?_
  generalize hA : Ar.real = A
  generalize hK : Gives _ _ _ = K
  cbv
  refine CS.le hA (c1) [(0, 0), (1, 1), (2, 2)] rfl rfl rfl ?_ ?_ ?_
  iterate 2 ((try cbv) <;> (repeat' (first | exact trivial | exact rfl | apply And.intro | exact fun _ => rfl | (intro _ hle; first | refine chunk_le hA rfl hle rfl ?_ | refine cat_le hA ?_ | refine upd_le hA ?_ | (try cbv)))) <;> (try (subst hA; (try simp only [zn] at *); (try (simp only [Ar.real, NV.val, zo, zt])); first | done | omega | decide | exact zi | (refine ⟨?_, ?_⟩ <;> first | omega | decide | exact zi))))
  cbv
  refine CS.le hA (c2) [(0, 0), (1, 1), (2, 2)] rfl rfl rfl ?_ ?_ ?_
  iterate 2 ((try cbv) <;> (repeat' (first | exact trivial | exact rfl | apply And.intro | exact fun _ => rfl | (intro _ hle; first | refine chunk_le hA rfl hle rfl ?_ | refine cat_le hA ?_ | refine upd_le hA ?_ | (try cbv)))) <;> (try (subst hA; (try simp only [zn] at *); (try (simp only [Ar.real, NV.val, zo, zt])); first | done | omega | decide | exact zi | (refine ⟨?_, ?_⟩ <;> first | omega | decide | exact zi))))
  cbv
  refine CS.le hA (c3) [] rfl rfl rfl ?_ ?_ ?_
  iterate 2 ((try cbv) <;> (repeat' (first | exact trivial | exact rfl | apply And.intro | exact fun _ => rfl | (intro _ hle; first | refine chunk_le hA rfl hle rfl ?_ | refine cat_le hA ?_ | refine upd_le hA ?_ | (try cbv)))) <;> (try (subst hA; (try simp only [zn] at *); (try (simp only [Ar.real, NV.val, zo, zt])); first | done | omega | decide | exact zi | (refine ⟨?_, ?_⟩ <;> first | omega | decide | exact zi))))
  cbv
  refine CS.le hA (c4) [(0, 0), (1, 1), (2, 2)] rfl rfl rfl ?_ ?_ ?_
  iterate 2 ((try cbv) <;> (repeat' (first | exact trivial | exact rfl | apply And.intro | exact fun _ => rfl | (intro _ hle; first | refine chunk_le hA rfl hle rfl ?_ | refine cat_le hA ?_ | refine upd_le hA ?_ | (try cbv)))) <;> (try (subst hA; (try simp only [zn] at *); (try (simp only [Ar.real, NV.val, zo, zt])); first | done | omega | decide | exact zi | (refine ⟨?_, ?_⟩ <;> first | omega | decide | exact zi))))
  cbv
  refine DS.runK hA hT (by rw [hP]; exact P_mixed) 12 rfl ?_
  cbv
  refine CD.pass hA (c2') [(0, 0), (1, 1), (2, 2)] [] rfl ⟨rfl, rfl, rfl, rfl, ?_, ?_⟩ rfl (.inl rfl) ?_
  iterate 2 ((try cbv) <;> (repeat' (first | exact trivial | exact rfl | apply And.intro | exact fun _ => rfl | (intro _ hle; first | refine chunk_le hA rfl hle rfl ?_ | refine cat_le hA ?_ | refine upd_le hA ?_ | (try cbv)))) <;> (try (subst hA; (try simp only [zn] at *); (try (simp only [Ar.real, NV.val, zo, zt])); first | done | omega | decide | exact zi | (refine ⟨?_, ?_⟩ <;> first | omega | decide | exact zi))))
  cbv
  refine CD.pass hA (c5) [(0, 0), (1, 1), (2, 2)] [] rfl ⟨rfl, rfl, rfl, rfl, ?_, ?_⟩ rfl (.inl rfl) ?_
  iterate 2 ((try cbv) <;> (repeat' (first | exact trivial | exact rfl | apply And.intro | exact fun _ => rfl | (intro _ hle; first | refine chunk_le hA rfl hle rfl ?_ | refine cat_le hA ?_ | refine upd_le hA ?_ | (try cbv)))) <;> (try (subst hA; (try simp only [zn] at *); (try (simp only [Ar.real, NV.val, zo, zt])); first | done | omega | decide | exact zi | (refine ⟨?_, ?_⟩ <;> first | omega | decide | exact zi))))
  cbv
  refine DF.fin (by kernel_rfl) (by kernel_rfl) ?_
  cbv
  refine CS.le hA (c6) [(0, 0), (1, 1), (2, 2)] rfl rfl rfl ?_ ?_ ?_
  iterate 2 ((try cbv) <;> (repeat' (first | exact trivial | exact rfl | apply And.intro | exact fun _ => rfl | (intro _ hle; first | refine chunk_le hA rfl hle rfl ?_ | refine cat_le hA ?_ | refine upd_le hA ?_ | (try cbv)))) <;> (try (subst hA; (try simp only [zn] at *); (try (simp only [Ar.real, NV.val, zo, zt])); first | done | omega | decide | exact zi | (refine ⟨?_, ?_⟩ <;> first | omega | decide | exact zi))))
  cbv
  have kr : A.rem (Int.ofNat gen) 2 = ((gen % 2 : Nat) : Int) := by subst hA; rfl
  refine ⟨(by (subst hA; (try simp only [zn] at *); (try (simp only [Ar.real, NV.val, zo, zt])); first | done | omega | decide | exact zi | (refine ⟨?_, ?_⟩ <;> first | omega | decide | exact zi))), ?_⟩
  refine CS.le hA (c7) [] rfl rfl rfl ?_ ?_ ?_
  iterate 2 ((try cbv) <;> (repeat' (first | exact trivial | exact rfl | apply And.intro | exact fun _ => rfl | (intro _ hle; first | refine chunk_le hA rfl hle rfl ?_ | refine cat_le hA ?_ | refine upd_le hA ?_ | (try cbv)))) <;> (try (subst hA; (try simp only [zn] at *); (try (simp only [Ar.real, NV.val, zo, zt])); first | done | omega | decide | exact zi | (refine ⟨?_, ?_⟩ <;> first | omega | decide | exact zi))))
  cbv
  refine CS.le hA c8 [(0, 0), (1, 1), (2, 2)] rfl rfl rfl ?_ ?_ ?_
  · (try cbv) <;> (repeat' (first | exact trivial | exact rfl | apply And.intro | exact fun _ => rfl | (intro _ hle; first | refine chunk_le hA rfl hle rfl ?_ | refine cat_le hA ?_ | refine upd_le hA ?_ | (try cbv))))
    all_goals first | exact kr | (subst hA; rfl)
  · (try cbv) <;> (repeat' (first | exact trivial | exact rfl | apply And.intro | exact fun _ => rfl | (intro _ hle; first | refine chunk_le hA rfl hle rfl ?_ | refine cat_le hA ?_ | refine upd_le hA ?_ | (try cbv))))
  cbv
  refine DS.runK hA hT (by rw [hP]; exact P_mixed) 12 rfl ?_
  cbv
  refine CD.pass hA (c9) [(0, 0), (1, 1), (2, 2)] [] rfl ⟨rfl, rfl, rfl, rfl, ?_, ?_⟩ rfl (.inl rfl) ?_
  iterate 2 ((try cbv) <;> (repeat' (first | exact trivial | exact rfl | apply And.intro | exact fun _ => rfl | (intro _ hle; first | refine chunk_le hA rfl hle rfl ?_ | refine cat_le hA ?_ | refine upd_le hA ?_ | (try cbv)))) <;> (try (subst hA; (try simp only [zn] at *); (try (simp only [Ar.real, NV.val, zo, zt])); first | done | omega | decide | exact zi | (refine ⟨?_, ?_⟩ <;> first | omega | decide | exact zi))))
  cbv
  refine DF.fin (by kernel_rfl) (by kernel_rfl) ?_
  cbv
  refine Fin.le hA 3 [] (.tup [.int .i64 (a1 : Int), .lit .i64 0]) (DHd N d5) 3 rfl rfl rfl ?_ ?_ (by rw [← hK]; exact ⟨rfl, rfl, rfl⟩)
  iterate 2 ((try cbv) <;> (repeat' (first | exact trivial | exact rfl | apply And.intro | exact fun _ => rfl | (intro _ hle; first | refine chunk_le hA rfl hle rfl ?_ | refine cat_le hA ?_ | refine upd_le hA ?_ | (try cbv)))))
end
end Go.Proofs.YtnjjgipblimbfaaGreatDoor.Dsk
namespace Go.Proofs.YtnjjgipblimbfaaGreatDoor.Dsk
open Go.Eng
open Go.DskLaw (q64 secV isB needN pcs wipeP)
open Go.WalLaw
open Go.CrcLaw (four)
set_option maxRecDepth 100000
set_option maxHeartbeats 1000000
structure Reg (s h gen fi en : Nat) : Prop where
  hs : 4 ≤ s ∧ s ≤ 4096
  hh : h = (s - 2) / 2
  hg : gen ≤ 1099511627777
  hfi : fi = 2 + gen % 2 * h
  hen : en = fi + h
theorem Reg.le {s h gen fi en : Nat} (r : Reg s h gen fi en) : 2 ≤ fi ∧ fi ≤ en ∧ en ≤ s := by
  have h1 := r.hs
  have h2 := r.hh
  have h3 := r.hfi
  have h4 := r.hen
  have : gen % 2 = 0 ∨ gen % 2 = 1 := by omega
  rcases this with e | e <;> rw [e] at h3 <;> omega
theorem lay_fn {P : Program} {fr : Nat → Int} {N s h gen fi en nb n : Nat} {b : Nat → Int} {d d' : Dk} {at' e : Int} (hP : P = Tryz.prog) (hfr : ∀ i, fr i = ((four i).toNat : Int)) (hN : N = 64 * s) (hr : Reg s h gen fi en) (hb : ∀ i, i < nb → 0 ≤ b i ∧ b i ≤ 255) (hn : n = nb + 4) (hn6 : n ≤ 65536) (hnh : needN n ≤ h) (ok : DkOk s d) (hl : LayIs d gen fi en n (sealF nb b) d' at' e) :
    (e = 6 ∧ at' = 0 ∧ FnTr P (Gf fr) 49 [.ptr 0 0, .int .i64 (gen : Int), By nb b] (DHd N d) 3 (Gives (.tup [.lit .i64 0, .lit .i64 6]) (DHd N d') 3)) ∨
    (e = 0 ∧ at' = ((fi + needN n : Nat) : Int) ∧ FnTr P (Gf fr) 49 [.ptr 0 0, .int .i64 (gen : Int), By nb b] (DHd N d) 3 (Gives (.tup [.int .i64 ((fi + needN n : Nat) : Int), .lit .i64 0]) (DHd N d') 3)) := by
  obtain ⟨hs, hh, hg, hfi, hen⟩ := hr
  have hes := (Reg.le ⟨hs, hh, hg, hfi, hen⟩).2.2
  have hF : ∀ i, i < n → sealF nb b i = sealF nb b i := fun _ _ => rfl
  have okp : DkOk s (putD d fi n (sealF nb b)) := ok.put (by omega) (fun i _ => sealF_range hb i)
  have hi2 : gen % 2 < s := by omega
  cases hl with
  | put hk => exact .inl ⟨rfl, rfl, lay_put hP hfr hN hs hh hg hfi hen hb hn hn6 hnh hF hes rfl ok hk rfl⟩
  | wipe0 hk o1 => exact .inl ⟨rfl, rfl, lay_wipe0 hP hfr hN hs hh hg hfi hen hb hn hn6 hnh hF hes rfl ok hk rfl o1⟩
  | wipe hk o1 hw => exact .inl ⟨rfl, rfl, lay_wipe hP hfr hN hs hh hg hfi hen hb hn hn6 hnh hF hes rfl ok hk rfl hw o1 okp.hca⟩
  | flush hk o1 hw o2 => exact .inl ⟨rfl, rfl, lay_flush hP hfr hN hs hh hg hfi hen hb hn hn6 hnh hF hes rfl ok hk rfl hw o1 okp.hca o2⟩
  | write hk o1 hw o2 o3 => exact .inl ⟨rfl, rfl, lay_write hP hfr hN hs hh hg hfi hen hb hn hn6 hnh hF hes rfl ok hk rfl hw o1 okp.hca o2 (okp.wipe ⟨by omega, hes⟩ hw) rfl rfl o3⟩
  | again hk o1 hw o2 o3 o4 =>
    have ok2 := okp.wipe ⟨by omega, hes⟩ hw
    exact .inl ⟨rfl, rfl, lay_again hP hfr hN hs hh hg hfi hen hb hn hn6 hnh hF hes rfl ok hk rfl hw o1 okp.hca o2 ok2 rfl rfl o3 (ok2.flush o2) rfl o4⟩
  | ok hk o1 hw o2 o3 o4 =>
    have ok2 := okp.wipe ⟨by omega, hes⟩ hw
    exact .inr ⟨rfl, rfl, lay_ok hP hfr hN hs hh hg hfi hen hb hn hn6 hnh hF hes rfl ok hk rfl hw o1 okp.hca o2 ok2 rfl rfl o3 (ok2.flush o2) rfl o4 ((ok2.flush o2).write o3 hi2 (fun x _ => headB_range gen x)) rfl⟩
end Go.Proofs.YtnjjgipblimbfaaGreatDoor.Dsk
namespace Go.Proofs.YtnjjgipblimbfaaGreatDoor.Dsk
open Go.Eng
open Go.DskLaw (q64 secV isB needN pcs wipeP)
open Go.WalLaw
open Go.CrcLaw (four)
set_option maxRecDepth 100000
set_option maxHeartbeats 1000000
abbrev LgC (gen at' bn : Nat) (b : Nat → Int) (o : NV) (c su : Nat) (dead : Bool) : List SV := [.ptr 0 0, .int .i64 (gen : Int), .int .i64 (at' : Int), By bn b, .sl 4 1 o (.s c), .int .i64 (su : Int), .bs dead]
abbrev LgR (cn : Nat) (nl : Nat → Nat) (nf : Nat → Nat → Int) : Blk := .row 22 1 (.s cn) (fun e => [.ro 1 (.s (nl e.val)) (fun x => [.int .u8 (nf e.val x.val)])])
abbrev LgH (N : Nat) (d : Dk) (gen at' bn : Nat) (b : Nat → Int) (o : NV) (c su : Nat) (dead : Bool) (cn : Nat) (nl : Nat → Nat) (nf : Nat → Nat → Int) : Hl :=
  (3, .cells 68 (LgC gen at' bn b o c su dead)) :: (4, LgR cn nl nf) :: DHd N d
section
variable {P : Program} {fr : Nat → Int} {N s h gen g1 fi en nb n at1 : Nat} {b : Nat → Int} {d d' : Dk}
theorem begin_ok (hP : P = Tryz.prog) (hN : N = 64 * s) (hs : 4 ≤ s ∧ s ≤ 4096) (hh : h = (s - 2) / 2) (hn : nb ≤ 1000000) (hf : ¬ (65536 < nb + 4 ∨ h < needN (nb + 4)))
    (cN : FnTr P (Gf fr) 28 [.ptr 0 0] (DHd N d) 3 (Gives (.tup [.int .i64 (gen : Int), .lit .i64 0]) (DHd N d) 3)) (hg : gen < 1099511627776) (hg1 : g1 = gen + 1)
    (cL : FnTr P (Gf fr) 49 [.ptr 0 0, .int .i64 (g1 : Int), By nb b] (DHd N d) 3 (Gives (.tup [.int .i64 (at1 : Int), .lit .i64 0]) (DHd N d') 3)) (nl : Nat → Nat) (nf : Nat → Nat → Int) :
    FnTr P (Gf fr) 15 [.ptr 0 0, By nb b] (DHd N d) 3 (Gives (.tup [.ptr 3 0, .lit .i64 0]) (LgH N d' g1 at1 nb b (.l 0) 0 0 false 0 nl nf) 9000) := by
  have c1 := wasked_ok (P := P) (G := Gf fr) (S := d.S) (L := d.L) (ar := d.ar) (ca := d.ca) hP hN hs
  have c2 := full_fn (P := P) (G := Gf fr) (S := d.S) (f := b) (L := d.L) (ar := d.ar) (ca := d.ca) (r := false) hP hN hs hh hn rfl ⟨fun h => (by cases h), fun h => absurd h hf⟩
  have c3 := _root_.Go.Proofs.YtnjjgipblimbfaaGreatDoor.clone_fn (P := P) (G := Gf fr) (n := nb) (f := b) hP (by omega)
  clear hf
  have hT : T.Ok P := hP ▸ T_ok
  refine FnTr.intro (fn := Tryz.f15) (c := bodyOf Tryz.f15) (by rw [hP]; rfl) rfl rfl hT ?_
  generalize hA : Ar.real = A
  generalize hK : Gives _ _ _ = K
  cbv
  have k1 : A.gt (A.add (gen : Int) 1) 1099511627776 = false := by clear c1 c2 c3 cN cL; subst hA; simp [Ar.real]; omega
  refine CS.le hA (c1) [(0, 0), (1, 1), (2, 2)] rfl rfl rfl ?_ ?_ ?_
  iterate 2 ((try cbv) <;> (repeat' (first | exact trivial | exact rfl | apply And.intro | exact fun _ => rfl | (intro _ hle; first | refine chunk_le hA rfl hle rfl ?_ | refine cat_le hA ?_ | refine upd_le hA ?_ | (try cbv)))) <;> (try (subst hA; (try simp only [zn] at *); (try (simp only [Ar.real, NV.val, zo, zt])); first | done | omega | decide | exact zi | (refine ⟨?_, ?_⟩ <;> first | omega | decide | exact zi))))
  cbv
  refine CS.leR hA (c2) (.bl false) [(0, 0), (1, 1), (2, 2)] rfl rfl rfl ?_ ?_ ?_ ?_
  iterate 3 ((try cbv) <;> (repeat' (first | exact trivial | exact rfl | apply And.intro | exact fun _ => rfl | (intro _ hle; first | refine chunk_le hA rfl hle rfl ?_ | refine cat_le hA ?_ | refine upd_le hA ?_ | (try cbv)))) <;> (try (subst hA; (try simp only [zn] at *); (try (simp only [Ar.real, NV.val, zo, zt])); first | done | omega | decide | exact zi | (refine ⟨?_, ?_⟩ <;> first | omega | decide | exact zi))))
  cbv
  refine CS.le hA (cN) [(0, 0), (1, 1), (2, 2)] rfl rfl rfl ?_ ?_ ?_
  iterate 2 ((try cbv) <;> (repeat' (first | exact trivial | exact rfl | apply And.intro | exact fun _ => rfl | (intro _ hle; first | refine chunk_le hA rfl hle rfl ?_ | refine cat_le hA ?_ | refine upd_le hA ?_ | (try cbv)))) <;> (try (subst hA; (try simp only [zn] at *); (try (simp only [Ar.real, NV.val, zo, zt])); first | done | omega | decide | exact zi | (refine ⟨?_, ?_⟩ <;> first | omega | decide | exact zi))))
  cbv
  refine ⟨(by (subst hA; (try simp only [zn] at *); (try (simp only [Ar.real, NV.val, zo, zt])); first | done | omega | decide | exact zi | (refine ⟨?_, ?_⟩ <;> first | omega | decide | exact zi))), ?_⟩
  first | refine testR k1 rfl ?_ | refine testL k1 rfl ?_
  cbv
  refine ⟨(by (subst hA; (try simp only [zn] at *); (try (simp only [Ar.real, NV.val, zo, zt])); first | done | omega | decide | exact zi | (refine ⟨?_, ?_⟩ <;> first | omega | decide | exact zi))), ?_⟩
  refine CS.le hA (cL) [(0, 0), (1, 1), (2, 2)] rfl rfl rfl ?_ ?_ ?_
  iterate 2 ((try cbv) <;> (repeat' (first | exact trivial | exact rfl | apply And.intro | exact fun _ => rfl | (intro _ hle; first | refine chunk_le hA rfl hle rfl ?_ | refine cat_le hA ?_ | refine upd_le hA ?_ | (try cbv)))) <;> (try (subst hA; (try simp only [zn] at *); (try (simp only [Ar.real, NV.val, zo, zt])); first | done | omega | decide | exact zi | (refine ⟨?_, ?_⟩ <;> first | omega | decide | exact zi))))
  cbv
  refine ⟨(by (subst hA; (try simp only [zn] at *); (try (simp only [Ar.real, NV.val, zo, zt])); first | done | omega | decide | exact zi | (refine ⟨?_, ?_⟩ <;> first | omega | decide | exact zi))), ?_⟩
  refine CS.le hA (c3) [] rfl rfl rfl ?_ ?_ ?_
  iterate 2 ((try cbv) <;> (repeat' (first | exact trivial | exact rfl | apply And.intro | exact fun _ => rfl | (intro _ hle; first | refine chunk_le hA rfl hle rfl ?_ | refine cat_le hA ?_ | refine upd_le hA ?_ | (try cbv)))) <;> (try (subst hA; (try simp only [zn] at *); (try (simp only [Ar.real, NV.val, zo, zt])); first | done | omega | decide | exact zi | (refine ⟨?_, ?_⟩ <;> first | omega | decide | exact zi))))
  cbv
  refine Fin.leG hA 3 [(61, 3)] [(4, LgR 0 nl nf)] (.tup [.ptr 3 0, .lit .i64 0]) (LgH N d' g1 at1 nb b (.l 0) 0 0 false 0 nl nf) 9000 rfl rfl rfl ?_ ?_ ?_ (by rw [← hK]; exact ⟨rfl, rfl, rfl⟩)
  iterate 2 ((try cbv) <;> (repeat' (first | exact trivial | exact rfl | apply And.intro | exact fun _ => rfl | (intro _ hle; first | refine chunk_le hA rfl hle rfl ?_ | refine cat_le hA ?_ | refine upd_le hA ?_ | (try cbv)))))
  · (try cbv) <;> (repeat' (first | exact trivial | exact rfl | apply And.intro | exact fun _ => rfl | (intro _ hle; first | refine chunk_le hA rfl hle rfl ?_ | refine cat_le hA ?_ | refine upd_le hA ?_ | (try cbv))))
    clear k1
    (subst hA; (try simp only [zn] at *); (try (simp only [Ar.real, NV.val, zo, zt])); first | done | omega | decide | exact zi | (refine ⟨?_, ?_⟩ <;> first | omega | decide | exact zi))
end
end Go.Proofs.YtnjjgipblimbfaaGreatDoor.Dsk
namespace Go.Proofs.YtnjjgipblimbfaaGreatDoor.Dsk
open Go.Eng
open Go.DskLaw (q64 secV isB needN pcs wipeP)
open Go.WalLaw
set_option maxRecDepth 100000
set_option maxHeartbeats 1000000
section
variable {P : Program} {G : Gl} {N s h gen at1 nb c su cn : Nat} {o : NV} {b : Nat → Int} {d : Dk} {dead : Bool} {nl : Nat → Nat} {nf : Nat → Nat → Int}
theorem alive_ok (hP : P = Tryz.prog) (hd : dead = false) :
    FnTr P G 51 [.ptr 3 0] (LgH N d gen at1 nb b o c su dead cn nl nf) 5 (Gives (.lit .i64 0) (LgH N d gen at1 nb b o c su dead cn nl nf) 5) := by
  have hT : T.Ok P := hP ▸ T_ok
  refine FnTr.intro (fn := Tryz.f51) (c := bodyOf Tryz.f51) (by rw [hP]; rfl) rfl rfl hT ?_
  generalize hA : Ar.real = A
  generalize hK : Gives _ _ _ = K
  cbv
  first | refine testR hd rfl ?_ | refine testL hd rfl ?_
  cbv
  refine Fin.le hA 5 [] (.lit .i64 0) (LgH N d gen at1 nb b o c su dead cn nl nf) 5 rfl rfl rfl ?_ ?_ (by rw [← hK]; exact ⟨rfl, rfl, rfl⟩)
  iterate 2 ((try cbv) <;> (repeat' (first | exact trivial | exact rfl | apply And.intro | exact fun _ => rfl | (intro _ hle; first | refine chunk_le hA rfl hle rfl ?_ | refine cat_le hA ?_ | refine upd_le hA ?_ | (try cbv)))))
theorem told_fn (hP : P = Tryz.prog) (hd : dead = false) :
    FnTr P G 54 [.ptr 3 0, .int .i64 6] (LgH N d gen at1 nb b o c su dead cn nl nf) 5 (Gives (.lit .i64 6) (LgH N d gen at1 nb b o c su true cn nl nf) 5) := by
  have hT : T.Ok P := hP ▸ T_ok
  refine FnTr.intro (fn := Tryz.f54) (c := bodyOf Tryz.f54) (by rw [hP]; rfl) rfl rfl hT ?_
  generalize hA : Ar.real = A
  generalize hK : Gives _ _ _ = K
  cbv
  first | refine testR hd rfl ?_ | refine testL hd rfl ?_
  cbv
  refine Fin.le hA 5 [] (.lit .i64 6) (LgH N d gen at1 nb b o c su true cn nl nf) 5 rfl rfl rfl ?_ ?_ (by rw [← hK]; exact ⟨rfl, rfl, rfl⟩)
  · (try cbv) <;> (repeat' (first | exact trivial | exact rfl | apply And.intro | exact fun _ => rfl | (intro _ hle; first | refine chunk_le hA rfl hle rfl ?_ | refine cat_le hA ?_ | refine upd_le hA ?_ | (try cbv))))
  · (try cbv) <;> (repeat' (first | exact trivial | exact rfl | apply And.intro | exact fun _ => rfl | (intro _ hle; first | refine chunk_le hA rfl hle rfl ?_ | refine cat_le hA ?_ | refine upd_le hA ?_ | (try cbv))))
    all_goals (subst hA; rfl)
theorem generation_fn (hP : P = Tryz.prog) :
    FnTr P G 22 [.ptr 3 0] (LgH N d gen at1 nb b o c su dead cn nl nf) 5 (Gives (.int .i64 (gen : Int)) (LgH N d gen at1 nb b o c su dead cn nl nf) 5) := by
  have hT : T.Ok P := hP ▸ T_ok
  refine FnTr.intro (fn := Tryz.f22) (c := bodyOf Tryz.f22) (by rw [hP]; rfl) rfl rfl hT ?_
  generalize hA : Ar.real = A
  generalize hK : Gives _ _ _ = K
  cbv
  refine Fin.le hA 5 [] (.int .i64 (gen : Int)) (LgH N d gen at1 nb b o c su dead cn nl nf) 5 rfl rfl rfl ?_ ?_ (by rw [← hK]; exact ⟨rfl, rfl, rfl⟩)
  iterate 2 ((try cbv) <;> (repeat' (first | exact trivial | exact rfl | apply And.intro | exact fun _ => rfl | (intro _ hle; first | refine chunk_le hA rfl hle rfl ?_ | refine cat_le hA ?_ | refine upd_le hA ?_ | (try cbv)))))
theorem sureof_fn (hP : P = Tryz.prog) :
    FnTr P G 24 [.ptr 3 0] (LgH N d gen at1 nb b o c su dead cn nl nf) 5 (Gives (.int .i64 (su : Int)) (LgH N d gen at1 nb b o c su dead cn nl nf) 5) := by
  have hT : T.Ok P := hP ▸ T_ok
  refine FnTr.intro (fn := Tryz.f24) (c := bodyOf Tryz.f24) (by rw [hP]; rfl) rfl rfl hT ?_
  generalize hA : Ar.real = A
  generalize hK : Gives _ _ _ = K
  cbv
  refine Fin.le hA 5 [] (.int .i64 (su : Int)) (LgH N d gen at1 nb b o c su dead cn nl nf) 5 rfl rfl rfl ?_ ?_ (by rw [← hK]; exact ⟨rfl, rfl, rfl⟩)
  iterate 2 ((try cbv) <;> (repeat' (first | exact trivial | exact rfl | apply And.intro | exact fun _ => rfl | (intro _ hle; first | refine chunk_le hA rfl hle rfl ?_ | refine cat_le hA ?_ | refine upd_le hA ?_ | (try cbv)))))
theorem base_fn (hP : P = Tryz.prog) (hn : nb ≤ 1000000) :
    FnTr P G 21 [.ptr 3 0] (LgH N d gen at1 nb b o c su dead cn nl nf) 5 (Gives (By nb b) (LgH N d gen at1 nb b o c su dead cn nl nf) 100) := by
  have c3 := _root_.Go.Proofs.YtnjjgipblimbfaaGreatDoor.clone_fn (P := P) (G := G) (n := nb) (f := b) hP (by omega)
  have hT : T.Ok P := hP ▸ T_ok
  refine FnTr.intro (fn := Tryz.f21) (c := bodyOf Tryz.f21) (by rw [hP]; rfl) rfl rfl hT ?_
  generalize hA : Ar.real = A
  generalize hK : Gives _ _ _ = K
  cbv
  refine CS.le hA (c3) [] rfl rfl rfl ?_ ?_ ?_
  iterate 2 ((try cbv) <;> (repeat' (first | exact trivial | exact rfl | apply And.intro | exact fun _ => rfl | (intro _ hle; first | refine chunk_le hA rfl hle rfl ?_ | refine cat_le hA ?_ | refine upd_le hA ?_ | (try cbv)))) <;> (try (subst hA; (try simp only [zn] at *); (try (simp only [Ar.real, NV.val, zo, zt])); first | done | omega | decide | exact zi | (refine ⟨?_, ?_⟩ <;> first | omega | decide | exact zi))))
  cbv
  refine Fin.le hA 5 [] (By nb b) (LgH N d gen at1 nb b o c su dead cn nl nf) 100 rfl rfl rfl ?_ ?_ (by rw [← hK]; exact ⟨rfl, rfl, rfl⟩)
  iterate 2 ((try cbv) <;> (repeat' (first | exact trivial | exact rfl | apply And.intro | exact fun _ => rfl | (intro _ hle; first | refine chunk_le hA rfl hle rfl ?_ | refine cat_le hA ?_ | refine upd_le hA ?_ | (try cbv)))))
theorem room_fn (hP : P = Tryz.prog) {fi en : Nat} (hN : N = 64 * s) (hr : Reg s h gen fi en) (ha : at1 ≤ en) :
    FnTr P G 23 [.ptr 3 0] (LgH N d gen at1 nb b o c su dead cn nl nf) 5 (Gives (.int .i64 ((en - at1 : Nat) : Int)) (LgH N d gen at1 nb b o c su dead cn nl nf) 100) := by
  have c1 := end_fn (P := P) (G := G) (S := d.S) (L := d.L) (ar := d.ar) (ca := d.ca) hP hN hr.hs hr.hh hr.hg hr.hfi hr.hen
  have hle := hr.le
  have hs := hr.hs
  obtain ⟨x, hx⟩ : ∃ x, x = en - at1 := ⟨_, rfl⟩
  rw [← hx]
  clear hr hN
  have hT : T.Ok P := hP ▸ T_ok
  refine FnTr.intro (fn := Tryz.f23) (c := bodyOf Tryz.f23) (by rw [hP]; rfl) rfl rfl hT ?_
  generalize hA : Ar.real = A
  generalize hK : Gives _ _ _ = K
  cbv
  refine DS.runK hA hT (by rw [hP]; exact P_mixed) 12 rfl ?_
  cbv
  refine CD.pass hA (c1) [(0, 0), (1, 1), (2, 2)] [] rfl ⟨rfl, rfl, rfl, rfl, ?_, ?_⟩ rfl (.inl rfl) ?_
  iterate 2 ((try cbv) <;> (repeat' (first | exact trivial | exact rfl | apply And.intro | exact fun _ => rfl | (intro _ hle; first | refine chunk_le hA rfl hle rfl ?_ | refine cat_le hA ?_ | refine upd_le hA ?_ | (try cbv)))) <;> (try (subst hA; (try simp only [zn] at *); (try (simp only [Ar.real, NV.val, zo, zt])); first | done | omega | decide | exact zi | (refine ⟨?_, ?_⟩ <;> first | omega | decide | exact zi))))
  cbv
  refine ⟨(by (subst hA; (try simp only [zn] at *); (try (simp only [Ar.real, NV.val, zo, zt])); first | done | omega | decide | exact zi | (refine ⟨?_, ?_⟩ <;> first | omega | decide | exact zi))), ?_⟩
  refine DF.fin (by kernel_rfl) (by kernel_rfl) ?_
  cbv
  refine Fin.le hA 5 [] (.int .i64 (x : Int)) (LgH N d gen at1 nb b o c su dead cn nl nf) 100 rfl rfl rfl ?_ ?_ (by rw [← hK]; exact ⟨rfl, rfl, rfl⟩)
  · (try cbv) <;> (repeat' (first | exact trivial | exact rfl | apply And.intro | exact fun _ => rfl | (intro _ hle; first | refine chunk_le hA rfl hle rfl ?_ | refine cat_le hA ?_ | refine upd_le hA ?_ | (try cbv))))
    (subst hA; (try simp only [zn] at *); (try (simp only [Ar.real, NV.val, zo, zt])); first | done | omega | decide | exact zi | (refine ⟨?_, ?_⟩ <;> first | omega | decide | exact zi))
  · (try cbv) <;> (repeat' (first | exact trivial | exact rfl | apply And.intro | exact fun _ => rfl | (intro _ hle; first | refine chunk_le hA rfl hle rfl ?_ | refine cat_le hA ?_ | refine upd_le hA ?_ | (try cbv))))
theorem fits_fn (hP : P = Tryz.prog) {fi en : Nat} (hN : N = 64 * s) (hr : Reg s h gen fi en) (ha : at1 ≤ en) {n : Int} {nn m : Nat} {r : Bool} (hn : nn = n.toNat) (hf : nn ≤ 65532) (hm : m = needN (nn + 4)) (hrr : r = true ↔ m ≤ en - at1) :
    FnTr P G 25 [.ptr 3 0, .int .i64 n] (LgH N d gen at1 nb b o c su dead cn nl nf) 5 (Gives (.bs r) (LgH N d gen at1 nb b o c su dead cn nl nf) 200) := by
  have c1 := room_fn (P := P) (G := G) (nb := nb) (b := b) (o := o) (c := c) (su := su) (cn := cn) (d := d) (dead := dead) (nl := nl) (nf := nf) hP hN hr ha
  have c2 := need_fn (P := P) (G := G) (n := (nn : Int) + 4) (m := m) hP (by omega) (by rw [hm]; congr 1)
  obtain ⟨x, hx⟩ : ∃ x, x = en - at1 := ⟨_, rfl⟩
  rw [← hx] at c1 hrr
  clear hr hN hx hm
  have hT : T.Ok P := hP ▸ T_ok
  refine FnTr.intro (fn := Tryz.f25) (c := bodyOf Tryz.f25) (by rw [hP]; rfl) rfl rfl hT ?_
  generalize hA : Ar.real = A
  generalize hK : Gives _ _ _ = K
  cbv
  have k1 : A.le (A.max n 0) 65532 = true := by clear c1 c2 hrr; subst hA; simp only [Ar.real]; split <;> simp <;> omega
  have k2 : A.add (A.max n 0) 4 = (nn : Int) + 4 := by clear c1 c2 hrr; subst hA; simp only [Ar.real]; split <;> omega
  first | refine testR k1 rfl ?_ | refine testL k1 rfl ?_
  cbv
  refine ⟨by (show A.inR .i64 (A.add (A.max n 0) 4)); rw [k2]; clear c1 c2 hrr; (subst hA; (try simp only [zn] at *); (try (simp only [Ar.real, NV.val, zo, zt])); first | done | omega | decide | exact zi | (refine ⟨?_, ?_⟩ <;> first | omega | decide | exact zi)), ?_⟩
  refine CS.le hA c2 [] rfl rfl rfl ?_ ?_ ?_
  · (try cbv) <;> (repeat' (first | exact trivial | exact rfl | apply And.intro | exact fun _ => rfl | (intro _ hle; first | refine chunk_le hA rfl hle rfl ?_ | refine cat_le hA ?_ | refine upd_le hA ?_ | (try cbv))))
    all_goals exact k2
  · (try cbv) <;> (repeat' (first | exact trivial | exact rfl | apply And.intro | exact fun _ => rfl | (intro _ hle; first | refine chunk_le hA rfl hle rfl ?_ | refine cat_le hA ?_ | refine upd_le hA ?_ | (try cbv))))
  cbv
  refine CS.le hA (c1) [(0, 0), (1, 1), (2, 2), (3, 3), (4, 4)] rfl rfl rfl ?_ ?_ ?_
  iterate 2 ((try cbv) <;> (repeat' (first | exact trivial | exact rfl | apply And.intro | exact fun _ => rfl | (intro _ hle; first | refine chunk_le hA rfl hle rfl ?_ | refine cat_le hA ?_ | refine upd_le hA ?_ | (try cbv)))) <;> (try (subst hA; (try simp only [zn] at *); (try (simp only [Ar.real, NV.val, zo, zt])); first | done | omega | decide | exact zi | (refine ⟨?_, ?_⟩ <;> first | omega | decide | exact zi))))
  cbv
  refine Fin.le hA 5 [] (.bs r) (LgH N d gen at1 nb b o c su dead cn nl nf) 200 rfl rfl rfl ?_ ?_ (by rw [← hK]; exact ⟨rfl, rfl, rfl⟩)
  · (try cbv) <;> (repeat' (first | exact trivial | exact rfl | apply And.intro | exact fun _ => rfl | (intro _ hle; first | refine chunk_le hA rfl hle rfl ?_ | refine cat_le hA ?_ | refine upd_le hA ?_ | (try cbv))))
    subst hA
    rw [Bool.eq_iff_iff, hrr]
    simp [Ar.real]
  · (try cbv) <;> (repeat' (first | exact trivial | exact rfl | apply And.intro | exact fun _ => rfl | (intro _ hle; first | refine chunk_le hA rfl hle rfl ?_ | refine cat_le hA ?_ | refine upd_le hA ?_ | (try cbv))))
theorem sync_ok {d1 : Dk} (hP : P = Tryz.prog) (hd : dead = false) (hN : N = 64 * s) (hs : 1 ≤ s ∧ s ≤ 4096) (ok : DkOk s d) (ho : ¬ offD d) (h1 : d1 = flushD d) :
    FnTr P G 17 [.ptr 3 0] (LgH N d gen at1 nb b o c su dead cn nl nf) 5 (Gives (.lit .i64 0) (LgH N d1 gen at1 nb b o c c dead cn nl nf) 100) := by
  have c1 := alive_ok (P := P) (G := G) (N := N) (gen := gen) (at1 := at1) (nb := nb) (b := b) (o := o) (c := c) (su := su) (cn := cn) (d := d) (nl := nl) (nf := nf) hP hd
  have c2 := flush_all (P := P) (G := G) hP hN hs ok ho h1
  clear ho h1 ok
  have hT : T.Ok P := hP ▸ T_ok
  refine FnTr.intro (fn := Tryz.f17) (c := bodyOf Tryz.f17) (by rw [hP]; rfl) rfl rfl hT ?_
  generalize hA : Ar.real = A
  generalize hK : Gives _ _ _ = K
  cbv
  refine CS.le hA (c1) [(0, 0), (1, 1), (2, 2), (3, 3), (4, 4)] rfl rfl rfl ?_ ?_ ?_
  iterate 2 ((try cbv) <;> (repeat' (first | exact trivial | exact rfl | apply And.intro | exact fun _ => rfl | (intro _ hle; first | refine chunk_le hA rfl hle rfl ?_ | refine cat_le hA ?_ | refine upd_le hA ?_ | (try cbv)))) <;> (try (subst hA; (try simp only [zn] at *); (try (simp only [Ar.real, NV.val, zo, zt])); first | done | omega | decide | exact zi | (refine ⟨?_, ?_⟩ <;> first | omega | decide | exact zi))))
  cbv
  refine CS.le hA (c2) [(0, 0), (1, 1), (2, 2)] rfl rfl rfl ?_ ?_ ?_
  iterate 2 ((try cbv) <;> (repeat' (first | exact trivial | exact rfl | apply And.intro | exact fun _ => rfl | (intro _ hle; first | refine chunk_le hA rfl hle rfl ?_ | refine cat_le hA ?_ | refine upd_le hA ?_ | (try cbv)))) <;> (try (subst hA; (try simp only [zn] at *); (try (simp only [Ar.real, NV.val, zo, zt])); first | done | omega | decide | exact zi | (refine ⟨?_, ?_⟩ <;> first | omega | decide | exact zi))))
  cbv
  refine Fin.le hA 5 [] (.lit .i64 0) (LgH N d1 gen at1 nb b o c c dead cn nl nf) 100 rfl rfl rfl ?_ ?_ (by rw [← hK]; exact ⟨rfl, rfl, rfl⟩)
  · (try cbv) <;> (repeat' (first | exact trivial | exact rfl | apply And.intro | exact fun _ => rfl | (intro _ hle; first | refine chunk_le hA rfl hle rfl ?_ | refine cat_le hA ?_ | refine upd_le hA ?_ | (try cbv))))
  · (try cbv) <;> (repeat' (first | exact trivial | exact rfl | apply And.intro | exact fun _ => rfl | (intro _ hle; first | refine chunk_le hA rfl hle rfl ?_ | refine cat_le hA ?_ | refine upd_le hA ?_ | (try cbv))))
    subst hA; rfl
end
end Go.Proofs.YtnjjgipblimbfaaGreatDoor.Dsk
namespace Go.Proofs.YtnjjgipblimbfaaGreatDoor.Dsk
open Go.Eng
open Go.DskLaw (q64 secV isB needN pcs wipeP)
open Go.WalLaw
set_option maxRecDepth 100000
set_option maxHeartbeats 1000000
abbrev NtS (c : Nat) (nl : Nat → Nat) (nf : Nat → Nat → Int) : SV := .ro 1 (.s c) (fun e => [.ro 1 (.s (nl e.val)) (fun x => [.int .u8 (nf e.val x.val)])])
section
variable {P : Program} {G : Gl} {N s h gen at1 nb c su cn : Nat} {o : NV} {b : Nat → Int} {d : Dk} {dead : Bool} {nl ml : Nat → Nat} {nf mf : Nat → Nat → Int}
theorem notes_own (hP : P = Tryz.prog) (ho : o = .l 0 ∨ ∃ k, o = .s k) (hc : cn = o.val + c) (hcl : c ≤ 1000000) (hl : ∀ i, i < c → ml i = nl (o.val + i) ∧ ml i ≤ 1000000) (hf : ∀ i, i < c → ∀ x, mf i x = nf (o.val + i) x) :
    FnTr P G 19 [.ptr 3 0] (LgH N d gen at1 nb b o c su dead cn nl nf) 5 (Gives (.sl 5 1 (.l 0) (.s c)) ((5, LgR c ml mf) :: LgH N d gen at1 nb b o c su dead cn nl nf) 6) := by
  have c1 : ∀ i, i < c → FnTr P G 50 [By (ml i) (mf i)] [] 0 (Gives (By (ml i) (mf i)) [] 1) := fun i hi => _root_.Go.Proofs.YtnjjgipblimbfaaGreatDoor.clone_fn (P := P) (G := G) (n := ml i) (f := mf i) hP (by have := (hl i hi).2; omega)
  obtain ⟨ov, hov⟩ : ∃ ov, ov = o.val := ⟨_, rfl⟩
  rw [← hov] at hc hl hf
  rcases ho with rfl | ⟨k, rfl⟩
  · have hov : ov = 0 := hov
    have hT : T.Ok P := hP ▸ T_ok
    refine FnTr.intro (fn := Tryz.f19) (c := bodyOf Tryz.f19) (by rw [hP]; rfl) rfl rfl hT ?_
    generalize hA : Ar.real = A
    generalize hK : Gives _ _ _ = K
    cbv
    refine LS.ghost 22 1 (.l 0) (fun _ => [.nils]) rfl ?_
    refine LS.le hT hA 5 (fun (i : Nat) => [(13, .int .i64 (i : Int)), (3, .sl 5 1 (.l 0) (.s i))]) (fun i => (5, LgR i ml mf) :: LgH N d gen at1 nb b (.l 0) c su dead cn nl nf) (fun i => i ≤ c) (fun i => c - i) 0 [(15, 5)] rfl rfl ?_ ?_ ?_
    · (try cbv) <;> (repeat' (first | exact trivial | exact rfl | apply And.intro | exact fun _ => rfl | (intro _ hle; first | refine chunk_le hA rfl hle rfl ?_ | refine cat_le hA ?_ | refine upd_le hA ?_ | refine int_le ?_ | skip)))
      all_goals (exfalso; subst hA; exact absurd (ltNV_real.1 hle) (Nat.not_lt_zero _))
    · exact Nat.zero_le _
    · intro R hR i hi
      cbv
      refine ⟨fun q1 => ?_, fun q1 => ?_⟩
      · have hic : i < c := by clear hR c1 hl hf; subst hA; simp [Ar.real] at q1; omega
        have c1 := c1 i hic
        have hl := (hl i hic).1
        have hf := hf i hic
        have kv : (A.nat (Int.ofNat i)) = ov + i := by clear hR c1 hf; rw [hov]; subst hA; show i = 0 + i; omega
        have kl : A.leN (A.addN (A.nat (Int.ofNat i)) 1) cn := by rw [kv]; clear hR c1 hf hl; subst hA; (show ov + i + 1 ≤ cn); omega
        have hpush : ∀ e, ltNV A e (.s (A.addN i 1)) → leL (leSV A 4) (catG A 1 (.s i) (fun e => [.ro 1 (.s (ml e.val)) (fun x => [.int .u8 (mf e.val x.val)])]) (fun x => chunkS A 1 [.ro 1 (.s (ml i)) (fun x => [.int .u8 (mf i x.val)])] (addNV A (.l 0) x)) e) [.ro 1 (.s (ml e.val)) (fun x => [.int .u8 (mf e.val x.val)])] := fun e he => by
          have he : e.val < i + 1 := by subst hA; exact ltNV_real.1 he
          exact rows_push (len := ml) (len' := ml) (g := mf) (g' := mf) (h := mf i) hA (by omega) (by split; rfl; rw [show e.val = i by omega]) (fun j _ => by split; rfl; rw [show e.val = i by omega])
        cbv
        refine ⟨(by (subst hA; (try simp only [zn] at *); (try (simp only [Ar.real, NV.val, zo, zt])); first | done | omega | decide | exact zi | (refine ⟨?_, ?_⟩ <;> first | omega | decide | exact zi))), kl, ?_⟩
        refine CS.le hA c1 [] rfl rfl rfl ?_ ?_ ?_
        · clear hR
          (try cbv) <;> (repeat' (first | exact trivial | exact rfl | apply And.intro | exact fun _ => rfl | (intro _ hle; first | refine chunk_le hA rfl hle rfl ?_ | refine cat_le hA ?_ | refine upd_le hA ?_ | (try cbv))))
          all_goals first | (show nl (A.nat (Int.ofNat i)) = _; rw [kv]; exact hl.symm) | (show nf (A.nat (Int.ofNat i)) _ = _; rw [kv]; exact (hf _).symm)
        · clear hR
          (try cbv) <;> (repeat' (first | exact trivial | exact rfl | apply And.intro | exact fun _ => rfl | (intro _ hle; first | refine chunk_le hA rfl hle rfl ?_ | refine cat_le hA ?_ | refine upd_le hA ?_ | (try cbv))))
        cbv
        clear kv kl c1 hl hf
        refine ⟨⟨?_, ?_, ?_⟩, ?_, hR _ _ ⟨i + 1, 5, [(14, 5)], rfl, rfl, ?_, hic, (by show c - (i + 1) < c - i; omega)⟩⟩
        iterate 4 (subst hA; (try simp only [zn] at *); (try (simp only [Ar.real, NV.val, zo, zt])); first | done | omega | decide | exact zi | (refine ⟨?_, ?_⟩ <;> first | omega | decide | exact zi))
        clear hR
        (try cbv) <;> (repeat' (first | exact trivial | exact rfl | apply And.intro | exact fun _ => rfl | (intro _ hle; first | exact hpush _ hle | refine chunk_le hA rfl hle rfl ?_ | refine cat_le hA ?_ | refine upd_le hA ?_ | refine int_le ?_ | skip)))
        all_goals (subst hA; (try simp only [zn] at *); (try (simp only [Ar.real, NV.val, zo, zt])); first | done | omega | decide | exact zi | (refine ⟨?_, ?_⟩ <;> first | omega | decide | exact zi))
      · have hic : i = c := by clear hR c1 hl hf; subst hA; simp [Ar.real] at q1; omega
        subst hic
        clear hR c1 hl hf
        cbv
        refine Fin.le hA 5 [(5, 5)] (.sl 5 1 (.l 0) (.s i)) ((5, LgR i ml mf) :: LgH N d gen at1 nb b (.l 0) i su dead cn nl nf) 6 rfl rfl rfl ?_ ?_ (by rw [← hK]; exact ⟨rfl, rfl, rfl⟩)
        · (try cbv) <;> (repeat' (first | exact trivial | exact rfl | apply And.intro | exact fun _ => rfl | (intro _ hle; first | refine chunk_le hA rfl hle rfl ?_ | refine cat_le hA ?_ | refine upd_le hA ?_ | refine int_le ?_ | skip)))
        · (try cbv) <;> (repeat' (first | exact trivial | exact rfl | apply And.intro | exact fun _ => rfl | (intro _ hle; first | refine chunk_le hA rfl hle rfl ?_ | refine cat_le hA ?_ | refine upd_le hA ?_ | refine int_le ?_ | skip)))
  · have hov : ov = k := hov
    have hT : T.Ok P := hP ▸ T_ok
    refine FnTr.intro (fn := Tryz.f19) (c := bodyOf Tryz.f19) (by rw [hP]; rfl) rfl rfl hT ?_
    generalize hA : Ar.real = A
    generalize hK : Gives _ _ _ = K
    cbv
    refine LS.ghost 22 1 (.l 0) (fun _ => [.nils]) rfl ?_
    refine LS.le hT hA 5 (fun (i : Nat) => [(13, .int .i64 (i : Int)), (3, .sl 5 1 (.l 0) (.s i))]) (fun i => (5, LgR i ml mf) :: LgH N d gen at1 nb b (.s k) c su dead cn nl nf) (fun i => i ≤ c) (fun i => c - i) 0 [(15, 5)] rfl rfl ?_ ?_ ?_
    · (try cbv) <;> (repeat' (first | exact trivial | exact rfl | apply And.intro | exact fun _ => rfl | (intro _ hle; first | refine chunk_le hA rfl hle rfl ?_ | refine cat_le hA ?_ | refine upd_le hA ?_ | refine int_le ?_ | skip)))
      all_goals (exfalso; subst hA; exact absurd (ltNV_real.1 hle) (Nat.not_lt_zero _))
    · exact Nat.zero_le _
    · intro R hR i hi
      cbv
      refine ⟨fun q1 => ?_, fun q1 => ?_⟩
      · have hic : i < c := by clear hR c1 hl hf; subst hA; simp [Ar.real] at q1; omega
        have c1 := c1 i hic
        have hl := (hl i hic).1
        have hf := hf i hic
        have kv : (A.addN k (A.nat (Int.ofNat i))) = ov + i := by clear hR c1 hf; rw [hov]; subst hA; rfl
        have kl : A.leN (A.addN (A.addN k (A.nat (Int.ofNat i))) 1) cn := by rw [kv]; clear hR c1 hf hl; subst hA; (show ov + i + 1 ≤ cn); omega
        have hpush : ∀ e, ltNV A e (.s (A.addN i 1)) → leL (leSV A 4) (catG A 1 (.s i) (fun e => [.ro 1 (.s (ml e.val)) (fun x => [.int .u8 (mf e.val x.val)])]) (fun x => chunkS A 1 [.ro 1 (.s (ml i)) (fun x => [.int .u8 (mf i x.val)])] (addNV A (.l 0) x)) e) [.ro 1 (.s (ml e.val)) (fun x => [.int .u8 (mf e.val x.val)])] := fun e he => by
          have he : e.val < i + 1 := by subst hA; exact ltNV_real.1 he
          exact rows_push (len := ml) (len' := ml) (g := mf) (g' := mf) (h := mf i) hA (by omega) (by split; rfl; rw [show e.val = i by omega]) (fun j _ => by split; rfl; rw [show e.val = i by omega])
        cbv
        refine ⟨(by (subst hA; (try simp only [zn] at *); (try (simp only [Ar.real, NV.val, zo, zt])); first | done | omega | decide | exact zi | (refine ⟨?_, ?_⟩ <;> first | omega | decide | exact zi))), kl, ?_⟩
        refine CS.le hA c1 [] rfl rfl rfl ?_ ?_ ?_
        · clear hR
          (try cbv) <;> (repeat' (first | exact trivial | exact rfl | apply And.intro | exact fun _ => rfl | (intro _ hle; first | refine chunk_le hA rfl hle rfl ?_ | refine cat_le hA ?_ | refine upd_le hA ?_ | (try cbv))))
          all_goals first | (show nl (A.addN k (A.nat (Int.ofNat i))) = _; rw [kv]; exact hl.symm) | (show nf (A.addN k (A.nat (Int.ofNat i))) _ = _; rw [kv]; exact (hf _).symm)
        · clear hR
          (try cbv) <;> (repeat' (first | exact trivial | exact rfl | apply And.intro | exact fun _ => rfl | (intro _ hle; first | refine chunk_le hA rfl hle rfl ?_ | refine cat_le hA ?_ | refine upd_le hA ?_ | (try cbv))))
        cbv
        clear kv kl c1 hl hf
        refine ⟨⟨?_, ?_, ?_⟩, ?_, hR _ _ ⟨i + 1, 5, [(14, 5)], rfl, rfl, ?_, hic, (by show c - (i + 1) < c - i; omega)⟩⟩
        iterate 4 (subst hA; (try simp only [zn] at *); (try (simp only [Ar.real, NV.val, zo, zt])); first | done | omega | decide | exact zi | (refine ⟨?_, ?_⟩ <;> first | omega | decide | exact zi))
        clear hR
        (try cbv) <;> (repeat' (first | exact trivial | exact rfl | apply And.intro | exact fun _ => rfl | (intro _ hle; first | exact hpush _ hle | refine chunk_le hA rfl hle rfl ?_ | refine cat_le hA ?_ | refine upd_le hA ?_ | refine int_le ?_ | skip)))
        all_goals (subst hA; (try simp only [zn] at *); (try (simp only [Ar.real, NV.val, zo, zt])); first | done | omega | decide | exact zi | (refine ⟨?_, ?_⟩ <;> first | omega | decide | exact zi))
      · have hic : i = c := by clear hR c1 hl hf; subst hA; simp [Ar.real] at q1; omega
        subst hic
        clear hR c1 hl hf
        cbv
        refine Fin.le hA 5 [(5, 5)] (.sl 5 1 (.l 0) (.s i)) ((5, LgR i ml mf) :: LgH N d gen at1 nb b (.s k) i su dead cn nl nf) 6 rfl rfl rfl ?_ ?_ (by rw [← hK]; exact ⟨rfl, rfl, rfl⟩)
        · (try cbv) <;> (repeat' (first | exact trivial | exact rfl | apply And.intro | exact fun _ => rfl | (intro _ hle; first | refine chunk_le hA rfl hle rfl ?_ | refine cat_le hA ?_ | refine upd_le hA ?_ | refine int_le ?_ | skip)))
        · (try cbv) <;> (repeat' (first | exact trivial | exact rfl | apply And.intro | exact fun _ => rfl | (intro _ hle; first | refine chunk_le hA rfl hle rfl ?_ | refine cat_le hA ?_ | refine upd_le hA ?_ | refine int_le ?_ | skip)))
theorem notes_fn (hP : P = Tryz.prog) (ho : o = .l 0 ∨ ∃ k, o = .s k) (hc : cn = o.val + c) (hcl : c ≤ 1000000) (hl : ∀ i, i < c → ml i = nl (o.val + i) ∧ ml i ≤ 1000000) (hf : ∀ i, i < c → ∀ x, mf i x = nf (o.val + i) x) :
    FnTr P G 19 [.ptr 3 0] (LgH N d gen at1 nb b o c su dead cn nl nf) 5 (Gives (NtS c ml mf) (LgH N d gen at1 nb b o c su dead cn nl nf) 6) := by
  have h1 := notes_own (P := P) (G := G) (N := N) (gen := gen) (at1 := at1) (nb := nb) (b := b) (su := su) (d := d) (dead := dead) hP ho hc hcl hl hf
  generalize hA : Ar.real = A
  refine FnTr.dat hA h1 _ _ ?_
  (try cbv) <;> (repeat' (first | exact trivial | exact rfl | apply And.intro | exact fun _ => rfl | (intro _ hle; first | refine chunk_le hA rfl hle rfl ?_ | refine cat_le hA ?_ | refine upd_le hA ?_ | refine int_le ?_ | skip)))
  all_goals (subst hA; (try simp only [zn] at *); (try (simp only [Ar.real, NV.val, zo, zt])); first | done | omega | decide | exact zi | (refine ⟨?_, ?_⟩ <;> first | omega | decide | exact zi))
end
end Go.Proofs.YtnjjgipblimbfaaGreatDoor.Dsk
namespace Go.Proofs.YtnjjgipblimbfaaGreatDoor.Dsk
open Go.Eng
open Go.DskLaw (q64 secV isB needN pcs wipeP)
open Go.WalLaw
open Go.CrcLaw (four)
set_option maxRecDepth 100000
set_option maxHeartbeats 1000000
abbrev LgQ (q : Nat) (N : Nat) (d : Dk) (gen at' bn : Nat) (b : Nat → Int) (o : NV) (c su : Nat) (dead : Bool) (cn : Nat) (nl : Nat → Nat) (nf : Nat → Nat → Int) : Hl :=
  (3, .cells 68 [.ptr 0 0, .int .i64 (gen : Int), .int .i64 (at' : Int), By bn b, .sl q 1 o (.s c), .int .i64 (su : Int), .bs dead]) :: (q, LgR cn nl nf) :: DHd N d
section
variable {P : Program} {fr : Nat → Int} {N s h gen fi en at1 at2 nb c su cn n m k : Nat} {b f : Nat → Int} {o : NV} {d d1 : Dk} {dead : Bool} {nl ml : Nat → Nat} {nf mf : Nat → Nat → Int}
theorem append_full {G : Gl} (hP : P = Tryz.prog) (hd : dead = false)
    (cF : FnTr P G 25 [.ptr 3 0, .int .i64 (n : Int)] (LgH N d gen at1 nb b o c su dead cn nl nf) 5 (Gives (.bs false) (LgH N d gen at1 nb b o c su dead cn nl nf) 200)) :
    FnTr P G 16 [.ptr 3 0, By n f] (LgH N d gen at1 nb b o c su dead cn nl nf) 5 (Gives (.lit .i64 2) (LgH N d gen at1 nb b o c su dead cn nl nf) 3000) := by
  have c1 := alive_ok (P := P) (G := G) (N := N) (gen := gen) (at1 := at1) (nb := nb) (b := b) (o := o) (c := c) (su := su) (cn := cn) (d := d) (nl := nl) (nf := nf) hP hd
  have hT : T.Ok P := hP ▸ T_ok
  refine FnTr.intro (fn := Tryz.f16) (c := bodyOf Tryz.f16) (by rw [hP]; rfl) rfl rfl hT ?_
  generalize hA : Ar.real = A
  generalize hK : Gives _ _ _ = K
  cbv
  refine CS.le hA (c1) [(0, 0), (1, 1), (2, 2), (3, 3), (4, 4)] rfl rfl rfl ?_ ?_ ?_
  iterate 2 ((try cbv) <;> (repeat' (first | exact trivial | exact rfl | apply And.intro | exact fun _ => rfl | (intro _ hle; first | refine chunk_le hA rfl hle rfl ?_ | refine cat_le hA ?_ | refine upd_le hA ?_ | (try cbv)))) <;> (try (subst hA; (try simp only [zn] at *); (try (simp only [Ar.real, NV.val, zo, zt])); first | done | omega | decide | exact zi | (refine ⟨?_, ?_⟩ <;> first | omega | decide | exact zi))))
  cbv
  refine CS.leR hA (cF) (.bl false) [(0, 0), (1, 1), (2, 2), (3, 3), (4, 4)] rfl rfl rfl ?_ ?_ ?_ ?_
  iterate 3 ((try cbv) <;> (repeat' (first | exact trivial | exact rfl | apply And.intro | exact fun _ => rfl | (intro _ hle; first | refine chunk_le hA rfl hle rfl ?_ | refine cat_le hA ?_ | refine upd_le hA ?_ | (try cbv)))) <;> (try (subst hA; (try simp only [zn] at *); (try (simp only [Ar.real, NV.val, zo, zt])); first | done | omega | decide | exact zi | (refine ⟨?_, ?_⟩ <;> first | omega | decide | exact zi))))
  cbv
  refine Fin.le hA 5 [] (.lit .i64 2) (LgH N d gen at1 nb b o c su dead cn nl nf) 3000 rfl rfl rfl ?_ ?_ (by rw [← hK]; exact ⟨rfl, rfl, rfl⟩)
  iterate 2 ((try cbv) <;> (repeat' (first | exact trivial | exact rfl | apply And.intro | exact fun _ => rfl | (intro _ hle; first | refine chunk_le hA rfl hle rfl ?_ | refine cat_le hA ?_ | refine upd_le hA ?_ | (try cbv)))))
theorem append_part (hP : P = Tryz.prog) (hfr : ∀ i, fr i = ((four i).toNat : Int)) (hd : dead = false) (hN : N = 64 * s) (hr : Reg s h gen fi en) (hb : ∀ i, i < n → 0 ≤ f i ∧ f i ≤ 255) (hn6 : n + 4 ≤ 65536) (hm : m = n + 4) (hg : ∀ i, i < m → mf 0 i = sealF n f i) (ok : DkOk s d) (hfit : at1 + needN m ≤ en) (hk : putK d m < needN m) (h1 : d1 = putD d at1 m (mf 0))
    (cF : FnTr P (Gf fr) 25 [.ptr 3 0, .int .i64 (n : Int)] (LgH N d gen at1 nb b o c su dead cn nl nf) 5 (Gives (.bs true) (LgH N d gen at1 nb b o c su dead cn nl nf) 200)) :
    FnTr P (Gf fr) 16 [.ptr 3 0, By n f] (LgH N d gen at1 nb b o c su dead cn nl nf) 5 (Gives (.lit .i64 6) (LgH N d1 gen at1 nb b o c su true cn nl nf) 3000) := by
  have c1 := alive_ok (P := P) (G := Gf fr) (N := N) (gen := gen) (at1 := at1) (nb := nb) (b := b) (o := o) (c := c) (su := su) (cn := cn) (d := d) (nl := nl) (nf := nf) hP hd
  have c2 := end_fn (P := P) (G := Gf fr) (S := d.S) (L := d.L) (ar := d.ar) (ca := d.ca) hP hN hr.hs hr.hh hr.hg hr.hfi hr.hen
  have c3 := seal2_fn (P := P) hP hfr hb (by omega) hm hg
  have c4 := put_part (P := P) (G := Gf fr) (f := mf 0) hP hN hr.hs.2 ok ⟨hfit, hr.le.2.2⟩ (by omega) hk h1
  have c5 := told_fn (P := P) (G := Gf fr) (N := N) (gen := gen) (at1 := at1) (nb := nb) (b := b) (o := o) (c := c) (su := su) (cn := cn) (d := d1) (nl := nl) (nf := nf) hP hd
  clear hfr hr hb hn6 hm hg ok hfit hk h1 hN
  have hT : T.Ok P := hP ▸ T_ok
  refine FnTr.intro (fn := Tryz.f16) (c := bodyOf Tryz.f16) (by rw [hP]; rfl) rfl rfl hT ?_
  generalize hA : Ar.real = A
  generalize hK : Gives _ _ _ = K
  cbv
  refine CS.le hA (c1) [(0, 0), (1, 1), (2, 2), (3, 3), (4, 4)] rfl rfl rfl ?_ ?_ ?_
  iterate 2 ((try cbv) <;> (repeat' (first | exact trivial | exact rfl | apply And.intro | exact fun _ => rfl | (intro _ hle; first | refine chunk_le hA rfl hle rfl ?_ | refine cat_le hA ?_ | refine upd_le hA ?_ | (try cbv)))) <;> (try (subst hA; (try simp only [zn] at *); (try (simp only [Ar.real, NV.val, zo, zt])); first | done | omega | decide | exact zi | (refine ⟨?_, ?_⟩ <;> first | omega | decide | exact zi))))
  cbv
  refine CS.leR hA (cF) (.bl true) [(0, 0), (1, 1), (2, 2), (3, 3), (4, 4)] rfl rfl rfl ?_ ?_ ?_ ?_
  iterate 3 ((try cbv) <;> (repeat' (first | exact trivial | exact rfl | apply And.intro | exact fun _ => rfl | (intro _ hle; first | refine chunk_le hA rfl hle rfl ?_ | refine cat_le hA ?_ | refine upd_le hA ?_ | (try cbv)))) <;> (try (subst hA; (try simp only [zn] at *); (try (simp only [Ar.real, NV.val, zo, zt])); first | done | omega | decide | exact zi | (refine ⟨?_, ?_⟩ <;> first | omega | decide | exact zi))))
  cbv
  refine DS.runK hA hT (by rw [hP]; exact P_mixed) 30 rfl ?_
  cbv
  refine CD.pass hA (c2) [(0, 0), (1, 1), (2, 2)] [] rfl ⟨rfl, rfl, rfl, rfl, ?_, ?_⟩ rfl (.inl rfl) ?_
  iterate 2 ((try cbv) <;> (repeat' (first | exact trivial | exact rfl | apply And.intro | exact fun _ => rfl | (intro _ hle; first | refine chunk_le hA rfl hle rfl ?_ | refine cat_le hA ?_ | refine upd_le hA ?_ | (try cbv)))) <;> (try (subst hA; (try simp only [zn] at *); (try (simp only [Ar.real, NV.val, zo, zt])); first | done | omega | decide | exact zi | (refine ⟨?_, ?_⟩ <;> first | omega | decide | exact zi))))
  cbv
  refine CD.pass hA (c3) [] [] rfl ⟨rfl, rfl, rfl, rfl, ?_, ?_⟩ rfl (.inl rfl) ?_
  iterate 2 ((try cbv) <;> (repeat' (first | exact trivial | exact rfl | apply And.intro | exact fun _ => rfl | (intro _ hle; first | refine chunk_le hA rfl hle rfl ?_ | refine cat_le hA ?_ | refine upd_le hA ?_ | (try cbv)))) <;> (try (subst hA; (try simp only [zn] at *); (try (simp only [Ar.real, NV.val, zo, zt])); first | done | omega | decide | exact zi | (refine ⟨?_, ?_⟩ <;> first | omega | decide | exact zi))))
  cbv
  refine CD.pass hA (c4) [(0, 0), (1, 1), (2, 2)] [] rfl ⟨rfl, rfl, rfl, rfl, ?_, ?_⟩ rfl (.inl rfl) ?_
  iterate 2 ((try cbv) <;> (repeat' (first | exact trivial | exact rfl | apply And.intro | exact fun _ => rfl | (intro _ hle; first | refine chunk_le hA rfl hle rfl ?_ | refine cat_le hA ?_ | refine upd_le hA ?_ | (try cbv)))) <;> (try (subst hA; (try simp only [zn] at *); (try (simp only [Ar.real, NV.val, zo, zt])); first | done | omega | decide | exact zi | (refine ⟨?_, ?_⟩ <;> first | omega | decide | exact zi))))
  cbv
  refine DF.fin (by kernel_rfl) (by kernel_rfl) ?_
  cbv
  refine CS.le hA (c5) [(0, 0), (1, 1), (2, 2), (3, 3), (4, 4)] rfl rfl rfl ?_ ?_ ?_
  iterate 2 ((try cbv) <;> (repeat' (first | exact trivial | exact rfl | apply And.intro | exact fun _ => rfl | (intro _ hle; first | refine chunk_le hA rfl hle rfl ?_ | refine cat_le hA ?_ | refine upd_le hA ?_ | (try cbv)))) <;> (try (subst hA; (try simp only [zn] at *); (try (simp only [Ar.real, NV.val, zo, zt])); first | done | omega | decide | exact zi | (refine ⟨?_, ?_⟩ <;> first | omega | decide | exact zi))))
  cbv
  refine Fin.le hA 5 [] (.lit .i64 6) (LgH N d1 gen at1 nb b o c su true cn nl nf) 3000 rfl rfl rfl ?_ ?_ (by rw [← hK]; exact ⟨rfl, rfl, rfl⟩)
  iterate 2 ((try cbv) <;> (repeat' (first | exact trivial | exact rfl | apply And.intro | exact fun _ => rfl | (intro _ hle; first | refine chunk_le hA rfl hle rfl ?_ | refine cat_le hA ?_ | refine upd_le hA ?_ | (try cbv)))))
theorem append_ok (hP : P = Tryz.prog) (hfr : ∀ i, fr i = ((four i).toNat : Int)) (hd : dead = false) (hN : N = 64 * s) (hr : Reg s h gen fi en) (hb : ∀ i, i < n → 0 ≤ f i ∧ f i ≤ 255) (hn6 : n + 4 ≤ 65536) (hm : m = n + 4) (hg : ∀ i, i < m → b i = b i) {g : Nat → Int} (hgg : ∀ i, i < m → g i = sealF n f i) (ok : DkOk s d) (hfit : at1 + needN m ≤ en) (hk : putK d m = needN m) (h1 : d1 = putD d at1 m g) (ha : at2 = at1 + needN m) (hcl : c ≤ 1000000) {c2 : Nat} (hc2 : c2 = c + 1)
    (hl : ∀ i, ml i = if i < c then nl i else n) (hf : ∀ i x, mf i x = if i < c then nf i x else f x)
    (cF : FnTr P (Gf fr) 25 [.ptr 3 0, .int .i64 (n : Int)] (LgH N d gen at1 nb b (.l 0) c su dead c nl nf) 5 (Gives (.bs true) (LgH N d gen at1 nb b (.l 0) c su dead c nl nf) 200)) :
    FnTr P (Gf fr) 16 [.ptr 3 0, By n f] (LgH N d gen at1 nb b (.l 0) c su dead c nl nf) 5 (Gives (.lit .i64 0) (LgQ 5 N d1 gen at2 nb b (.l 0) c2 su dead c2 ml mf) 3000) := by
  have c1 := alive_ok (P := P) (G := Gf fr) (N := N) (gen := gen) (at1 := at1) (nb := nb) (b := b) (o := .l 0) (c := c) (su := su) (cn := c) (d := d) (nl := nl) (nf := nf) hP hd
  have e2 := end_fn (P := P) (G := Gf fr) (S := d.S) (L := d.L) (ar := d.ar) (ca := d.ca) hP hN hr.hs hr.hh hr.hg hr.hfi hr.hen
  have c3 := seal2_fn (P := P) hP hfr hb (by omega) hm hgg
  have c4 := put_all (P := P) (G := Gf fr) (f := g) (at' := (at2 : Int)) hP hN hr.hs.2 ok ⟨hfit, hr.le.2.2⟩ (by omega) hk h1 (by rw [ha])
  have c5 := _root_.Go.Proofs.YtnjjgipblimbfaaGreatDoor.clone_fn (P := P) (G := Gf fr) (n := n) (f := f) hP (by omega)
  have hpush : ∀ {A : Ar}, Ar.real = A → ∀ e, ltNV A e (.s (A.addN c 1)) → leL (leSV A 4) (catG A 1 (.s c) (fun e => [.ro 1 (.s (nl e.val)) (fun x => [.int .u8 (nf e.val x.val)])]) (fun x => chunkS A 1 [.ro 1 (.s n) (fun x => [.int .u8 (f x.val)])] (addNV A (.l 0) x)) e) [.ro 1 (.s (ml e.val)) (fun x => [.int .u8 (mf e.val x.val)])] := fun {A} hA e he => by
    have he : e.val < c + 1 := by subst hA; exact ltNV_real.1 he
    exact rows_push (len := nl) (len' := ml) (g := nf) (g' := mf) (h := f) hA (by omega) (hl _) (fun j _ => hf _ j)
  clear hfr hr hb hm hgg ok hfit hk h1 hN hl hf
  have hT : T.Ok P := hP ▸ T_ok
  refine FnTr.intro (fn := Tryz.f16) (c := bodyOf Tryz.f16) (by rw [hP]; rfl) rfl rfl hT ?_
  generalize hA : Ar.real = A
  generalize hK : Gives _ _ _ = K
  cbv
  have hpush := hpush hA
  refine CS.le hA (c1) [(0, 0), (1, 1), (2, 2), (3, 3), (4, 4)] rfl rfl rfl ?_ ?_ ?_
  iterate 2 ((try cbv) <;> (repeat' (first | exact trivial | exact rfl | apply And.intro | exact fun _ => rfl | (intro _ hle; first | refine chunk_le hA rfl hle rfl ?_ | refine cat_le hA ?_ | refine upd_le hA ?_ | (try cbv)))) <;> (try (subst hA; (try simp only [zn] at *); (try (simp only [Ar.real, NV.val, zo, zt])); first | done | omega | decide | exact zi | (refine ⟨?_, ?_⟩ <;> first | omega | decide | exact zi))))
  cbv
  refine CS.leR hA (cF) (.bl true) [(0, 0), (1, 1), (2, 2), (3, 3), (4, 4)] rfl rfl rfl ?_ ?_ ?_ ?_
  iterate 3 ((try cbv) <;> (repeat' (first | exact trivial | exact rfl | apply And.intro | exact fun _ => rfl | (intro _ hle; first | refine chunk_le hA rfl hle rfl ?_ | refine cat_le hA ?_ | refine upd_le hA ?_ | (try cbv)))) <;> (try (subst hA; (try simp only [zn] at *); (try (simp only [Ar.real, NV.val, zo, zt])); first | done | omega | decide | exact zi | (refine ⟨?_, ?_⟩ <;> first | omega | decide | exact zi))))
  cbv
  refine DS.runK hA hT (by rw [hP]; exact P_mixed) 30 rfl ?_
  cbv
  refine CD.pass hA (e2) [(0, 0), (1, 1), (2, 2)] [] rfl ⟨rfl, rfl, rfl, rfl, ?_, ?_⟩ rfl (.inl rfl) ?_
  iterate 2 ((try cbv) <;> (repeat' (first | exact trivial | exact rfl | apply And.intro | exact fun _ => rfl | (intro _ hle; first | refine chunk_le hA rfl hle rfl ?_ | refine cat_le hA ?_ | refine upd_le hA ?_ | (try cbv)))) <;> (try (subst hA; (try simp only [zn] at *); (try (simp only [Ar.real, NV.val, zo, zt])); first | done | omega | decide | exact zi | (refine ⟨?_, ?_⟩ <;> first | omega | decide | exact zi))))
  cbv
  refine CD.pass hA (c3) [] [] rfl ⟨rfl, rfl, rfl, rfl, ?_, ?_⟩ rfl (.inl rfl) ?_
  iterate 2 ((try cbv) <;> (repeat' (first | exact trivial | exact rfl | apply And.intro | exact fun _ => rfl | (intro _ hle; first | refine chunk_le hA rfl hle rfl ?_ | refine cat_le hA ?_ | refine upd_le hA ?_ | (try cbv)))) <;> (try (subst hA; (try simp only [zn] at *); (try (simp only [Ar.real, NV.val, zo, zt])); first | done | omega | decide | exact zi | (refine ⟨?_, ?_⟩ <;> first | omega | decide | exact zi))))
  cbv
  refine CD.pass hA (c4) [(0, 0), (1, 1), (2, 2)] [] rfl ⟨rfl, rfl, rfl, rfl, ?_, ?_⟩ rfl (.inl rfl) ?_
  iterate 2 ((try cbv) <;> (repeat' (first | exact trivial | exact rfl | apply And.intro | exact fun _ => rfl | (intro _ hle; first | refine chunk_le hA rfl hle rfl ?_ | refine cat_le hA ?_ | refine upd_le hA ?_ | (try cbv)))) <;> (try (subst hA; (try simp only [zn] at *); (try (simp only [Ar.real, NV.val, zo, zt])); first | done | omega | decide | exact zi | (refine ⟨?_, ?_⟩ <;> first | omega | decide | exact zi))))
  cbv
  refine DF.fin (by kernel_rfl) (by kernel_rfl) ?_
  cbv
  refine DS.runK hA hT (by rw [hP]; exact P_mixed) 30 rfl ?_
  cbv
  refine CD.pass hA (c5) [] [] rfl ⟨rfl, rfl, rfl, rfl, ?_, ?_⟩ rfl (.inl rfl) ?_
  iterate 2 ((try cbv) <;> (repeat' (first | exact trivial | exact rfl | apply And.intro | exact fun _ => rfl | (intro _ hle; first | refine chunk_le hA rfl hle rfl ?_ | refine cat_le hA ?_ | refine upd_le hA ?_ | (try cbv)))) <;> (try (subst hA; (try simp only [zn] at *); (try (simp only [Ar.real, NV.val, zo, zt])); first | done | omega | decide | exact zi | (refine ⟨?_, ?_⟩ <;> first | omega | decide | exact zi))))
  cbv
  refine ⟨⟨?_, ?_, ?_⟩, ?_⟩
  iterate 3 (subst hA; (try simp only [zn] at *); (try (simp only [Ar.real, NV.val, zo, zt])); first | done | omega | decide | exact zi | (refine ⟨?_, ?_⟩ <;> first | omega | decide | exact zi))
  refine DF.fin (by kernel_rfl) (by kernel_rfl) ?_
  cbv
  refine Fin.le hA 5 [(1216, 5)] (.lit .i64 0) (LgQ 5 N d1 gen at2 nb b (.l 0) c2 su dead c2 ml mf) 3000 rfl rfl rfl ?_ ?_ (by rw [← hK]; exact ⟨rfl, rfl, rfl⟩)
  · (try cbv) <;> (repeat' (first | exact trivial | exact rfl | apply And.intro | exact fun _ => rfl | (intro _ hle; first | refine chunk_le hA rfl hle rfl ?_ | refine cat_le hA ?_ | refine upd_le hA ?_ | (try cbv))))
  · clear c1 e2 c3 c4 c5 cF
    (try cbv) <;> (repeat' (first | exact trivial | exact rfl | apply And.intro | exact fun _ => rfl | (intro _ hle; first | exact hpush _ hle | refine chunk_le hA rfl hle rfl ?_ | refine cat_le hA ?_ | refine upd_le hA ?_ | refine int_le ?_ | skip)))
    all_goals (subst hc2; subst hA; rfl)
end
end Go.Proofs.YtnjjgipblimbfaaGreatDoor.Dsk
namespace Go.Proofs.YtnjjgipblimbfaaGreatDoor.Dsk
open Go.Eng
open Go.DskLaw (q64 secV isB needN pcs wipeP)
open Go.WalLaw
open Go.CrcLaw (four)
set_option maxRecDepth 100000
set_option maxHeartbeats 1000000
section
variable {P : Program} {fr : Nat → Int} {N s h gen g1 at1 at2 nb c su cn n : Nat} {b f : Nat → Int} {o : NV} {d d1 : Dk} {dead : Bool} {nl ml : Nat → Nat} {nf mf : Nat → Nat → Int}
theorem switch_ok (hP : P = Tryz.prog) (hd : dead = false) (hN : N = 64 * s) (hs : 4 ≤ s ∧ s ≤ 4096) (hh : h = (s - 2) / 2) (hn : n ≤ 1000000) (hf : ¬ (65536 < n + 4 ∨ h < needN (n + 4))) (hg : gen < 1099511627776) (hg1 : g1 = gen + 1)
    (cL : FnTr P (Gf fr) 49 [.ptr 0 0, .int .i64 (g1 : Int), By n f] (DHd N d) 3 (Gives (.tup [.int .i64 (at2 : Int), .lit .i64 0]) (DHd N d1) 3)) :
    FnTr P (Gf fr) 20 [.ptr 3 0, By n f] (LgH N d gen at1 nb b o c su dead cn nl nf) 5 (Gives (.lit .i64 0) (LgQ 5 N d1 g1 at2 n f (.l 0) 0 0 false 0 ml mf) 5000) := by
  have c1 := alive_ok (P := P) (G := Gf fr) (N := N) (gen := gen) (at1 := at1) (nb := nb) (b := b) (o := o) (c := c) (su := su) (cn := cn) (d := d) (nl := nl) (nf := nf) hP hd
  have c2 := full_fn (P := P) (G := Gf fr) (S := d.S) (f := f) (L := d.L) (ar := d.ar) (ca := d.ca) (r := false) hP hN hs hh hn rfl ⟨fun h => (by cases h), fun h => absurd h hf⟩
  have c5 := _root_.Go.Proofs.YtnjjgipblimbfaaGreatDoor.clone_fn (P := P) (G := Gf fr) (n := n) (f := f) hP (by omega)
  clear hf
  have hT : T.Ok P := hP ▸ T_ok
  refine FnTr.intro (fn := Tryz.f20) (c := bodyOf Tryz.f20) (by rw [hP]; rfl) rfl rfl hT ?_
  generalize hA : Ar.real = A
  generalize hK : Gives _ _ _ = K
  cbv
  have k1 : A.gt (A.add (gen : Int) 1) 1099511627776 = false := by clear c1 c2 c5 cL; subst hA; simp [Ar.real]; omega
  refine CS.le hA (c1) [(0, 0), (1, 1), (2, 2), (3, 3), (4, 4)] rfl rfl rfl ?_ ?_ ?_
  iterate 2 ((try cbv) <;> (repeat' (first | exact trivial | exact rfl | apply And.intro | exact fun _ => rfl | (intro _ hle; first | refine chunk_le hA rfl hle rfl ?_ | refine cat_le hA ?_ | refine upd_le hA ?_ | (try cbv)))) <;> (try (subst hA; (try simp only [zn] at *); (try (simp only [Ar.real, NV.val, zo, zt])); first | done | omega | decide | exact zi | (refine ⟨?_, ?_⟩ <;> first | omega | decide | exact zi))))
  cbv
  refine CS.leR hA (c2) (.bl false) [(0, 0), (1, 1), (2, 2)] rfl rfl rfl ?_ ?_ ?_ ?_
  iterate 3 ((try cbv) <;> (repeat' (first | exact trivial | exact rfl | apply And.intro | exact fun _ => rfl | (intro _ hle; first | refine chunk_le hA rfl hle rfl ?_ | refine cat_le hA ?_ | refine upd_le hA ?_ | (try cbv)))) <;> (try (subst hA; (try simp only [zn] at *); (try (simp only [Ar.real, NV.val, zo, zt])); first | done | omega | decide | exact zi | (refine ⟨?_, ?_⟩ <;> first | omega | decide | exact zi))))
  cbv
  refine ⟨(by (subst hA; (try simp only [zn] at *); (try (simp only [Ar.real, NV.val, zo, zt])); first | done | omega | decide | exact zi | (refine ⟨?_, ?_⟩ <;> first | omega | decide | exact zi))), ?_⟩
  first | refine testR k1 rfl ?_ | refine testL k1 rfl ?_
  cbv
  refine DS.runK hA hT (by rw [hP]; exact P_mixed) 30 rfl ?_
  cbv
  refine ⟨(by (subst hA; (try simp only [zn] at *); (try (simp only [Ar.real, NV.val, zo, zt])); first | done | omega | decide | exact zi | (refine ⟨?_, ?_⟩ <;> first | omega | decide | exact zi))), ?_⟩
  refine CD.pass hA (cL) [(0, 0), (1, 1), (2, 2)] [] rfl ⟨rfl, rfl, rfl, rfl, ?_, ?_⟩ rfl (.inl rfl) ?_
  iterate 2 ((try cbv) <;> (repeat' (first | exact trivial | exact rfl | apply And.intro | exact fun _ => rfl | (intro _ hle; first | refine chunk_le hA rfl hle rfl ?_ | refine cat_le hA ?_ | refine upd_le hA ?_ | (try cbv)))) <;> (try (subst hA; (try simp only [zn] at *); (try (simp only [Ar.real, NV.val, zo, zt])); first | done | omega | decide | exact zi | (refine ⟨?_, ?_⟩ <;> first | omega | decide | exact zi))))
  cbv
  refine DF.fin (by kernel_rfl) (by kernel_rfl) ?_
  cbv
  refine DS.runK hA hT (by rw [hP]; exact P_mixed) 30 rfl ?_
  cbv
  refine ⟨(by (subst hA; (try simp only [zn] at *); (try (simp only [Ar.real, NV.val, zo, zt])); first | done | omega | decide | exact zi | (refine ⟨?_, ?_⟩ <;> first | omega | decide | exact zi))), ?_⟩
  refine CD.pass hA (c5) [] [] rfl ⟨rfl, rfl, rfl, rfl, ?_, ?_⟩ rfl (.inl rfl) ?_
  iterate 2 ((try cbv) <;> (repeat' (first | exact trivial | exact rfl | apply And.intro | exact fun _ => rfl | (intro _ hle; first | refine chunk_le hA rfl hle rfl ?_ | refine cat_le hA ?_ | refine upd_le hA ?_ | (try cbv)))) <;> (try (subst hA; (try simp only [zn] at *); (try (simp only [Ar.real, NV.val, zo, zt])); first | done | omega | decide | exact zi | (refine ⟨?_, ?_⟩ <;> first | omega | decide | exact zi))))
  cbv
  refine DF.fin (by kernel_rfl) (by kernel_rfl) ?_
  cbv
  refine Fin.leG hA 5 [] [(5, LgR 0 ml mf)] (.lit .i64 0) (LgQ 5 N d1 g1 at2 n f (.l 0) 0 0 false 0 ml mf) 5000 rfl rfl rfl ?_ ?_ ?_ (by rw [← hK]; exact ⟨rfl, rfl, rfl⟩)
  iterate 2 ((try cbv) <;> (repeat' (first | exact trivial | exact rfl | apply And.intro | exact fun _ => rfl | (intro _ hle; first | refine chunk_le hA rfl hle rfl ?_ | refine cat_le hA ?_ | refine upd_le hA ?_ | (try cbv)))))
  · (try cbv) <;> (repeat' (first | exact trivial | exact rfl | apply And.intro | exact fun _ => rfl | (intro _ hle; first | refine chunk_le hA rfl hle rfl ?_ | refine cat_le hA ?_ | refine upd_le hA ?_ | (try cbv))))
    clear k1
    (subst hA; (try simp only [zn] at *); (try (simp only [Ar.real, NV.val, zo, zt])); first | done | omega | decide | exact zi | (refine ⟨?_, ?_⟩ <;> first | omega | decide | exact zi))
end
end Go.Proofs.YtnjjgipblimbfaaGreatDoor.Dsk
namespace Go.WalLaw
open Go.DskLaw
def OpenOk (n : Nat) (f : Nat → Int) : Prop := 4 ≤ n ∧ ∀ i, i < n → sealF (n - 4) f i = f i
open Classical in
noncomputable def recP (V : Nat → Nat → Int) (fin : Nat) : Nat → Nat → Nat → (Nat → Nat × (Nat → Int)) → Nat × (Nat → Nat × (Nat → Int)) × Nat
  | 0, x, c, g => (c, g, x)
  | k + 1, x, c, g => match getP V x fin (fin - x) x 0 (fun _ => 0) with
    | none => (c, g, x)
    | some (n, f, next) => if OpenOk n f then recP V fin k next (c + 1) (fun i => if i < c then g i else (n - 4, f)) else (c, g, x)
section
variable {V : Nat → Nat → Int} {fin k x c n next : Nat} {g : Nat → Nat × (Nat → Int)} {f : Nat → Int}
theorem recP_none (h : getP V x fin (fin - x) x 0 (fun _ => 0) = none) : recP V fin (k + 1) x c g = (c, g, x) := by
  conv => lhs; unfold recP
  rw [h]
theorem recP_bad (h : getP V x fin (fin - x) x 0 (fun _ => 0) = some (n, f, next)) (ho : ¬ OpenOk n f) : recP V fin (k + 1) x c g = (c, g, x) := by
  conv => lhs; unfold recP
  rw [h]
  exact if_neg ho
theorem recP_some (h : getP V x fin (fin - x) x 0 (fun _ => 0) = some (n, f, next)) (ho : OpenOk n f) : recP V fin (k + 1) x c g = recP V fin k next (c + 1) (fun i => if i < c then g i else (n - 4, f)) := by
  conv => lhs; unfold recP
  rw [h]
  exact if_pos ho
end
theorem raw_congr {g g' : Nat → BitVec 32} (r : BitVec 32) : ∀ n, (∀ i, i < n → g i = g' i) → CrcLaw.raw g r n = CrcLaw.raw g' r n := by
  intro n
  induction n with
  | zero => intro _; rfl
  | succ n ih =>
    intro h
    show CrcLaw.step (CrcLaw.raw g r n) (g n) = CrcLaw.step (CrcLaw.raw g' r n) (g' n)
    rw [ih (fun i hi => h i (by omega)), h n (by omega)]
theorem more_congr {g g' : Nat → BitVec 32} {s : BitVec 32} {n : Nat} (h : ∀ i, i < n → g i = g' i) : CrcLaw.more g s n = CrcLaw.more g' s n := by
  unfold CrcLaw.more
  rw [raw_congr _ n h]
theorem open_iff {n : Nat} {f : Nat → Int} (h4 : 4 ≤ n) : (∀ i, i < n → CrcLaw.sealB (cutF n f) (CrcLaw.more (bvF n f) 0#32 (n - 4)) (n - 4) i = cutF n f i) ↔ ∀ i, i < n → sealF (n - 4) f i = f i := by
  have e1 : CrcLaw.more (bvF n f) 0#32 (n - 4) = CrcLaw.more (bvF (n - 4) f) 0#32 (n - 4) := more_congr (fun i hi => by
    unfold bvF cutF
    rw [if_pos (by omega), if_pos hi])
  have e2 : ∀ i, i < n → CrcLaw.sealB (cutF n f) (CrcLaw.more (bvF n f) 0#32 (n - 4)) (n - 4) i = sealF (n - 4) f i := fun i hi => by
    rw [e1]
    unfold sealF CrcLaw.sealB
    by_cases q : i < n - 4
    · rw [if_pos q, if_pos q]; unfold cutF; rw [if_pos hi, if_pos q]
    · rw [if_neg q, if_neg q]
  have e3 : ∀ i, i < n → cutF n f i = f i := fun i hi => by unfold cutF; rw [if_pos hi]
  exact ⟨fun h i hi => by rw [← e2 i hi, h i hi, e3 i hi], fun h i hi => by rw [e2 i hi, h i hi, e3 i hi]⟩
end Go.WalLaw
namespace Go.Proofs.YtnjjgipblimbfaaGreatDoor.Dsk
open Go.Eng
open Go.DskLaw (q64 secV isB needN pcs getP)
open Go.WalLaw
open Go.CrcLaw (four)
set_option maxRecDepth 100000
set_option maxHeartbeats 1000000
section
variable {P : Program} {fr : Nat → Int} {n m : Nat} {f : Nat → Int}
theorem open2_fn (hP : P = Tryz.prog) (hfr : ∀ i, fr i = ((four i).toNat : Int)) (hb : ∀ i, i < n → 0 ≤ f i ∧ f i ≤ 255) (hn : n ≤ 1000000000) (ho : OpenOk n f) (hm : m = n - 4) :
    FnTr P (Gf fr) 60 [By n f] [] 0 (Gives (.tup [By m f, .lit .i64 0]) [] 1) := by
  have h := open_fn hP hfr (gi := cutF n f) (g := bvF n f) (m := m) (er := 0) (bvF_nat hb) (fun i _ => bvF_lt hb i) hn (.inr (.inl ⟨ho.1, (open_iff ho.1).2 ho.2, hm, rfl⟩))
  obtain ⟨c, hc⟩ : ∃ c : Nat → Int, c = cutF n f := ⟨_, rfl⟩
  have hcb : ∀ i, i < n → f i = c i := fun i hi => by rw [hc]; unfold cutF; rw [if_pos hi]
  have hcb2 : ∀ i, i < m → c i = f i := fun i hi => (hcb i (by omega)).symm
  rw [← hc] at h
  clear ho hb hc
  generalize hA : Ar.real = A
  refine FnTr.as hA h ?_ ?_ ?_ rfl
  · (try cbv) <;> (repeat' (first | exact trivial | exact rfl | apply And.intro | exact fun _ => rfl | (intro _ hle; first | refine chunk_le hA rfl hle rfl ?_ | refine cat_le hA ?_ | refine upd_le hA ?_ | (try cbv))))
    all_goals (refine hcb _ ?_; subst hA; exact ltNV_real.1 (by assumption))
  · (try cbv) <;> (repeat' (first | exact trivial | exact rfl | apply And.intro | exact fun _ => rfl | (intro _ hle; first | refine chunk_le hA rfl hle rfl ?_ | refine cat_le hA ?_ | refine upd_le hA ?_ | (try cbv))))
    all_goals (refine hcb2 _ ?_; subst hA; exact ltNV_real.1 (by assumption))
  · (try cbv) <;> (repeat' (first | exact trivial | exact rfl | apply And.intro | exact fun _ => rfl | (intro _ hle; first | refine chunk_le hA rfl hle rfl ?_ | refine cat_le hA ?_ | refine upd_le hA ?_ | (try cbv))))
theorem open2_bad (hP : P = Tryz.prog) (hfr : ∀ i, fr i = ((four i).toNat : Int)) (hb : ∀ i, i < n → 0 ≤ f i ∧ f i ≤ 255) (hn : n ≤ 1000000000) (ho : ¬ OpenOk n f) :
    ∃ er : Int, er ≠ 0 ∧ FnTr P (Gf fr) 60 [By n f] [] 0 (Gives (.tup [By 0 f, .int .i64 er]) [] 1) := by
  have key : ∃ er : Int, er ≠ 0 ∧ FnTr P (Gf fr) 60 [By n (cutF n f)] [] 0 (Gives (.tup [By 0 (cutF n f), .int .i64 er]) [] 1) := by
    by_cases h4 : n < 4
    · exact ⟨210, by decide, open_fn hP hfr (gi := cutF n f) (g := bvF n f) (m := 0) (er := 210) (bvF_nat hb) (fun i _ => bvF_lt hb i) hn (.inl ⟨h4, rfl, rfl⟩)⟩
    · exact ⟨240, by decide, open_fn hP hfr (gi := cutF n f) (g := bvF n f) (m := 0) (er := 240) (bvF_nat hb) (fun i _ => bvF_lt hb i) hn (.inr (.inr ⟨by omega, fun h => ho ⟨by omega, (open_iff (by omega)).1 h⟩, rfl, rfl⟩))⟩
  obtain ⟨er, he, h⟩ := key
  refine ⟨er, he, ?_⟩
  obtain ⟨c, hc⟩ : ∃ c : Nat → Int, c = cutF n f := ⟨_, rfl⟩
  have hcb : ∀ i, i < n → f i = c i := fun i hi => by rw [hc]; unfold cutF; rw [if_pos hi]
  rw [← hc] at h
  clear ho hb hc
  generalize hA : Ar.real = A
  refine FnTr.as hA h ?_ ?_ ?_ rfl
  · (try cbv) <;> (repeat' (first | exact trivial | exact rfl | apply And.intro | exact fun _ => rfl | (intro _ hle; first | refine chunk_le hA rfl hle rfl ?_ | refine cat_le hA ?_ | refine upd_le hA ?_ | (try cbv))))
    all_goals (refine hcb _ ?_; subst hA; exact ltNV_real.1 (by assumption))
  · (try cbv) <;> (repeat' (first | exact trivial | exact rfl | apply And.intro | exact fun _ => rfl | (intro _ hle; first | refine chunk_le hA rfl hle rfl ?_ | refine cat_le hA ?_ | refine upd_le hA ?_ | (try cbv))))
    all_goals (exfalso; subst hA; exact absurd (ltNV_real.1 (by assumption)) (Nat.not_lt_zero _))
  · (try cbv) <;> (repeat' (first | exact trivial | exact rfl | apply And.intro | exact fun _ => rfl | (intro _ hle; first | refine chunk_le hA rfl hle rfl ?_ | refine cat_le hA ?_ | refine upd_le hA ?_ | (try cbv))))
theorem records_own {N s h gen fi en c0 last : Nat} {d : Dk} {V : Nat → Nat → Int} {g0 gs : Nat → Nat × (Nat → Int)} (hP : P = Tryz.prog) (hfr : ∀ i, fr i = ((four i).toNat : Int)) (hN : N = 64 * s) (hr : Reg s h gen fi en) (ho : ¬ offD d) (hV : ∀ i, i < s → V i = secV d.S d.L i ∧ isB (V i)) (hR0 : recP V en (en - fi + 1) fi 0 g0 = (c0, gs, last)) :
    FnTr P (Gf fr) 29 [.ptr 0 0, .int .i64 (gen : Int)] (DHd N d) 3 (Gives (.tup [.sl 3 1 (.l 0) (.s c0), .int .i64 (last : Int)]) ((3, LgR c0 (fun i => (gs i).1) (fun i => (gs i).2)) :: DHd N d) 4) := by
  have b1 := first_fn (P := P) (G := Gf fr) (S := d.S) (L := d.L) (ar := d.ar) (ca := d.ca) hP hN hr.hs hr.hh hr.hg hr.hfi
  have b2 := end_fn (P := P) (G := Gf fr) (S := d.S) (L := d.L) (ar := d.ar) (ca := d.ca) hP hN hr.hs hr.hh hr.hg hr.hfi hr.hen
  have hreg := hr.le
  have hs := hr.hs
  have c1 : ∀ x, x ≤ en → getP V x en (en - x) x 0 (fun _ => 0) = none → FnTr P (Gf fr) 59 [.ptr 0 0, .int .i64 (x : Int), .int .i64 (en : Int)] (DHd N d) 3 (Gives (.tup [.nils, .lit .i64 0, .lit .i64 4]) (DHd N d) 3) := fun x hx e => get_none hP hN hs.2 ⟨hx, hreg.2.2⟩ ho hV e
  have c2 : ∀ x n next f, x ≤ en → getP V x en (en - x) x 0 (fun _ => 0) = some (n, f, next) → FnTr P (Gf fr) 59 [.ptr 0 0, .int .i64 (x : Int), .int .i64 (en : Int)] (DHd N d) 3 (Gives (.tup [By n f, .int .i64 (next : Int), .lit .i64 0]) (DHd N d) 4) := fun x n next f hx e => get_fn hP hN hs.2 ⟨hx, hreg.2.2⟩ ho hV e
  have c3 : ∀ x n next f, x ≤ en → getP V x en (en - x) x 0 (fun _ => 0) = some (n, f, next) → (OpenOk n f → FnTr P (Gf fr) 60 [By n f] [] 0 (Gives (.tup [By (n - 4) f, .lit .i64 0]) [] 1)) ∧ (¬ OpenOk n f → ∃ er : Int, er ≠ 0 ∧ FnTr P (Gf fr) 60 [By n f] [] 0 (Gives (.tup [By 0 f, .int .i64 er]) [] 1)) := fun x n next f hx e => by
    have hn := (DskLaw.getP_next _ e).2.2
    have hb := DskLaw.getP_isB (fun i hi => (hV i (by omega)).2) _ _ _ _ _ _ _ (fun i hi => by omega) e
    exact ⟨fun q => open2_fn hP hfr hb (by omega) q rfl, fun q => open2_bad hP hfr hb (by omega) q⟩
  clear hV hr hfr ho hN
  have hT : T.Ok P := hP ▸ T_ok
  refine FnTr.intro (fn := Tryz.f29) (c := bodyOf Tryz.f29) (by rw [hP]; rfl) rfl rfl hT ?_
  generalize hA : Ar.real = A
  generalize hK : Gives _ _ _ = K
  cbv
  refine CS.le hA (b1) [(0, 0), (1, 1), (2, 2)] rfl rfl rfl ?_ ?_ ?_
  iterate 2 ((try cbv) <;> (repeat' (first | exact trivial | exact rfl | apply And.intro | exact fun _ => rfl | (intro _ hle; first | refine chunk_le hA rfl hle rfl ?_ | refine cat_le hA ?_ | refine upd_le hA ?_ | (try cbv)))) <;> (try (subst hA; (try simp only [zn] at *); (try (simp only [Ar.real, NV.val, zo, zt])); first | done | omega | decide | exact zi | (refine ⟨?_, ?_⟩ <;> first | omega | decide | exact zi))))
  cbv
  refine LS.ghost 22 1 (.l 0) (fun _ => [.nils]) rfl ?_
  refine LS.le3 hT hA 3 (fun (x : Nat) (c : Nat) (_ : Nat → Nat × (Nat → Int)) => [(6, .int .i64 (x : Int)), (7, .sl 3 1 (.l 0) (.s c))]) (fun _ c g => (3, LgR c (fun i => (g i).1) (fun i => (g i).2)) :: DHd N d) (fun x c g => x ≤ en ∧ c ≤ x ∧ ∃ k, en - x < k ∧ recP V en k x c g = (c0, gs, last)) (fun x _ _ => en - x) fi 0 g0 [(12, 3)] rfl rfl ?_ ?_ ?_
  · (try cbv) <;> (repeat' (first | exact trivial | exact rfl | apply And.intro | exact fun _ => rfl | (intro _ hle; first | refine chunk_le hA rfl hle rfl ?_ | refine cat_le hA ?_ | refine upd_le hA ?_ | refine int_le ?_ | skip)))
    all_goals (exfalso; subst hA; exact absurd (ltNV_real.1 (by assumption)) (Nat.not_lt_zero _))
  · exact ⟨hreg.2.1, Nat.zero_le _, _, Nat.lt_succ_self _, hR0⟩
  · intro R hR x c g hx
    obtain ⟨hxf, hcx, k, hk, hsc⟩ := hx
    cbv
    refine CS.le hA (b2) [(0, 0), (1, 1), (2, 2)] rfl rfl rfl ?_ ?_ ?_
    iterate 2 ((try cbv) <;> (repeat' (first | exact trivial | exact rfl | apply And.intro | exact fun _ => rfl | (intro _ hle; first | refine chunk_le hA rfl hle rfl ?_ | refine cat_le hA ?_ | refine upd_le hA ?_ | (try cbv)))) <;> (try (subst hA; (try simp only [zn] at *); (try (simp only [Ar.real, NV.val, zo, zt])); first | done | omega | decide | exact zi | (refine ⟨?_, ?_⟩ <;> first | omega | decide | exact zi))))
    cbv
    cases hg : getP V x en (en - x) x 0 (fun _ => 0) with
    | none =>
      obtain ⟨k', rfl⟩ : ∃ k', k = k' + 1 := ⟨k - 1, by omega⟩
      rw [recP_none hg] at hsc
      obtain ⟨rfl, rfl, rfl⟩ : c = c0 ∧ g = gs ∧ x = last := by cases hsc; exact ⟨rfl, rfl, rfl⟩
      have a1 := c1 x hxf hg
      clear c1 c2 c3 hR
      refine CS.le hA (a1) [(0, 0), (1, 1), (2, 2)] rfl rfl rfl ?_ ?_ ?_
      iterate 2 ((try cbv) <;> (repeat' (first | exact trivial | exact rfl | apply And.intro | exact fun _ => rfl | (intro _ hle; first | refine chunk_le hA rfl hle rfl ?_ | refine cat_le hA ?_ | refine upd_le hA ?_ | (try cbv)))) <;> (try (subst hA; (try simp only [zn] at *); (try (simp only [Ar.real, NV.val, zo, zt])); first | done | omega | decide | exact zi | (refine ⟨?_, ?_⟩ <;> first | omega | decide | exact zi))))
      cbv
      refine Fin.le hA 3 [(3, 3)] (.tup [.sl 3 1 (.l 0) (.s c), .int .i64 (x : Int)]) ((3, LgR c (fun i => (g i).1) (fun i => (g i).2)) :: DHd N d) 4 rfl rfl rfl ?_ ?_ (by rw [← hK]; exact ⟨rfl, rfl, rfl⟩)
      · (try cbv) <;> (repeat' (first | exact trivial | exact rfl | apply And.intro | exact fun _ => rfl | (intro _ hle; first | refine chunk_le hA rfl hle rfl ?_ | refine cat_le hA ?_ | refine upd_le hA ?_ | refine int_le ?_ | skip)))
      · (try cbv) <;> (repeat' (first | exact trivial | exact rfl | apply And.intro | exact fun _ => rfl | (intro _ hle; first | refine chunk_le hA rfl hle rfl ?_ | refine cat_le hA ?_ | refine upd_le hA ?_ | refine int_le ?_ | skip)))
    | some r =>
      obtain ⟨n, f, next⟩ := r
      have hnx := DskLaw.getP_next _ hg
      obtain ⟨k', rfl⟩ : ∃ k', k = k' + 1 := ⟨k - 1, by omega⟩
      have a2 := c2 x n next f hxf hg
      have a3 := c3 x n next f hxf hg
      clear c1 c2 c3
      by_cases hok : ¬ OpenOk n f
      · rw [recP_bad hg hok] at hsc
        obtain ⟨rfl, rfl, rfl⟩ : c = c0 ∧ g = gs ∧ x = last := by cases hsc; exact ⟨rfl, rfl, rfl⟩
        obtain ⟨er, her, a4⟩ := a3.2 hok
        have k1 : A.ne er 0 = true := by clear hR a3 a2 a4; subst hA; simp [Ar.real]; exact her
        clear hR a3
        refine CS.le hA (a2) [(0, 0), (1, 1), (2, 2)] rfl rfl rfl ?_ ?_ ?_
        iterate 2 ((try cbv) <;> (repeat' (first | exact trivial | exact rfl | apply And.intro | exact fun _ => rfl | (intro _ hle; first | refine chunk_le hA rfl hle rfl ?_ | refine cat_le hA ?_ | refine upd_le hA ?_ | (try cbv)))) <;> (try (subst hA; (try simp only [zn] at *); (try (simp only [Ar.real, NV.val, zo, zt])); first | done | omega | decide | exact zi | (refine ⟨?_, ?_⟩ <;> first | omega | decide | exact zi))))
        cbv
        refine CS.le hA (a4) [] rfl rfl rfl ?_ ?_ ?_
        iterate 2 ((try cbv) <;> (repeat' (first | exact trivial | exact rfl | apply And.intro | exact fun _ => rfl | (intro _ hle; first | refine chunk_le hA rfl hle rfl ?_ | refine cat_le hA ?_ | refine upd_le hA ?_ | (try cbv)))) <;> (try (subst hA; (try simp only [zn] at *); (try (simp only [Ar.real, NV.val, zo, zt])); first | done | omega | decide | exact zi | (refine ⟨?_, ?_⟩ <;> first | omega | decide | exact zi))))
        cbv
        first | refine testR k1 rfl ?_ | refine testL k1 rfl ?_
        cbv
        refine Fin.le hA 3 [(3, 3)] (.tup [.sl 3 1 (.l 0) (.s c), .int .i64 (x : Int)]) ((3, LgR c (fun i => (g i).1) (fun i => (g i).2)) :: DHd N d) 4 rfl rfl rfl ?_ ?_ (by rw [← hK]; exact ⟨rfl, rfl, rfl⟩)
        · (try cbv) <;> (repeat' (first | exact trivial | exact rfl | apply And.intro | exact fun _ => rfl | (intro _ hle; first | refine chunk_le hA rfl hle rfl ?_ | refine cat_le hA ?_ | refine upd_le hA ?_ | refine int_le ?_ | skip)))
        · (try cbv) <;> (repeat' (first | exact trivial | exact rfl | apply And.intro | exact fun _ => rfl | (intro _ hle; first | refine chunk_le hA rfl hle rfl ?_ | refine cat_le hA ?_ | refine upd_le hA ?_ | refine int_le ?_ | skip)))
      have hok := Classical.not_not.1 hok
      have a4 := a3.1 hok
      rw [recP_some hg hok] at hsc
      clear a3 hok
      obtain ⟨n4, hn4⟩ : ∃ n4, n4 = n - 4 := ⟨_, rfl⟩
      rw [← hn4] at a4 hsc
      obtain ⟨g', hg'⟩ : ∃ g' : Nat → Nat × (Nat → Int), g' = fun i => if i < c then g i else (n4, f) := ⟨_, rfl⟩
      rw [← hg'] at hsc
      refine CS.le hA (a2) [(0, 0), (1, 1), (2, 2)] rfl rfl rfl ?_ ?_ ?_
      iterate 2 ((try cbv) <;> (repeat' (first | exact trivial | exact rfl | apply And.intro | exact fun _ => rfl | (intro _ hle; first | refine chunk_le hA rfl hle rfl ?_ | refine cat_le hA ?_ | refine upd_le hA ?_ | (try cbv)))) <;> (try (subst hA; (try simp only [zn] at *); (try (simp only [Ar.real, NV.val, zo, zt])); first | done | omega | decide | exact zi | (refine ⟨?_, ?_⟩ <;> first | omega | decide | exact zi))))
      cbv
      refine CS.le hA (a4) [] rfl rfl rfl ?_ ?_ ?_
      iterate 2 ((try cbv) <;> (repeat' (first | exact trivial | exact rfl | apply And.intro | exact fun _ => rfl | (intro _ hle; first | refine chunk_le hA rfl hle rfl ?_ | refine cat_le hA ?_ | refine upd_le hA ?_ | (try cbv)))) <;> (try (subst hA; (try simp only [zn] at *); (try (simp only [Ar.real, NV.val, zo, zt])); first | done | omega | decide | exact zi | (refine ⟨?_, ?_⟩ <;> first | omega | decide | exact zi))))
      cbv
      have hpush : ∀ e, ltNV A e (.s (A.addN c 1)) → leL (leSV A 4) (catG A 1 (.s c) (fun e => [.ro 1 (.s ((fun i => (g i).1) e.val)) (fun x => [.int .u8 ((fun i => (g i).2) e.val x.val)])]) (fun x => chunkS A 1 [.ro 1 (.s n4) (fun x => [.int .u8 (f x.val)])] (addNV A (.l 0) x)) e) [.ro 1 (.s ((fun i => (g' i).1) e.val)) (fun x => [.int .u8 ((fun i => (g' i).2) e.val x.val)])] := fun e he => by
        have he : e.val < c + 1 := by subst hA; exact ltNV_real.1 he
        have hlen : (g' e.val).1 = if e.val < c then (g e.val).1 else n4 := by
          rw [hg']; simp only []
          by_cases q : e.val < c
          · rw [if_pos q, if_pos q]
          · rw [if_neg q, if_neg q]
        have hrow : ∀ j, j < (g' e.val).1 → (g' e.val).2 j = if e.val < c then (g e.val).2 j else f j := fun j _ => by
          rw [hg']; simp only []
          by_cases q : e.val < c
          · rw [if_pos q, if_pos q]
          · rw [if_neg q, if_neg q]
        exact rows_push (len := fun i => (g i).1) (len' := fun i => (g' i).1) (g := fun i => (g i).2) (g' := fun i => (g' i).2) (h := f) hA (by omega) hlen hrow
      refine ⟨⟨?_, ?_, ?_⟩, hR _ _ _ _ ⟨next, c + 1, g', 3, [(36, 3)], rfl, rfl, ?_, ⟨hnx.2.1, by omega, k', by omega, hsc⟩, (by show en - next < en - x; omega)⟩⟩
      iterate 3 (subst hA; (try simp only [zn] at *); (try (simp only [Ar.real, NV.val, zo, zt])); first | done | omega | decide | exact zi | (refine ⟨?_, ?_⟩ <;> first | omega | decide | exact zi))
      clear hR
      (try cbv) <;> (repeat' (first | exact trivial | exact rfl | apply And.intro | exact fun _ => rfl | (intro _ hle; first | exact hpush _ hle | refine chunk_le hA rfl hle rfl ?_ | refine cat_le hA ?_ | refine upd_le hA ?_ | refine int_le ?_ | skip)))
      all_goals (subst hA; (try simp only [zn] at *); (try (simp only [Ar.real, NV.val, zo, zt])); first | done | omega | decide | exact zi | (refine ⟨?_, ?_⟩ <;> first | omega | decide | exact zi))
end
end Go.Proofs.YtnjjgipblimbfaaGreatDoor.Dsk
namespace Go.Proofs.YtnjjgipblimbfaaGreatDoor.Dsk
open Go.Eng
open Go.DskLaw (q64 secV isB needN pcs getP)
open Go.WalLaw
open Go.CrcLaw (four)
set_option maxRecDepth 100000
set_option maxHeartbeats 1000000
section
variable {P : Program} {fr : Nat → Int} {N s h gen fi en c last : Nat} {d d1 d2 : Dk} {gs : Nat → Nat × (Nat → Int)}
theorem open_small {G : Gl} (hP : P = Tryz.prog) (hN : N = 64 * s) (hs : s < 4) :
    FnTr P G 7 [.ptr 0 0] (DHd N d) 3 (Gives (.tup [.nilp, .lit .i64 1]) (DHd N d) 3) := by
  have c1 := wasked_small (P := P) (G := G) (S := d.S) (L := d.L) (ar := d.ar) (ca := d.ca) hP hN hs
  have hT : T.Ok P := hP ▸ T_ok
  refine FnTr.intro (fn := Tryz.f7) (c := bodyOf Tryz.f7) (by rw [hP]; rfl) rfl rfl hT ?_
  generalize hA : Ar.real = A
  generalize hK : Gives _ _ _ = K
  cbv
  refine CS.le hA (c1) [(0, 0), (1, 1), (2, 2)] rfl rfl rfl ?_ ?_ ?_
  iterate 2 ((try cbv) <;> (repeat' (first | exact trivial | exact rfl | apply And.intro | exact fun _ => rfl | (intro _ hle; first | refine chunk_le hA rfl hle rfl ?_ | refine cat_le hA ?_ | refine upd_le hA ?_ | (try cbv)))) <;> (try (subst hA; (try simp only [zn] at *); (try (simp only [Ar.real, NV.val, zo, zt])); first | done | omega | decide | exact zi | (refine ⟨?_, ?_⟩ <;> first | omega | decide | exact zi))))
  cbv
  refine Fin.le hA 3 [] (.tup [.nilp, .lit .i64 1]) (DHd N d) 3 rfl rfl rfl ?_ ?_ (by rw [← hK]; exact ⟨rfl, rfl, rfl⟩)
  iterate 2 ((try cbv) <;> (repeat' (first | exact trivial | exact rfl | apply And.intro | exact fun _ => rfl | (intro _ hle; first | refine chunk_le hA rfl hle rfl ?_ | refine cat_le hA ?_ | refine upd_le hA ?_ | (try cbv)))))
theorem open_off {G : Gl} (hP : P = Tryz.prog) (hN : N = 64 * s) (hs : 4 ≤ s ∧ s ≤ 4096) (ho : offD d) :
    FnTr P G 7 [.ptr 0 0] (DHd N d) 3 (Gives (.tup [.nilp, .lit .i64 6]) (DHd N d) 3) := by
  have c1 := wasked_ok (P := P) (G := G) (S := d.S) (L := d.L) (ar := d.ar) (ca := d.ca) hP hN hs
  have c3 := newest_off (P := P) (G := G) (N := N) (S := d.S) (L := d.L) hP ho
  have hT : T.Ok P := hP ▸ T_ok
  refine FnTr.intro (fn := Tryz.f7) (c := bodyOf Tryz.f7) (by rw [hP]; rfl) rfl rfl hT ?_
  generalize hA : Ar.real = A
  generalize hK : Gives _ _ _ = K
  cbv
  refine CS.le hA (c1) [(0, 0), (1, 1), (2, 2)] rfl rfl rfl ?_ ?_ ?_
  iterate 2 ((try cbv) <;> (repeat' (first | exact trivial | exact rfl | apply And.intro | exact fun _ => rfl | (intro _ hle; first | refine chunk_le hA rfl hle rfl ?_ | refine cat_le hA ?_ | refine upd_le hA ?_ | (try cbv)))) <;> (try (subst hA; (try simp only [zn] at *); (try (simp only [Ar.real, NV.val, zo, zt])); first | done | omega | decide | exact zi | (refine ⟨?_, ?_⟩ <;> first | omega | decide | exact zi))))
  cbv
  refine CS.le hA (c3) [(0, 0), (1, 1), (2, 2)] rfl rfl rfl ?_ ?_ ?_
  iterate 2 ((try cbv) <;> (repeat' (first | exact trivial | exact rfl | apply And.intro | exact fun _ => rfl | (intro _ hle; first | refine chunk_le hA rfl hle rfl ?_ | refine cat_le hA ?_ | refine upd_le hA ?_ | (try cbv)))) <;> (try (subst hA; (try simp only [zn] at *); (try (simp only [Ar.real, NV.val, zo, zt])); first | done | omega | decide | exact zi | (refine ⟨?_, ?_⟩ <;> first | omega | decide | exact zi))))
  cbv
  refine Fin.le hA 3 [] (.tup [.nilp, .lit .i64 6]) (DHd N d) 3 rfl rfl rfl ?_ ?_ (by rw [← hK]; exact ⟨rfl, rfl, rfl⟩)
  iterate 2 ((try cbv) <;> (repeat' (first | exact trivial | exact rfl | apply And.intro | exact fun _ => rfl | (intro _ hle; first | refine chunk_le hA rfl hle rfl ?_ | refine cat_le hA ?_ | refine upd_le hA ?_ | (try cbv)))))
theorem open_none {G : Gl} (hP : P = Tryz.prog) (hN : N = 64 * s) (hs : 4 ≤ s ∧ s ≤ 4096) (hg : gen = 0)
    (cN : FnTr P G 28 [.ptr 0 0] (DHd N d) 3 (Gives (.tup [.int .i64 (gen : Int), .lit .i64 0]) (DHd N d) 3)) :
    FnTr P G 7 [.ptr 0 0] (DHd N d) 3 (Gives (.tup [.nilp, .lit .i64 4]) (DHd N d) 3) := by
  have c1 := wasked_ok (P := P) (G := G) (S := d.S) (L := d.L) (ar := d.ar) (ca := d.ca) hP hN hs
  have hT : T.Ok P := hP ▸ T_ok
  refine FnTr.intro (fn := Tryz.f7) (c := bodyOf Tryz.f7) (by rw [hP]; rfl) rfl rfl hT ?_
  generalize hA : Ar.real = A
  generalize hK : Gives _ _ _ = K
  cbv
  have k1 : A.eq (gen : Int) 0 = true := by clear c1 cN; subst hA; simp [Ar.real]; omega
  refine CS.le hA (c1) [(0, 0), (1, 1), (2, 2)] rfl rfl rfl ?_ ?_ ?_
  iterate 2 ((try cbv) <;> (repeat' (first | exact trivial | exact rfl | apply And.intro | exact fun _ => rfl | (intro _ hle; first | refine chunk_le hA rfl hle rfl ?_ | refine cat_le hA ?_ | refine upd_le hA ?_ | (try cbv)))) <;> (try (subst hA; (try simp only [zn] at *); (try (simp only [Ar.real, NV.val, zo, zt])); first | done | omega | decide | exact zi | (refine ⟨?_, ?_⟩ <;> first | omega | decide | exact zi))))
  cbv
  refine CS.le hA (cN) [(0, 0), (1, 1), (2, 2)] rfl rfl rfl ?_ ?_ ?_
  iterate 2 ((try cbv) <;> (repeat' (first | exact trivial | exact rfl | apply And.intro | exact fun _ => rfl | (intro _ hle; first | refine chunk_le hA rfl hle rfl ?_ | refine cat_le hA ?_ | refine upd_le hA ?_ | (try cbv)))) <;> (try (subst hA; (try simp only [zn] at *); (try (simp only [Ar.real, NV.val, zo, zt])); first | done | omega | decide | exact zi | (refine ⟨?_, ?_⟩ <;> first | omega | decide | exact zi))))
  cbv
  first | refine testR k1 rfl ?_ | refine testL k1 rfl ?_
  cbv
  refine Fin.le hA 3 [] (.tup [.nilp, .lit .i64 4]) (DHd N d) 3 rfl rfl rfl ?_ ?_ (by rw [← hK]; exact ⟨rfl, rfl, rfl⟩)
  iterate 2 ((try cbv) <;> (repeat' (first | exact trivial | exact rfl | apply And.intro | exact fun _ => rfl | (intro _ hle; first | refine chunk_le hA rfl hle rfl ?_ | refine cat_le hA ?_ | refine upd_le hA ?_ | (try cbv)))))
theorem open_log {G : Gl} (hP : P = Tryz.prog) (hN : N = 64 * s) (hs : 4 ≤ s ∧ s ≤ 4096) (hg : 0 < gen) (hc : c = 0)
    (cN : FnTr P G 28 [.ptr 0 0] (DHd N d) 3 (Gives (.tup [.int .i64 (gen : Int), .lit .i64 0]) (DHd N d) 3))
    (cR : FnTr P G 29 [.ptr 0 0, .int .i64 (gen : Int)] (DHd N d) 3 (Gives (.tup [.sl 3 1 (.l 0) (.s c), .int .i64 (last : Int)]) ((3, LgR c (fun i => (gs i).1) (fun i => (gs i).2)) :: DHd N d) 4)) :
    FnTr P G 7 [.ptr 0 0] (DHd N d) 3 (Gives (.tup [.nilp, .lit .i64 270]) (DHd N d) 3) := by
  have c1 := wasked_ok (P := P) (G := G) (S := d.S) (L := d.L) (ar := d.ar) (ca := d.ca) hP hN hs
  have hT : T.Ok P := hP ▸ T_ok
  refine FnTr.intro (fn := Tryz.f7) (c := bodyOf Tryz.f7) (by rw [hP]; rfl) rfl rfl hT ?_
  generalize hA : Ar.real = A
  generalize hK : Gives _ _ _ = K
  cbv
  have k1 : A.eq (gen : Int) 0 = false := by clear c1 cN cR; subst hA; simp [Ar.real]; omega
  have k2 : A.eq (A.i2 c) 0 = true := by clear c1 cN cR; subst hA; simp [Ar.real]; omega
  refine CS.le hA (c1) [(0, 0), (1, 1), (2, 2)] rfl rfl rfl ?_ ?_ ?_
  iterate 2 ((try cbv) <;> (repeat' (first | exact trivial | exact rfl | apply And.intro | exact fun _ => rfl | (intro _ hle; first | refine chunk_le hA rfl hle rfl ?_ | refine cat_le hA ?_ | refine upd_le hA ?_ | (try cbv)))) <;> (try (subst hA; (try simp only [zn] at *); (try (simp only [Ar.real, NV.val, zo, zt])); first | done | omega | decide | exact zi | (refine ⟨?_, ?_⟩ <;> first | omega | decide | exact zi))))
  cbv
  refine CS.le hA (cN) [(0, 0), (1, 1), (2, 2)] rfl rfl rfl ?_ ?_ ?_
  iterate 2 ((try cbv) <;> (repeat' (first | exact trivial | exact rfl | apply And.intro | exact fun _ => rfl | (intro _ hle; first | refine chunk_le hA rfl hle rfl ?_ | refine cat_le hA ?_ | refine upd_le hA ?_ | (try cbv)))) <;> (try (subst hA; (try simp only [zn] at *); (try (simp only [Ar.real, NV.val, zo, zt])); first | done | omega | decide | exact zi | (refine ⟨?_, ?_⟩ <;> first | omega | decide | exact zi))))
  cbv
  first | refine testR k1 rfl ?_ | refine testL k1 rfl ?_
  cbv
  refine CS.le hA (cR) [(0, 0), (1, 1), (2, 2)] rfl rfl rfl ?_ ?_ ?_
  iterate 2 ((try cbv) <;> (repeat' (first | exact trivial | exact rfl | apply And.intro | exact fun _ => rfl | (intro _ hle; first | refine chunk_le hA rfl hle rfl ?_ | refine cat_le hA ?_ | refine upd_le hA ?_ | (try cbv)))) <;> (try (subst hA; (try simp only [zn] at *); (try (simp only [Ar.real, NV.val, zo, zt])); first | done | omega | decide | exact zi | (refine ⟨?_, ?_⟩ <;> first | omega | decide | exact zi))))
  cbv
  first | refine testR k2 rfl ?_ | refine testL k2 rfl ?_
  cbv
  refine Fin.le hA 3 [] (.tup [.nilp, .lit .i64 270]) (DHd N d) 3 rfl rfl rfl ?_ ?_ (by rw [← hK]; exact ⟨rfl, rfl, rfl⟩)
  iterate 2 ((try cbv) <;> (repeat' (first | exact trivial | exact rfl | apply And.intro | exact fun _ => rfl | (intro _ hle; first | refine chunk_le hA rfl hle rfl ?_ | refine cat_le hA ?_ | refine upd_le hA ?_ | (try cbv)))))
theorem open_part {G : Gl} (hP : P = Tryz.prog) (hN : N = 64 * s) (hr : Reg s h gen fi en) (hg : 0 < gen) (hc : 0 < c) (ok : DkOk s d) (ho : ¬ offD d) (hl : last ≤ en) (hw : wipeD d last en = (none, d1))
    (cN : FnTr P G 28 [.ptr 0 0] (DHd N d) 3 (Gives (.tup [.int .i64 (gen : Int), .lit .i64 0]) (DHd N d) 3))
    (cR : FnTr P G 29 [.ptr 0 0, .int .i64 (gen : Int)] (DHd N d) 3 (Gives (.tup [.sl 3 1 (.l 0) (.s c), .int .i64 (last : Int)]) ((3, LgR c (fun i => (gs i).1) (fun i => (gs i).2)) :: DHd N d) 4)) :
    FnTr P G 7 [.ptr 0 0] (DHd N d) 3 (Gives (.tup [.nilp, .lit .i64 6]) (DHd N d1) 3) := by
  have c1 := wasked_ok (P := P) (G := G) (S := d.S) (L := d.L) (ar := d.ar) (ca := d.ca) hP hN hr.hs
  have c2 := end_fn (P := P) (G := G) (S := d.S) (L := d.L) (ar := d.ar) (ca := d.ca) hP hN hr.hs hr.hh hr.hg hr.hfi hr.hen
  have c3 := wipe_part (P := P) (G := G) hP hN hr.hs.2 ok.hca ⟨hl, hr.le.2.2⟩ ho hw
  clear hr ok ho hw hN
  have hT : T.Ok P := hP ▸ T_ok
  refine FnTr.intro (fn := Tryz.f7) (c := bodyOf Tryz.f7) (by rw [hP]; rfl) rfl rfl hT ?_
  generalize hA : Ar.real = A
  generalize hK : Gives _ _ _ = K
  cbv
  have k1 : A.eq (gen : Int) 0 = false := by clear c1 cN cR c2 c3; subst hA; simp [Ar.real]; omega
  have k2 : A.eq (A.i2 c) 0 = false := by clear c1 cN cR c2 c3; subst hA; simp [Ar.real]; omega
  refine CS.le hA (c1) [(0, 0), (1, 1), (2, 2)] rfl rfl rfl ?_ ?_ ?_
  iterate 2 ((try cbv) <;> (repeat' (first | exact trivial | exact rfl | apply And.intro | exact fun _ => rfl | (intro _ hle; first | refine chunk_le hA rfl hle rfl ?_ | refine cat_le hA ?_ | refine upd_le hA ?_ | (try cbv)))) <;> (try (subst hA; (try simp only [zn] at *); (try (simp only [Ar.real, NV.val, zo, zt])); first | done | omega | decide | exact zi | (refine ⟨?_, ?_⟩ <;> first | omega | decide | exact zi))))
  cbv
  refine CS.le hA (cN) [(0, 0), (1, 1), (2, 2)] rfl rfl rfl ?_ ?_ ?_
  iterate 2 ((try cbv) <;> (repeat' (first | exact trivial | exact rfl | apply And.intro | exact fun _ => rfl | (intro _ hle; first | refine chunk_le hA rfl hle rfl ?_ | refine cat_le hA ?_ | refine upd_le hA ?_ | (try cbv)))) <;> (try (subst hA; (try simp only [zn] at *); (try (simp only [Ar.real, NV.val, zo, zt])); first | done | omega | decide | exact zi | (refine ⟨?_, ?_⟩ <;> first | omega | decide | exact zi))))
  cbv
  first | refine testR k1 rfl ?_ | refine testL k1 rfl ?_
  cbv
  refine CS.le hA (cR) [(0, 0), (1, 1), (2, 2)] rfl rfl rfl ?_ ?_ ?_
  iterate 2 ((try cbv) <;> (repeat' (first | exact trivial | exact rfl | apply And.intro | exact fun _ => rfl | (intro _ hle; first | refine chunk_le hA rfl hle rfl ?_ | refine cat_le hA ?_ | refine upd_le hA ?_ | (try cbv)))) <;> (try (subst hA; (try simp only [zn] at *); (try (simp only [Ar.real, NV.val, zo, zt])); first | done | omega | decide | exact zi | (refine ⟨?_, ?_⟩ <;> first | omega | decide | exact zi))))
  cbv
  first | refine testR k2 rfl ?_ | refine testL k2 rfl ?_
  cbv
  refine CS.le hA (c2) [(0, 0), (1, 1), (2, 2)] rfl rfl rfl ?_ ?_ ?_
  iterate 2 ((try cbv) <;> (repeat' (first | exact trivial | exact rfl | apply And.intro | exact fun _ => rfl | (intro _ hle; first | refine chunk_le hA rfl hle rfl ?_ | refine cat_le hA ?_ | refine upd_le hA ?_ | (try cbv)))) <;> (try (subst hA; (try simp only [zn] at *); (try (simp only [Ar.real, NV.val, zo, zt])); first | done | omega | decide | exact zi | (refine ⟨?_, ?_⟩ <;> first | omega | decide | exact zi))))
  cbv
  refine CS.le hA (c3) [(0, 0), (1, 1), (2, 2)] rfl rfl rfl ?_ ?_ ?_
  iterate 2 ((try cbv) <;> (repeat' (first | exact trivial | exact rfl | apply And.intro | exact fun _ => rfl | (intro _ hle; first | refine chunk_le hA rfl hle rfl ?_ | refine cat_le hA ?_ | refine upd_le hA ?_ | (try cbv)))) <;> (try (subst hA; (try simp only [zn] at *); (try (simp only [Ar.real, NV.val, zo, zt])); first | done | omega | decide | exact zi | (refine ⟨?_, ?_⟩ <;> first | omega | decide | exact zi))))
  cbv
  refine Fin.le hA 3 [] (.tup [.nilp, .lit .i64 6]) (DHd N d1) 3 rfl rfl rfl ?_ ?_ (by rw [← hK]; exact ⟨rfl, rfl, rfl⟩)
  iterate 2 ((try cbv) <;> (repeat' (first | exact trivial | exact rfl | apply And.intro | exact fun _ => rfl | (intro _ hle; first | refine chunk_le hA rfl hle rfl ?_ | refine cat_le hA ?_ | refine upd_le hA ?_ | (try cbv)))))
theorem open_ok0 {G : Gl} {m cc : Nat} (hP : P = Tryz.prog) (hN : N = 64 * s) (hr : Reg s h gen fi en) (hg : 0 < gen) (hc : c = cc + 1) (hcl : c ≤ 1000000) (ok : DkOk s d) (ho : ¬ offD d) (hl : last ≤ en) (hm : m = 0) (hw : wipeD d last en = (some m, d1))
    (cN : FnTr P G 28 [.ptr 0 0] (DHd N d) 3 (Gives (.tup [.int .i64 (gen : Int), .lit .i64 0]) (DHd N d) 3))
    (cR : FnTr P G 29 [.ptr 0 0, .int .i64 (gen : Int)] (DHd N d) 3 (Gives (.tup [.sl 3 1 (.l 0) (.s c), .int .i64 (last : Int)]) ((3, LgR c (fun i => (gs i).1) (fun i => (gs i).2)) :: DHd N d) 4)) :
    FnTr P G 7 [.ptr 0 0] (DHd N d) 3 (Gives (.tup [.ptr 3 0, .lit .i64 0]) (LgH N d1 gen last (gs 0).1 (gs 0).2 (.s 1) cc cc false c (fun i => (gs i).1) (fun i => (gs i).2)) 100) := by
  have c1 := wasked_ok (P := P) (G := G) (S := d.S) (L := d.L) (ar := d.ar) (ca := d.ca) hP hN hr.hs
  have c2 := end_fn (P := P) (G := G) (S := d.S) (L := d.L) (ar := d.ar) (ca := d.ca) hP hN hr.hs hr.hh hr.hg hr.hfi hr.hen
  have c3 := wipe_all (P := P) (G := G) hP hN hr.hs.2 ok.hca ⟨hl, hr.le.2.2⟩ ho hw
  clear hr ok ho hw hN
  have hT : T.Ok P := hP ▸ T_ok
  refine FnTr.intro (fn := Tryz.f7) (c := bodyOf Tryz.f7) (by rw [hP]; rfl) rfl rfl hT ?_
  generalize hA : Ar.real = A
  generalize hK : Gives _ _ _ = K
  cbv
  have k1 : A.eq (gen : Int) 0 = false := by clear c1 cN cR c2 c3; subst hA; simp [Ar.real]; omega
  have k2 : A.eq (A.i2 c) 0 = false := by clear c1 cN cR c2 c3; subst hA; simp [Ar.real]; omega
  have k3 : A.gt (m : Int) 0 = false := by clear c1 cN cR c2 c3; subst hA; simp [Ar.real]; omega
  refine CS.le hA (c1) [(0, 0), (1, 1), (2, 2)] rfl rfl rfl ?_ ?_ ?_
  iterate 2 ((try cbv) <;> (repeat' (first | exact trivial | exact rfl | apply And.intro | exact fun _ => rfl | (intro _ hle; first | refine chunk_le hA rfl hle rfl ?_ | refine cat_le hA ?_ | refine upd_le hA ?_ | (try cbv)))) <;> (try (subst hA; (try simp only [zn] at *); (try (simp only [Ar.real, NV.val, zo, zt])); first | done | omega | decide | exact zi | (refine ⟨?_, ?_⟩ <;> first | omega | decide | exact zi))))
  cbv
  refine CS.le hA (cN) [(0, 0), (1, 1), (2, 2)] rfl rfl rfl ?_ ?_ ?_
  iterate 2 ((try cbv) <;> (repeat' (first | exact trivial | exact rfl | apply And.intro | exact fun _ => rfl | (intro _ hle; first | refine chunk_le hA rfl hle rfl ?_ | refine cat_le hA ?_ | refine upd_le hA ?_ | (try cbv)))) <;> (try (subst hA; (try simp only [zn] at *); (try (simp only [Ar.real, NV.val, zo, zt])); first | done | omega | decide | exact zi | (refine ⟨?_, ?_⟩ <;> first | omega | decide | exact zi))))
  cbv
  first | refine testR k1 rfl ?_ | refine testL k1 rfl ?_
  cbv
  refine CS.le hA (cR) [(0, 0), (1, 1), (2, 2)] rfl rfl rfl ?_ ?_ ?_
  iterate 2 ((try cbv) <;> (repeat' (first | exact trivial | exact rfl | apply And.intro | exact fun _ => rfl | (intro _ hle; first | refine chunk_le hA rfl hle rfl ?_ | refine cat_le hA ?_ | refine upd_le hA ?_ | (try cbv)))) <;> (try (subst hA; (try simp only [zn] at *); (try (simp only [Ar.real, NV.val, zo, zt])); first | done | omega | decide | exact zi | (refine ⟨?_, ?_⟩ <;> first | omega | decide | exact zi))))
  cbv
  first | refine testR k2 rfl ?_ | refine testL k2 rfl ?_
  cbv
  refine CS.le hA (c2) [(0, 0), (1, 1), (2, 2)] rfl rfl rfl ?_ ?_ ?_
  iterate 2 ((try cbv) <;> (repeat' (first | exact trivial | exact rfl | apply And.intro | exact fun _ => rfl | (intro _ hle; first | refine chunk_le hA rfl hle rfl ?_ | refine cat_le hA ?_ | refine upd_le hA ?_ | (try cbv)))) <;> (try (subst hA; (try simp only [zn] at *); (try (simp only [Ar.real, NV.val, zo, zt])); first | done | omega | decide | exact zi | (refine ⟨?_, ?_⟩ <;> first | omega | decide | exact zi))))
  cbv
  refine CS.le hA (c3) [(0, 0), (1, 1), (2, 2)] rfl rfl rfl ?_ ?_ ?_
  iterate 2 ((try cbv) <;> (repeat' (first | exact trivial | exact rfl | apply And.intro | exact fun _ => rfl | (intro _ hle; first | refine chunk_le hA rfl hle rfl ?_ | refine cat_le hA ?_ | refine upd_le hA ?_ | (try cbv)))) <;> (try (subst hA; (try simp only [zn] at *); (try (simp only [Ar.real, NV.val, zo, zt])); first | done | omega | decide | exact zi | (refine ⟨?_, ?_⟩ <;> first | omega | decide | exact zi))))
  cbv
  first | refine testR k3 rfl ?_ | refine testL k3 rfl ?_
  cbv
  refine DS.runK hA hT (by rw [hP]; exact P_mixed) 30 rfl ?_
  cbv
  refine ⟨?_, ?_, ⟨?_, ?_, ?_⟩, ?_, ?_⟩
  iterate 6 (subst hA; (try simp only [zn] at *); (try (simp only [Ar.real, NV.val, zo, zt])); first | done | omega | decide | exact zi | (refine ⟨?_, ?_⟩ <;> first | omega | decide | exact zi))
  refine DF.fin (by kernel_rfl) (by kernel_rfl) ?_
  cbv
  refine Fin.le hA 3 [(424, 3), (32, 4)] (.tup [.ptr 3 0, .lit .i64 0]) (LgH N d1 gen last (gs 0).1 (gs 0).2 (.s 1) cc cc false c (fun i => (gs i).1) (fun i => (gs i).2)) 100 rfl rfl rfl ?_ ?_ (by rw [← hK]; exact ⟨rfl, rfl, rfl⟩)
  · (try cbv) <;> (repeat' (first | exact trivial | exact rfl | apply And.intro | exact fun _ => rfl | (intro _ hle; first | refine chunk_le hA rfl hle rfl ?_ | refine cat_le hA ?_ | refine upd_le hA ?_ | refine int_le ?_ | skip)))
  · (try cbv) <;> (repeat' (first | exact trivial | exact rfl | apply And.intro | exact fun _ => rfl | (intro _ hle; first | refine chunk_le hA rfl hle rfl ?_ | refine cat_le hA ?_ | refine upd_le hA ?_ | refine int_le ?_ | skip)))
    all_goals (clear k1 k2 k3 c1 c2 c3 cN cR)
    all_goals first | (subst hc; subst hA; rfl) | (subst hA; (try simp only [zn] at *); (try (simp only [Ar.real, NV.val, zo, zt])); first | done | omega | decide | exact zi | (refine ⟨?_, ?_⟩ <;> first | omega | decide | exact zi)) | trace_state
theorem open_okF {G : Gl} {m cc : Nat} (hP : P = Tryz.prog) (hN : N = 64 * s) (hr : Reg s h gen fi en) (hg : 0 < gen) (hc : c = cc + 1) (hcl : c ≤ 1000000) (ok : DkOk s d) (ho : ¬ offD d) (hl : last ≤ en) (hm : 0 < m) (ok1 : DkOk s d1) (o1 : ¬ offD d1) (hd2 : d2 = flushD d1) (hw : wipeD d last en = (some m, d1))
    (cN : FnTr P G 28 [.ptr 0 0] (DHd N d) 3 (Gives (.tup [.int .i64 (gen : Int), .lit .i64 0]) (DHd N d) 3))
    (cR : FnTr P G 29 [.ptr 0 0, .int .i64 (gen : Int)] (DHd N d) 3 (Gives (.tup [.sl 3 1 (.l 0) (.s c), .int .i64 (last : Int)]) ((3, LgR c (fun i => (gs i).1) (fun i => (gs i).2)) :: DHd N d) 4)) :
    FnTr P G 7 [.ptr 0 0] (DHd N d) 3 (Gives (.tup [.ptr 3 0, .lit .i64 0]) (LgH N d2 gen last (gs 0).1 (gs 0).2 (.s 1) cc cc false c (fun i => (gs i).1) (fun i => (gs i).2)) 100) := by
  have c1 := wasked_ok (P := P) (G := G) (S := d.S) (L := d.L) (ar := d.ar) (ca := d.ca) hP hN hr.hs
  have c2 := end_fn (P := P) (G := G) (S := d.S) (L := d.L) (ar := d.ar) (ca := d.ca) hP hN hr.hs hr.hh hr.hg hr.hfi hr.hen
  have c3 := wipe_all (P := P) (G := G) hP hN hr.hs.2 ok.hca ⟨hl, hr.le.2.2⟩ ho hw
  have c4 := flush_all (P := P) (G := G) hP hN ⟨by have := hr.hs; omega, hr.hs.2⟩ ok1 o1 hd2
  clear hr ok ho hw hN ok1 o1 hd2
  have hT : T.Ok P := hP ▸ T_ok
  refine FnTr.intro (fn := Tryz.f7) (c := bodyOf Tryz.f7) (by rw [hP]; rfl) rfl rfl hT ?_
  generalize hA : Ar.real = A
  generalize hK : Gives _ _ _ = K
  cbv
  have k1 : A.eq (gen : Int) 0 = false := by clear c1 cN cR c2 c3 c4; subst hA; simp [Ar.real]; omega
  have k2 : A.eq (A.i2 c) 0 = false := by clear c1 cN cR c2 c3 c4; subst hA; simp [Ar.real]; omega
  have k3 : A.gt (m : Int) 0 = true := by clear c1 cN cR c2 c3 c4; subst hA; simp [Ar.real]; omega
  refine CS.le hA (c1) [(0, 0), (1, 1), (2, 2)] rfl rfl rfl ?_ ?_ ?_
  iterate 2 ((try cbv) <;> (repeat' (first | exact trivial | exact rfl | apply And.intro | exact fun _ => rfl | (intro _ hle; first | refine chunk_le hA rfl hle rfl ?_ | refine cat_le hA ?_ | refine upd_le hA ?_ | (try cbv)))) <;> (try (subst hA; (try simp only [zn] at *); (try (simp only [Ar.real, NV.val, zo, zt])); first | done | omega | decide | exact zi | (refine ⟨?_, ?_⟩ <;> first | omega | decide | exact zi))))
  cbv
  refine CS.le hA (cN) [(0, 0), (1, 1), (2, 2)] rfl rfl rfl ?_ ?_ ?_
  iterate 2 ((try cbv) <;> (repeat' (first | exact trivial | exact rfl | apply And.intro | exact fun _ => rfl | (intro _ hle; first | refine chunk_le hA rfl hle rfl ?_ | refine cat_le hA ?_ | refine upd_le hA ?_ | (try cbv)))) <;> (try (subst hA; (try simp only [zn] at *); (try (simp only [Ar.real, NV.val, zo, zt])); first | done | omega | decide | exact zi | (refine ⟨?_, ?_⟩ <;> first | omega | decide | exact zi))))
  cbv
  first | refine testR k1 rfl ?_ | refine testL k1 rfl ?_
  cbv
  refine CS.le hA (cR) [(0, 0), (1, 1), (2, 2)] rfl rfl rfl ?_ ?_ ?_
  iterate 2 ((try cbv) <;> (repeat' (first | exact trivial | exact rfl | apply And.intro | exact fun _ => rfl | (intro _ hle; first | refine chunk_le hA rfl hle rfl ?_ | refine cat_le hA ?_ | refine upd_le hA ?_ | (try cbv)))) <;> (try (subst hA; (try simp only [zn] at *); (try (simp only [Ar.real, NV.val, zo, zt])); first | done | omega | decide | exact zi | (refine ⟨?_, ?_⟩ <;> first | omega | decide | exact zi))))
  cbv
  first | refine testR k2 rfl ?_ | refine testL k2 rfl ?_
  cbv
  refine CS.le hA (c2) [(0, 0), (1, 1), (2, 2)] rfl rfl rfl ?_ ?_ ?_
  iterate 2 ((try cbv) <;> (repeat' (first | exact trivial | exact rfl | apply And.intro | exact fun _ => rfl | (intro _ hle; first | refine chunk_le hA rfl hle rfl ?_ | refine cat_le hA ?_ | refine upd_le hA ?_ | (try cbv)))) <;> (try (subst hA; (try simp only [zn] at *); (try (simp only [Ar.real, NV.val, zo, zt])); first | done | omega | decide | exact zi | (refine ⟨?_, ?_⟩ <;> first | omega | decide | exact zi))))
  cbv
  refine CS.le hA (c3) [(0, 0), (1, 1), (2, 2)] rfl rfl rfl ?_ ?_ ?_
  iterate 2 ((try cbv) <;> (repeat' (first | exact trivial | exact rfl | apply And.intro | exact fun _ => rfl | (intro _ hle; first | refine chunk_le hA rfl hle rfl ?_ | refine cat_le hA ?_ | refine upd_le hA ?_ | (try cbv)))) <;> (try (subst hA; (try simp only [zn] at *); (try (simp only [Ar.real, NV.val, zo, zt])); first | done | omega | decide | exact zi | (refine ⟨?_, ?_⟩ <;> first | omega | decide | exact zi))))
  cbv
  first | refine testR k3 rfl ?_ | refine testL k3 rfl ?_
  cbv
  refine CS.le hA (c4) [(0, 0), (1, 1), (2, 2)] rfl rfl rfl ?_ ?_ ?_
  iterate 2 ((try cbv) <;> (repeat' (first | exact trivial | exact rfl | apply And.intro | exact fun _ => rfl | (intro _ hle; first | refine chunk_le hA rfl hle rfl ?_ | refine cat_le hA ?_ | refine upd_le hA ?_ | (try cbv)))) <;> (try (subst hA; (try simp only [zn] at *); (try (simp only [Ar.real, NV.val, zo, zt])); first | done | omega | decide | exact zi | (refine ⟨?_, ?_⟩ <;> first | omega | decide | exact zi))))
  cbv
  refine DS.runK hA hT (by rw [hP]; exact P_mixed) 30 rfl ?_
  cbv
  refine ⟨?_, ?_, ⟨?_, ?_, ?_⟩, ?_, ?_⟩
  iterate 6 (subst hA; (try simp only [zn] at *); (try (simp only [Ar.real, NV.val, zo, zt])); first | done | omega | decide | exact zi | (refine ⟨?_, ?_⟩ <;> first | omega | decide | exact zi))
  refine DF.fin (by kernel_rfl) (by kernel_rfl) ?_
  cbv
  refine Fin.le hA 3 [(429, 3), (32, 4)] (.tup [.ptr 3 0, .lit .i64 0]) (LgH N d2 gen last (gs 0).1 (gs 0).2 (.s 1) cc cc false c (fun i => (gs i).1) (fun i => (gs i).2)) 100 rfl rfl rfl ?_ ?_ (by rw [← hK]; exact ⟨rfl, rfl, rfl⟩)
  · (try cbv) <;> (repeat' (first | exact trivial | exact rfl | apply And.intro | exact fun _ => rfl | (intro _ hle; first | refine chunk_le hA rfl hle rfl ?_ | refine cat_le hA ?_ | refine upd_le hA ?_ | refine int_le ?_ | skip)))
  · (try cbv) <;> (repeat' (first | exact trivial | exact rfl | apply And.intro | exact fun _ => rfl | (intro _ hle; first | refine chunk_le hA rfl hle rfl ?_ | refine cat_le hA ?_ | refine upd_le hA ?_ | refine int_le ?_ | skip)))
    all_goals (clear k1 k2 k3 c1 c2 c3 c4 cN cR)
    all_goals first | (subst hc; subst hA; rfl) | (subst hA; (try simp only [zn] at *); (try (simp only [Ar.real, NV.val, zo, zt])); first | done | omega | decide | exact zi | (refine ⟨?_, ?_⟩ <;> first | omega | decide | exact zi)) | trace_state
theorem open_offF {G : Gl} {m cc : Nat} (hP : P = Tryz.prog) (hN : N = 64 * s) (hr : Reg s h gen fi en) (hg : 0 < gen) (hc : c = cc + 1) (hcl : c ≤ 1000000) (ok : DkOk s d) (ho : ¬ offD d) (hl : last ≤ en) (hm : 0 < m) (ok1 : DkOk s d1) (o1 : offD d1) (hw : wipeD d last en = (some m, d1))
    (cN : FnTr P G 28 [.ptr 0 0] (DHd N d) 3 (Gives (.tup [.int .i64 (gen : Int), .lit .i64 0]) (DHd N d) 3))
    (cR : FnTr P G 29 [.ptr 0 0, .int .i64 (gen : Int)] (DHd N d) 3 (Gives (.tup [.sl 3 1 (.l 0) (.s c), .int .i64 (last : Int)]) ((3, LgR c (fun i => (gs i).1) (fun i => (gs i).2)) :: DHd N d) 4)) :
    FnTr P G 7 [.ptr 0 0] (DHd N d) 3 (Gives (.tup [.nilp, .lit .i64 6]) (DHd N d1) 3) := by
  have c1 := wasked_ok (P := P) (G := G) (S := d.S) (L := d.L) (ar := d.ar) (ca := d.ca) hP hN hr.hs
  have c2 := end_fn (P := P) (G := G) (S := d.S) (L := d.L) (ar := d.ar) (ca := d.ca) hP hN hr.hs hr.hh hr.hg hr.hfi hr.hen
  have c3 := wipe_all (P := P) (G := G) hP hN hr.hs.2 ok.hca ⟨hl, hr.le.2.2⟩ ho hw
  have c4 := flush_off (P := P) (G := G) (N := N) (S := d1.S) (L := d1.L) hP o1
  clear hr ok ho hw hN ok1 o1
  have hT : T.Ok P := hP ▸ T_ok
  refine FnTr.intro (fn := Tryz.f7) (c := bodyOf Tryz.f7) (by rw [hP]; rfl) rfl rfl hT ?_
  generalize hA : Ar.real = A
  generalize hK : Gives _ _ _ = K
  cbv
  have k1 : A.eq (gen : Int) 0 = false := by clear c1 cN cR c2 c3 c4; subst hA; simp [Ar.real]; omega
  have k2 : A.eq (A.i2 c) 0 = false := by clear c1 cN cR c2 c3 c4; subst hA; simp [Ar.real]; omega
  have k3 : A.gt (m : Int) 0 = true := by clear c1 cN cR c2 c3 c4; subst hA; simp [Ar.real]; omega
  refine CS.le hA (c1) [(0, 0), (1, 1), (2, 2)] rfl rfl rfl ?_ ?_ ?_
  iterate 2 ((try cbv) <;> (repeat' (first | exact trivial | exact rfl | apply And.intro | exact fun _ => rfl | (intro _ hle; first | refine chunk_le hA rfl hle rfl ?_ | refine cat_le hA ?_ | refine upd_le hA ?_ | (try cbv)))) <;> (try (subst hA; (try simp only [zn] at *); (try (simp only [Ar.real, NV.val, zo, zt])); first | done | omega | decide | exact zi | (refine ⟨?_, ?_⟩ <;> first | omega | decide | exact zi))))
  cbv
  refine CS.le hA (cN) [(0, 0), (1, 1), (2, 2)] rfl rfl rfl ?_ ?_ ?_
  iterate 2 ((try cbv) <;> (repeat' (first | exact trivial | exact rfl | apply And.intro | exact fun _ => rfl | (intro _ hle; first | refine chunk_le hA rfl hle rfl ?_ | refine cat_le hA ?_ | refine upd_le hA ?_ | (try cbv)))) <;> (try (subst hA; (try simp only [zn] at *); (try (simp only [Ar.real, NV.val, zo, zt])); first | done | omega | decide | exact zi | (refine ⟨?_, ?_⟩ <;> first | omega | decide | exact zi))))
  cbv
  first | refine testR k1 rfl ?_ | refine testL k1 rfl ?_
  cbv
  refine CS.le hA (cR) [(0, 0), (1, 1), (2, 2)] rfl rfl rfl ?_ ?_ ?_
  iterate 2 ((try cbv) <;> (repeat' (first | exact trivial | exact rfl | apply And.intro | exact fun _ => rfl | (intro _ hle; first | refine chunk_le hA rfl hle rfl ?_ | refine cat_le hA ?_ | refine upd_le hA ?_ | (try cbv)))) <;> (try (subst hA; (try simp only [zn] at *); (try (simp only [Ar.real, NV.val, zo, zt])); first | done | omega | decide | exact zi | (refine ⟨?_, ?_⟩ <;> first | omega | decide | exact zi))))
  cbv
  first | refine testR k2 rfl ?_ | refine testL k2 rfl ?_
  cbv
  refine CS.le hA (c2) [(0, 0), (1, 1), (2, 2)] rfl rfl rfl ?_ ?_ ?_
  iterate 2 ((try cbv) <;> (repeat' (first | exact trivial | exact rfl | apply And.intro | exact fun _ => rfl | (intro _ hle; first | refine chunk_le hA rfl hle rfl ?_ | refine cat_le hA ?_ | refine upd_le hA ?_ | (try cbv)))) <;> (try (subst hA; (try simp only [zn] at *); (try (simp only [Ar.real, NV.val, zo, zt])); first | done | omega | decide | exact zi | (refine ⟨?_, ?_⟩ <;> first | omega | decide | exact zi))))
  cbv
  refine CS.le hA (c3) [(0, 0), (1, 1), (2, 2)] rfl rfl rfl ?_ ?_ ?_
  iterate 2 ((try cbv) <;> (repeat' (first | exact trivial | exact rfl | apply And.intro | exact fun _ => rfl | (intro _ hle; first | refine chunk_le hA rfl hle rfl ?_ | refine cat_le hA ?_ | refine upd_le hA ?_ | (try cbv)))) <;> (try (subst hA; (try simp only [zn] at *); (try (simp only [Ar.real, NV.val, zo, zt])); first | done | omega | decide | exact zi | (refine ⟨?_, ?_⟩ <;> first | omega | decide | exact zi))))
  cbv
  first | refine testR k3 rfl ?_ | refine testL k3 rfl ?_
  cbv
  refine CS.le hA (c4) [(0, 0), (1, 1), (2, 2)] rfl rfl rfl ?_ ?_ ?_
  iterate 2 ((try cbv) <;> (repeat' (first | exact trivial | exact rfl | apply And.intro | exact fun _ => rfl | (intro _ hle; first | refine chunk_le hA rfl hle rfl ?_ | refine cat_le hA ?_ | refine upd_le hA ?_ | (try cbv)))) <;> (try (subst hA; (try simp only [zn] at *); (try (simp only [Ar.real, NV.val, zo, zt])); first | done | omega | decide | exact zi | (refine ⟨?_, ?_⟩ <;> first | omega | decide | exact zi))))
  cbv
  refine Fin.le hA 3 [] (.tup [.nilp, .lit .i64 6]) (DHd N d1) 3 rfl rfl rfl ?_ ?_ (by rw [← hK]; exact ⟨rfl, rfl, rfl⟩)
  iterate 2 ((try cbv) <;> (repeat' (first | exact trivial | exact rfl | apply And.intro | exact fun _ => rfl | (intro _ hle; first | refine chunk_le hA rfl hle rfl ?_ | refine cat_le hA ?_ | refine upd_le hA ?_ | (try cbv)))))
end
end Go.Proofs.YtnjjgipblimbfaaGreatDoor.Dsk
namespace Go.Proofs.YtnjjgipblimbfaaGreatDoor.Dsk
open Go.Eng
set_option maxRecDepth 100000
set_option maxHeartbeats 1000000
theorem alive_nil {P : Program} {G : Gl} (hP : P = Tryz.prog) : FnTr P G 51 [.nilp] [] 0 (Gives (.lit .i64 7) [] 0) := by
  have hT : T.Ok P := hP ▸ T_ok
  refine FnTr.intro (fn := Tryz.f51) (c := bodyOf Tryz.f51) (by rw [hP]; rfl) rfl rfl hT ?_
  generalize hA : Ar.real = A
  generalize hK : Gives _ _ _ = K
  cbv
  refine Fin.le hA 0 [] (.lit .i64 7) ([]) 0 rfl rfl rfl ?_ ?_ (by rw [← hK]; exact ⟨rfl, rfl, rfl⟩)
  iterate 2 ((try cbv) <;> (repeat' (first | exact trivial | exact rfl | apply And.intro | exact fun _ => rfl | (intro _ hle; first | refine chunk_le hA rfl hle rfl ?_ | refine cat_le hA ?_ | refine upd_le hA ?_ | (try cbv)))))
theorem sync_nil {P : Program} {G : Gl} (hP : P = Tryz.prog) : FnTr P G 17 [.nilp] [] 0 (Gives (.lit .i64 7) [] 0) := by
  have c1 := alive_nil (P := P) (G := G) hP
  have hT : T.Ok P := hP ▸ T_ok
  refine FnTr.intro (fn := Tryz.f17) (c := bodyOf Tryz.f17) (by rw [hP]; rfl) rfl rfl hT ?_
  generalize hA : Ar.real = A
  generalize hK : Gives _ _ _ = K
  cbv
  refine CS.le hA (c1) [] rfl rfl rfl ?_ ?_ ?_
  iterate 2 ((try cbv) <;> (repeat' (first | exact trivial | exact rfl | apply And.intro | exact fun _ => rfl | (intro _ hle; first | refine chunk_le hA rfl hle rfl ?_ | refine cat_le hA ?_ | refine upd_le hA ?_ | (try cbv)))) <;> (try (subst hA; (try simp only [zn] at *); (try (simp only [Ar.real, NV.val, zo, zt])); first | done | omega | decide | exact zi | (refine ⟨?_, ?_⟩ <;> first | omega | decide | exact zi))))
  cbv
  refine Fin.le hA 0 [] (.lit .i64 7) ([]) 0 rfl rfl rfl ?_ ?_ (by rw [← hK]; exact ⟨rfl, rfl, rfl⟩)
  iterate 2 ((try cbv) <;> (repeat' (first | exact trivial | exact rfl | apply And.intro | exact fun _ => rfl | (intro _ hle; first | refine chunk_le hA rfl hle rfl ?_ | refine cat_le hA ?_ | refine upd_le hA ?_ | (try cbv)))))
end Go.Proofs.YtnjjgipblimbfaaGreatDoor.Dsk
namespace Go.WalLaw
open Go.DskLaw
theorem openOk_seal {n : Nat} {b f : Nat → Int} (hf : ∀ i, i < n + 4 → f i = sealF n b i) : OpenOk (n + 4) f := by
  refine ⟨by omega, fun i hi => ?_⟩
  rw [hf i hi, show n + 4 - 4 = n by omega]
  have hb : ∀ j, j < n → f j = b j := fun j hj => by
    rw [hf j (by omega)]
    unfold sealF CrcLaw.sealB cutF
    rw [if_pos hj, if_pos hj]
  have e1 : CrcLaw.more (bvF n f) 0#32 n = CrcLaw.more (bvF n b) 0#32 n := more_congr (fun j hj => by
    unfold bvF cutF
    rw [if_pos hj, if_pos hj, hb j hj])
  unfold sealF
  rw [e1]
  unfold CrcLaw.sealB
  by_cases q : i < n
  · rw [if_pos q, if_pos q]; unfold cutF; rw [if_pos q, if_pos q, hb i q]
  · rw [if_neg q, if_neg q]
theorem sealF_front {n i : Nat} {b : Nat → Int} (h : i < n) : sealF n b i = b i := by
  unfold sealF CrcLaw.sealB cutF
  rw [if_pos h, if_pos h]
def RecsV (V : Nat → Nat → Int) (fi : Nat) (nl : Nat → Nat) (nf : Nat → Nat → Int) (K : Nat) : Prop :=
  ∀ i, i < K → ∀ j, j < needN (nl i + 4) → ∀ x, x < 64 → V (atN fi (fun i => nl i + 4) i + j) x = pcs (nl i + 4) (sealF (nl i) (nf i)) j x
def Same (K : Nat) (g : Nat → Nat × (Nat → Int)) (nl : Nat → Nat) (nf : Nat → Nat → Int) : Prop := ∀ j, j < K → (g j).1 = nl j ∧ ∀ x, x < nl j → (g j).2 x = nf j x
theorem recP_recs {V : Nat → Nat → Int} {fi en K : Nat} {nl : Nat → Nat} {nf : Nat → Nat → Int} (hen : atN fi (fun i => nl i + 4) K ≤ en) (hl : ∀ i, i < K → nl i + 4 ≤ 65536) (hV : RecsV V fi nl nf K)
    (hstop : getP V (atN fi (fun i => nl i + 4) K) en (en - atN fi (fun i => nl i + 4) K) (atN fi (fun i => nl i + 4) K) 0 (fun _ => 0) = none) :
    ∀ (k i : Nat) (g : Nat → Nat × (Nat → Int)), i ≤ K → K - i < k → Same i g nl nf → ∃ gs, recP V en k (atN fi (fun i => nl i + 4) i) i g = (K, gs, atN fi (fun i => nl i + 4) K) ∧ Same K gs nl nf := by
  intro k
  induction k with
  | zero => intro i g _ h; omega
  | succ k ih =>
    intro i g hi hk hg
    by_cases q : i = K
    · subst q
      exact ⟨g, recP_none hstop, hg⟩
    · have hiK : i < K := by omega
      have hle : atN fi (fun i => nl i + 4) (i + 1) ≤ en := Nat.le_trans (atN_mono (by omega)) hen
      have hst : atN fi (fun i => nl i + 4) (i + 1) = atN fi (fun i => nl i + 4) i + needN (nl i + 4) := rfl
      obtain ⟨f', h1, h2⟩ := getP_whole (V := V) (first := atN fi (fun i => nl i + 4) i) (fin := en) (n := nl i + 4) (r := sealF (nl i) (nf i)) (by omega) (hl i hiK) (hV i hiK) (needN (nl i + 4) - 1) 0 (fun _ => 0) (by have := need1 (nl i + 4); omega) (fun j hj _ => by omega)
      have h1 : getP V (atN fi (fun i => nl i + 4) i) en (en - atN fi (fun i => nl i + 4) i) (atN fi (fun i => nl i + 4) i) 0 (fun _ => 0) = some (nl i + 4, f', atN fi (fun i => nl i + 4) i + needN (nl i + 4)) := h1
      rw [recP_some h1 (openOk_seal h2)]
      refine ih (i + 1) _ (by omega) (by omega) ?_
      intro j hj
      by_cases q2 : j < i
      · simp only [if_pos q2]; exact hg j q2
      · obtain rfl : j = i := by omega
        simp only [if_neg q2]
        exact ⟨by omega, fun x hx => by rw [h2 x (by omega), sealF_front hx]⟩
end Go.WalLaw
namespace Go.WalLaw
open Go.DskLaw
theorem genN_congr {v w : Nat → Int} : ∀ j, (∀ i, i < j → v i = w i) → genN v j = genN w j := by
  intro j
  induction j with
  | zero => intro _; rfl
  | succ j ih =>
    intro h
    unfold genN
    rw [ih (fun i hi => h i (by omega)), h j (by omega)]
theorem genN_headB {n : Nat} (hn : n < 256 ^ 8) : ∀ j, j ≤ 8 → genN (headB n) j = n / 256 ^ (8 - j) := by
  intro j
  induction j with
  | zero => intro _; show 0 = _; rw [Nat.div_eq_of_lt hn]
  | succ j ih =>
    intro hj
    unfold genN
    rw [ih (by omega)]
    have e1 : headB n j = ((n / 256 ^ (7 - j) % 256 : Nat) : Int) := by unfold headB; rw [if_pos (by omega)]
    rw [e1, Int.toNat_natCast, show 8 - j = (7 - j) + 1 by omega, show 8 - (j + 1) = 7 - j by omega, Nat.pow_succ, ← Nat.div_div_eq_div_mul]
    omega
theorem genN_all {n : Nat} (hn : n < 256 ^ 8) : genN (headB n) 8 = n := by
  rw [genN_headB hn 8 (by omega)]
  show n / 1 = n
  exact Nat.div_one n
theorem headB_zero (x : Nat) : headB 0 x = 0 := by
  unfold headB
  split
  · simp
  · split
    · simp
    · rfl
theorem genIs_headB {g sec : Nat} {v : Nat → Int} (hg : g ≤ 1099511627776) (hv : ∀ x, x < 64 → v x = headB g x) (hs : g % 2 = sec ∨ g = 0) : GenIs v sec g := by
  have e : genN v 8 = g := by rw [genN_congr 8 (fun i hi => hv i (by omega)), genN_all (by omega)]
  rcases Nat.eq_zero_or_pos g with rfl | h
  · exact .inr ⟨fun q => by have := q.1; omega, rfl⟩
  · exact .inl ⟨⟨by omega, by omega, by omega, by rw [e]; exact hv⟩, e.symm⟩
theorem genIs_congr {v w : Nat → Int} {sec g : Nat} (h : ∀ x, x < 64 → v x = w x) (hg : GenIs v sec g) : GenIs w sec g := by
  have e : genN v 8 = genN w 8 := genN_congr 8 (fun i hi => h i (by omega))
  have k : GenOk v sec ↔ GenOk w sec := by
    unfold GenOk
    rw [e]
    exact ⟨fun q => ⟨q.1, q.2.1, q.2.2.1, fun i hi => by rw [← h i hi]; exact q.2.2.2 i hi⟩, fun q => ⟨q.1, q.2.1, q.2.2.1, fun i hi => by rw [h i hi]; exact q.2.2.2 i hi⟩⟩
  rcases hg with ⟨a, b⟩ | ⟨a, b⟩
  · exact .inl ⟨k.1 a, by rw [← e]; exact b⟩
  · exact .inr ⟨fun q => a (k.2 q), b⟩
theorem wipeP_fr {V : Nat → Nat → Int} {ar : Bool} : ∀ (k x n : Nat) (L : Int → Option (Nat → Int)) (ca : Int) (t : Int), (wipeP V ar k x n L ca).2.1 t = L t ∨ ((x : Int) ≤ t ∧ t < ((x + k : Nat) : Int) ∧ (wipeP V ar k x n L ca).2.1 t = some (fun _ => 0)) := by
  intro k
  induction k with
  | zero => intro x n L ca t; exact .inl rfl
  | succ k ih =>
    intro x n L ca t
    by_cases ho : ar = true ∧ ca = 0
    · rw [wipeP_off ho]; exact .inl rfl
    · by_cases hb : ∀ i, i < 64 → V x i = 0
      · rw [wipeP_blank ho hb]
        rcases ih (x + 1) n L ca t with h | ⟨h1, h2, h3⟩
        · exact .inl h
        · exact .inr ⟨by omega, by omega, h3⟩
      · rw [wipeP_full ho hb]
        rcases ih (x + 1) (n + 1) (fun i => if i = (x : Int) then some (fun _ => 0) else L i) (if ar then ca - 1 else ca) t with h | ⟨h1, h2, h3⟩
        · by_cases q : t = (x : Int)
          · refine .inr ⟨by omega, by omega, ?_⟩
            rw [h]; exact if_pos q
          · left
            rw [h]; exact if_neg q
        · exact .inr ⟨by omega, by omega, h3⟩
theorem wipeP_done {V : Nat → Nat → Int} {ar : Bool} : ∀ (k x n : Nat) (L : Int → Option (Nat → Int)) (ca : Int) (m : Nat), (wipeP V ar k x n L ca).1 = some m → ∀ t : Nat, x ≤ t → t < x + k → (wipeP V ar k x n L ca).2.1 t = some (fun _ => 0) ∨ ((wipeP V ar k x n L ca).2.1 t = L t ∧ ∀ i, i < 64 → V t i = 0) := by
  intro k
  induction k with
  | zero => intro x n L ca m _ t h1 h2; omega
  | succ k ih =>
    intro x n L ca m hm t h1 h2
    by_cases ho : ar = true ∧ ca = 0
    · rw [wipeP_off ho] at hm; cases hm
    · by_cases hb : ∀ i, i < 64 → V x i = 0
      · rw [wipeP_blank ho hb] at hm ⊢
        by_cases q : t = x
        · rw [q]
          rcases wipeP_fr (V := V) (ar := ar) k (x + 1) n L ca (x : Int) with h | ⟨h3, h4, h5⟩
          · exact .inr ⟨h, hb⟩
          · omega
        · exact ih (x + 1) n L ca m hm t (by omega) (by omega)
      · rw [wipeP_full ho hb] at hm ⊢
        by_cases q : t = x
        · rw [q]
          rcases wipeP_fr (V := V) (ar := ar) k (x + 1) (n + 1) (fun i => if i = (x : Int) then some (fun _ => 0) else L i) (if ar then ca - 1 else ca) (x : Int) with h | ⟨h3, h4, h5⟩
          · left; rw [h]; exact if_pos rfl
          · exact .inl h5
        · rcases ih (x + 1) (n + 1) (fun i => if i = (x : Int) then some (fun _ => 0) else L i) (if ar then ca - 1 else ca) m hm t (by omega) (by omega) with h | ⟨h3, h4⟩
          · exact .inl h
          · exact .inr ⟨by rw [h3]; exact if_neg (by omega), h4⟩
theorem wipeP_run {V : Nat → Nat → Int} : ∀ (k x n : Nat) (L : Int → Option (Nat → Int)) (ca : Int), ∃ m, (wipeP V false k x n L ca).1 = some m := by
  intro k
  induction k with
  | zero => intro x n L ca; exact ⟨n, rfl⟩
  | succ k ih =>
    intro x n L ca
    have ho : ¬ (false = true ∧ ca = 0) := fun h => by cases h.1
    by_cases hb : ∀ i, i < 64 → V x i = 0
    · rw [wipeP_blank ho hb]; exact ih _ _ _ _
    · rw [wipeP_full ho hb]; exact ih _ _ _ _
theorem wipeD_fr {d d' : Dk} {a b : Nat} {on : Option Nat} (hw : wipeD d a b = (on, d')) (t : Int) : d'.L t = d.L t ∨ ((a : Int) ≤ t ∧ t < (b : Int) ∧ d'.L t = some (fun _ => 0)) := by
  obtain ⟨_, e2⟩ := Prod.mk.inj hw
  subst e2
  rcases wipeP_fr (V := fun i => secV d.S d.L i) (ar := d.ar) (b - a) a 0 d.L d.ca t with h | ⟨h1, h2, h3⟩
  · exact .inl h
  · exact .inr ⟨h1, by omega, h3⟩
theorem wipeD_S {d d' : Dk} {a b : Nat} {on : Option Nat} (hw : wipeD d a b = (on, d')) : d'.S = d.S ∧ d'.ar = d.ar := by
  obtain ⟨_, e2⟩ := Prod.mk.inj hw
  subst e2
  exact ⟨rfl, rfl⟩
theorem wipeD_done {d d' : Dk} {a b m : Nat} (hw : wipeD d a b = (some m, d')) (t : Nat) (h1 : a ≤ t) (h2 : t < b) (x : Nat) (hx : x < 64) : secV d'.S d'.L t x = 0 := by
  obtain ⟨e1, e2⟩ := Prod.mk.inj hw
  subst e2
  rcases wipeP_done (V := fun i => secV d.S d.L i) (ar := d.ar) (b - a) a 0 d.L d.ca m e1 t h1 (by omega) with h | ⟨h3, h4⟩
  · rw [secV_some' h]
  · have h4 : secV d.S d.L t x = 0 := h4 x hx
    cases e : d.L (t : Int) with
    | none => rw [secV_none' (h3.trans e)]; rw [secV_none' e] at h4; exact h4
    | some g => rw [secV_some' (h3.trans e)]; rw [secV_some' e] at h4; exact h4
theorem wipeD_run {d : Dk} {a b : Nat} (h : d.ar = false) : ∃ m d', wipeD d a b = (some m, d') := by
  obtain ⟨m, hm⟩ := wipeP_run (V := fun i => secV d.S d.L i) (b - a) a 0 d.L d.ca
  refine ⟨m, (wipeD d a b).2, Prod.ext ?_ rfl⟩
  show (wipeP (fun i => secV d.S d.L i) d.ar (b - a) a 0 d.L d.ca).1 = some m
  rw [h]
  exact hm
abbrev stN (fi : Nat) (nl : Nat → Nat) (i : Nat) : Nat := atN fi (fun i => nl i + 4) i
abbrev recB (nl : Nat → Nat) (nf : Nat → Nat → Int) (i j x : Nat) : Int := pcs (nl i + 4) (sealF (nl i) (nf i)) j x
theorem stN_succ (fi : Nat) (nl : Nat → Nat) (i : Nat) : stN fi nl (i + 1) = stN fi nl i + needN (nl i + 4) := rfl
theorem stN_mono {fi : Nat} {nl : Nat → Nat} {i j : Nat} (h : i ≤ j) : stN fi nl i ≤ stN fi nl j := atN_mono h
theorem stN_congr {fi c : Nat} {nl nl' : Nat → Nat} (h : ∀ i, i < c → nl' i = nl i) : ∀ i, i ≤ c → stN fi nl' i = stN fi nl i := by
  intro i
  induction i with
  | zero => intro _; rfl
  | succ i ih => intro hi; rw [stN_succ, stN_succ, ih (by omega), h i (by omega)]
theorem stN_in {fi c i j : Nat} {nl : Nat → Nat} (hi : i < c) (hj : j < needN (nl i + 4)) : fi ≤ stN fi nl i + j ∧ stN fi nl i + j < stN fi nl c := by
  have h1 : stN fi nl (i + 1) ≤ stN fi nl c := stN_mono (by omega)
  have h2 : stN fi nl 0 ≤ stN fi nl i := stN_mono (by omega)
  have h3 : stN fi nl 0 = fi := rfl
  rw [stN_succ] at h1
  omega
structure LogI (d : Dk) (fi en su w c : Nat) (nl : Nat → Nat) (nf : Nat → Nat → Int) : Prop where
  hsu : 1 ≤ su ∧ su ≤ c
  hw : stN fi nl su ≤ w ∧ w ≤ stN fi nl c
  hen : stN fi nl c ≤ en
  hlen : ∀ i, i < c → nl i + 4 ≤ 65536
  recs : ∀ i, i < su → ∀ j, j < needN (nl i + 4) → ∀ x, x < 64 → d.S (64 * (stN fi nl i + j) + x) = recB nl nf i j x
  blank : ∀ t, stN fi nl su ≤ t → t < en → ∀ x, x < 64 → d.S (64 * t + x) = 0
  lin : ∀ i, i < c → ∀ j, j < needN (nl i + 4) → stN fi nl su ≤ stN fi nl i + j → stN fi nl i + j < w → ∃ g, d.L ((stN fi nl i + j : Nat) : Int) = some g ∧ ∀ x, x < 64 → g x = recB nl nf i j x
  lout : ∀ t : Nat, fi ≤ t → t < en → (t < stN fi nl su ∨ w ≤ t) → d.L (t : Int) = none
structure HdI (d : Dk) (g : Nat) : Prop where
  cur : ∀ x, x < 64 → d.S (64 * (g % 2) + x) = headB g x
  old : ∀ x, x < 64 → d.S (64 * ((g + 1) % 2) + x) = headB (g - 1) x
  l0 : d.L 0 = none
  l1 : d.L 1 = none
structure ImgD (d : Dk) (g fi en K : Nat) (nl : Nat → Nat) (nf : Nat → Nat → Int) : Prop where
  heads : ∃ g0 g1, GenIs (fun x => d.S (64 * 0 + x)) 0 g0 ∧ GenIs (fun x => d.S (64 * 1 + x)) 1 g1 ∧ g = max g0 g1
  hK : 1 ≤ K ∧ stN fi nl K ≤ en
  hlen : ∀ i, i < K → nl i + 4 ≤ 65536
  recs : ∀ i, i < K → ∀ j, j < needN (nl i + 4) → ∀ x, x < 64 → d.S (64 * (stN fi nl i + j) + x) = recB nl nf i j x
  stop : ∃ j0, (∀ j, j < j0 → d.S (64 * (stN fi nl K + j) + 63) = 0 ∨ d.S (64 * (stN fi nl K + j) + 63) = 1) ∧ (stN fi nl K + j0 < en → d.S (64 * (stN fi nl K + j0) + 63) = 0)
  lz : ∀ k g, d.L k = some g → ∃ t : Nat, k = (t : Int) ∧ stN fi nl K ≤ t ∧ t < en ∧ ∀ x, x < 64 → g x = 0
def crashD (d : Dk) (ks kb : Nat → Int) (n : Nat) : Dk := ⟨(crashP d.S d.L ks kb n).1, fun _ => none, false, 0⟩
theorem crashD_S {s : Nat} {d : Dk} {ks kb : Nat → Int} {n : Nat} (ok : DkOk s d) (t x : Nat) (hx : x < 64) : (crashD d ks kb n).S (64 * t + x) = secC d.S d.L ks kb n t x := (crashP_eq (fun k g h => (ok.key k g h).1) n).2 t x hx
theorem secC_none {S : Nat → Int} {L : Int → Option (Nat → Int)} {ks kb : Nat → Int} {n t : Nat} (h : L (t : Int) = none) (x : Nat) : secC S L ks kb n t x = S (64 * t + x) := by unfold secC; rw [h]
theorem secC_some {S : Nat → Int} {L : Int → Option (Nat → Int)} {ks kb : Nat → Int} {n t : Nat} {g : Nat → Int} (h : L (t : Int) = some g) : ∃ k, k ≤ 64 ∧ ∀ x, secC S L ks kb n t x = if x < k then g x else S (64 * t + x) := by
  refine ⟨(keptB ks kb (t : Int) n).getD 0, ?_, fun x => ?_⟩
  · cases e : keptB ks kb (t : Int) n with
    | none => exact Nat.zero_le _
    | some b => exact keptB_le e
  · unfold secC; rw [h]
theorem DkOk.crash {s : Nat} {d : Dk} {ks kb : Nat → Int} {n : Nat} (ok : DkOk s d) : DkOk s (crashD d ks kb n) where
  hca := ⟨Int.le_refl 0, (by decide : (0 : Int) ≤ 9223372036854775807)⟩
  key := fun k g e => by cases e
  sb := fun x hx => by
    rw [show x = 64 * (x / 64) + x % 64 by omega, crashD_S ok (x / 64) (x % 64) (by omega)]
    cases e : d.L ((x / 64 : Nat) : Int) with
    | none => rw [secC_none e]; exact ok.sb _ (by omega)
    | some g =>
      obtain ⟨k, _, hk⟩ := secC_some (S := d.S) (ks := ks) (kb := kb) (n := n) e
      rw [hk]
      split
      · exact ok.lb _ g e _ (by omega)
      · exact ok.sb _ (by omega)
  lb := fun k g e => by cases e
theorem usedP_mark1 {v : Nat → Int} (h : v 63 = 1) : usedP v = none ∨ usedP v = some (62, true) := by
  by_cases q : padOk v
  · by_cases q2 : (v 62).toNat = 62
    · exact .inr (usedP_on q h q2)
    · exact .inl (usedP_none2 q h q2)
  · exact .inl (usedP_none1 q)
theorem getP_marks {V : Nat → Nat → Int} {first fin j0 : Nat} (h1 : ∀ j, j < j0 → first + j < fin → V (first + j) 63 = 0 ∨ V (first + j) 63 = 1) (h2 : first + j0 < fin → V (first + j0) 63 = 0) :
    ∀ (k j n : Nat) (f : Nat → Int), k + j = j0 → getP V first fin (fin - (first + j)) (first + j) n f = none := by
  intro k
  induction k with
  | zero =>
    intro j n f hk
    obtain rfl : j = j0 := by omega
    by_cases q : fin ≤ first + j
    · exact getP_stop q _
    · exact getP_none (by omega) (usedP_zero (h2 (by omega)))
  | succ k ih =>
    intro j n f hk
    by_cases q : fin ≤ first + j
    · exact getP_stop q _
    · rcases h1 j (by omega) (by omega) with e | e
      · exact getP_none (by omega) (usedP_zero e)
      · rcases usedP_mark1 e with u | u
        · exact getP_none (by omega) u
        · by_cases l : 65536 < n + 62
          · exact getP_long (by omega) u l
          · rw [getP_on (by omega) u l]
            exact ih (j + 1) _ _ (by omega)
theorem secV_eq {S : Nat → Int} {L : Int → Option (Nat → Int)} (h : ∀ k, L k = none) (t x : Nat) : secV S L t x = S (64 * t + x) := secV_none' (h _) x
theorem ImgD.read {d : Dk} {g fi en K : Nat} {nl : Nat → Nat} {nf : Nat → Nat → Int} (h : ImgD d g fi en K nl nf) (hL : ∀ k, d.L k = none) (g0 : Nat → Nat × (Nat → Int)) :
    ∃ gs, recP (fun t => secV d.S d.L t) en (en - fi + 1) fi 0 g0 = (K, gs, stN fi nl K) ∧ Same K gs nl nf := by
  refine recP_recs (nl := nl) (nf := nf) h.hK.2 h.hlen ?_ ?_ (en - fi + 1) 0 g0 (by omega) ?_ (fun j hj => by omega)
  · intro i hi j hj x hx
    show secV d.S d.L _ x = _
    rw [secV_eq hL]
    exact h.recs i hi j hj x hx
  · obtain ⟨j0, h1, h2⟩ := h.stop
    refine getP_marks (V := fun t => secV d.S d.L t) (first := stN fi nl K) (j0 := j0) (fun j hj _ => ?_) (fun hq => ?_) j0 0 0 _ (by omega)
    · show secV d.S d.L _ 63 = 0 ∨ secV d.S d.L _ 63 = 1
      rw [secV_eq hL]
      exact h1 j hj
    · show secV d.S d.L _ 63 = 0
      rw [secV_eq hL]
      exact h2 hq
  · have h1 := h.hK.2
    have h2 : fi + K ≤ stN fi nl K := le_atN fi (fun i => nl i + 4) K
    show K - 0 < en - fi + 1
    omega
theorem ImgD.gens {d : Dk} {g fi en K : Nat} {nl : Nat → Nat} {nf : Nat → Nat → Int} (h : ImgD d g fi en K nl nf) (hL : ∀ k, d.L k = none) :
    ∃ g0 g1, GenIs (secV d.S d.L 0) 0 g0 ∧ GenIs (secV d.S d.L 1) 1 g1 ∧ g = max g0 g1 := by
  obtain ⟨g0, g1, h0, h1, e⟩ := h.heads
  exact ⟨g0, g1, genIs_congr (fun x _ => (secV_eq hL 0 x).symm) h0, genIs_congr (fun x _ => (secV_eq hL 1 x).symm) h1, e⟩
theorem ImgD.wipe {d d' : Dk} {g fi en K : Nat} {nl : Nat → Nat} {nf : Nat → Nat → Int} {on : Option Nat} (h : ImgD d g fi en K nl nf) (hw : wipeD d (stN fi nl K) en = (on, d')) : ImgD d' g fi en K nl nf := by
  have e1 := (wipeD_S hw).1
  refine ⟨by rw [e1]; exact h.heads, h.hK, h.hlen, by rw [e1]; exact h.recs, by rw [e1]; exact h.stop, fun k g e => ?_⟩
  rcases wipeD_fr hw k with q | ⟨q1, q2, q3⟩
  · exact h.lz k g (by rw [← q]; exact e)
  · rw [q3] at e
    cases e
    exact ⟨k.toNat, by omega, by omega, by omega, fun _ _ => rfl⟩
theorem flushD_S (d : Dk) (t x : Nat) (hx : x < 64) : (flushD d).S (64 * t + x) = secV d.S d.L t x := by
  show secV d.S d.L ((64 * t + x) / 64) ((64 * t + x) % 64) = _
  rw [show (64 * t + x) / 64 = t by omega, show (64 * t + x) % 64 = x by omega]
theorem ImgD.flush {d : Dk} {g fi en K : Nat} {nl : Nat → Nat} {nf : Nat → Nat → Int} (h : ImgD d g fi en K nl nf) (hf : 2 ≤ fi) : ImgD (flushD d) g fi en K nl nf := by
  have hst : fi ≤ stN fi nl K := stN_mono (fi := fi) (nl := nl) (i := 0) (by omega)
  have lo : ∀ t x, t < stN fi nl K → x < 64 → (flushD d).S (64 * t + x) = d.S (64 * t + x) := fun t x ht hx => by
    rw [flushD_S d t x hx]
    refine secV_none' ?_ x
    cases e : d.L (t : Int) with
    | none => rfl
    | some g =>
      obtain ⟨t', e1, e2, _⟩ := h.lz _ g e
      omega
  have hi : ∀ t, (flushD d).S (64 * t + 63) = d.S (64 * t + 63) ∨ (flushD d).S (64 * t + 63) = 0 := fun t => by
    rw [flushD_S d t 63 (by omega)]
    cases e : d.L (t : Int) with
    | none => exact .inl (secV_none' e 63)
    | some g =>
      obtain ⟨_, _, _, _, hz⟩ := h.lz _ g e
      rw [secV_some' e]
      exact .inr (hz 63 (by omega))
  refine ⟨?_, h.hK, h.hlen, ?_, ?_, fun k g e => by cases e⟩
  · obtain ⟨g0, g1, h0, h1, e⟩ := h.heads
    exact ⟨g0, g1, genIs_congr (fun x hx => (lo 0 x (by omega) hx).symm) h0, genIs_congr (fun x hx => (lo 1 x (by omega) hx).symm) h1, e⟩
  · intro i hi j hj x hx
    rw [lo _ x (stN_in hi hj).2 hx]
    exact h.recs i hi j hj x hx
  · obtain ⟨j0, h1, h2⟩ := h.stop
    refine ⟨j0, fun j hj => ?_, fun hq => ?_⟩
    · rcases hi (stN fi nl K + j) with e | e
      · rw [e]; exact h1 j hj
      · exact .inl e
    · rcases hi (stN fi nl K + j0) with e | e
      · rw [e]; exact h2 hq
      · exact e
end Go.WalLaw
namespace Go.WalLaw
open Go.DskLaw
section
variable {d d' : Dk} {s g fi en su w c n : Nat} {nl nl' : Nat → Nat} {nf nf' : Nat → Nat → Int} {ks kb f : Nat → Int}
theorem LogI.frame (h : LogI d fi en su w c nl nf) (hS : ∀ t x, fi ≤ t → t < en → x < 64 → d'.S (64 * t + x) = d.S (64 * t + x)) (hL : ∀ t : Nat, fi ≤ t → t < en → d'.L (t : Int) = d.L (t : Int)) : LogI d' fi en su w c nl nf where
  hsu := h.hsu
  hw := h.hw
  hen := h.hen
  hlen := h.hlen
  recs := fun i hi j hj x hx => by
    have h1 := stN_in (fi := fi) (nl := nl) (c := c) (show i < c by have := h.hsu; omega) hj
    have h2 := h.hen
    rw [hS _ x h1.1 (by omega) hx]
    exact h.recs i hi j hj x hx
  blank := fun t h1 h2 x hx => by
    have h3 : fi ≤ stN fi nl su := stN_mono (fi := fi) (nl := nl) (i := 0) (by omega)
    rw [hS _ x (by omega) h2 hx]
    exact h.blank t h1 h2 x hx
  lin := fun i hi j hj h1 h2 => by
    have h3 := stN_in (fi := fi) (nl := nl) hi hj
    have h4 := h.hen
    rw [hL _ h3.1 (by omega)]
    exact h.lin i hi j hj h1 h2
  lout := fun t h1 h2 h3 => by rw [hL t h1 h2]; exact h.lout t h1 h2 h3
theorem HdI.frame (h : HdI d g) (hS : ∀ t x, t < 2 → x < 64 → d'.S (64 * t + x) = d.S (64 * t + x)) (h0 : d'.L 0 = none) (h1 : d'.L 1 = none) : HdI d' g where
  cur := fun x hx => by rw [hS _ x (by omega) hx]; exact h.cur x hx
  old := fun x hx => by rw [hS _ x (by omega) hx]; exact h.old x hx
  l0 := h0
  l1 := h1
theorem HdI.flush (h : HdI d g) : HdI (flushD d) g :=
  h.frame (fun t x ht hx => by
    rw [flushD_S d t x hx]
    rcases (show t = 0 ∨ t = 1 by omega) with rfl | rfl
    · exact secV_none' h.l0 x
    · exact secV_none' h.l1 x) rfl rfl
theorem HdI.gens (h : HdI d g) (hg : g ≤ 1099511627776) : ∃ g0 g1, GenIs (secV d.S d.L 0) 0 g0 ∧ GenIs (secV d.S d.L 1) 1 g1 ∧ g = max g0 g1 := by
  have e0 : ∀ x, secV d.S d.L 0 x = d.S (64 * 0 + x) := fun x => secV_none' h.l0 x
  have e1 : ∀ x, secV d.S d.L 1 x = d.S (64 * 1 + x) := fun x => secV_none' h.l1 x
  rcases Nat.mod_two_eq_zero_or_one g with q | q
  · have hc := h.cur
    have ho := h.old
    rw [q] at hc
    rw [show (g + 1) % 2 = 1 by omega] at ho
    exact ⟨g, g - 1, genIs_headB hg (fun x hx => by rw [e0, hc x hx]) (.inl q), genIs_headB (by omega) (fun x hx => by rw [e1, ho x hx]) (by omega), by omega⟩
  · have hc := h.cur
    have ho := h.old
    rw [q] at hc
    rw [show (g + 1) % 2 = 0 by omega] at ho
    exact ⟨g - 1, g, genIs_headB (by omega) (fun x hx => by rw [e0, ho x hx]) (by omega), genIs_headB hg (fun x hx => by rw [e1, hc x hx]) (.inl q), by omega⟩
theorem LogI.flush (h : LogI d fi en su (stN fi nl c) c nl nf) : LogI (flushD d) fi en c (stN fi nl c) c nl nf where
  hsu := by have := h.hsu; omega
  hw := ⟨Nat.le_refl _, Nat.le_refl _⟩
  hen := h.hen
  hlen := h.hlen
  recs := fun i hi j hj x hx => by
    have h1 := stN_in (fi := fi) (nl := nl) hi hj
    have h2 := h.hen
    rw [flushD_S d _ x hx]
    by_cases q : stN fi nl su ≤ stN fi nl i + j
    · obtain ⟨g, e1, e2⟩ := h.lin i hi j hj q h1.2
      rw [secV_some' e1, e2 x hx]
    · rw [secV_none' (h.lout _ h1.1 (by omega) (.inl (by omega)))]
      have h3 : i < su := by
        rcases Nat.lt_or_ge i su with r | r
        · exact r
        · have : stN fi nl su ≤ stN fi nl i := stN_mono r
          omega
      exact h.recs i h3 j hj x hx
  blank := fun t h1 h2 x hx => by
    have h3 : stN fi nl su ≤ stN fi nl c := stN_mono h.hsu.2
    have h4 : fi ≤ stN fi nl su := stN_mono (fi := fi) (nl := nl) (i := 0) (by omega)
    rw [flushD_S d _ x hx, secV_none' (h.lout t (by omega) h2 (.inr h1))]
    exact h.blank t (by omega) h2 x hx
  lin := fun i hi j hj h1 h2 => by omega
  lout := fun t _ _ _ => rfl
theorem putD_at (d : Dk) (first n : Nat) (f : Nat → Int) (t : Nat) : (putD d first n f).L (t : Int) = if first ≤ t ∧ t < first + putK d n then some (pcs n f (t - first)) else d.L (t : Int) := by
  show (if (first : Int) ≤ (t : Int) ∧ (t : Int) < (first : Int) + putK d n then some (pcs n f ((t : Int) - first).toNat) else d.L (t : Int)) = _
  by_cases q : first ≤ t ∧ t < first + putK d n
  · rw [if_pos (by omega), if_pos q, show ((t : Int) - (first : Int)).toNat = t - first by omega]
  · rw [if_neg (by omega), if_neg q]
theorem LogI.put (h : LogI d fi en su (stN fi nl c) c nl nf) (hn : n + 4 ≤ 65536) (hfit : stN fi nl c + needN (n + 4) ≤ en) (h1 : ∀ i, i < c → nl' i = nl i) (h2 : ∀ i, i < c → nf' i = nf i) (h3 : nl' c = n) (h4 : nf' c = f) :
    LogI (putD d (stN fi nl c) (n + 4) (sealF n f)) fi en su (stN fi nl c + putK d (n + 4)) (c + 1) nl' nf' := by
  have hk := putK_le d (n + 4)
  have es : ∀ i, i ≤ c → stN fi nl' i = stN fi nl i := stN_congr h1
  have ec : stN fi nl' (c + 1) = stN fi nl c + needN (n + 4) := by rw [stN_succ, es c (by omega), h3]
  have hsu := h.hsu
  have esu : stN fi nl' su = stN fi nl su := es su hsu.2
  have eb : ∀ i, i < c → ∀ j x, recB nl' nf' i j x = recB nl nf i j x := fun i hi j x => by unfold recB; rw [h1 i hi, h2 i hi]
  have hsc : stN fi nl su ≤ stN fi nl c := stN_mono hsu.2
  have hfs : fi ≤ stN fi nl su := stN_mono (fi := fi) (nl := nl) (i := 0) (by omega)
  refine ⟨by omega, by rw [esu, ec]; omega, by rw [ec]; exact hfit, fun i hi => ?_, fun i hi j hj x hx => ?_, fun t a b x hx => ?_, fun i hi j hj a b => ?_, fun t a b q => ?_⟩
  · by_cases q : i < c
    · rw [h1 i q]; exact h.hlen i q
    · rw [show i = c by omega, h3]; exact hn
  · rw [es i (by omega), eb i (by omega)]
    rw [h1 i (by omega)] at hj
    exact h.recs i hi j hj x hx
  · rw [esu] at a
    exact h.blank t a b x hx
  · rw [esu] at a
    by_cases q : i < c
    · rw [es i (by omega)] at a b ⊢
      rw [h1 i q] at hj
      have h5 := stN_in (fi := fi) (nl := nl) q hj
      rw [putD_at, if_neg (by omega)]
      obtain ⟨g, e1, e2⟩ := h.lin i q j hj a h5.2
      exact ⟨g, e1, fun x hx => by rw [e2 x hx, eb i q]⟩
    · obtain rfl : i = c := by omega
      rw [es i (by omega)] at a b ⊢
      rw [putD_at, if_pos (by omega)]
      refine ⟨_, rfl, fun x hx => ?_⟩
      unfold recB
      rw [h3, h4, show stN fi nl i + j - stN fi nl i = j by omega]
  · rw [esu] at q
    rw [putD_at, if_neg (by omega)]
    exact h.lout t a b (by omega)
theorem LogI.crash0 (h : LogI d fi en su w c nl nf) (hd : HdI d g) (hg : g ≤ 1099511627776) : ImgD (crashD d ks kb 0) g fi en su nl nf := by
  have e : (crashD d ks kb 0).S = d.S := rfl
  have hsu := h.hsu
  refine ⟨?_, ⟨by omega, Nat.le_trans (stN_mono hsu.2) h.hen⟩, fun i hi => h.hlen i (by omega), by rw [e]; exact h.recs, ⟨0, fun j hj => by omega, fun hq => by rw [e]; exact h.blank _ (Nat.le_refl _) hq 63 (by omega)⟩, fun k g e => by cases e⟩
  rw [e]
  obtain ⟨g0, g1, e0, e1, e⟩ := hd.gens hg
  exact ⟨g0, g1, genIs_congr (fun x hx => secV_none' hd.l0 x) e0, genIs_congr (fun x hx => secV_none' hd.l1 x) e1, e⟩
structure Fr (d d' : Dk) (a b : Nat) : Prop where
  S : d'.S = d.S
  ar : d'.ar = d.ar
  L : ∀ t : Int, t < (a : Int) ∨ (b : Int) ≤ t → d'.L t = d.L t
theorem Fr.put {a b : Nat} (hb : a + needN n ≤ b) : Fr d (putD d a n f) a b where
  S := rfl
  ar := rfl
  L := fun t ht => by
    have := putK_le d n
    show (if (a : Int) ≤ t ∧ t < (a : Int) + putK d n then some (pcs n f (t - a).toNat) else d.L t) = _
    rw [if_neg (by omega)]
theorem Fr.wipe {d2 : Dk} {a b a1 : Nat} {on : Option Nat} (h : Fr d d' a b) (h1 : a ≤ a1) (hw : wipeD d' a1 b = (on, d2)) : Fr d d2 a b where
  S := (wipeD_S hw).1.trans h.S
  ar := (wipeD_S hw).2.trans h.ar
  L := fun t ht => by
    rcases wipeD_fr hw t with e | ⟨e1, e2, _⟩
    · rw [e]; exact h.L t ht
    · omega
theorem Fr.head {a b : Nat} (hF : Fr d d' a b) (h : HdI d g) (ha : 2 ≤ a) : HdI d' g :=
  h.frame (fun t x _ _ => by rw [hF.S]) (by rw [hF.L 0 (by omega)]; exact h.l0) (by rw [hF.L 1 (by omega)]; exact h.l1)
theorem base_put {d1 d2 : Dk} {a b m nb : Nat} (hn : nb + 4 ≤ 65536) (hfit : a + needN (nb + 4) ≤ b) (hk : putK d (nb + 4) = needN (nb + 4)) (hd1 : d1 = putD d a (nb + 4) (sealF nb f)) (hw : wipeD d1 (a + needN (nb + 4)) b = (some m, d2)) (h3 : nl 0 = nb) (h4 : nf 0 = f) :
    LogI (flushD d2) a b 1 (stN a nl 1) 1 nl nf where
  hsu := by omega
  hw := ⟨Nat.le_refl _, Nat.le_refl _⟩
  hen := by rw [stN_succ, h3]; exact hfit
  hlen := fun i hi => by rw [show i = 0 by omega, h3]; exact hn
  recs := fun i hi j hj x hx => by
    obtain rfl : i = 0 := by omega
    rw [h3] at hj
    rw [flushD_S d2 _ x hx]
    have e : d2.L ((stN a nl 0 + j : Nat) : Int) = some (pcs (nb + 4) (sealF nb f) j) := by
      have e0 : stN a nl 0 = a := rfl
      rw [e0]
      rcases wipeD_fr hw ((a + j : Nat) : Int) with q | ⟨q, _, _⟩
      · rw [q, hd1, putD_at, if_pos (by omega), show a + j - a = j by omega]
      · omega
    rw [secV_some' e]
    unfold recB
    rw [h3, h4]
  blank := fun t h1 h2 x hx => by
    rw [flushD_S d2 _ x hx]
    rw [stN_succ, h3] at h1
    exact wipeD_done hw t h1 h2 x hx
  lin := fun i hi j hj h1 h2 => by omega
  lout := fun t _ _ _ => rfl
inductive LaidAs (d : Dk) (g a b nb : Nat) (f : Nat → Int) : Dk → Int → Int → Prop
  | early {d' : Dk} : Fr d d' a b → LaidAs d g a b nb f d' 0 6
  | flushed {d2 : Dk} : Fr d d2 a b → LaidAs d g a b nb f (flushD d2) 0 6
  | torn {d2 d3 : Dk} : Fr d d2 a b → d3 = flushD d2 → (∀ nl nf, nl 0 = nb → nf 0 = f → LogI d3 a b 1 (stN a nl 1) 1 nl nf) → LaidAs d g a b nb f (writeD d3 (g % 2) (headB g)) 0 6
  | done {d2 d3 : Dk} : Fr d d2 a b → d3 = flushD d2 → (∀ nl nf, nl 0 = nb → nf 0 = f → LogI d3 a b 1 (stN a nl 1) 1 nl nf) → LaidAs d g a b nb f (flushD (writeD d3 (g % 2) (headB g))) ((a + needN (nb + 4) : Nat) : Int) 0
theorem LayIs.laid {at' e : Int} {nb b a : Nat} (h : LayIs d g a b (nb + 4) (sealF nb f) d' at' e) (hn : nb + 4 ≤ 65536) (hfit : a + needN (nb + 4) ≤ b) : LaidAs d g a b nb f d' at' e := by
  have hF : Fr d (putD d a (nb + 4) (sealF nb f)) a b := Fr.put hfit
  cases h with
  | put hk => exact .early hF
  | wipe0 hk o1 => exact .early hF
  | wipe hk o1 hw => exact .early (hF.wipe (by omega) hw)
  | flush hk o1 hw o2 => exact .early (hF.wipe (by omega) hw)
  | write hk o1 hw o2 o3 => exact .flushed (hF.wipe (by omega) hw)
  | again hk o1 hw o2 o3 o4 => exact .torn (hF.wipe (by omega) hw) rfl (fun nl nf h3 h4 => base_put hn hfit hk rfl hw h3 h4)
  | ok hk o1 hw o2 o3 o4 => exact .done (hF.wipe (by omega) hw) rfl (fun nl nf h3 h4 => base_put hn hfit hk rfl hw h3 h4)
theorem LayIs.run {at' e : Int} {nb b a : Nat} (h : LayIs d g a b (nb + 4) (sealF nb f) d' at' e) (har : d.ar = false) : e = 0 := by
  have e0 : ∀ x : Dk, x.ar = false → ¬ offD x := fun x hx ho => by have := ho.1; rw [hx] at this; cases this
  cases h with
  | put hk =>
    have : putK d (nb + 4) = needN (nb + 4) := by unfold putK; rw [har]; rfl
    omega
  | wipe0 hk o1 => exact absurd o1 (e0 _ har)
  | wipe hk o1 hw =>
    obtain ⟨m, d3, h3⟩ := wipeD_run (d := putD d a (nb + 4) (sealF nb f)) (a := a + needN (nb + 4)) (b := b) har
    rw [hw] at h3
    cases h3
  | flush hk o1 hw o2 => exact absurd o2 (e0 _ ((wipeD_S hw).2.trans har))
  | write hk o1 hw o2 o3 => exact absurd o3 (e0 _ ((wipeD_S hw).2.trans har))
  | again hk o1 hw o2 o3 o4 => exact absurd o4 (e0 _ ((wipeD_S hw).2.trans har))
  | ok hk o1 hw o2 o3 o4 => rfl
theorem head_new {d3 : Dk} (hd : HdI d3 g) : HdI (flushD (writeD d3 ((g + 1) % 2) (headB (g + 1)))) (g + 1) where
  cur := fun x hx => by
    rw [flushD_S _ _ x hx, secV_some' (g := headB (g + 1)) (by show (if (((g + 1) % 2 : Nat) : Int) = (((g + 1) % 2 : Nat) : Int) then some (headB (g + 1)) else _) = _; rw [if_pos rfl])]
  old := fun x hx => by
    rw [flushD_S _ _ x hx]
    have e : (writeD d3 ((g + 1) % 2) (headB (g + 1))).L (((g + 1 + 1) % 2 : Nat) : Int) = none := by
      show (if (((g + 1 + 1) % 2 : Nat) : Int) = (((g + 1) % 2 : Nat) : Int) then some (headB (g + 1)) else d3.L _) = none
      rw [if_neg (by omega)]
      rcases Nat.mod_two_eq_zero_or_one g with q | q
      · rw [show (g + 1 + 1) % 2 = 0 by omega]; exact hd.l0
      · rw [show (g + 1 + 1) % 2 = 1 by omega]; exact hd.l1
    rw [secV_none' e]
    show d3.S _ = headB (g + 1 - 1) x
    rw [show (g + 1 + 1) % 2 = g % 2 by omega, show g + 1 - 1 = g by omega]
    exact hd.cur x hx
  l0 := rfl
  l1 := rfl
theorem LogI.headed {d3 : Dk} {h : Nat} {hb : Nat → Int} (hl : LogI d3 fi en su w c nl nf) (hf : 2 ≤ fi) (hh : h < 2) : LogI (writeD d3 h hb) fi en su w c nl nf :=
  hl.frame (fun _ _ _ _ _ => rfl) (fun t h1 h2 => by
    show (if (t : Int) = (h : Int) then some hb else d3.L (t : Int)) = _
    rw [if_neg (by omega)])
theorem LaidAs.fin {at' e : Int} {nb b a : Nat} (h : LaidAs d g a b nb f d' at' e) (he : e = 0) : at' = ((a + needN (nb + 4) : Nat) : Int) ∧ ∃ d2 d3, Fr d d2 a b ∧ d3 = flushD d2 ∧ (∀ nl nf, nl 0 = nb → nf 0 = f → LogI d3 a b 1 (stN a nl 1) 1 nl nf) ∧ d' = flushD (writeD d3 (g % 2) (headB g)) := by
  cases h with
  | early _ => exact absurd he (by decide)
  | flushed _ => exact absurd he (by decide)
  | torn _ _ _ => exact absurd he (by decide)
  | done h1 h2 h3 => exact ⟨rfl, _, _, h1, h2, h3, rfl⟩
theorem LaidAs.cut {at' e : Int} {nb b a : Nat} (h : LaidAs d g a b nb f d' at' e) (he : e = 6) : Fr d d' a b ∨ (∃ d2, Fr d d2 a b ∧ d' = flushD d2) ∨ ∃ d2 d3, Fr d d2 a b ∧ d3 = flushD d2 ∧ (∀ nl nf, nl 0 = nb → nf 0 = f → LogI d3 a b 1 (stN a nl 1) 1 nl nf) ∧ d' = writeD d3 (g % 2) (headB g) := by
  cases h with
  | early h => exact .inl h
  | flushed h => exact .inr (.inl ⟨_, h, rfl⟩)
  | torn h1 h2 h3 => exact .inr (.inr ⟨_, _, h1, h2, h3, rfl⟩)
  | done _ _ _ => exact absurd he (by decide)
theorem wipeP_none {V : Nat → Nat → Int} {ar : Bool} : ∀ (k x n : Nat) (L : Int → Option (Nat → Int)) (ca : Int), (wipeP V ar k x n L ca).1 = none → ar = true ∧ (wipeP V ar k x n L ca).2.2 = 0 := by
  intro k
  induction k with
  | zero => intro x n L ca h; cases h
  | succ k ih =>
    intro x n L ca h
    by_cases ho : ar = true ∧ ca = 0
    · rw [wipeP_off ho]; exact ho
    · by_cases hb : ∀ i, i < 64 → V x i = 0
      · rw [wipeP_blank ho hb] at h ⊢; exact ih _ _ _ _ h
      · rw [wipeP_full ho hb] at h ⊢; exact ih _ _ _ _ h
theorem wipeD_none {d2 : Dk} {a b : Nat} (hw : wipeD d a b = (none, d2)) : offD d2 := by
  obtain ⟨e1, e2⟩ := Prod.mk.inj hw
  subst e2
  exact wipeP_none (V := fun i => secV d.S d.L i) (b - a) a 0 d.L d.ca e1
theorem putD_off (hk : putK d n < needN n) (hca : 0 ≤ d.ca) : offD (putD d w n f) := by
  unfold putK at hk
  cases har : d.ar with
  | false => rw [har] at hk; exact absurd hk (by simp)
  | true =>
    rw [har] at hk
    refine ⟨har, ?_⟩
    show (if d.ar = true then d.ca - (putK d n : Nat) else d.ca) = 0
    rw [if_pos har]
    unfold putK
    rw [if_pos har]
    rw [if_pos rfl] at hk
    omega
theorem LayIs.off {at' e : Int} {b a : Nat} (h : LayIs d g a b n f d' at' e) (he : e = 6) (hca : 0 ≤ d.ca) : offD d' := by
  cases h with
  | put hk => exact putD_off hk hca
  | wipe0 hk o1 => exact o1
  | wipe hk o1 hw => exact wipeD_none hw
  | flush hk o1 hw o2 => exact o2
  | write hk o1 hw o2 o3 => exact o3
  | again hk o1 hw o2 o3 o4 => exact o4
  | ok hk o1 hw o2 o3 o4 => exact absurd he (by decide)
theorem LayIs.okd {at' e : Int} {b a : Nat} (h : LayIs d g a b n f d' at' e) (ok : DkOk s d) (hfit : a + needN n ≤ b ∧ b ≤ s) (hf : ∀ i, i < n → 0 ≤ f i ∧ f i ≤ 255) (h2 : 2 ≤ s) : DkOk s d' := by
  have okp : DkOk s (putD d a n f) := ok.put (by omega) hf
  have hi2 : g % 2 < s := by omega
  cases h with
  | put hk => exact okp
  | wipe0 hk o1 => exact okp
  | wipe hk o1 hw => exact okp.wipe hfit hw
  | flush hk o1 hw o2 => exact okp.wipe hfit hw
  | write hk o1 hw o2 o3 => exact (okp.wipe hfit hw).flush o2
  | again hk o1 hw o2 o3 o4 => exact ((okp.wipe hfit hw).flush o2).write o3 hi2 (fun x _ => headB_range g x)
  | ok hk o1 hw o2 o3 o4 => exact (((okp.wipe hfit hw).flush o2).write o3 hi2 (fun x _ => headB_range g x)).flush o4
theorem LayIs.ard {at' e : Int} {b a : Nat} (h : LayIs d g a b n f d' at' e) : d'.ar = d.ar := by
  cases h with
  | put hk => rfl
  | wipe0 hk o1 => rfl
  | wipe hk o1 hw => exact (wipeD_S hw).2
  | flush hk o1 hw o2 => exact (wipeD_S hw).2
  | write hk o1 hw o2 o3 => exact (wipeD_S hw).2
  | again hk o1 hw o2 o3 o4 => exact (wipeD_S hw).2
  | ok hk o1 hw o2 o3 o4 => exact (wipeD_S hw).2
end
end Go.WalLaw
namespace Go.Proofs.YtnjjgipblimbfaaGreatDoor.Dsk
open Go.Eng
open Go.DskLaw (q64 secV isB needN pcs getP)
open Go.WalLaw
open Go.CrcLaw (four)
set_option maxRecDepth 100000
set_option maxHeartbeats 1000000
section
variable {P : Program} {fr : Nat → Int} {N s h g fi en K su c n : Nat} {d d1 : Dk} {nl ml : Nat → Nat} {nf mf : Nat → Nat → Int} {ks kb f : Nat → Int}
theorem newest_at {G : Gl} (hP : P = Tryz.prog) (hN : N = 64 * s) (hs : 4 ≤ s ∧ s ≤ 4096) (ok : DkOk s d) (ho : ¬ offD d) {g0 g1 : Nat} (h0 : GenIs (secV d.S d.L 0) 0 g0) (h1 : GenIs (secV d.S d.L 1) 1 g1) (hg : g = max g0 g1) :
    FnTr P G 28 [.ptr 0 0] (DHd N d) 3 (Gives (.tup [.int .i64 (g : Int), .lit .i64 0]) (DHd N d) 3) :=
  newest_fn (V := fun i => secV d.S d.L i) hP ho hN hs (fun i hi => ⟨rfl, ok.bytes i (by omega)⟩) h0 h1 hg
theorem records_at (hP : P = Tryz.prog) (hfr : ∀ i, fr i = ((four i).toNat : Int)) (hN : N = 64 * s) (hr : Reg s h g fi en) (ok : DkOk s d) (ho : ¬ offD d) {c0 last : Nat} {g0 gs : Nat → Nat × (Nat → Int)} (hR0 : recP (fun t => secV d.S d.L t) en (en - fi + 1) fi 0 g0 = (c0, gs, last)) :
    FnTr P (Gf fr) 29 [.ptr 0 0, .int .i64 (g : Int)] (DHd N d) 3 (Gives (.tup [.sl 3 1 (.l 0) (.s c0), .int .i64 (last : Int)]) ((3, LgR c0 (fun i => (gs i).1) (fun i => (gs i).2)) :: DHd N d) 4) :=
  records_own hP hfr hN hr ho (V := fun t => secV d.S d.L t) (fun i hi => ⟨rfl, ok.bytes i hi⟩) hR0
abbrev OpH (N : Nat) (d : Dk) (g last K : Nat) (gs : Nat → Nat × (Nat → Int)) : Hl := LgH N d g last (gs 0).1 (gs 0).2 (.s 1) (K - 1) (K - 1) false K (fun i => (gs i).1) (fun i => (gs i).2)
theorem open_read (hP : P = Tryz.prog) (hfr : ∀ i, fr i = ((four i).toNat : Int)) (hN : N = 64 * s) (hr : Reg s h g fi en) (hg : 0 < g) (ok : DkOk s d) (ho : ¬ offD d) {g0 g1 last : Nat} (h0 : GenIs (secV d.S d.L 0) 0 g0) (h1 : GenIs (secV d.S d.L 1) 1 g1) (hgg : g = max g0 g1) (hK : 1 ≤ K) (hl : last ≤ en) (hK6 : K ≤ 1000000) {g0' gs : Nat → Nat × (Nat → Int)} (hR0 : recP (fun t => secV d.S d.L t) en (en - fi + 1) fi 0 g0' = (K, gs, last)) :
    ∃ on d1, wipeD d last en = (on, d1) ∧ DkOk s d1 ∧
      ((on = none ∧ FnTr P (Gf fr) 7 [.ptr 0 0] (DHd N d) 3 (Gives (.tup [.nilp, .lit .i64 6]) (DHd N d1) 3)) ∨
      (∃ m, on = some m ∧ 0 < m ∧ offD d1 ∧ FnTr P (Gf fr) 7 [.ptr 0 0] (DHd N d) 3 (Gives (.tup [.nilp, .lit .i64 6]) (DHd N d1) 3)) ∨
      (∃ m d2, on = some m ∧ DkOk s d2 ∧ (m = 0 ∧ d2 = d1 ∨ 0 < m ∧ ¬ offD d1 ∧ d2 = flushD d1) ∧ FnTr P (Gf fr) 7 [.ptr 0 0] (DHd N d) 3 (Gives (.tup [.ptr 3 0, .lit .i64 0]) (OpH N d2 g last K gs) 100))) := by
  have cN := newest_at (P := P) (G := Gf fr) hP hN hr.hs ok ho h0 h1 hgg
  have cR := records_at hP hfr hN hr ok ho hR0
  obtain ⟨⟨on, d1⟩, hw⟩ : ∃ r, wipeD d last en = r := ⟨_, rfl⟩
  have ok1 := ok.wipe ⟨hl, hr.le.2.2⟩ hw
  obtain ⟨cc, hcc⟩ : ∃ cc, K = cc + 1 := ⟨K - 1, by omega⟩
  have hcc2 : cc = K - 1 := by omega
  refine ⟨on, d1, hw, ok1, ?_⟩
  cases on with
  | none => exact .inl ⟨rfl, open_part hP hN hr hg (by omega) ok ho hl hw cN cR⟩
  | some m =>
    rcases Nat.eq_zero_or_pos m with hm | hm
    · refine .inr (.inr ⟨m, d1, rfl, ok1, .inl ⟨hm, rfl⟩, ?_⟩)
      have := open_ok0 hP hN hr hg hcc hK6 ok ho hl hm hw cN cR
      rw [hcc2] at this
      exact this
    · by_cases o1 : offD d1
      · exact .inr (.inl ⟨m, rfl, hm, o1, open_offF hP hN hr hg hcc hK6 ok ho hl hm ok1 o1 hw cN cR⟩)
      · refine .inr (.inr ⟨m, flushD d1, rfl, ok1.flush o1, .inr ⟨hm, o1, rfl⟩, ?_⟩)
        have := open_okF hP hN hr hg hcc hK6 ok ho hl hm ok1 o1 rfl hw cN cR
        rw [hcc2] at this
        exact this
theorem img_small (hr : Reg s h g fi en) (hi : ImgD d g fi en K nl nf) : K ≤ 4096 := by
  have h1 := hi.hK.2
  have h2 : fi + K ≤ stN fi nl K := DskLaw.le_atN fi (fun i => nl i + 4) K
  have h3 := hr.le
  have h4 := hr.hs
  omega
theorem open_img (hP : P = Tryz.prog) (hfr : ∀ i, fr i = ((four i).toNat : Int)) (hN : N = 64 * s) (hr : Reg s h g fi en) (hg : 0 < g) (ok : DkOk s d) (hL : ∀ k, d.L k = none) (hi : ImgD d g fi en K nl nf) :
    ∃ d2, DkOk s d2 ∧ ImgD d2 g fi en K nl nf ∧ ((d.ar = true ∧ FnTr P (Gf fr) 7 [.ptr 0 0] (DHd N d) 3 (Gives (.tup [.nilp, .lit .i64 6]) (DHd N d2) 3)) ∨
      ∃ gs last, Same K gs nl nf ∧ last = stN fi nl K ∧ (d.ar = false → d2.ar = false) ∧ FnTr P (Gf fr) 7 [.ptr 0 0] (DHd N d) 3 (Gives (.tup [.ptr 3 0, .lit .i64 0]) (OpH N d2 g last K gs) 100)) := by
  by_cases ho : offD d
  · exact ⟨d, ok, hi, .inl ⟨ho.1, open_off hP hN hr.hs ho⟩⟩
  obtain ⟨g0, g1, h0, h1, hgg⟩ := hi.gens hL
  obtain ⟨gs, hR0, hsame⟩ := hi.read hL (fun _ => (0, fun _ => 0))
  have hsm := img_small hr hi
  obtain ⟨on, d1, hw, ok1, hc⟩ := open_read hP hfr hN hr hg ok ho h0 h1 hgg hi.hK.1 hi.hK.2 (by omega) hR0
  have i1 := hi.wipe hw
  have har := (wipeD_S hw).2
  rcases hc with ⟨e, cc⟩ | ⟨m, e, hm, o1, cc⟩ | ⟨m, d2, e, ok2, hd, cc⟩
  · refine ⟨d1, ok1, i1, .inl ⟨?_, cc⟩⟩
    cases e1 : d.ar with
    | true => rfl
    | false =>
      obtain ⟨m', d', h'⟩ := wipeD_run (a := stN fi nl K) (b := en) e1
      rw [hw, e] at h'
      cases h'
  · exact ⟨d1, ok1, i1, .inl ⟨by rw [← har]; exact o1.1, cc⟩⟩
  · rcases hd with ⟨_, e2⟩ | ⟨_, o1, e2⟩
    · exact ⟨d2, ok2, by rw [e2]; exact i1, .inr ⟨gs, _, hsame, rfl, fun q => by rw [e2, har]; exact q, cc⟩⟩
    · exact ⟨d2, ok2, by rw [e2]; exact i1.flush hr.le.1, .inr ⟨gs, _, hsame, rfl, fun q => by rw [e2]; show d1.ar = false; rw [har]; exact q, cc⟩⟩
theorem open_run (hP : P = Tryz.prog) (hfr : ∀ i, fr i = ((four i).toNat : Int)) (hN : N = 64 * s) (hr : Reg s h g fi en) (hg : 0 < g) (ok : DkOk s d) (hL : ∀ k, d.L k = none) (hi : ImgD d g fi en K nl nf) (har : d.ar = false) :
    ∃ d2 gs last, DkOk s d2 ∧ ImgD d2 g fi en K nl nf ∧ Same K gs nl nf ∧ last = stN fi nl K ∧ d2.ar = false ∧ FnTr P (Gf fr) 7 [.ptr 0 0] (DHd N d) 3 (Gives (.tup [.ptr 3 0, .lit .i64 0]) (OpH N d2 g last K gs) 100) := by
  obtain ⟨d2, ok2, i2, h⟩ := open_img hP hfr hN hr hg ok hL hi
  rcases h with ⟨e, _⟩ | ⟨gs, last, h1, h2, h3, h4⟩
  · rw [har] at e; cases e
  · exact ⟨d2, gs, last, ok2, i2, h1, h2, h3 har, h4⟩
def cons0 {α : Type} (a : α) (f : Nat → α) : Nat → α
  | 0 => a
  | i + 1 => f i
structure LgSt (s h : Nat) (d : Dk) (g fi en su c bn : Nat) (b : Nat → Int) (ml : Nat → Nat) (mf : Nat → Nat → Int) : Prop where
  reg : Reg s h g fi en
  gle : 1 ≤ g ∧ g ≤ 1099511627776
  ok : DkOk s d
  log : LogI d fi en (su + 1) (stN fi (cons0 bn ml) (c + 1)) (c + 1) (cons0 bn ml) (cons0 b mf)
  hd : HdI d g
abbrev atL (fi bn : Nat) (ml : Nat → Nat) (c : Nat) : Nat := stN fi (cons0 bn ml) (c + 1)
theorem cons0_at {α : Type} {a : α} {f : Nat → α} (i : Nat) : cons0 a f (i + 1) = f i := rfl
theorem LgSt.atle {bn : Nat} {b : Nat → Int} (st : LgSt s h d g fi en su c bn b ml mf) : atL fi bn ml c ≤ en := st.log.hen
theorem LgSt.small {bn : Nat} {b : Nat → Int} (st : LgSt s h d g fi en su c bn b ml mf) : su ≤ c ∧ c ≤ 4096 := by
  have h1 := st.log.hen
  have h2 : fi + (c + 1) ≤ stN fi (cons0 bn ml) (c + 1) := DskLaw.le_atN fi (fun i => cons0 bn ml i + 4) (c + 1)
  have h3 := st.reg.le
  have h4 := st.reg.hs
  have h5 := st.log.hsu
  omega
theorem begin_st {bn : Nat} {b : Nat → Int} (hP : P = Tryz.prog) (hfr : ∀ i, fr i = ((four i).toNat : Int)) (hN : N = 64 * s) (hr : Reg s h 1 fi en) (hb : ∀ i, i < bn → 0 ≤ b i ∧ b i ≤ 255) (hn : bn + 4 ≤ 65536) (hnh : needN (bn + 4) ≤ h) (hS : ∀ x, d.S x = 0) (hL : ∀ k, d.L k = none) (har : d.ar = false) (hca : d.ca = 0) (ml : Nat → Nat) (mf : Nat → Nat → Int) :
    ∃ d1, d1.ar = false ∧ (∀ k, d1.L k = none) ∧ LgSt s h d1 1 fi en 0 0 bn b ml mf ∧ FnTr P (Gf fr) 15 [.ptr 0 0, By bn b] (DHd N d) 3 (Gives (.tup [.ptr 3 0, .lit .i64 0]) (LgH N d1 1 (atL fi bn ml 0) bn b (.l 0) 0 0 false 0 ml mf) 9000) := by
  have ok : DkOk s d := ⟨by rw [hca]; decide, fun k g e => (by rw [hL] at e; cases e), fun x _ => (by rw [hS]; decide), fun k g e => (by rw [hL] at e; cases e)⟩
  have h0 : HdI d 0 := ⟨fun x _ => (by rw [hS, headB_zero]), fun x _ => (by rw [hS]; exact (headB_zero x).symm), hL 0, hL 1⟩
  have hle := hr.le
  have hs := hr.hs
  have hen := hr.hen
  have ho : ¬ offD d := fun q => by have := q.1; rw [har] at this; cases this
  obtain ⟨d1, at', e, hl⟩ := layIs_ex d 1 fi en (bn + 4) (sealF bn b)
  have he : e = 0 := hl.run har
  obtain ⟨hat, d2, d3, hF, h3, hlog, hd1⟩ := (hl.laid hn (by omega)).fin he
  obtain ⟨g0, g1, e0, e1, eg⟩ := h0.gens (by omega)
  have cN := newest_at (P := P) (G := Gf fr) hP hN hs ok ho e0 e1 eg
  rcases lay_fn hP hfr hN hr hb rfl hn hnh ok hl with ⟨e6, _⟩ | ⟨_, _, cL⟩
  · omega
  have hd3 : HdI d3 0 := by rw [h3]; exact (hF.head h0 hle.1).flush
  refine ⟨d1, hl.ard.trans har, fun k => by rw [hd1]; rfl, ⟨hr, by omega, hl.okd ok ⟨by omega, hle.2.2⟩ (fun i _ => sealF_range hb i) (by omega), ?_, ?_⟩, ?_⟩
  · have hq := hlog (cons0 bn ml) (cons0 b mf) rfl rfl
    rw [hd1]
    exact (hq.headed hle.1 (by omega)).flush
  · rw [hd1]; exact head_new hd3
  · exact begin_ok hP hN hs hr.hh (by omega) (by omega) cN (by omega) rfl cL ml mf
theorem append_st {bn : Nat} {b : Nat → Int} {ml' : Nat → Nat} {mf' : Nat → Nat → Int} (hP : P = Tryz.prog) (hfr : ∀ i, fr i = ((four i).toNat : Int)) (hN : N = 64 * s) (st : LgSt s h d g fi en su c bn b ml mf) (hb : ∀ i, i < n → 0 ≤ f i ∧ f i ≤ 255) (hn : n + 4 ≤ 65536) (hml : ∀ i, ml' i = if i < c then ml i else n) (hmf : ∀ i x, mf' i x = if i < c then mf i x else f x) :
    (en < atL fi bn ml c + needN (n + 4) ∧ FnTr P (Gf fr) 16 [.ptr 3 0, By n f] (LgH N d g (atL fi bn ml c) bn b (.l 0) c su false c ml mf) 5 (Gives (.lit .i64 2) (LgH N d g (atL fi bn ml c) bn b (.l 0) c su false c ml mf) 3000)) ∨
    (∃ d1 w, DkOk s d1 ∧ offD d1 ∧ LogI d1 fi en (su + 1) w (c + 1 + 1) (cons0 bn ml') (cons0 b mf') ∧ HdI d1 g ∧ d.ar = true ∧ FnTr P (Gf fr) 16 [.ptr 3 0, By n f] (LgH N d g (atL fi bn ml c) bn b (.l 0) c su false c ml mf) 5 (Gives (.lit .i64 6) (LgH N d1 g (atL fi bn ml c) bn b (.l 0) c su true c ml mf) 3000)) ∨
    (∃ d1, d1.ar = d.ar ∧ atL fi bn ml c + needN (n + 4) ≤ en ∧ atL fi bn ml' (c + 1) = atL fi bn ml c + needN (n + 4) ∧ LgSt s h d1 g fi en su (c + 1) bn b ml' mf' ∧ FnTr P (Gf fr) 16 [.ptr 3 0, By n f] (LgH N d g (atL fi bn ml c) bn b (.l 0) c su false c ml mf) 5 (Gives (.lit .i64 0) (LgQ 5 N d1 g (atL fi bn ml' (c + 1)) bn b (.l 0) (c + 1) su false (c + 1) ml' mf') 3000)) := by
  have hat := st.atle
  have hle := st.reg.le
  have hsm := st.small
  have cf : ∀ r : Bool, (r = true ↔ needN (n + 4) ≤ en - atL fi bn ml c) → FnTr P (Gf fr) 25 [.ptr 3 0, .int .i64 (n : Int)] (LgH N d g (atL fi bn ml c) bn b (.l 0) c su false c ml mf) 5 (Gives (.bs r) (LgH N d g (atL fi bn ml c) bn b (.l 0) c su false c ml mf) 200) := fun r hr =>
    fits_fn (nn := n) hP hN st.reg hat (by omega) (by omega) rfl hr
  by_cases hfit : needN (n + 4) ≤ en - atL fi bn ml c
  · have ok := st.ok
    have e1 : ∀ i, i < c + 1 → cons0 bn ml' i = cons0 bn ml i := fun i hi => by
      cases i with
      | zero => rfl
      | succ i => rw [cons0_at, cons0_at, hml, if_pos (by omega)]
    have e2 : ∀ i, i < c + 1 → cons0 b mf' i = cons0 b mf i := fun i hi => by
      cases i with
      | zero => rfl
      | succ i => rw [cons0_at, cons0_at]; funext x; rw [hmf, if_pos (by omega)]
    have e3 : cons0 bn ml' (c + 1) = n := by rw [cons0_at, hml, if_neg (by omega)]
    have e4 : cons0 b mf' (c + 1) = f := by rw [cons0_at]; funext x; rw [hmf, if_neg (by omega)]
    have hput := LogI.put (nl' := cons0 bn ml') (nf' := cons0 b mf') st.log hn (by show atL fi bn ml c + _ ≤ _; omega) e1 e2 e3 e4
    obtain ⟨d1, hd1⟩ : ∃ d1, d1 = putD d (atL fi bn ml c) (n + 4) (sealF n f) := ⟨_, rfl⟩
    have hput : LogI d1 fi en (su + 1) (atL fi bn ml c + putK d (n + 4)) (c + 1 + 1) (cons0 bn ml') (cons0 b mf') := by rw [hd1]; exact hput
    have okp : DkOk s d1 := by rw [hd1]; exact ok.put (by omega) (fun i _ => sealF_range hb i)
    have hh : HdI d1 g := by rw [hd1]; exact (Fr.put (d := d) (f := sealF n f) (b := en) (by omega)).head st.hd (by
      have : fi ≤ atL fi bn ml c := stN_mono (fi := fi) (nl := cons0 bn ml) (i := 0) (by omega)
      omega)
    have cF := cf true ⟨fun _ => hfit, fun _ => rfl⟩
    rcases Nat.lt_or_ge (putK d (n + 4)) (needN (n + 4)) with hk | hk
    · refine .inr (.inl ⟨d1, _, okp, by rw [hd1]; exact putD_off hk ok.hca.1, hput, hh, ?_, ?_⟩)
      · cases e : d.ar with
        | true => rfl
        | false => unfold putK at hk; rw [e] at hk; simp at hk
      · exact append_part (nl := ml) (nf := mf) (mf := fun _ => sealF n f) hP hfr rfl hN st.reg hb hn rfl (fun i _ => rfl) ok (by omega) hk hd1 cF
    · have hk : putK d (n + 4) = needN (n + 4) := Nat.le_antisymm (putK_le _ _) hk
      have ea : atL fi bn ml' (c + 1) = atL fi bn ml c + needN (n + 4) := by
        show stN fi (cons0 bn ml') (c + 1 + 1) = _
        rw [stN_succ, e3, stN_congr e1 _ (Nat.le_refl _)]
      refine .inr (.inr ⟨d1, by rw [hd1]; rfl, by omega, ea, ⟨st.reg, st.gle, okp, ?_, hh⟩, ?_⟩)
      · rw [hk, ← ea] at hput; exact hput
      · exact append_ok (nl := ml) (nf := mf) (ml := ml') (mf := mf') (n := n) (m := n + 4) hP hfr rfl hN st.reg hb hn rfl (fun i _ => rfl) (fun i _ => rfl) ok (by omega) hk hd1 ea (by omega) rfl hml hmf cF
  · exact .inl ⟨by omega, append_full hP rfl (cf false ⟨fun h => (by cases h), fun h => absurd h hfit⟩)⟩
theorem append_run {bn : Nat} {b : Nat → Int} {ml' : Nat → Nat} {mf' : Nat → Nat → Int} (hP : P = Tryz.prog) (hfr : ∀ i, fr i = ((four i).toNat : Int)) (hN : N = 64 * s) (st : LgSt s h d g fi en su c bn b ml mf) (hb : ∀ i, i < n → 0 ≤ f i ∧ f i ≤ 255) (hn : n + 4 ≤ 65536) (hml : ∀ i, ml' i = if i < c then ml i else n) (hmf : ∀ i x, mf' i x = if i < c then mf i x else f x) (har : d.ar = false) (hfit : atL fi bn ml c + needN (n + 4) ≤ en) :
    ∃ d1, d1.ar = false ∧ atL fi bn ml' (c + 1) = atL fi bn ml c + needN (n + 4) ∧ LgSt s h d1 g fi en su (c + 1) bn b ml' mf' ∧ FnTr P (Gf fr) 16 [.ptr 3 0, By n f] (LgH N d g (atL fi bn ml c) bn b (.l 0) c su false c ml mf) 5 (Gives (.lit .i64 0) (LgQ 5 N d1 g (atL fi bn ml' (c + 1)) bn b (.l 0) (c + 1) su false (c + 1) ml' mf') 3000) := by
  rcases append_st hP hfr hN st hb hn hml hmf with ⟨q, _⟩ | ⟨_, _, _, _, _, _, q, _⟩ | ⟨d1, e1, _, e2, e3, e4⟩
  · omega
  · rw [har] at q; cases q
  · exact ⟨d1, e1.trans har, e2, e3, e4⟩
theorem sync_st {bn : Nat} {b : Nat → Int} {G : Gl} (hP : P = Tryz.prog) (hN : N = 64 * s) (st : LgSt s h d g fi en su c bn b ml mf) (ho : ¬ offD d) :
    ∃ d1, d1.ar = d.ar ∧ (∀ k, d1.L k = none) ∧ LgSt s h d1 g fi en c c bn b ml mf ∧ FnTr P G 17 [.ptr 3 0] (LgH N d g (atL fi bn ml c) bn b (.l 0) c su false c ml mf) 5 (Gives (.lit .i64 0) (LgH N d1 g (atL fi bn ml c) bn b (.l 0) c c false c ml mf) 100) :=
  ⟨flushD d, rfl, fun _ => rfl, ⟨st.reg, st.gle, st.ok.flush ho, st.log.flush, st.hd.flush⟩, sync_ok hP rfl hN ⟨by have := st.reg.hs; omega, st.reg.hs.2⟩ st.ok ho rfl⟩
end
end Go.Proofs.YtnjjgipblimbfaaGreatDoor.Dsk
namespace Go.Proofs.YtnjjgipblimbfaaGreatDoor.Dsk
open Go.Eng
open Go.DskLaw (q64 secV)
set_option maxRecDepth 100000
set_option maxHeartbeats 4000000
abbrev Rw64 (s : Nat) (F : Nat → Nat → Int) : SV := .ro 1 (.s s) (fun e => [.ro 1 (.s 64) (fun x => [.int .u8 (F e.val x.val)])])
abbrev RD (s : Nat) (S L : Nat → Nat → Int) (W : Nat → Bool) (c : Int) : SV := .agg [Rw64 s S, Rw64 s L, .ro 1 (.s s) (fun e => [.bs (W e.val)]), .int .i64 c]
theorem refoff_fn {P : Program} {G : Gl} (hP : P = Tryz.prog) {s : Nat} {S L : Nat → Nat → Int} {W : Nat → Bool} {c : Int} {r : Bool} (hr : r = true ↔ c = 0) : FnTr P G 34 [RD s S L W c] [] 0 (Gives (.bs r) [] 1) := by
  have hT : T.Ok P := hP ▸ T_ok
  refine FnTr.intro (fn := Tryz.f34) (c := bodyOf Tryz.f34) (by rw [hP]; rfl) rfl rfl hT ?_
  generalize hA : Ar.real = A
  generalize hK : Gives _ _ _ = K
  cbv
  refine Fin.le hA 0 [] (.bs r) ([]) 1 rfl rfl rfl ?_ ?_ (by rw [← hK]; exact ⟨rfl, rfl, rfl⟩)
  · (try cbv) <;> (repeat' (first | exact trivial | exact rfl | apply And.intro | exact fun _ => rfl | (intro _ hle; first | refine chunk_le hA rfl hle rfl ?_ | refine cat_le hA ?_ | refine upd_le hA ?_ | (try cbv))))
    subst hA
    rw [Bool.eq_iff_iff, hr]; simp [Ar.real]
  · (try cbv) <;> (repeat' (first | exact trivial | exact rfl | apply And.intro | exact fun _ => rfl | (intro _ hle; first | refine chunk_le hA rfl hle rfl ?_ | refine cat_le hA ?_ | refine upd_le hA ?_ | (try cbv))))
theorem refread_ok {P : Program} {G : Gl} (hP : P = Tryz.prog) {s i : Nat} {S L : Nat → Nat → Int} {v : Nat → Int} {W : Nat → Bool} {c : Int} (h : c ≠ 0) (hi : i < s) (hv : v = L i) : FnTr P G 71 [RD s S L W c, .int .i64 (i : Int)] [] 0 (Gives (.tup [.ro 1 (.s 64) (fun e => [.int .u8 (v e.val)]), .lit .i64 0]) [] 2) := by
  have c1 := refoff_fn (P := P) (G := G) (s := s) (S := S) (L := L) (W := W) (c := c) (r := false) hP ⟨fun q => (by cases q), fun q => absurd q h⟩
  have hT : T.Ok P := hP ▸ T_ok
  refine FnTr.intro (fn := Tryz.f71) (c := bodyOf Tryz.f71) (by rw [hP]; rfl) rfl rfl hT ?_
  generalize hA : Ar.real = A
  generalize hK : Gives _ _ _ = K
  cbv
  refine CS.leR hA (c1) (.bl false) [] rfl rfl rfl ?_ ?_ ?_ ?_
  iterate 3 ((try cbv) <;> (repeat' (first | exact trivial | exact rfl | apply And.intro | exact fun _ => rfl | (intro _ hle; first | refine chunk_le hA rfl hle rfl ?_ | refine cat_le hA ?_ | refine upd_le hA ?_ | (try cbv)))) <;> (try (subst hA; (try simp only [zn] at *); (try (simp only [Ar.real, NV.val, zo, zt])); first | done | omega | decide | exact zi | (refine ⟨?_, ?_⟩ <;> first | omega | decide | exact zi))))
  cbv
  have k1 : A.lt (Int.ofNat i) 0 = false := by subst hA; simp [Ar.real]
  have k2 : A.ge (Int.ofNat i) (A.i2 s) = false := by subst hA; simp [Ar.real]; omega
  first | refine testR k1 rfl ?_ | refine testL k1 rfl ?_
  cbv
  first | refine testR k2 rfl ?_ | refine testL k2 rfl ?_
  cbv
  refine ⟨(by (subst hA; (try simp only [zn] at *); (try (simp only [Ar.real, NV.val, zo, zt])); first | done | omega | decide | exact zi | (refine ⟨?_, ?_⟩ <;> first | omega | decide | exact zi))), ?_⟩
  refine Fin.le hA 0 [] (.tup [.ro 1 (.s 64) (fun e => [.int .u8 (v e.val)]), .lit .i64 0]) ([]) 2 rfl rfl rfl ?_ ?_ (by rw [← hK]; exact ⟨rfl, rfl, rfl⟩)
  · (try cbv) <;> (repeat' (first | exact trivial | exact rfl | apply And.intro | exact fun _ => rfl | (intro _ hle; first | refine chunk_le hA rfl hle rfl ?_ | refine cat_le hA ?_ | refine upd_le hA ?_ | (try cbv))))
    subst hA; rw [hv]; rfl
  · (try cbv) <;> (repeat' (first | exact trivial | exact rfl | apply And.intro | exact fun _ => rfl | (intro _ hle; first | refine chunk_le hA rfl hle rfl ?_ | refine cat_le hA ?_ | refine upd_le hA ?_ | (try cbv))))
abbrev RD0 : SV := .agg [.nils, .nils, .nils, .lit .i64 0]
theorem refnew_bad {P : Program} {G : Gl} (hP : P = Tryz.prog) {n : Int} (hn : n < 1 ∨ 4096 < n) : FnTr P G 26 [.int .i64 n] [] 0 (Gives (.tup [RD0, .lit .i64 1]) [] 60) := by
  by_cases h0 : n < 1
  · skip
    have hT : T.Ok P := hP ▸ T_ok
    refine FnTr.intro (fn := Tryz.f26) (c := bodyOf Tryz.f26) (by rw [hP]; rfl) rfl rfl hT ?_
    generalize hA : Ar.real = A
    generalize hK : Gives _ _ _ = K
    cbv
    have k1 : A.lt n 1 = true := by subst hA; simpa [Ar.real] using h0
    first | refine testR k1 rfl ?_ | refine testL k1 rfl ?_
    cbv
    refine Fin.le hA 0 [] (.tup [RD0, .lit .i64 1]) ([]) 60 rfl rfl rfl ?_ ?_ (by rw [← hK]; exact ⟨rfl, rfl, rfl⟩)
    iterate 2 ((try cbv) <;> (repeat' (first | exact trivial | exact rfl | apply And.intro | exact fun _ => rfl | (intro _ hle; first | refine chunk_le hA rfl hle rfl ?_ | refine cat_le hA ?_ | refine upd_le hA ?_ | (try cbv)))))
  · skip
    have hT : T.Ok P := hP ▸ T_ok
    refine FnTr.intro (fn := Tryz.f26) (c := bodyOf Tryz.f26) (by rw [hP]; rfl) rfl rfl hT ?_
    generalize hA : Ar.real = A
    generalize hK : Gives _ _ _ = K
    cbv
    have k1 : A.lt n 1 = false := by subst hA; simpa [Ar.real] using h0
    have k2 : A.gt n 4096 = true := by subst hA; simp [Ar.real]; omega
    first | refine testR k1 rfl ?_ | refine testL k1 rfl ?_
    cbv
    first | refine testR k2 rfl ?_ | refine testL k2 rfl ?_
    cbv
    refine Fin.le hA 0 [] (.tup [RD0, .lit .i64 1]) ([]) 60 rfl rfl rfl ?_ ?_ (by rw [← hK]; exact ⟨rfl, rfl, rfl⟩)
    iterate 2 ((try cbv) <;> (repeat' (first | exact trivial | exact rfl | apply And.intro | exact fun _ => rfl | (intro _ hle; first | refine chunk_le hA rfl hle rfl ?_ | refine cat_le hA ?_ | refine upd_le hA ?_ | (try cbv)))))
theorem push0 {A : Ar} (hA : Ar.real = A) {n d : Nat} {F : Nat → Nat → Int} {Z : NV → List SV} (hZ : ∀ x, ∃ t, Z x = [t] ∧ intOfSV t = some (.u8, 0)) (hF : ∀ i x, F i x = 0) {e N : NV} (he : ltNV A e N) (hN : N.val = A.addN n 1) :
    leL (leSV A (d + 2)) (catG A 1 (.s n) (fun e => [.ro 1 (.s 64) (fun x => [.int .u8 (F e.val x.val)])]) (fun x => chunkS A 1 [.ro 1 (.l 64) (fun e => Z (addNV A (.l 0) e))] (addNV A (.l 0) x)) e) [.ro 1 (.s 64) (fun x => [.int .u8 (F e.val x.val)])] :=
  Rws.le hA (g := F) (Rws.push hA rfl (v := fun _ => 0) (f := F) (len := 64) (kd := .u8) ⟨_, _, rfl, rfl, fun x _ => hZ _⟩ (fun k => ⟨_, rfl, RowOf.base .u8 64 (F k.val)⟩)) he (by subst hA; rw [hN]; exact Nat.le_refl _) rfl (fun x _ => by split <;> simp [hF])
theorem pushF {A : Ar} (hA : Ar.real = A) {n d : Nat} {W : Nat → Bool} (hW : ∀ i, W i = false) {e N : NV} (he : ltNV A e N) (hN : N.val = A.addN n 1) :
    leL (leSV A (d + 1)) (catG A 1 (.s n) (fun e => [.bs (W e.val)]) (fun x => chunkS A 1 [.bl false] (addNV A (.l 0) x)) e) [.bs (W e.val)] :=
  Bls.le hA (g := W) (Bls.push hA (v := false) (f := W) rfl (fun k => ⟨_, rfl, rfl⟩)) he (by subst hA; rw [hN]; exact Nat.le_refl _) (by split <;> simp [hW])
theorem refnew_own {P : Program} {G : Gl} (hP : P = Tryz.prog) {n : Int} {s : Nat} {S L : Nat → Nat → Int} {W : Nat → Bool} (hn : n = (s : Int)) (h1 : 1 ≤ s ∧ s ≤ 4096) (hS : ∀ i x, S i x = 0) (hL : ∀ i x, L i x = 0) (hW : ∀ i, W i = false) :
    FnTr P G 26 [.int .i64 n] [] 0 (Gives (.tup [.agg [.sl 0 1 (.l 0) (.s s), .sl 1 1 (.l 0) (.s s), .sl 2 1 (.l 0) (.s s), .lit .i64 (-1)], .lit .i64 0])
      [(0, .row 22 1 (.s s) (fun e => [.ro 1 (.s 64) (fun x => [.int .u8 (S e.val x.val)])])), (1, .row 22 1 (.s s) (fun e => [.ro 1 (.s 64) (fun x => [.int .u8 (L e.val x.val)])])), (2, .row 4 1 (.s s) (fun e => [.bs (W e.val)]))] 60) := by
  subst hn
  have hT : T.Ok P := hP ▸ T_ok
  refine FnTr.intro (fn := Tryz.f26) (c := bodyOf Tryz.f26) (by rw [hP]; rfl) rfl rfl hT ?_
  generalize hA : Ar.real = A
  generalize hK : Gives _ _ _ = K
  cbv
  have k1 : A.lt (Int.ofNat s) 1 = false := by subst hA; simp [Ar.real]; omega
  have k2 : A.gt (Int.ofNat s) 4096 = false := by subst hA; simp [Ar.real]; omega
  first | refine testR k1 rfl ?_ | refine testL k1 rfl ?_
  cbv
  first | refine testR k2 rfl ?_ | refine testL k2 rfl ?_
  cbv
  refine LS.ghost 22 1 (.l 0) (fun _ => [.nils]) rfl ?_
  refine LS.ghost 22 1 (.l 0) (fun _ => [.nils]) rfl ?_
  refine LS.ghost 4 1 (.l 0) (fun _ => [.bs false]) rfl ?_
  refine LS.le hT hA 15 (fun (i : Nat) => [(5, .int .i64 (i : Int))]) (fun i => [(9, .cells 31 [.sl 12 1 (.l 0) (.s i), .sl 13 1 (.l 0) (.s i), .sl 14 1 (.l 0) (.s i), .lit .i64 (-1)]), (0, .cells 31 [.nils, .nils, .nils, .lit .i64 0]),
    (12, .row 22 1 (.s i) (fun e => [.ro 1 (.s 64) (fun x => [.int .u8 (S e.val x.val)])])), (13, .row 22 1 (.s i) (fun e => [.ro 1 (.s 64) (fun x => [.int .u8 (L e.val x.val)])])), (14, .row 4 1 (.s i) (fun e => [.bs (W e.val)]))]) (fun i => i ≤ s) (fun i => s - i) 0 [] rfl rfl ?_ ?_ ?_
  · (try cbv) <;> (repeat' (first | exact trivial | exact rfl | apply And.intro | exact fun _ => rfl | (intro _ hle; first | refine chunk_le hA rfl hle rfl ?_ | refine cat_le hA ?_ | refine upd_le hA ?_ | refine int_le ?_ | skip)))
    all_goals first | (exfalso; subst hA; exact absurd (ltNV_real.1 hle) (Nat.not_lt_zero _)) | trace_state
  · exact Nat.zero_le _
  · intro R hR i hi
    cbv
    refine ⟨fun h2 => ?_, fun h2 => ?_⟩
    · have him : i < s := by clear hR; subst hA; simp [Ar.real] at h2; omega
      cbv
      refine DS.runK hA hT (by rw [hP]; exact P_mixed) 4 rfl ?_
      cbv
      refine ⟨⟨?_, ?_, ?_, ?_⟩, ⟨?_, trivial⟩, ⟨?_, ?_, ?_⟩, ?_⟩
      iterate 8 (subst hA; (try simp only [zn] at *); (try (simp only [Ar.real, NV.val, zo, zt])); first | done | omega | decide | exact zi | (refine ⟨?_, ?_⟩ <;> first | omega | decide | exact zi))
      refine DF.fin (by kernel_rfl) (by kernel_rfl) ?_
      cbv
      refine DS.runK hA hT (by rw [hP]; exact P_mixed) 4 rfl ?_
      cbv
      refine ⟨⟨?_, ?_, ?_, ?_⟩, ⟨?_, trivial⟩, ⟨?_, ?_, ?_⟩, ?_⟩
      iterate 8 (subst hA; (try simp only [zn] at *); (try (simp only [Ar.real, NV.val, zo, zt])); first | done | omega | decide | exact zi | (refine ⟨?_, ?_⟩ <;> first | omega | decide | exact zi))
      refine DF.fin (by kernel_rfl) (by kernel_rfl) ?_
      cbv
      refine ⟨⟨?_, ?_, ?_⟩, ?_, hR _ _ ⟨i + 1, 15, [(34, 12), (62, 13), (77, 14)], rfl, rfl, ?_, him, (by show s - (i + 1) < s - i; omega)⟩⟩
      iterate 4 (subst hA; (try simp only [zn] at *); (try (simp only [Ar.real, NV.val, zo, zt])); first | done | omega | decide | exact zi | (refine ⟨?_, ?_⟩ <;> first | omega | decide | exact zi))
      clear hR
      (try cbv) <;> (repeat' (first | exact trivial | exact rfl | apply And.intro | exact fun _ => rfl | (intro _ hle; first | refine chunk_le hA rfl hle rfl ?_ | refine cat_le hA ?_ | refine upd_le hA ?_ | refine int_le ?_ | skip)))
      all_goals first | exact push0 hA (fun x => ⟨_, rfl, rfl⟩) hS hle rfl | exact push0 hA (fun x => ⟨_, rfl, rfl⟩) hL hle rfl | exact pushF hA hW hle rfl | (subst hA; (try simp only [zn] at *); (try (simp only [Ar.real, NV.val, zo, zt])); first | done | omega | decide | exact zi | (refine ⟨?_, ?_⟩ <;> first | omega | decide | exact zi))
    · have him : i = s := by clear hR; subst hA; simp [Ar.real] at h2; omega
      subst him
      clear hR
      cbv
      refine Fin.le hA 0 [(12, 0), (13, 1), (14, 2)] (.tup [.agg [.sl 0 1 (.l 0) (.s i), .sl 1 1 (.l 0) (.s i), .sl 2 1 (.l 0) (.s i), .lit .i64 (-1)], .lit .i64 0]) _ 60 rfl rfl rfl ?_ ?_ (by rw [← hK]; exact ⟨rfl, rfl, rfl⟩)
      iterate 2 ((try cbv) <;> (repeat' (first | exact trivial | exact rfl | apply And.intro | exact fun _ => rfl | (intro _ hle; first | refine chunk_le hA rfl hle rfl ?_ | refine cat_le hA ?_ | refine upd_le hA ?_ | (try cbv)))))
theorem refof_bad {P : Program} {G : Gl} (hP : P = Tryz.prog) {n : Nat} {f : Nat → Int} (hn : n ≤ 1000000) (h : n / 64 < 1 ∨ 4096 < n / 64 ∨ n % 64 ≠ 0) : FnTr P G 6 [By n f] [] 0 (Gives (.tup [RD0, .lit .i64 1]) [] 100) := by
  obtain ⟨q, hq⟩ : ∃ q, q = n / 64 := ⟨_, rfl⟩
  have e1 : Int.tdiv (n : Int) 64 = (q : Int) := by rw [hq]; exact quo_nat n 64
  have e2 : Int.tmod (n : Int) 64 = ((n % 64 : Nat) : Int) := rem_nat n 64
  have hq2 : q ≤ 1000000 := by omega
  by_cases h0 : n % 64 = 0
  · have c1 := refnew_bad (P := P) (G := G) (n := (q : Int)) hP (by omega)
    have hT : T.Ok P := hP ▸ T_ok
    refine FnTr.intro (fn := Tryz.f6) (c := bodyOf Tryz.f6) (by rw [hP]; rfl) rfl rfl hT ?_
    generalize hA : Ar.real = A
    generalize hK : Gives _ _ _ = K
    cbv
    have kr : A.ne (A.rem (A.i2 n) 64) 0 = false := by
      subst hA
      show (Int.tmod (n : Int) 64 != 0) = false
      rw [e2, h0]; rfl
    refine ⟨by subst hA; show (64 : Int) ≠ 0; decide, ?_⟩
    first | refine testR kr rfl ?_ | refine testL kr rfl ?_
    cbv
    have kq : A.quo (A.i2 n) 64 = (q : Int) := by subst hA; exact e1
    refine ⟨⟨by subst hA; show (64 : Int) ≠ 0; decide, by have : A.inR .i64 (A.quo (A.i2 n) 64) := by { rw [kq]; subst hA; exact zi }; exact this⟩, ?_⟩
    refine CS.le hA c1 [] rfl rfl rfl ?_ ?_ ?_
    · (try cbv) <;> (repeat' (first | exact trivial | exact rfl | apply And.intro | exact fun _ => rfl | (intro _ hle; first | refine chunk_le hA rfl hle rfl ?_ | refine cat_le hA ?_ | refine upd_le hA ?_ | (try cbv))))
      exact kq
    · (try cbv) <;> (repeat' (first | exact trivial | exact rfl | apply And.intro | exact fun _ => rfl | (intro _ hle; first | refine chunk_le hA rfl hle rfl ?_ | refine cat_le hA ?_ | refine upd_le hA ?_ | (try cbv))))
    cbv
    refine LS.rounds hA 1 hT ?_
    cbv
    have k3 : A.lt 0 (A.i2 0) = false := by subst hA; rfl
    refine Fin.le hA 0 [] (.tup [RD0, .lit .i64 1]) ([]) 100 rfl rfl rfl ?_ ?_ (by rw [← hK]; exact ⟨rfl, rfl, rfl⟩)
    iterate 2 ((try cbv) <;> (repeat' (first | exact trivial | exact rfl | apply And.intro | exact fun _ => rfl | (intro _ hle; first | refine chunk_le hA rfl hle rfl ?_ | refine cat_le hA ?_ | refine upd_le hA ?_ | (try cbv)))))
  · skip
    have hT : T.Ok P := hP ▸ T_ok
    refine FnTr.intro (fn := Tryz.f6) (c := bodyOf Tryz.f6) (by rw [hP]; rfl) rfl rfl hT ?_
    generalize hA : Ar.real = A
    generalize hK : Gives _ _ _ = K
    cbv
    have kr : A.ne (A.rem (A.i2 n) 64) 0 = true := by
      subst hA
      show (Int.tmod (n : Int) 64 != 0) = true
      rw [e2]
      simp; omega
    refine ⟨by subst hA; show (64 : Int) ≠ 0; decide, ?_⟩
    first | refine testR kr rfl ?_ | refine testL kr rfl ?_
    cbv
    refine Fin.le hA 0 [] (.tup [RD0, .lit .i64 1]) ([]) 100 rfl rfl rfl ?_ ?_ (by rw [← hK]; exact ⟨rfl, rfl, rfl⟩)
    iterate 2 ((try cbv) <;> (repeat' (first | exact trivial | exact rfl | apply And.intro | exact fun _ => rfl | (intro _ hle; first | refine chunk_le hA rfl hle rfl ?_ | refine cat_le hA ?_ | refine upd_le hA ?_ | (try cbv)))))
theorem upd_rows {A : Ar} (hA : Ar.real = A) {n p d : Nat} {F F' : Nat → Nat → Int} {v : Nat → Int} {s : SV} (hs : RowOf .u8 64 v s) (h : ∀ i x, i < n → x < 64 → F' i x = if i = p then v x else F i x) {e N : NV} (he : ltNV A e N) (hN : N.val = n) :
    leL (leSV A (d + 2)) (updF A 1 (.s p) 0 [s] (fun e => [.ro 1 (.s 64) (fun x => [.int .u8 (F e.val x.val)])]) e) [.ro 1 (.s 64) (fun x => [.int .u8 (F' e.val x.val)])] :=
  Rws.le hA (g := F') (Rws.upd hA p hs (Rws.base .u8 64 F n)) he (by omega) rfl (fun x hx => by
    have he : e.val < N.val := by subst hA; exact ltNV_real.1 he
    rw [h _ _ (by omega) hx]; split <;> rfl)
theorem refof_ok {P : Program} {G : Gl} (hP : P = Tryz.prog) {n s : Nat} {f : Nat → Int} {S L : Nat → Nat → Int} {W : Nat → Bool} (hn : n = 64 * s) (h : 1 ≤ s ∧ s ≤ 4096) (hS : ∀ i x, i < s → x < 64 → S i x = f (64 * i + x)) (hL : ∀ i x, i < s → x < 64 → L i x = f (64 * i + x)) (hW : ∀ i, W i = false) :
    FnTr P G 6 [By n f] [] 0 (Gives (.tup [RD s S L W (-1), .lit .i64 0]) [] 400) := by
  have e1 : Int.tdiv (n : Int) 64 = (s : Int) := by rw [hn]; exact q64 s
  have e2 : Int.tmod (n : Int) 64 = 0 := by
    have := rem_nat n 64
    rw [show n % 64 = 0 by omega] at this
    exact this
  obtain ⟨Si, hSi⟩ : ∃ Si : Nat → Nat → Nat → Int, ∀ i t x, Si i t x = if t < i then f (64 * t + x) else 0 := ⟨_, fun _ _ _ => rfl⟩
  have c1 := refnew_own (P := P) (G := G) (n := (s : Int)) (S := Si 0) (L := Si 0) (W := W) hP rfl h (fun i x => by rw [hSi, if_neg (by omega)]) (fun i x => by rw [hSi, if_neg (by omega)]) hW
  have hstep : ∀ i t x, Si (i + 1) t x = if t = i then f (64 * i + x) else Si i t x := fun i t x => by
    rw [hSi, hSi]
    by_cases q : t = i
    · subst q; rw [if_pos (by omega), if_pos rfl]
    · rw [if_neg q]
      by_cases q2 : t < i
      · rw [if_pos q2, if_pos (by omega)]
      · rw [if_neg q2, if_neg (by omega)]
  have hlast : ∀ t x, t < s → Si s t x = f (64 * t + x) := fun t x h => by rw [hSi, if_pos h]
  clear hSi
  have h0 : FnTr P G 6 [By n f] [] 0 (Gives (.tup [.agg [.sl 0 1 (.l 0) (.s s), .sl 1 1 (.l 0) (.s s), .sl 2 1 (.l 0) (.s s), .lit .i64 (-1)], .lit .i64 0])
      [(0, .row 22 1 (.s s) (fun e => [.ro 1 (.s 64) (fun x => [.int .u8 (S e.val x.val)])])), (1, .row 22 1 (.s s) (fun e => [.ro 1 (.s 64) (fun x => [.int .u8 (L e.val x.val)])])), (2, .row 4 1 (.s s) (fun e => [.bs (W e.val)]))] 400) := by
    have hT : T.Ok P := hP ▸ T_ok
    refine FnTr.intro (fn := Tryz.f6) (c := bodyOf Tryz.f6) (by rw [hP]; rfl) rfl rfl hT ?_
    generalize hA : Ar.real = A
    generalize hK : Gives _ _ _ = K
    cbv
    have kr : A.ne (A.rem (A.i2 n) 64) 0 = false := by
      subst hA
      show (Int.tmod (n : Int) 64 != 0) = false
      rw [e2]; rfl
    refine ⟨by subst hA; show (64 : Int) ≠ 0; decide, ?_⟩
    first | refine testR kr rfl ?_ | refine testL kr rfl ?_
    cbv
    have kq : A.quo (A.i2 n) 64 = (s : Int) := by subst hA; exact e1
    refine ⟨⟨by subst hA; show (64 : Int) ≠ 0; decide, by have : A.inR .i64 (A.quo (A.i2 n) 64) := by { rw [kq]; subst hA; exact zi }; exact this⟩, ?_⟩
    refine CS.le hA c1 [] rfl rfl rfl ?_ ?_ ?_
    · (try cbv) <;> (repeat' (first | exact trivial | exact rfl | apply And.intro | exact fun _ => rfl | (intro _ hle; first | refine chunk_le hA rfl hle rfl ?_ | refine cat_le hA ?_ | refine upd_le hA ?_ | (try cbv))))
      exact kq
    · (try cbv) <;> (repeat' (first | exact trivial | exact rfl | apply And.intro | exact fun _ => rfl | (intro _ hle; first | refine chunk_le hA rfl hle rfl ?_ | refine cat_le hA ?_ | refine upd_le hA ?_ | (try cbv))))
    cbv
    refine LS.leU hT hA 73 (fun (i : Nat) => [(6, .int .i64 (i : Int))]) [] (fun i => [(9, .row 22 1 (.s s) (fun e => [.ro 1 (.s 64) (fun x => [.int .u8 (Si i e.val x.val)])])), (10, .row 22 1 (.s s) (fun e => [.ro 1 (.s 64) (fun x => [.int .u8 (Si i e.val x.val)])]))]) (fun i => i ≤ s) (fun i => s - i) 0 [] rfl rfl ?_ ?_ ?_
    · (try cbv) <;> (repeat' (first | exact trivial | exact rfl | apply And.intro | exact fun _ => rfl | (intro _ hle; first | refine chunk_le hA rfl hle rfl ?_ | refine cat_le hA ?_ | refine upd_le hA ?_ | refine int_le ?_ | skip)))
    · exact Nat.zero_le _
    · intro R hR i hi
      cbv
      refine ⟨fun h2 => ?_, fun h2 => ?_⟩
      · have him : i < s := by clear hR; subst hA; simp [Ar.real] at h2; omega
        cbv
        refine DS.runK hA hT (by rw [hP]; exact P_mixed) 2 rfl ?_
        cbv
        have hrow : RowOf .u8 64 (fun x => f (64 * i + x)) (.ro 1 (.s (A.subN (A.nat (A.add (A.mul 64 (Int.ofNat i)) 64)) (A.nat (A.mul 64 (Int.ofNat i))))) (fun x => [.int .u8 (f (addNV A (.s (A.nat (A.mul 64 (Int.ofNat i)))) x).val)])) := by
          clear hR
          subst hA
          refine ⟨_, _, rfl, ?_, fun x hx => ⟨_, rfl, ?_⟩⟩
          · show (64 * (i : Int) + 64).toNat - (64 * (i : Int)).toNat = 64; omega
          · show some _ = some _
            rw [addNV_val]
            show some (IntKind.u8, f ((64 * (i : Int)).toNat + x.val)) = _
            rw [show (64 * (i : Int)).toNat = 64 * i by omega]
        refine ⟨?_, ?_, ?_, ⟨?_, ?_, ?_, ?_⟩, ?_, ?_, ?_⟩
        iterate 9 (subst hA; (try simp only [zn] at *); (try (simp only [Ar.real, NV.val, zo, zt])); first | done | omega | decide | exact zi | (refine ⟨?_, ?_⟩ <;> first | omega | decide | exact zi))
        refine DF.fin (by kernel_rfl) (by kernel_rfl) ?_
        cbv
        have kn : A.nat (Int.ofNat i) = i := by subst hA; rfl
        refine DS.blk hA 9 (.row 22 1 (.s s) (fun e => [.ro 1 (.s 64) (fun x => [.int .u8 (Si (i + 1) e.val x.val)])])) ?_ ?_
        · have hup : ∀ e, ltNV A e (.s s) → leL (leSV A 4) _ [.ro 1 (.s 64) (fun x => [.int .u8 (Si (i + 1) e.val x.val)])] := fun e he => upd_rows (p := A.nat (Int.ofNat i)) (F := Si i) (F' := Si (i + 1)) hA hrow (fun t x _ _ => by rw [kn]; exact hstep i t x) he rfl
          (try cbv) <;> (repeat' (first | exact trivial | exact rfl | apply And.intro | exact fun _ => rfl | (intro _ hle; first | exact hup _ hle | refine chunk_le hA rfl hle rfl ?_ | refine cat_le hA ?_ | refine upd_le hA ?_ | refine int_le ?_ | skip)))
        refine DS.runK hA hT (by rw [hP]; exact P_mixed) 2 rfl ?_
        cbv
        refine ⟨?_, ?_, ?_, ?_, ?_⟩
        iterate 4 (subst hA; (try simp only [zn] at *); (try (simp only [Ar.real, NV.val, zo, zt])); first | done | omega | decide | exact zi | (refine ⟨?_, ?_⟩ <;> first | omega | decide | exact zi))
        refine DF.fin (by kernel_rfl) (by kernel_rfl) ?_
        cbv
        refine ⟨(by (subst hA; (try simp only [zn] at *); (try (simp only [Ar.real, NV.val, zo, zt])); first | done | omega | decide | exact zi | (refine ⟨?_, ?_⟩ <;> first | omega | decide | exact zi))), hR _ _ ⟨i + 1, 73, [], rfl, rfl, ?_, him, (by show s - (i + 1) < s - i; omega)⟩⟩
        have hup : ∀ e, ltNV A e (.s s) → leL (leSV A 4) _ [.ro 1 (.s 64) (fun x => [.int .u8 (Si (i + 1) e.val x.val)])] := fun e he => upd_rows (p := A.nat (Int.ofNat i)) (F := Si i) (F' := Si (i + 1)) hA (RowOf.base .u8 64 (fun x => Si (i + 1) (A.nat (Int.ofNat i)) x)) (fun t x _ _ => by
          rw [kn, hstep i t x, hstep i i x, if_pos rfl]) he rfl
        clear hR
        (try cbv) <;> (repeat' (first | exact trivial | exact rfl | apply And.intro | exact fun _ => rfl | (intro _ hle; first | exact hup _ hle | refine chunk_le hA rfl hle rfl ?_ | refine cat_le hA ?_ | refine upd_le hA ?_ | refine int_le ?_ | skip)))
        all_goals (subst hA; (try simp only [zn] at *); (try (simp only [Ar.real, NV.val, zo, zt])); first | done | omega | decide | exact zi | (refine ⟨?_, ?_⟩ <;> first | omega | decide | exact zi))
      · have him : i = s := by clear hR; subst hA; simp [Ar.real] at h2; omega
        subst him
        clear hR
        cbv
        refine Fin.le hA 0 [(9, 0), (10, 1), (11, 2)] (.tup [.agg [.sl 0 1 (.l 0) (.s i), .sl 1 1 (.l 0) (.s i), .sl 2 1 (.l 0) (.s i), .lit .i64 (-1)], .lit .i64 0]) _ 400 rfl rfl rfl ?_ ?_ (by rw [← hK]; exact ⟨rfl, rfl, rfl⟩)
        · (try cbv) <;> (repeat' (first | exact trivial | exact rfl | apply And.intro | exact fun _ => rfl | (intro _ hle; first | refine chunk_le hA rfl hle rfl ?_ | refine cat_le hA ?_ | refine upd_le hA ?_ | (try cbv))))
        · (try cbv) <;> (repeat' (first | exact trivial | exact rfl | apply And.intro | exact fun _ => rfl | (intro _ hle; first | refine chunk_le hA rfl hle rfl ?_ | refine cat_le hA ?_ | refine upd_le hA ?_ | refine int_le ?_ | skip)))
          · rename_i e1 h1 e2
            have q1 : e1.val < i := by subst hA; exact ltNV_real.1 h1
            have q2 : e2.val < 64 := by subst hA; exact ltNV_real.1 hle
            rw [hlast _ _ q1, hS _ _ q1 q2]
          · rename_i e1 h1 e2
            have q1 : e1.val < i := by subst hA; exact ltNV_real.1 h1
            have q2 : e2.val < 64 := by subst hA; exact ltNV_real.1 hle
            rw [hlast _ _ q1, hL _ _ q1 q2]
  generalize hA : Ar.real = A
  refine FnTr.dat hA h0 _ _ ?_
  (try cbv) <;> (repeat' (first | exact trivial | exact rfl | apply And.intro | exact fun _ => rfl | (intro _ hle; first | refine chunk_le hA rfl hle rfl ?_ | refine cat_le hA ?_ | refine upd_le hA ?_ | refine int_le ?_ | skip)))
  all_goals (subst hA; (try simp only [zn] at *); (try (simp only [Ar.real, NV.val, zo, zt])); first | done | omega | decide | exact zi | (refine ⟨?_, ?_⟩ <;> first | omega | decide | exact zi))
end Go.Proofs.YtnjjgipblimbfaaGreatDoor.Dsk
namespace Go.Proofs.YtnjjgipblimbfaaGreatDoor.Dsk
open Go.Eng
open Go.DskLaw (q64 secV isB)
open Go.WalLaw
set_option maxRecDepth 100000
set_option maxHeartbeats 1000000
section
variable {P : Program} {G : Gl} {s h g fi en sec : Nat} {S L : Nat → Nat → Int} {W : Nat → Bool} {c : Int}
theorem rhalf_fn (hP : P = Tryz.prog) (hs : 4 ≤ s ∧ s ≤ 4096) (hh : h = (s - 2) / 2) :
    FnTr P G 37 [RD s S L W c] [] 0 (Gives (.int .i64 (h : Int)) [] 10) := by
  have e1 : Int.tdiv ((s : Int) - 2) 2 = (h : Int) := by rw [show ((s : Int) - 2) = ((s - 2 : Nat) : Int) by omega, hh]; rfl
  have hh2 : h ≤ 2047 := by omega
  have hT : T.Ok P := hP ▸ T_ok
  refine FnTr.intro (fn := Tryz.f37) (c := bodyOf Tryz.f37) (by rw [hP]; rfl) rfl rfl hT ?_
  generalize hA : Ar.real = A
  generalize hK : Gives _ _ _ = K
  cbv
  have k1 : A.quo (A.sub (A.i2 s) 2) 2 = (h : Int) := by subst hA; exact e1
  refine ⟨?_, ⟨?_, (by (show A.inR .i64 (A.quo (A.sub (A.i2 s) 2) 2)); rw [k1]; (subst hA; (try simp only [zn] at *); (try (simp only [Ar.real, NV.val, zo, zt])); first | done | omega | decide | exact zi | (refine ⟨?_, ?_⟩ <;> first | omega | decide | exact zi)))⟩, ?_⟩
  iterate 2 (subst hA; (try simp only [zn] at *); (try (simp only [Ar.real, NV.val, zo, zt])); first | done | omega | decide | exact zi | (refine ⟨?_, ?_⟩ <;> first | omega | decide | exact zi))
  refine Fin.le hA 0 [] (.int .i64 (h : Int)) ([]) 10 rfl rfl rfl ?_ ?_ (by rw [← hK]; exact ⟨rfl, rfl, rfl⟩)
  · (try cbv) <;> (repeat' (first | exact trivial | exact rfl | apply And.intro | exact fun _ => rfl | (intro _ hle; first | refine chunk_le hA rfl hle rfl ?_ | refine cat_le hA ?_ | refine upd_le hA ?_ | (try cbv))))
    exact k1
  · (try cbv) <;> (repeat' (first | exact trivial | exact rfl | apply And.intro | exact fun _ => rfl | (intro _ hle; first | refine chunk_le hA rfl hle rfl ?_ | refine cat_le hA ?_ | refine upd_le hA ?_ | (try cbv))))
theorem rfirst_fn (hP : P = Tryz.prog) (hs : 4 ≤ s ∧ s ≤ 4096) (hh : h = (s - 2) / 2) (hg : g ≤ 1099511627777) (hf : fi = 2 + g % 2 * h) :
    FnTr P G 36 [RD s S L W c, .int .i64 (g : Int)] [] 0 (Gives (.int .i64 (fi : Int)) [] 20) := by
  have a1 := rhalf_fn (P := P) (G := G) (S := S) (L := L) (W := W) (c := c) hP hs hh
  obtain ⟨r, hr⟩ : ∃ r, r = g % 2 := ⟨_, rfl⟩
  obtain ⟨rh, hrh⟩ : ∃ rh, rh = r * h := ⟨_, rfl⟩
  have e0 : Int.tmod (g : Int) 2 = (r : Int) := by rw [hr]; rfl
  have e1 : (r : Int) * (h : Int) = (rh : Int) := by rw [hrh]; exact (Int.natCast_mul r h).symm
  have hh2 : h ≤ 2047 := by omega
  have hr2 : r ≤ 1 := by omega
  have hrh2 : rh ≤ 2047 := by
    rw [hrh]
    have : r = 0 ∨ r = 1 := by omega
    rcases this with e | e <;> rw [e] <;> omega
  have hf : fi = 2 + rh := by rw [hf, ← hr, ← hrh]
  clear hh
  have hT : T.Ok P := hP ▸ T_ok
  refine FnTr.intro (fn := Tryz.f36) (c := bodyOf Tryz.f36) (by rw [hP]; rfl) rfl rfl hT ?_
  generalize hA : Ar.real = A
  generalize hK : Gives _ _ _ = K
  cbv
  have k0 : A.rem (Int.ofNat g) 2 = (r : Int) := by subst hA; exact e0
  have k1 : A.mul (r : Int) (Int.ofNat h) = (rh : Int) := by subst hA; exact e1
  refine ⟨(by (subst hA; (try simp only [zn] at *); (try (simp only [Ar.real, NV.val, zo, zt])); first | done | omega | decide | exact zi | (refine ⟨?_, ?_⟩ <;> first | omega | decide | exact zi))), ?_⟩
  refine CS.le hA (a1) [] rfl rfl rfl ?_ ?_ ?_
  iterate 2 ((try cbv) <;> (repeat' (first | exact trivial | exact rfl | apply And.intro | exact fun _ => rfl | (intro _ hle; first | refine chunk_le hA rfl hle rfl ?_ | refine cat_le hA ?_ | refine upd_le hA ?_ | (try cbv)))) <;> (try (subst hA; (try simp only [zn] at *); (try (simp only [Ar.real, NV.val, zo, zt])); first | done | omega | decide | exact zi | (refine ⟨?_, ?_⟩ <;> first | omega | decide | exact zi))))
  cbv
  have k2 : A.mul (A.rem (Int.ofNat g) 2) (Int.ofNat h) = (rh : Int) := by rw [k0]; exact k1
  refine ⟨by (show A.inR .i64 (A.mul (A.rem (Int.ofNat g) 2) (Int.ofNat h))); rw [k2]; (subst hA; (try simp only [zn] at *); (try (simp only [Ar.real, NV.val, zo, zt])); first | done | omega | decide | exact zi | (refine ⟨?_, ?_⟩ <;> first | omega | decide | exact zi)), by (show A.inR .i64 (A.add 2 (A.mul (A.rem (Int.ofNat g) 2) (Int.ofNat h)))); rw [k2]; (subst hA; (try simp only [zn] at *); (try (simp only [Ar.real, NV.val, zo, zt])); first | done | omega | decide | exact zi | (refine ⟨?_, ?_⟩ <;> first | omega | decide | exact zi)), ?_⟩
  refine Fin.le hA 0 [] (.int .i64 (fi : Int)) ([]) 20 rfl rfl rfl ?_ ?_ (by rw [← hK]; exact ⟨rfl, rfl, rfl⟩)
  · (try cbv) <;> (repeat' (first | exact trivial | exact rfl | apply And.intro | exact fun _ => rfl | (intro _ hle; first | refine chunk_le hA rfl hle rfl ?_ | refine cat_le hA ?_ | refine upd_le hA ?_ | (try cbv))))
    show A.add 2 (A.mul (A.rem (Int.ofNat g) 2) (Int.ofNat h)) = _
    rw [k2]
    (subst hA; (try simp only [zn] at *); (try (simp only [Ar.real, NV.val, zo, zt])); first | done | omega | decide | exact zi | (refine ⟨?_, ?_⟩ <;> first | omega | decide | exact zi))
  · (try cbv) <;> (repeat' (first | exact trivial | exact rfl | apply And.intro | exact fun _ => rfl | (intro _ hle; first | refine chunk_le hA rfl hle rfl ?_ | refine cat_le hA ?_ | refine upd_le hA ?_ | (try cbv))))
end
end Go.Proofs.YtnjjgipblimbfaaGreatDoor.Dsk
namespace Go.WalLaw
open Go.DskLaw
def headQ (g j : Nat) (x : Nat) : Int := if (8 ≤ x + j ∧ x < 8) ∨ 64 ≤ x + j then headB g x else 0
theorem headQ_zero (g x : Nat) (hx : x < 64) : headQ g 0 x = 0 := by
  unfold headQ; rw [if_neg (by omega)]
theorem headQ_all (g x : Nat) (hx : x < 64) : headQ g 8 x = headB g x := by
  unfold headQ
  split
  · rfl
  · unfold headB; rw [if_neg (by omega), if_neg (by omega)]
theorem headQ_succ (g j x : Nat) (hj : j < 8) (hx : x < 64) : headQ g (j + 1) x = if x = 63 - j then ((g / 256 ^ j % 256 : Nat) : Int) else if x = 7 - j then ((g / 256 ^ j % 256 : Nat) : Int) else headQ g j x := by
  unfold headQ headB
  by_cases h1 : x = 63 - j
  · rw [if_pos (by omega), if_neg (by omega), if_pos (by omega), if_pos h1, show 63 - x = j by omega]
  · rw [if_neg h1]
    by_cases h2 : x = 7 - j
    · rw [if_pos (by omega), if_pos (by omega), if_pos h2, show 7 - x = j by omega]
    · rw [if_neg h2]
      by_cases h3 : (8 ≤ x + j ∧ x < 8) ∨ 64 ≤ x + j
      · rw [if_pos (by omega), if_pos h3]
      · rw [if_neg (by omega), if_neg h3]
theorem genN_mono (v : Nat → Int) {i j : Nat} (h : i ≤ j) : genN v i ≤ genN v j := by
  induction j with
  | zero => rw [Nat.le_zero.1 h]; exact Nat.le_refl _
  | succ j ih =>
    rcases Nat.lt_or_ge i (j + 1) with q | q
    · have := ih (by omega)
      show _ ≤ genN v j * 256 + (v j).toNat
      omega
    · rw [show i = j + 1 by omega]; exact Nat.le_refl _
end Go.WalLaw
