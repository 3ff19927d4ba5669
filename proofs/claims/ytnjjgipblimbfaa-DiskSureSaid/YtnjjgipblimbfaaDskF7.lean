/-
  Records on sectors: the record at a place, as data; all records of a run.
-/
import Derived.Test.YtnjjgipblimbfaaDskF6
set_option linter.unusedVariables false
set_option linter.unusedSimpArgs false
namespace Go.Proofs.Ytnjjgipblimbfaa.Dsk
open Go.Eng
open Go.DskLaw (q64 secV needN pcs padOk isB usedP getP scanP getP_next scanP_none scanP_some)
set_option maxRecDepth 100000
set_option maxHeartbeats 4000000
set_option linter.unusedVariables false

theorem get_none {P : Program} {G : Gl} (hP : P = Try.prog) {N s first fin : Nat} {S f0 : Nat → Int} {L : Int → Option (Nat → Int)} {ar : Bool} {ca : Int} {V : Nat → Nat → Int} (hN : N = 64 * s) (hs : s ≤ 4096)
    (h : first ≤ fin ∧ fin ≤ s) (ho : ¬ (ar = true ∧ ca = 0)) (hV : ∀ i, i < s → V i = secV S L i ∧ isB (V i)) (hR0 : getP V first fin (fin - first) first 0 f0 = none) :
    FnTr P G 36 [.ptr 0 0, .int .i64 (first : Int), .int .i64 (fin : Int)] (DH N S L ar ca) 3 (Gives (.tup [.nils, .lit .i64 0, .lit .i64 4]) (DH N S L ar ca) 3) :=
  get_own hP hN hs h ho hV hR0 (fun n f next e => by cases e) (fun _ => ⟨rfl, rfl, rfl⟩)
theorem get_fn {P : Program} {G : Gl} (hP : P = Try.prog) {N s first fin n next : Nat} {S f0 f : Nat → Int} {L : Int → Option (Nat → Int)} {ar : Bool} {ca : Int} {V : Nat → Nat → Int} (hN : N = 64 * s) (hs : s ≤ 4096)
    (h : first ≤ fin ∧ fin ≤ s) (ho : ¬ (ar = true ∧ ca = 0)) (hV : ∀ i, i < s → V i = secV S L i ∧ isB (V i)) (hR0 : getP V first fin (fin - first) first 0 f0 = some (n, f, next)) :
    FnTr P G 36 [.ptr 0 0, .int .i64 (first : Int), .int .i64 (fin : Int)] (DH N S L ar ca) 3 (Gives (.tup [By n f, .int .i64 (next : Int), .lit .i64 0]) (DH N S L ar ca) 4) := by
  have h1 : FnTr P G 36 [.ptr 0 0, .int .i64 (first : Int), .int .i64 (fin : Int)] (DH N S L ar ca) 3 (Gives (.tup [.sl 3 1 (.l 0) (.s n), .int .i64 (next : Int), .lit .i64 0]) ((3, .row 5 1 (.s n) (fun e => [.int .u8 (f e.val)])) :: DH N S L ar ca) 4) :=
    get_own hP hN hs h ho hV hR0 (fun n f next e => by cases e; exact ⟨rfl, rfl, rfl⟩) (fun e => by cases e)
  generalize hA : Ar.real = A
  refine FnTr.dat hA h1 _ _ ?_
  (try cbv) <;> (repeat' (first | exact trivial | exact rfl | apply And.intro | exact fun _ => rfl | (intro _ hle; first | refine chunk_le hA rfl hle rfl ?_ | refine cat_le hA ?_ | refine upd_le hA ?_ | refine int_le ?_ | skip)))
  all_goals (subst hA; (try simp only [natCast_eq] at *); (try (simp only [Ar.real, NV.val, Int.ofNat_eq_natCast, Int.toNat_natCast])); first | done | omega | decide | exact inR64 (by omega) (by omega) | (refine ⟨?_, ?_⟩ <;> first | omega | decide | exact inR64 (by omega) (by omega)))

abbrev RecS (c : Nat) (g : Nat → Nat × (Nat → Int)) : SV := .ro 1 (.s c) (fun e => [.ro 1 (.s (g e.val).1) (fun x => [.int .u8 ((g e.val).2 x.val)])])
theorem scan_own {P : Program} {G : Gl} (hP : P = Try.prog) {N s first fin c0 last : Nat} {S : Nat → Int} {L : Int → Option (Nat → Int)} {ar : Bool} {ca : Int} {V : Nat → Nat → Int} {g0 gs : Nat → Nat × (Nat → Int)} (hN : N = 64 * s) (hs : s ≤ 4096)
    (h : first ≤ fin ∧ fin ≤ s) (ho : ¬ (ar = true ∧ ca = 0)) (hV : ∀ i, i < s → V i = secV S L i ∧ isB (V i)) (hR0 : scanP V fin (fin - first + 1) first 0 g0 = (c0, gs, last)) :
    FnTr P G 14 [.ptr 0 0, .int .i64 (first : Int), .int .i64 (fin : Int)] (DH N S L ar ca) 3 (Gives (.tup [.sl 3 1 (.l 0) (.s c0), .int .i64 (last : Int), .lit .i64 0]) ((3, .row 23 1 (.s c0) (fun e => [.ro 1 (.s (gs e.val).1) (fun x => [.int .u8 ((gs e.val).2 x.val)])])) :: DH N S L ar ca) 4) := by
  have c1 : ∀ x, x ≤ fin → getP V x fin (fin - x) x 0 (fun _ => 0) = none → FnTr P G 36 [.ptr 0 0, .int .i64 (x : Int), .int .i64 (fin : Int)] (DH N S L ar ca) 3 (Gives (.tup [.nils, .lit .i64 0, .lit .i64 4]) (DH N S L ar ca) 3) := fun x hx e => get_none hP hN hs ⟨hx, h.2⟩ ho hV e
  have c2 : ∀ x n next f, x ≤ fin → getP V x fin (fin - x) x 0 (fun _ => 0) = some (n, f, next) → FnTr P G 36 [.ptr 0 0, .int .i64 (x : Int), .int .i64 (fin : Int)] (DH N S L ar ca) 3 (Gives (.tup [By n f, .int .i64 (next : Int), .lit .i64 0]) (DH N S L ar ca) 4) := fun x n next f hx e => get_fn hP hN hs ⟨hx, h.2⟩ ho hV e
  clear hV
  have hT : T.Ok P := hP ▸ T_ok
  refine FnTr.intro (fn := Try.f14) (c := bodyOf Try.f14) (by rw [hP]; rfl) rfl rfl hT ?_
  generalize hA : Ar.real = A
  generalize hK : Gives _ _ _ = K
  cbv
  refine LS.ghost 23 1 (.l 0) (fun _ => [.nils]) rfl ?_
  refine LS.le3 hT hA 3 (fun (x : Nat) (c : Nat) (_ : Nat → Nat × (Nat → Int)) => [(1, .int .i64 (x : Int)), (9, .sl 3 1 (.l 0) (.s c))]) (fun _ c g => (3, .row 23 1 (.s c) (fun e => [.ro 1 (.s (g e.val).1) (fun x => [.int .u8 ((g e.val).2 x.val)])])) :: DH N S L ar ca) (fun x c g => x ≤ fin ∧ c ≤ x ∧ ∃ k, fin - x < k ∧ scanP V fin k x c g = (c0, gs, last)) (fun x _ _ => fin - x) first 0 g0 [(7, 3)] rfl rfl ?_ ?_ ?_
  · (try cbv) <;> (repeat' (first | exact trivial | exact rfl | apply And.intro | exact fun _ => rfl | (intro _ hle; first | refine chunk_le hA rfl hle rfl ?_ | refine cat_le hA ?_ | refine upd_le hA ?_ | refine int_le ?_ | skip)))
    all_goals (exfalso; subst hA; exact absurd (ltNV_real.1 hle) (Nat.not_lt_zero _))
  · exact ⟨h.1, Nat.zero_le _, _, Nat.lt_succ_self _, hR0⟩
  · intro R hR x c g hx
    obtain ⟨hxf, hcx, k, hk, hsc⟩ := hx
    cbv
    cases hg : getP V x fin (fin - x) x 0 (fun _ => 0) with
    | none =>
      rw [scanP_none hg] at hsc
      obtain ⟨rfl, rfl, rfl⟩ : c = c0 ∧ g = gs ∧ x = last := by cases hsc; exact ⟨rfl, rfl, rfl⟩
      have a1 := c1 x hxf hg
      clear c1 c2 hR
      refine CS.le hA (a1) [(0, 0), (1, 1), (2, 2)] rfl rfl rfl ?_ ?_ ?_
      · (try cbv) <;> (repeat' (first | exact trivial | exact rfl | apply And.intro | exact fun _ => rfl | (intro _ hle; first | refine chunk_le hA rfl hle rfl ?_ | refine cat_le hA ?_ | refine upd_le hA ?_ | (try cbv)))) <;> (try (subst hA; (try simp only [natCast_eq] at *); (try (simp only [Ar.real, NV.val, Int.ofNat_eq_natCast, Int.toNat_natCast])); first | done | omega | decide | exact inR64 (by omega) (by omega) | (refine ⟨?_, ?_⟩ <;> first | omega | decide | exact inR64 (by omega) (by omega))))
      · (try cbv) <;> (repeat' (first | exact trivial | exact rfl | apply And.intro | exact fun _ => rfl | (intro _ hle; first | refine chunk_le hA rfl hle rfl ?_ | refine cat_le hA ?_ | refine upd_le hA ?_ | (try cbv))))
      cbv
      refine Fin.le hA 3 [(3, 3)] (.tup [.sl 3 1 (.l 0) (.s c), .int .i64 (x : Int), .lit .i64 0]) ((3, .row 23 1 (.s c) (fun e => [.ro 1 (.s (g e.val).1) (fun x => [.int .u8 ((g e.val).2 x.val)])])) :: DH N S L ar ca) 4 rfl rfl rfl ?_ ?_ (by rw [← hK]; exact ⟨rfl, rfl, rfl⟩)
      · (try cbv) <;> (repeat' (first | exact trivial | exact rfl | apply And.intro | exact fun _ => rfl | (intro _ hle; first | refine chunk_le hA rfl hle rfl ?_ | refine cat_le hA ?_ | refine upd_le hA ?_ | refine int_le ?_ | skip)))
      · (try cbv) <;> (repeat' (first | exact trivial | exact rfl | apply And.intro | exact fun _ => rfl | (intro _ hle; first | refine chunk_le hA rfl hle rfl ?_ | refine cat_le hA ?_ | refine upd_le hA ?_ | refine int_le ?_ | skip)))
    | some r =>
      obtain ⟨n, f, next⟩ := r
      have hnx := getP_next _ hg
      obtain ⟨k', rfl⟩ : ∃ k', k = k' + 1 := ⟨k - 1, by omega⟩
      rw [scanP_some hg] at hsc
      obtain ⟨g', hg'⟩ : ∃ g' : Nat → Nat × (Nat → Int), g' = fun i => if i < c then g i else (n, f) := ⟨_, rfl⟩
      rw [← hg'] at hsc
      have a2 := c2 x n next f hxf hg
      clear c1 c2
      refine CS.le hA (a2) [(0, 0), (1, 1), (2, 2)] rfl rfl rfl ?_ ?_ ?_
      · (try cbv) <;> (repeat' (first | exact trivial | exact rfl | apply And.intro | exact fun _ => rfl | (intro _ hle; first | refine chunk_le hA rfl hle rfl ?_ | refine cat_le hA ?_ | refine upd_le hA ?_ | (try cbv)))) <;> (try (subst hA; (try simp only [natCast_eq] at *); (try (simp only [Ar.real, NV.val, Int.ofNat_eq_natCast, Int.toNat_natCast])); first | done | omega | decide | exact inR64 (by omega) (by omega) | (refine ⟨?_, ?_⟩ <;> first | omega | decide | exact inR64 (by omega) (by omega))))
      · (try cbv) <;> (repeat' (first | exact trivial | exact rfl | apply And.intro | exact fun _ => rfl | (intro _ hle; first | refine chunk_le hA rfl hle rfl ?_ | refine cat_le hA ?_ | refine upd_le hA ?_ | (try cbv))))
      cbv
      have hpush : ∀ e, ltNV A e (.s (A.addN c 1)) → leL (leSV A 4) (catG A 1 (.s c) (fun e => [.ro 1 (.s (g e.val).1) (fun x => [.int .u8 ((g e.val).2 x.val)])]) (fun x => chunkS A 1 [.ro 1 (.s n) (fun x => [.int .u8 (f x.val)])] (addNV A (.l 0) x)) e) [.ro 1 (.s (g' e.val).1) (fun x => [.int .u8 ((g' e.val).2 x.val)])] := fun e he => by
        have he : e.val < c + 1 := by subst hA; exact ltNV_real.1 he
        have hlen : (g' e.val).1 = if e.val < c then (g e.val).1 else n := by
          rw [hg']; simp only []
          by_cases q : e.val < c
          · rw [if_pos q, if_pos q]
          · rw [if_neg q, if_neg q]
        have hrow : ∀ j, j < (g' e.val).1 → (g' e.val).2 j = if e.val < c then (g e.val).2 j else f j := fun j _ => by
          rw [hg']; simp only []
          by_cases q : e.val < c
          · rw [if_pos q, if_pos q]
          · rw [if_neg q, if_neg q]
        exact rows_push (len := fun i => (g i).1) (len' := fun i => (g' i).1) (g := fun i => (g i).2) (g' := fun i => (g' i).2) (h := f) hA (by omega) hlen hrow
      refine ⟨⟨(by (subst hA; (try simp only [natCast_eq] at *); (try (simp only [Ar.real, NV.val, Int.ofNat_eq_natCast, Int.toNat_natCast])); first | done | omega | decide | exact inR64 (by omega) (by omega) | (refine ⟨?_, ?_⟩ <;> first | omega | decide | exact inR64 (by omega) (by omega)))), (by (subst hA; (try simp only [natCast_eq] at *); (try (simp only [Ar.real, NV.val, Int.ofNat_eq_natCast, Int.toNat_natCast])); first | done | omega | decide | exact inR64 (by omega) (by omega) | (refine ⟨?_, ?_⟩ <;> first | omega | decide | exact inR64 (by omega) (by omega)))), (by (subst hA; (try simp only [natCast_eq] at *); (try (simp only [Ar.real, NV.val, Int.ofNat_eq_natCast, Int.toNat_natCast])); first | done | omega | decide | exact inR64 (by omega) (by omega) | (refine ⟨?_, ?_⟩ <;> first | omega | decide | exact inR64 (by omega) (by omega))))⟩, hR _ _ _ _ ⟨next, c + 1, g', 3, [(26, 3)], rfl, rfl, ?_, ⟨hnx.2.1, by omega, k', by omega, hsc⟩, (by show fin - next < fin - x; omega)⟩⟩
      clear hR
      (try cbv) <;> (repeat' (first | exact trivial | exact rfl | apply And.intro | exact fun _ => rfl | (intro _ hle; first | exact hpush _ hle | refine chunk_le hA rfl hle rfl ?_ | refine cat_le hA ?_ | refine upd_le hA ?_ | refine int_le ?_ | skip)))
      all_goals (subst hA; (try simp only [natCast_eq] at *); (try (simp only [Ar.real, NV.val, Int.ofNat_eq_natCast, Int.toNat_natCast])); first | done | omega | decide | exact inR64 (by omega) (by omega) | (refine ⟨?_, ?_⟩ <;> first | omega | decide | exact inR64 (by omega) (by omega)))
theorem scan_fn {P : Program} {G : Gl} (hP : P = Try.prog) {N s first fin c0 last : Nat} {S : Nat → Int} {L : Int → Option (Nat → Int)} {ar : Bool} {ca : Int} {V : Nat → Nat → Int} {g0 gs : Nat → Nat × (Nat → Int)} (hN : N = 64 * s) (hs : s ≤ 4096)
    (h : first ≤ fin ∧ fin ≤ s) (ho : ¬ (ar = true ∧ ca = 0)) (hV : ∀ i, i < s → V i = secV S L i ∧ isB (V i)) (hR0 : scanP V fin (fin - first + 1) first 0 g0 = (c0, gs, last)) :
    FnTr P G 14 [.ptr 0 0, .int .i64 (first : Int), .int .i64 (fin : Int)] (DH N S L ar ca) 3 (Gives (.tup [RecS c0 gs, .int .i64 (last : Int), .lit .i64 0]) (DH N S L ar ca) 4) := by
  have h1 := scan_own (P := P) (G := G) hP hN hs h ho hV hR0
  generalize hA : Ar.real = A
  refine FnTr.dat hA h1 _ _ ?_
  (try cbv) <;> (repeat' (first | exact trivial | exact rfl | apply And.intro | exact fun _ => rfl | (intro _ hle; first | refine chunk_le hA rfl hle rfl ?_ | refine cat_le hA ?_ | refine upd_le hA ?_ | refine int_le ?_ | skip)))
  all_goals (subst hA; (try simp only [natCast_eq] at *); (try (simp only [Ar.real, NV.val, Int.ofNat_eq_natCast, Int.toNat_natCast])); first | done | omega | decide | exact inR64 (by omega) (by omega) | (refine ⟨?_, ?_⟩ <;> first | omega | decide | exact inR64 (by omega) (by omega)))
end Go.Proofs.Ytnjjgipblimbfaa.Dsk
