/-
  The sums of bytes: the laws CrcSums, CrcJoins, CrcLong, as the code runs them.
-/
import Derived.Test.YtnjjgipblimbfaaDoorCrcF5
set_option linter.unusedVariables false
set_option linter.unusedSimpArgs false
namespace Go.Proofs.YtnjjgipblimbfaaDoor
open Go.Eng
open Go.CrcLaw (four)
set_option maxRecDepth 100000
set_option linter.unusedVariables false

theorem openIs_ex (gi : Nat → Int) (g : Nat → BitVec 32) (n : Nat) : ∃ m er, OpenIs gi g n m er := by
  by_cases h : n < 4
  · exact ⟨0, 210, .inl ⟨h, rfl, rfl⟩⟩
  · by_cases h2 : ∀ i, i < n → CrcLaw.sealB gi (CrcLaw.more g 0#32 (n - 4)) (n - 4) i = gi i
    · exact ⟨n - 4, 0, .inr (.inl ⟨by omega, h2, rfl, rfl⟩)⟩
    · exact ⟨0, 240, .inr (.inr ⟨by omega, h2, rfl, rfl⟩)⟩

theorem sums_law {P : Program} (hP : P = Tryd.prog) {fr gi : Nat → Int} {g : Nat → BitVec 32} {n : Nat} {si : Int} {s : BitVec 32} (hfr : ∀ i, fr i = ((four i).toNat : Int)) (hg : ∀ i, gi i = ((g i).toNat : Int)) (hg8 : ∀ i, i < n → (g i).toNat < 256) (hs : si = (s.toNat : Int)) (hn : n ≤ 9223372036854775807) :
    FnTr P (Gf fr) 3 [.ro 1 (.s n) (fun e => [.int .u8 (gi e.val)]), .int .u32 si] [] 0 (Gives (.bl true) [] 10) := by
  have hrefl : ∀ i, i < n → 0 ≤ gi i ∧ gi i < 256 := fun i hi => by have := hg8 i hi; rw [hg]; omega
  obtain ⟨m, er, ho⟩ := openIs_ex gi g n
  have hm : m ≤ n := by rcases ho with ⟨_, h, _⟩ | ⟨_, _, h, _⟩ | ⟨_, _, h, _⟩ <;> omega
  obtain ⟨r0, hr0⟩ : ∃ r0 : Int, r0 = ((CrcLaw.more g 0#32 n).toNat : Int) := ⟨_, rfl⟩
  obtain ⟨r1, hr1⟩ : ∃ r1 : Int, r1 = ((CrcLaw.more g s n).toNat : Int) := ⟨_, rfl⟩
  obtain ⟨n4, hn4⟩ : ∃ n4, n4 = n + 4 := ⟨_, rfl⟩
  obtain ⟨hi, hh⟩ : ∃ hi : Nat → Int, ∀ i, hi i = CrcLaw.sealB gi (CrcLaw.more g 0#32 n) n i := ⟨_, fun _ => rfl⟩
  have hhr : ∀ i, 0 ≤ hi i ∧ hi i < 256 := fun i => by rw [hh]; exact CrcLaw.sealB_rng hrefl i
  obtain ⟨hg', hgg⟩ : ∃ hg' : Nat → BitVec 32, ∀ i, hi i = ((hg' i).toNat : Int) := ⟨fun i => BitVec.ofNat 32 (hi i).toNat, fun i => by have := hhr i; rw [BitVec.toNat_ofNat]; omega⟩
  have hgg8 : ∀ i, i < n4 → (hg' i).toNat < 256 := fun i _ => by have := hhr i; have := hgg i; omega
  have hgn : ∀ i, i < n → hg' i = g i := fun i hi => by
    have h1 := hgg i
    rw [hh, CrcLaw.sealB, if_pos hi, hg] at h1
    exact BitVec.eq_of_toNat_eq (by exact_mod_cast h1.symm)
  have hos : OpenIs hi hg' n4 n 0 := by
    refine .inr (.inl ⟨by omega, ?_, by omega, rfl⟩)
    rw [show n4 - 4 = n by omega]
    intro i _
    have e : CrcLaw.more hg' 0#32 n = CrcLaw.more g 0#32 n := by unfold CrcLaw.more; rw [CrcLaw.raw_congr hgn]
    rw [e]
    unfold CrcLaw.sealB
    split
    · rfl
    · rename_i hlt
      rw [hh, CrcLaw.sealB, if_neg hlt]
  have hlen : ∀ {A : Ar}, Ar.real = A → A.gt (A.i2 n) 1000 = false → n ≤ 1000 := by
    intro A hA h; subst hA; simp only [Ar.real] at h; simp at h; omega
  have hT : T.Ok P := hP ▸ T_ok
  refine FnTr.intro (fn := Tryd.f3) (c := bodyOf Tryd.f3) (by rw [hP]; rfl) rfl rfl hT ?_
  generalize hA : Ar.real = A
  generalize hK : Gives _ _ _ = K
  cbv
  refine ⟨fun h => ?_, fun h => ?_⟩
  · cbv
    refine CS.le hA (lives_fn hP hfr) [] rfl rfl rfl ?_ ?_ ?_
    · (try cbv) <;> (repeat' (first | exact trivial | exact rfl | apply And.intro | (intro _ hle; first | refine chunk_le hA rfl hle rfl ?_ | refine cat_le hA ?_ | refine upd_le hA ?_ | (try cbv))))
    · (try cbv) <;> (repeat' (first | exact trivial | exact rfl | apply And.intro | (intro _ hle; first | refine chunk_le hA rfl hle rfl ?_ | refine cat_le hA ?_ | refine upd_le hA ?_ | (try cbv))))
    cbv
    refine Fin.le hA 0 [] (.bl true) ([]) 10 rfl rfl rfl ?_ ?_ (by rw [← hK]; exact ⟨rfl, rfl, rfl⟩)
    · (try cbv) <;> (repeat' (first | exact trivial | exact rfl | apply And.intro | (intro _ hle; first | refine chunk_le hA rfl hle rfl ?_ | refine cat_le hA ?_ | refine upd_le hA ?_ | (try cbv))))
    · (try cbv) <;> (repeat' (first | exact trivial | exact rfl | apply And.intro | (intro _ hle; first | refine chunk_le hA rfl hle rfl ?_ | refine cat_le hA ?_ | refine upd_le hA ?_ | (try cbv))))
  · have hn' := hlen hA h
    clear hlen
    cbv
    refine CS.le hA (open_fn (n := n) (m := m) (er := er) hP hfr hg hg8 (by omega) ho) [] rfl rfl rfl ?_ ?_ ?_
    · (try cbv) <;> (repeat' (first | exact trivial | exact rfl | apply And.intro | (intro _ hle; first | refine chunk_le hA rfl hle rfl ?_ | refine cat_le hA ?_ | refine upd_le hA ?_ | (try cbv))))
    · (try cbv) <;> (repeat' (first | exact trivial | exact rfl | apply And.intro | (intro _ hle; first | refine chunk_le hA rfl hle rfl ?_ | refine cat_le hA ?_ | refine upd_le hA ?_ | (try cbv))))
    cbv
    refine CS.le hA (refopen_fn (n := n) (m := m) (er := er) hP hg hg8 (by omega) ho) [] rfl rfl rfl ?_ ?_ ?_
    · (try cbv) <;> (repeat' (first | exact trivial | exact rfl | apply And.intro | (intro _ hle; first | refine chunk_le hA rfl hle rfl ?_ | refine cat_le hA ?_ | refine upd_le hA ?_ | (try cbv))))
    · (try cbv) <;> (repeat' (first | exact trivial | exact rfl | apply And.intro | (intro _ hle; first | refine chunk_le hA rfl hle rfl ?_ | refine cat_le hA ?_ | refine upd_le hA ?_ | (try cbv))))
    cbv
    refine CS.le hA (sum_fn (n := n) hP hfr hg hr0 (by omega)) [] rfl rfl rfl ?_ ?_ ?_
    · (try cbv) <;> (repeat' (first | exact trivial | exact rfl | apply And.intro | (intro _ hle; first | refine chunk_le hA rfl hle rfl ?_ | refine cat_le hA ?_ | refine upd_le hA ?_ | (try cbv))))
    · (try cbv) <;> (repeat' (first | exact trivial | exact rfl | apply And.intro | (intro _ hle; first | refine chunk_le hA rfl hle rfl ?_ | refine cat_le hA ?_ | refine upd_le hA ?_ | (try cbv))))
    cbv
    refine CS.le hA (refsum_fn (n := n) hP hg hr0 (by omega)) [] rfl rfl rfl ?_ ?_ ?_
    · (try cbv) <;> (repeat' (first | exact trivial | exact rfl | apply And.intro | (intro _ hle; first | refine chunk_le hA rfl hle rfl ?_ | refine cat_le hA ?_ | refine upd_le hA ?_ | (try cbv))))
    · (try cbv) <;> (repeat' (first | exact trivial | exact rfl | apply And.intro | (intro _ hle; first | refine chunk_le hA rfl hle rfl ?_ | refine cat_le hA ?_ | refine upd_le hA ?_ | (try cbv))))
    cbv
    have hne : ∀ x : Int, A.ne x x = false := fun x => by subst hA; simp [Ar.real]
    have heq : ∀ x : Int, A.eq x x = true := fun x => by subst hA; simp [Ar.real]
    have hnt : A.not true = false := by subst hA; rfl
    refine ⟨fun _ => ?_, fun h => absurd ((hne r0).symm.trans h) (by decide)⟩
    cbv
    refine CS.le hA (more_fn (n := n) hP hfr hg hs hr1 (by omega)) [] rfl rfl rfl ?_ ?_ ?_
    · (try cbv) <;> (repeat' (first | exact trivial | exact rfl | apply And.intro | (intro _ hle; first | refine chunk_le hA rfl hle rfl ?_ | refine cat_le hA ?_ | refine upd_le hA ?_ | (try cbv))))
    · (try cbv) <;> (repeat' (first | exact trivial | exact rfl | apply And.intro | (intro _ hle; first | refine chunk_le hA rfl hle rfl ?_ | refine cat_le hA ?_ | refine upd_le hA ?_ | (try cbv))))
    cbv
    refine CS.le hA (refmore_fn (n := n) hP hg hs hr1 (by omega)) [] rfl rfl rfl ?_ ?_ ?_
    · (try cbv) <;> (repeat' (first | exact trivial | exact rfl | apply And.intro | (intro _ hle; first | refine chunk_le hA rfl hle rfl ?_ | refine cat_le hA ?_ | refine upd_le hA ?_ | (try cbv))))
    · (try cbv) <;> (repeat' (first | exact trivial | exact rfl | apply And.intro | (intro _ hle; first | refine chunk_le hA rfl hle rfl ?_ | refine cat_le hA ?_ | refine upd_le hA ?_ | (try cbv))))
    cbv
    refine ⟨fun _ => ?_, fun h => absurd ((hne r1).symm.trans h) (by decide)⟩
    cbv
    refine CS.le hA (seal_fn (n := n) (m := n4) hP hfr hg (by omega) hn4 (fun i _ => hh i)) [] rfl rfl rfl ?_ ?_ ?_
    · (try cbv) <;> (repeat' (first | exact trivial | exact rfl | apply And.intro | (intro _ hle; first | refine chunk_le hA rfl hle rfl ?_ | refine cat_le hA ?_ | refine upd_le hA ?_ | (try cbv))))
    · (try cbv) <;> (repeat' (first | exact trivial | exact rfl | apply And.intro | (intro _ hle; first | refine chunk_le hA rfl hle rfl ?_ | refine cat_le hA ?_ | refine upd_le hA ?_ | (try cbv))))
    cbv
    refine CS.le hA (refseal_fn (n := n) (m := n4) hP hg (by omega) hn4 (fun i _ => hh i)) [] rfl rfl rfl ?_ ?_ ?_
    · (try cbv) <;> (repeat' (first | exact trivial | exact rfl | apply And.intro | (intro _ hle; first | refine chunk_le hA rfl hle rfl ?_ | refine cat_le hA ?_ | refine upd_le hA ?_ | (try cbv))))
    · (try cbv) <;> (repeat' (first | exact trivial | exact rfl | apply And.intro | (intro _ hle; first | refine chunk_le hA rfl hle rfl ?_ | refine cat_le hA ?_ | refine upd_le hA ?_ | (try cbv))))
    cbv
    refine CS.leR hA (same_fn (n := n4) (m := n4) (f := hi) (g := hi) (res := true) hP (fun i _ => hhr i) (fun i _ => hhr i) ⟨fun _ => ⟨rfl, fun _ _ => rfl⟩, fun _ => rfl⟩) (.bl true) [] rfl rfl rfl ?_ ?_ ?_ ?_
    · (try cbv) <;> (repeat' (first | exact trivial | exact rfl | apply And.intro | (intro _ hle; first | refine chunk_le hA rfl hle rfl ?_ | refine cat_le hA ?_ | refine upd_le hA ?_ | (try cbv))))
    · (try cbv) <;> (repeat' (first | exact trivial | exact rfl | apply And.intro | (intro _ hle; first | refine chunk_le hA rfl hle rfl ?_ | refine cat_le hA ?_ | refine upd_le hA ?_ | (try cbv))))
    · (try cbv) <;> (repeat' (first | exact trivial | exact rfl | apply And.intro | (intro _ hle; first | refine chunk_le hA rfl hle rfl ?_ | refine cat_le hA ?_ | refine upd_le hA ?_ | (try cbv))))
    cbv
    refine CS.leR hA (same_fn (n := m) (m := m) (f := gi) (g := gi) (res := true) hP (fun i hi => hrefl i (by omega)) (fun i hi => hrefl i (by omega)) ⟨fun _ => ⟨rfl, fun _ _ => rfl⟩, fun _ => rfl⟩) (.bl true) [] rfl rfl rfl ?_ ?_ ?_ ?_
    · (try cbv) <;> (repeat' (first | exact trivial | exact rfl | apply And.intro | (intro _ hle; first | refine chunk_le hA rfl hle rfl ?_ | refine cat_le hA ?_ | refine upd_le hA ?_ | (try cbv))))
    · (try cbv) <;> (repeat' (first | exact trivial | exact rfl | apply And.intro | (intro _ hle; first | refine chunk_le hA rfl hle rfl ?_ | refine cat_le hA ?_ | refine upd_le hA ?_ | (try cbv))))
    · (try cbv) <;> (repeat' (first | exact trivial | exact rfl | apply And.intro | (intro _ hle; first | refine chunk_le hA rfl hle rfl ?_ | refine cat_le hA ?_ | refine upd_le hA ?_ | (try cbv))))
    cbv
    refine ⟨fun h => absurd ((hne er).symm.trans h) (by decide), fun _ => ?_⟩
    cbv
    refine CS.le hA (seal_fn (n := n) (m := n4) hP hfr hg (by omega) hn4 (fun i _ => hh i)) [] rfl rfl rfl ?_ ?_ ?_
    · (try cbv) <;> (repeat' (first | exact trivial | exact rfl | apply And.intro | (intro _ hle; first | refine chunk_le hA rfl hle rfl ?_ | refine cat_le hA ?_ | refine upd_le hA ?_ | (try cbv))))
    · (try cbv) <;> (repeat' (first | exact trivial | exact rfl | apply And.intro | (intro _ hle; first | refine chunk_le hA rfl hle rfl ?_ | refine cat_le hA ?_ | refine upd_le hA ?_ | (try cbv))))
    cbv
    refine CS.leR hA (open_fn (n := n4) (m := n) (er := 0) hP hfr hgg hgg8 (by omega) hos) (.tup [.ro 1 (.s n) (fun e => [.int .u8 (hi e.val)]), .lit .i64 0]) [] rfl rfl rfl ?_ ?_ ?_ ?_
    · (try cbv) <;> (repeat' (first | exact trivial | exact rfl | apply And.intro | (intro _ hle; first | refine chunk_le hA rfl hle rfl ?_ | refine cat_le hA ?_ | refine upd_le hA ?_ | (try cbv))))
    · (try cbv) <;> (repeat' (first | exact trivial | exact rfl | apply And.intro | (intro _ hle; first | refine chunk_le hA rfl hle rfl ?_ | refine cat_le hA ?_ | refine upd_le hA ?_ | (try cbv))))
    · (try cbv) <;> (repeat' (first | exact trivial | exact rfl | apply And.intro | (intro _ hle; first | refine chunk_le hA rfl hle rfl ?_ | refine cat_le hA ?_ | refine upd_le hA ?_ | (try cbv))))
    cbv
    refine CS.leR hA (same_fn (n := n) (m := n) (f := hi) (g := gi) (res := true) hP (fun i _ => hhr i) hrefl ⟨fun _ => ⟨rfl, fun i hi => by rw [hh, CrcLaw.sealB, if_pos hi]⟩, fun _ => rfl⟩) (.bl true) [] rfl rfl rfl ?_ ?_ ?_ ?_
    · (try cbv) <;> (repeat' (first | exact trivial | exact rfl | apply And.intro | (intro _ hle; first | refine chunk_le hA rfl hle rfl ?_ | refine cat_le hA ?_ | refine upd_le hA ?_ | (try cbv))))
    · (try cbv) <;> (repeat' (first | exact trivial | exact rfl | apply And.intro | (intro _ hle; first | refine chunk_le hA rfl hle rfl ?_ | refine cat_le hA ?_ | refine upd_le hA ?_ | (try cbv))))
    · (try cbv) <;> (repeat' (first | exact trivial | exact rfl | apply And.intro | (intro _ hle; first | refine chunk_le hA rfl hle rfl ?_ | refine cat_le hA ?_ | refine upd_le hA ?_ | (try cbv))))
    cbv
    refine CS.le hA (lives_fn hP hfr) [] rfl rfl rfl ?_ ?_ ?_
    · (try cbv) <;> (repeat' (first | exact trivial | exact rfl | apply And.intro | (intro _ hle; first | refine chunk_le hA rfl hle rfl ?_ | refine cat_le hA ?_ | refine upd_le hA ?_ | (try cbv))))
    · (try cbv) <;> (repeat' (first | exact trivial | exact rfl | apply And.intro | (intro _ hle; first | refine chunk_le hA rfl hle rfl ?_ | refine cat_le hA ?_ | refine upd_le hA ?_ | (try cbv))))
    cbv
    refine Fin.le hA 0 [] (.bl true) ([]) 10 rfl rfl rfl ?_ ?_ (by rw [← hK]; exact ⟨rfl, rfl, rfl⟩)
    · (try cbv) <;> (repeat' (first | exact trivial | exact rfl | apply And.intro | (intro _ hle; first | refine chunk_le hA rfl hle rfl ?_ | refine cat_le hA ?_ | refine upd_le hA ?_ | (try cbv))))
    · (try cbv) <;> (repeat' (first | exact trivial | exact rfl | apply And.intro | (intro _ hle; first | refine chunk_le hA rfl hle rfl ?_ | refine cat_le hA ?_ | refine upd_le hA ?_ | (try cbv))))

theorem joins_law {P : Program} (hP : P = Tryd.prog) {fr gi hi : Nat → Int} {g h : Nat → BitVec 32} {n m : Nat} (hfr : ∀ i, fr i = ((four i).toNat : Int)) (hg : ∀ i, gi i = ((g i).toNat : Int)) (hh : ∀ i, hi i = ((h i).toNat : Int)) (hn : n ≤ 9223372036854775807) (hm : m ≤ 9223372036854775807) :
    FnTr P (Gf fr) 4 [.ro 1 (.s n) (fun e => [.int .u8 (gi e.val)]), .ro 1 (.s m) (fun e => [.int .u8 (hi e.val)])] [] 0 (Gives (.bl true) [] 10) := by
  obtain ⟨r0, hr0⟩ : ∃ r0 : Int, r0 = ((CrcLaw.more g 0#32 n).toNat : Int) := ⟨_, rfl⟩
  obtain ⟨r1, hr1⟩ : ∃ r1 : Int, r1 = ((CrcLaw.more h 0#32 m).toNat : Int) := ⟨_, rfl⟩
  obtain ⟨k, hk⟩ : ∃ k, k = n + m := ⟨_, rfl⟩
  obtain ⟨cg, hcg⟩ : ∃ cg, cg = CrcLaw.cat g n h := ⟨_, rfl⟩
  obtain ⟨ci, hci⟩ : ∃ ci : Nat → Int, ∀ i, ci i = ((cg i).toNat : Int) := ⟨_, fun _ => rfl⟩
  obtain ⟨r2, hr2⟩ : ∃ r2 : Int, r2 = ((CrcLaw.more cg 0#32 k).toNat : Int) := ⟨_, rfl⟩
  have hr2' : r2 = ((CrcLaw.hs (8 * m) (CrcLaw.more g 0#32 n) ^^^ CrcLaw.more h 0#32 m).toNat : Int) := by
    rw [hr2, hk, hcg, CrcLaw.more_cat, CrcLaw.more_split, BitVec.xor_comm]
  have hlen : ∀ {A : Ar} {n : Nat}, Ar.real = A → A.gt (A.i2 n) 1000 = false → n ≤ 1000 := by
    intro A n hA h; subst hA; simp only [Ar.real] at h; simp at h; omega
  have hcat : ∀ i, ci i = if i < n then gi i else hi (i - n) := by
    intro i; rw [hci, hcg, CrcLaw.cat]; split
    · rw [hg]
    · rw [hh]
  have hT : T.Ok P := hP ▸ T_ok
  refine FnTr.intro (fn := Tryd.f4) (c := bodyOf Tryd.f4) (by rw [hP]; rfl) rfl rfl hT ?_
  generalize hA : Ar.real = A
  generalize hK : Gives _ _ _ = K
  cbv
  refine ⟨fun h1 => ?_, fun h1 => ?_⟩
  · have hn' := hlen hA h1
    cbv
    refine ⟨fun h2 => ?_, fun h2 => ?_⟩
    · cbv
      refine CS.le hA (lives_fn hP hfr) [] rfl rfl rfl ?_ ?_ ?_
      · (try cbv) <;> (repeat' (first | exact trivial | exact rfl | apply And.intro | (intro _ hle; first | refine chunk_le hA rfl hle rfl ?_ | refine cat_le hA ?_ | refine upd_le hA ?_ | (try cbv))))
      · (try cbv) <;> (repeat' (first | exact trivial | exact rfl | apply And.intro | (intro _ hle; first | refine chunk_le hA rfl hle rfl ?_ | refine cat_le hA ?_ | refine upd_le hA ?_ | (try cbv))))
      cbv
      refine Fin.le hA 0 [] (.bl true) ([]) 10 rfl rfl rfl ?_ ?_ (by rw [← hK]; exact ⟨rfl, rfl, rfl⟩)
      · (try cbv) <;> (repeat' (first | exact trivial | exact rfl | apply And.intro | (intro _ hle; first | refine chunk_le hA rfl hle rfl ?_ | refine cat_le hA ?_ | refine upd_le hA ?_ | (try cbv))))
      · (try cbv) <;> (repeat' (first | exact trivial | exact rfl | apply And.intro | (intro _ hle; first | refine chunk_le hA rfl hle rfl ?_ | refine cat_le hA ?_ | refine upd_le hA ?_ | (try cbv))))
    · have hm' := hlen hA h2
      clear hlen
      cbv
      refine CS.le hA (sum_fn (n := n) hP hfr hg hr0 (by omega)) [] rfl rfl rfl ?_ ?_ ?_
      · (try cbv) <;> (repeat' (first | exact trivial | exact rfl | apply And.intro | (intro _ hle; first | refine chunk_le hA rfl hle rfl ?_ | refine cat_le hA ?_ | refine upd_le hA ?_ | (try cbv))))
      · (try cbv) <;> (repeat' (first | exact trivial | exact rfl | apply And.intro | (intro _ hle; first | refine chunk_le hA rfl hle rfl ?_ | refine cat_le hA ?_ | refine upd_le hA ?_ | (try cbv))))
      cbv
      refine CS.le hA (sum_fn (n := m) hP hfr hh hr1 (by omega)) [] rfl rfl rfl ?_ ?_ ?_
      · (try cbv) <;> (repeat' (first | exact trivial | exact rfl | apply And.intro | (intro _ hle; first | refine chunk_le hA rfl hle rfl ?_ | refine cat_le hA ?_ | refine upd_le hA ?_ | (try cbv))))
      · (try cbv) <;> (repeat' (first | exact trivial | exact rfl | apply And.intro | (intro _ hle; first | refine chunk_le hA rfl hle rfl ?_ | refine cat_le hA ?_ | refine upd_le hA ?_ | (try cbv))))
      cbv
      refine CS.le hA (join_fn (n := m) (ni := A.i2 m) hP hr0 hr1 (by subst hA; rfl) (by omega) hr2') [] rfl rfl rfl ?_ ?_ ?_
      · (try cbv) <;> (repeat' (first | exact trivial | exact rfl | apply And.intro | (intro _ hle; first | refine chunk_le hA rfl hle rfl ?_ | refine cat_le hA ?_ | refine upd_le hA ?_ | (try cbv))))
      · (try cbv) <;> (repeat' (first | exact trivial | exact rfl | apply And.intro | (intro _ hle; first | refine chunk_le hA rfl hle rfl ?_ | refine cat_le hA ?_ | refine upd_le hA ?_ | (try cbv))))
      cbv
      refine ⟨(by (subst hA; (simp only [Ar.real, NV.val, Int.ofNat_eq_natCast, Int.toNat_natCast]); first | done | omega | decide | exact inR64 (by omega) (by omega) | (refine ⟨?_, ?_⟩ <;> first | omega | decide | exact inR64 (by omega) (by omega)))), (by (subst hA; (simp only [Ar.real, NV.val, Int.ofNat_eq_natCast, Int.toNat_natCast]); first | done | omega | decide | exact inR64 (by omega) (by omega) | (refine ⟨?_, ?_⟩ <;> first | omega | decide | exact inR64 (by omega) (by omega)))), ?_⟩
      refine CS.frzA hA (by (try cbv) <;> (repeat' (first | exact trivial | exact rfl | apply And.intro | (intro _ hle; first | refine chunk_le hA rfl hle rfl ?_ | refine cat_le hA ?_ | refine upd_le hA ?_ | (try cbv)))); all_goals (subst hA; (simp only [Ar.real, NV.val, Int.ofNat_eq_natCast, Int.toNat_natCast]); first | done | omega | decide | exact inR64 (by omega) (by omega) | (refine ⟨?_, ?_⟩ <;> first | omega | decide | exact inR64 (by omega) (by omega)))) ?_
      cbv
      refine CS.le hA (refsum_fn (n := k) (gi := ci) hP hci hr2 (by omega)) [] rfl rfl rfl ?_ ?_ ?_
      · (try cbv) <;> (repeat' (first | exact trivial | exact rfl | apply And.intro | (intro _ hle; first | refine chunk_le hA rfl hle rfl ?_ | refine cat_le hA ?_ | refine upd_le hA ?_ | (try cbv))))
        · subst hA; simp only [Ar.real, NV.val, Int.ofNat_eq_natCast, Int.toNat_natCast]
          omega
        · exact hcat _
      · (try cbv) <;> (repeat' (first | exact trivial | exact rfl | apply And.intro | (intro _ hle; first | refine chunk_le hA rfl hle rfl ?_ | refine cat_le hA ?_ | refine upd_le hA ?_ | (try cbv))))
      cbv
      have heq : A.eq r2 r2 = true := by subst hA; simp [Ar.real]
      refine ⟨fun _ => ?_, fun h => absurd (heq.symm.trans h) (by decide)⟩
      cbv
      refine CS.le hA (lives_fn hP hfr) [] rfl rfl rfl ?_ ?_ ?_
      · (try cbv) <;> (repeat' (first | exact trivial | exact rfl | apply And.intro | (intro _ hle; first | refine chunk_le hA rfl hle rfl ?_ | refine cat_le hA ?_ | refine upd_le hA ?_ | (try cbv))))
      · (try cbv) <;> (repeat' (first | exact trivial | exact rfl | apply And.intro | (intro _ hle; first | refine chunk_le hA rfl hle rfl ?_ | refine cat_le hA ?_ | refine upd_le hA ?_ | (try cbv))))
      cbv
      refine Fin.le hA 0 [] (.bl true) ([]) 10 rfl rfl rfl ?_ ?_ (by rw [← hK]; exact ⟨rfl, rfl, rfl⟩)
      · (try cbv) <;> (repeat' (first | exact trivial | exact rfl | apply And.intro | (intro _ hle; first | refine chunk_le hA rfl hle rfl ?_ | refine cat_le hA ?_ | refine upd_le hA ?_ | (try cbv))))
      · (try cbv) <;> (repeat' (first | exact trivial | exact rfl | apply And.intro | (intro _ hle; first | refine chunk_le hA rfl hle rfl ?_ | refine cat_le hA ?_ | refine upd_le hA ?_ | (try cbv))))
  · cbv
    refine CS.le hA (lives_fn hP hfr) [] rfl rfl rfl ?_ ?_ ?_
    · (try cbv) <;> (repeat' (first | exact trivial | exact rfl | apply And.intro | (intro _ hle; first | refine chunk_le hA rfl hle rfl ?_ | refine cat_le hA ?_ | refine upd_le hA ?_ | (try cbv))))
    · (try cbv) <;> (repeat' (first | exact trivial | exact rfl | apply And.intro | (intro _ hle; first | refine chunk_le hA rfl hle rfl ?_ | refine cat_le hA ?_ | refine upd_le hA ?_ | (try cbv))))
    cbv
    refine Fin.le hA 0 [] (.bl true) ([]) 10 rfl rfl rfl ?_ ?_ (by rw [← hK]; exact ⟨rfl, rfl, rfl⟩)
    · (try cbv) <;> (repeat' (first | exact trivial | exact rfl | apply And.intro | (intro _ hle; first | refine chunk_le hA rfl hle rfl ?_ | refine cat_le hA ?_ | refine upd_le hA ?_ | (try cbv))))
    · (try cbv) <;> (repeat' (first | exact trivial | exact rfl | apply And.intro | (intro _ hle; first | refine chunk_le hA rfl hle rfl ?_ | refine cat_le hA ?_ | refine upd_le hA ?_ | (try cbv))))

theorem long_law {P : Program} (hP : P = Tryd.prog) {fr gi : Nat → Int} {g : Nat → BitVec 32} {n : Nat} {m : Int} (hfr : ∀ i, fr i = ((four i).toNat : Int)) (hg : ∀ i, gi i = ((g i).toNat : Int)) (hn : n ≤ 9223372036854775807) (hm : intWf .i64 m) :
    FnTr P (Gf fr) 5 [.ro 1 (.s n) (fun e => [.int .u8 (gi e.val)]), .int .i64 m] [] 0 (Gives (.bl true) [] 10) := by
  obtain ⟨k, hk⟩ : ∃ k, k = m.toNat := ⟨_, rfl⟩
  obtain ⟨z, hz⟩ : ∃ z : Nat → BitVec 32, ∀ i, z i = 0#32 := ⟨fun _ => 0#32, fun _ => rfl⟩
  obtain ⟨zi, hzi⟩ : ∃ zi : Nat → Int, ∀ i, zi i = ((z i).toNat : Int) := ⟨_, fun _ => rfl⟩
  obtain ⟨r0, hr0⟩ : ∃ r0 : Int, r0 = ((CrcLaw.more g 0#32 n).toNat : Int) := ⟨_, rfl⟩
  obtain ⟨r1, hr1⟩ : ∃ r1 : Int, r1 = ((CrcLaw.more z 0#32 k).toNat : Int) := ⟨_, rfl⟩
  obtain ⟨r2, hr2⟩ : ∃ r2 : Int, r2 = ((CrcLaw.more z (CrcLaw.more g 0#32 n) k).toNat : Int) := ⟨_, rfl⟩
  have hr2' : r2 = ((CrcLaw.hs (8 * k) (CrcLaw.more g 0#32 n) ^^^ CrcLaw.more z 0#32 k).toNat : Int) := by
    rw [hr2, CrcLaw.more_split z (CrcLaw.more g 0#32 n), BitVec.xor_comm]
  have hlen : ∀ {A : Ar} {n : Nat}, Ar.real = A → A.gt (A.i2 n) 300 = false → n ≤ 300 := by
    intro A n hA h; subst hA; simp only [Ar.real] at h; simp at h; omega
  have hz0 : ∀ i, (0 : Int) = zi i := fun i => by rw [hzi, hz]; rfl
  have hT : T.Ok P := hP ▸ T_ok
  refine FnTr.intro (fn := Tryd.f5) (c := bodyOf Tryd.f5) (by rw [hP]; rfl) rfl rfl hT ?_
  generalize hA : Ar.real = A
  generalize hK : Gives _ _ _ = K
  cbv
  refine ⟨fun h1 => ?_, fun h1 => ?_⟩
  · have hn' := hlen hA h1
    clear hlen
    cbv
    refine ⟨fun h2 => ?_, fun h2 => ?_⟩
    · have hm0 : 0 ≤ m := by subst hA; simp only [Ar.real] at h2; simpa using h2
      cbv
      refine ⟨fun h3 => ?_, fun h3 => ?_⟩
      · cbv
        refine CS.le hA (lives_fn hP hfr) [] rfl rfl rfl ?_ ?_ ?_
        · (try cbv) <;> (repeat' (first | exact trivial | exact rfl | apply And.intro | (intro _ hle; first | refine chunk_le hA rfl hle rfl ?_ | refine cat_le hA ?_ | refine upd_le hA ?_ | (try cbv))))
        · (try cbv) <;> (repeat' (first | exact trivial | exact rfl | apply And.intro | (intro _ hle; first | refine chunk_le hA rfl hle rfl ?_ | refine cat_le hA ?_ | refine upd_le hA ?_ | (try cbv))))
        cbv
        refine Fin.le hA 0 [] (.bl true) ([]) 10 rfl rfl rfl ?_ ?_ (by rw [← hK]; exact ⟨rfl, rfl, rfl⟩)
        · (try cbv) <;> (repeat' (first | exact trivial | exact rfl | apply And.intro | (intro _ hle; first | refine chunk_le hA rfl hle rfl ?_ | refine cat_le hA ?_ | refine upd_le hA ?_ | (try cbv))))
        · (try cbv) <;> (repeat' (first | exact trivial | exact rfl | apply And.intro | (intro _ hle; first | refine chunk_le hA rfl hle rfl ?_ | refine cat_le hA ?_ | refine upd_le hA ?_ | (try cbv))))
      · have hm1 : m ≤ 3000 := by subst hA; simp only [Ar.real] at h3; simpa using h3
        have hmk : m = (k : Int) := by omega
        have hnk : A.nat m = k := by subst hA; exact hk.symm
        cbv
        refine ⟨?_, ?_⟩
        · subst hA; simp only [Ar.real, NV.val, Int.ofNat_eq_natCast, Int.toNat_natCast]
          omega
        refine CS.le hA (refsum_fn (n := n) hP hg hr0 (by omega)) [] rfl rfl rfl ?_ ?_ ?_
        · (try cbv) <;> (repeat' (first | exact trivial | exact rfl | apply And.intro | (intro _ hle; first | refine chunk_le hA rfl hle rfl ?_ | refine cat_le hA ?_ | refine upd_le hA ?_ | (try cbv))))
        · (try cbv) <;> (repeat' (first | exact trivial | exact rfl | apply And.intro | (intro _ hle; first | refine chunk_le hA rfl hle rfl ?_ | refine cat_le hA ?_ | refine upd_le hA ?_ | (try cbv))))
        cbv
        refine CS.frzA hA (by (try cbv) <;> (repeat' (first | exact trivial | exact rfl | apply And.intro | (intro _ hle; first | refine chunk_le hA rfl hle rfl ?_ | refine cat_le hA ?_ | refine upd_le hA ?_ | (try cbv)))); all_goals (subst hA; (simp only [Ar.real, NV.val, Int.ofNat_eq_natCast, Int.toNat_natCast]); first | done | omega | decide | exact inR64 (by omega) (by omega) | (refine ⟨?_, ?_⟩ <;> first | omega | decide | exact inR64 (by omega) (by omega)))) ?_
        cbv
        refine CS.le hA (refsum_fn (n := k) (gi := zi) hP hzi hr1 (by omega)) [] rfl rfl rfl ?_ ?_ ?_
        · (try cbv) <;> (repeat' (first | exact trivial | exact rfl | apply And.intro | (intro _ hle; first | refine chunk_le hA rfl hle rfl ?_ | refine cat_le hA ?_ | refine upd_le hA ?_ | (try cbv))))
          · exact hnk
          · exact hz0 _
        · (try cbv) <;> (repeat' (first | exact trivial | exact rfl | apply And.intro | (intro _ hle; first | refine chunk_le hA rfl hle rfl ?_ | refine cat_le hA ?_ | refine upd_le hA ?_ | (try cbv))))
        cbv
        refine CS.le hA (join_fn (n := k) (ni := m) hP hr0 hr1 hmk (by omega) hr2') [] rfl rfl rfl ?_ ?_ ?_
        · (try cbv) <;> (repeat' (first | exact trivial | exact rfl | apply And.intro | (intro _ hle; first | refine chunk_le hA rfl hle rfl ?_ | refine cat_le hA ?_ | refine upd_le hA ?_ | (try cbv))))
        · (try cbv) <;> (repeat' (first | exact trivial | exact rfl | apply And.intro | (intro _ hle; first | refine chunk_le hA rfl hle rfl ?_ | refine cat_le hA ?_ | refine upd_le hA ?_ | (try cbv))))
        cbv
        refine CS.le hA (refsum_fn (n := n) hP hg hr0 (by omega)) [] rfl rfl rfl ?_ ?_ ?_
        · (try cbv) <;> (repeat' (first | exact trivial | exact rfl | apply And.intro | (intro _ hle; first | refine chunk_le hA rfl hle rfl ?_ | refine cat_le hA ?_ | refine upd_le hA ?_ | (try cbv))))
        · (try cbv) <;> (repeat' (first | exact trivial | exact rfl | apply And.intro | (intro _ hle; first | refine chunk_le hA rfl hle rfl ?_ | refine cat_le hA ?_ | refine upd_le hA ?_ | (try cbv))))
        cbv
        refine CS.le hA (refmore_fn (n := k) (gi := zi) hP hzi hr0 hr2 (by omega)) [] rfl rfl rfl ?_ ?_ ?_
        · (try cbv) <;> (repeat' (first | exact trivial | exact rfl | apply And.intro | (intro _ hle; first | refine chunk_le hA rfl hle rfl ?_ | refine cat_le hA ?_ | refine upd_le hA ?_ | (try cbv))))
          · exact hnk
          · exact hz0 _
        · (try cbv) <;> (repeat' (first | exact trivial | exact rfl | apply And.intro | (intro _ hle; first | refine chunk_le hA rfl hle rfl ?_ | refine cat_le hA ?_ | refine upd_le hA ?_ | (try cbv))))
        cbv
        have heq : A.eq r2 r2 = true := by subst hA; simp [Ar.real]
        refine ⟨fun _ => ?_, fun h => absurd (heq.symm.trans h) (by decide)⟩
        cbv
        refine CS.le hA (lives_fn hP hfr) [] rfl rfl rfl ?_ ?_ ?_
        · (try cbv) <;> (repeat' (first | exact trivial | exact rfl | apply And.intro | (intro _ hle; first | refine chunk_le hA rfl hle rfl ?_ | refine cat_le hA ?_ | refine upd_le hA ?_ | (try cbv))))
        · (try cbv) <;> (repeat' (first | exact trivial | exact rfl | apply And.intro | (intro _ hle; first | refine chunk_le hA rfl hle rfl ?_ | refine cat_le hA ?_ | refine upd_le hA ?_ | (try cbv))))
        cbv
        refine Fin.le hA 0 [] (.bl true) ([]) 10 rfl rfl rfl ?_ ?_ (by rw [← hK]; exact ⟨rfl, rfl, rfl⟩)
        · (try cbv) <;> (repeat' (first | exact trivial | exact rfl | apply And.intro | (intro _ hle; first | refine chunk_le hA rfl hle rfl ?_ | refine cat_le hA ?_ | refine upd_le hA ?_ | (try cbv))))
        · (try cbv) <;> (repeat' (first | exact trivial | exact rfl | apply And.intro | (intro _ hle; first | refine chunk_le hA rfl hle rfl ?_ | refine cat_le hA ?_ | refine upd_le hA ?_ | (try cbv))))
    · cbv
      refine CS.le hA (lives_fn hP hfr) [] rfl rfl rfl ?_ ?_ ?_
      · (try cbv) <;> (repeat' (first | exact trivial | exact rfl | apply And.intro | (intro _ hle; first | refine chunk_le hA rfl hle rfl ?_ | refine cat_le hA ?_ | refine upd_le hA ?_ | (try cbv))))
      · (try cbv) <;> (repeat' (first | exact trivial | exact rfl | apply And.intro | (intro _ hle; first | refine chunk_le hA rfl hle rfl ?_ | refine cat_le hA ?_ | refine upd_le hA ?_ | (try cbv))))
      cbv
      refine Fin.le hA 0 [] (.bl true) ([]) 10 rfl rfl rfl ?_ ?_ (by rw [← hK]; exact ⟨rfl, rfl, rfl⟩)
      · (try cbv) <;> (repeat' (first | exact trivial | exact rfl | apply And.intro | (intro _ hle; first | refine chunk_le hA rfl hle rfl ?_ | refine cat_le hA ?_ | refine upd_le hA ?_ | (try cbv))))
      · (try cbv) <;> (repeat' (first | exact trivial | exact rfl | apply And.intro | (intro _ hle; first | refine chunk_le hA rfl hle rfl ?_ | refine cat_le hA ?_ | refine upd_le hA ?_ | (try cbv))))
  · cbv
    refine CS.le hA (lives_fn hP hfr) [] rfl rfl rfl ?_ ?_ ?_
    · (try cbv) <;> (repeat' (first | exact trivial | exact rfl | apply And.intro | (intro _ hle; first | refine chunk_le hA rfl hle rfl ?_ | refine cat_le hA ?_ | refine upd_le hA ?_ | (try cbv))))
    · (try cbv) <;> (repeat' (first | exact trivial | exact rfl | apply And.intro | (intro _ hle; first | refine chunk_le hA rfl hle rfl ?_ | refine cat_le hA ?_ | refine upd_le hA ?_ | (try cbv))))
    cbv
    refine Fin.le hA 0 [] (.bl true) ([]) 10 rfl rfl rfl ?_ ?_ (by rw [← hK]; exact ⟨rfl, rfl, rfl⟩)
    · (try cbv) <;> (repeat' (first | exact trivial | exact rfl | apply And.intro | (intro _ hle; first | refine chunk_le hA rfl hle rfl ?_ | refine cat_le hA ?_ | refine upd_le hA ?_ | (try cbv))))
    · (try cbv) <;> (repeat' (first | exact trivial | exact rfl | apply And.intro | (intro _ hle; first | refine chunk_le hA rfl hle rfl ?_ | refine cat_le hA ?_ | refine upd_le hA ?_ | (try cbv))))
end Go.Proofs.YtnjjgipblimbfaaDoor
