/-
  The sums of bytes: the program's functions that go on with a sum.
-/
import Derived.Test.YtnjjgipblimbfaaDoorCrcT
set_option linter.unusedVariables false
set_option linter.unusedSimpArgs false
namespace Go.Proofs.YtnjjgipblimbfaaDoor
open Go.Eng
open Go.CrcLaw (four raw hs hs4 hs_add xor_and and15_lt half)
set_option maxRecDepth 100000
set_option linter.unusedVariables false

theorem byteA (r c : BitVec 32) : ((((r ^^^ c) >>> 4 ^^^ four ((r ^^^ c) &&& 15#32).toNat) >>> 4) ^^^ four ((((r ^^^ c) >>> 4 ^^^ four ((r ^^^ c) &&& 15#32).toNat) &&& 15#32).toNat)) = CrcLaw.step r c := by
  rw [← hs4, ← hs4, ← hs_add]; rfl

theorem more_fn {P : Program} (hP : P = Tryd.prog) {fr gi : Nat → Int} {si ri : Int} {n : Nat} {s : BitVec 32} {g : Nat → BitVec 32} (hfr : ∀ i, fr i = ((four i).toNat : Int)) (hg : ∀ i, gi i = ((g i).toNat : Int)) (hs : si = (s.toNat : Int)) (hr : ri = ((CrcLaw.more g s n).toNat : Int)) (hn : n ≤ 9223372036854775807) :
    FnTr P (Gf fr) 15 [.int .u32 si, .ro 1 (.s n) (fun e => [.int .u8 (gi e.val)])] [] 0 (Gives (.int .u32 ri) [] 0) := by
  have hT : T.Ok P := hP ▸ T_ok
  refine FnTr.intro (fn := Tryd.f15) (c := bodyOf Tryd.f15) (by rw [hP]; rfl) rfl rfl hT ?_
  generalize hA : Ar.real = A
  generalize hK : Gives _ _ _ = K
  cbv
  refine LS.le2 hT hA 0 (fun (k : Nat) (r : Int) => [(12, .int .i64 (k : Int)), (5, .int .u32 r)]) (fun _ _ => []) (fun k r => k ≤ n ∧ r = ((raw g (~~~ s) k).toNat : Int)) (fun k _ => n - k) 0 (A.xorm .u32 si) [] rfl rfl ?_ ?_ ?_
  · cbv
    refine ⟨⟨fun e _ => ?_, fun e _ => ?_, rfl, trivial⟩, trivial⟩ <;> exact ⟨rfl, trivial⟩
  · subst hA; exact ⟨Nat.zero_le _, by rw [hs, not32]; rfl⟩
  · intro R hR k r ha
    cbv
    obtain ⟨h1, h2⟩ := ha
    obtain ⟨r', hr'⟩ : ∃ r' : Int, r' = ((raw g (~~~ s) (k + 1)).toNat : Int) := ⟨_, rfl⟩
    refine ⟨fun h => ?_, fun h => ?_⟩
    · cbv
      have hlt : k < n := by subst hA; simp only [Ar.real] at h; simpa using h
      have hcv : ∀ i, IntKind.u32.wrap (gi i) = ((g i).toNat : Int) := fun i => by rw [hg, wrap_u32_bv]
      have h15 : (15 : Int) = ((15#32).toNat : Int) := by decide
      refine ⟨?_, ?_, ?_, ?_, ?_, ?_, hR _ _ _ ⟨k + 1, r', 0, [], rfl, rfl, ?_, ?_, ?_⟩⟩ <;> clear hR
      · subst hA; simp only [Ar.real, NV.val, Int.ofNat_eq_natCast, Int.toNat_natCast]
        exact ⟨by omega, hlt⟩
      · subst hA; simp only [Ar.real, NV.val, Int.ofNat_eq_natCast, Int.toNat_natCast]
        decide
      · subst hA; simp only [Ar.real, NV.val, Int.ofNat_eq_natCast, Int.toNat_natCast, hcv, h2, xor32, h15, and32]
        exact ⟨Int.natCast_nonneg _, and15_lt _⟩
      · subst hA; simp only [Ar.real, NV.val, Int.ofNat_eq_natCast, Int.toNat_natCast]
        decide
      · subst hA; simp only [Ar.real, NV.val, Int.ofNat_eq_natCast, Int.toNat_natCast, hcv, h2, xor32, h15, and32, hfr, shr32]
        exact ⟨Int.natCast_nonneg _, and15_lt _⟩
      · subst hA; simp only [Ar.real, NV.val, Int.ofNat_eq_natCast, Int.toNat_natCast]
        constructor <;> simp [IntKind.min, IntKind.max, IntKind.bits, IntKind.signed] <;> omega
      · cbv
        refine ⟨⟨fun e _ => ⟨rfl, trivial⟩, ?_, fun e _ => ⟨rfl, trivial⟩, ?_, trivial⟩, trivial⟩
        · subst hA; simp only [Ar.real, NV.val, Int.ofNat_eq_natCast, Int.toNat_natCast, hcv, h2, xor32, h15, and32, hfr, shr32]
          rw [hr']
          congr 2
          exact byteA _ _
        · subst hA; simp only [Ar.real, NV.val, Int.ofNat_eq_natCast, Int.toNat_natCast]
          rfl
      · exact ⟨hlt, hr'⟩
      · show n - (k + 1) < n - k
        omega
    · cbv
      have hge : k = n := by subst hA; simp only [Ar.real] at h; simp at h; omega
      clear hR
      refine Fin.le hA 0 [] (.int .u32 ri) [] 0 rfl rfl rfl ?_ ?_ (by rw [← hK]; exact ⟨rfl, rfl, rfl⟩)
      · cbv
        subst hA; rw [hr, h2, hge]; exact not32 _
      · trivial

/-! ### The document's answer -/
theorem refstep_fn {P : Program} {G : Gl} (hP : P = Tryd.prog) {ri ci oi : Int} {r c : BitVec 32} (hr : ri = (r.toNat : Int)) (hc : ci = (c.toNat : Int)) (ho : oi = ((CrcLaw.step r c).toNat : Int)) :
    FnTr P G 48 [.int .u32 ri, .int .u8 ci] [] 0 (Gives (.int .u32 oi) [] 0) := by
  have hT : T.Ok P := hP ▸ T_ok
  refine FnTr.intro (fn := Tryd.f48) (c := bodyOf Tryd.f48) (by rw [hP]; rfl) rfl rfl hT ?_
  generalize hA : Ar.real = A
  generalize hK : Gives _ _ _ = K
  cbv
  refine LS.le2 hT hA 0 (fun (k : Nat) (x : Int) => [(5, .int .i64 (k : Int)), (0, .int .u32 x)]) (fun _ _ => []) (fun k x => k ≤ 8 ∧ x = ((hs k (r ^^^ c)).toNat : Int)) (fun k _ => 8 - k) 0 (A.w .xor .u32 ri (A.conv .u32 ci)) [] rfl rfl ?_ ?_ ?_
  · cbv
    exact ⟨⟨rfl, trivial⟩, trivial⟩
  · subst hA; refine ⟨by omega, ?_⟩
    rw [hr, hc]; simp only [Ar.real]; rw [wrap_u32_bv, xor32]; rfl
  · intro R hR k x ha
    cbv
    obtain ⟨h1, h2⟩ := ha
    obtain ⟨x', hx'⟩ : ∃ x' : Int, x' = ((hs (k + 1) (r ^^^ c)).toNat : Int) := ⟨_, rfl⟩
    have hstep : hs (k + 1) (r ^^^ c) = half (hs k (r ^^^ c)) := by rw [← CrcLaw.hs_half]; rfl
    refine ⟨fun h => ?_, fun h => ?_⟩
    · have hlt : k < 8 := by subst hA; simp only [Ar.real] at h; simp at h; omega
      have h2' : (2 : Int) = ((2 : Nat) : Int) := rfl
      cbv
      refine ⟨?_, ?_, fun h => ?_, fun h => ?_⟩
      · subst hA; simp only [Ar.real, NV.val, Int.ofNat_eq_natCast, Int.toNat_natCast]
        decide
      · subst hA; simp only [Ar.real, NV.val, Int.ofNat_eq_natCast, Int.toNat_natCast]
        decide
      all_goals cbv
      all_goals refine ⟨?_, hR _ _ _ ⟨k + 1, x', 0, [], rfl, rfl, ?_, ?_, ?_⟩⟩ <;> clear hR
      · subst hA; simp only [Ar.real, NV.val, Int.ofNat_eq_natCast, Int.toNat_natCast]
        constructor <;> simp [IntKind.min, IntKind.max, IntKind.bits, IntKind.signed] <;> omega
      · cbv
        refine ⟨⟨?_, ?_, trivial⟩, trivial⟩
        · subst hA
          simp only [Ar.real, h2, h2', rem_nat] at h
          have hl : (hs k (r ^^^ c)).toNat % 2 = 1 := by
            have := of_decide_eq_true h
            exact_mod_cast this
          simp only [Ar.real, NV.val, Int.ofNat_eq_natCast, Int.toNat_natCast, h2, h2', quo32, half_div]
          have h32 : (3988292384 : Int) = ((3988292384#32).toNat : Int) := by decide
          rw [h32, xor32, hx', hstep]
          have hb : (hs k (r ^^^ c)).getLsbD 0 = true := by rw [low_bit] at hl; simpa using hl
          unfold half
          rw [hb]
          rfl
        · subst hA; simp only [Ar.real, NV.val, Int.ofNat_eq_natCast, Int.toNat_natCast]
          rfl
      · exact ⟨hlt, hx'⟩
      · show 8 - (k + 1) < 8 - k
        omega
      · subst hA; simp only [Ar.real, NV.val, Int.ofNat_eq_natCast, Int.toNat_natCast]
        constructor <;> simp [IntKind.min, IntKind.max, IntKind.bits, IntKind.signed] <;> omega
      · cbv
        refine ⟨⟨?_, ?_, trivial⟩, trivial⟩
        · subst hA
          simp only [Ar.real, h2, h2', rem_nat] at h
          have hl : (hs k (r ^^^ c)).toNat % 2 ≠ 1 := by
            have := of_decide_eq_false h
            exact fun e => this (by exact_mod_cast e)
          simp only [Ar.real, NV.val, Int.ofNat_eq_natCast, Int.toNat_natCast, h2, h2', quo32, half_div]
          rw [hx', hstep]
          have hb : (hs k (r ^^^ c)).getLsbD 0 = false := by rw [low_bit] at hl; simpa using hl
          unfold half
          rw [hb]
          simp
        · subst hA; simp only [Ar.real, NV.val, Int.ofNat_eq_natCast, Int.toNat_natCast]
          rfl
      · exact ⟨hlt, hx'⟩
      · show 8 - (k + 1) < 8 - k
        omega
    · cbv
      clear hR
      have hge : k = 8 := by subst hA; simp only [Ar.real] at h; simp at h; omega
      refine Fin.le hA 0 [] (.int .u32 oi) [] 0 rfl rfl rfl ?_ ?_ (by rw [← hK]; exact ⟨rfl, rfl, rfl⟩)
      · cbv
        rw [h2, hge, ho]; rfl
      · trivial

theorem refmore_fn {P : Program} {G : Gl} (hP : P = Tryd.prog) {gi : Nat → Int} {si ri : Int} {n : Nat} {s : BitVec 32} {g : Nat → BitVec 32} (hg : ∀ i, gi i = ((g i).toNat : Int)) (hs : si = (s.toNat : Int)) (hr : ri = ((CrcLaw.more g s n).toNat : Int)) (hn : n ≤ 9223372036854775807) :
    FnTr P G 16 [.int .u32 si, .ro 1 (.s n) (fun e => [.int .u8 (gi e.val)])] [] 0 (Gives (.int .u32 ri) [] 0) := by
  have hall : (4294967295 : Int) = ((4294967295#32).toNat : Int) := by decide
  have hT : T.Ok P := hP ▸ T_ok
  refine FnTr.intro (fn := Tryd.f16) (c := bodyOf Tryd.f16) (by rw [hP]; rfl) rfl rfl hT ?_
  generalize hA : Ar.real = A
  generalize hK : Gives _ _ _ = K
  cbv
  refine LS.le2 hT hA 0 (fun (k : Nat) (r : Int) => [(6, .int .i64 (k : Int)), (5, .int .u32 r)]) (fun _ _ => []) (fun k r => k ≤ n ∧ r = ((raw g (~~~ s) k).toNat : Int)) (fun k _ => n - k) 0 (A.w .xor .u32 si 4294967295) [] rfl rfl ?_ ?_ ?_
  · cbv
    refine ⟨⟨fun e _ => ⟨rfl, trivial⟩, rfl, trivial⟩, trivial⟩
  · subst hA
    refine ⟨Nat.zero_le _, ?_⟩
    simp only [Ar.real]
    rw [hs, hall, xor32, BitVec.xor_comm, ← CrcLaw.not_eq_xor]; rfl
  · intro R hR k r ha
    cbv
    obtain ⟨h1, h2⟩ := ha
    obtain ⟨r', hr'⟩ : ∃ r' : Int, r' = ((raw g (~~~ s) (k + 1)).toNat : Int) := ⟨_, rfl⟩
    refine ⟨fun h => ?_, fun h => ?_⟩
    · have hlt : k < n := by subst hA; simp only [Ar.real] at h; simpa using h
      cbv
      refine ⟨?_, CS.le hA (refstep_fn hP h2 (hg k) hr') [] rfl rfl rfl ?_ ?_ ?_⟩
      · subst hA; simp only [Ar.real, NV.val, Int.ofNat_eq_natCast, Int.toNat_natCast]
        exact ⟨by omega, hlt⟩
      · (try cbv) <;> (repeat' (first | exact trivial | exact rfl | apply And.intro | (intro _ hle; first | refine chunk_le hA rfl hle rfl ?_ | refine cat_le hA ?_ | refine upd_le hA ?_ | (try cbv))))
        · subst hA; simp only [Ar.real, NV.val, Int.ofNat_eq_natCast, Int.toNat_natCast]
      · trivial
      · cbv
        refine ⟨?_, hR _ _ _ ⟨k + 1, r', 0, [], rfl, rfl, ?_, ?_, ?_⟩⟩ <;> clear hR
        · subst hA; simp only [Ar.real, NV.val, Int.ofNat_eq_natCast, Int.toNat_natCast]
          constructor <;> simp [IntKind.min, IntKind.max, IntKind.bits, IntKind.signed] <;> omega
        · (try cbv) <;> (repeat' (first | exact trivial | exact rfl | apply And.intro | (intro _ hle; first | refine chunk_le hA rfl hle rfl ?_ | refine cat_le hA ?_ | refine upd_le hA ?_ | (try cbv))))
          · subst hA; simp only [Ar.real, NV.val, Int.ofNat_eq_natCast, Int.toNat_natCast]
            rfl
        · exact ⟨hlt, hr'⟩
        · show n - (k + 1) < n - k
          omega
    · have hge : k = n := by subst hA; simp only [Ar.real] at h; simp at h; omega
      cbv
      clear hR
      refine Fin.le hA 0 [] (.int .u32 ri) [] 0 rfl rfl rfl ?_ ?_ (by rw [← hK]; exact ⟨rfl, rfl, rfl⟩)
      · cbv
        subst hA; simp only [Ar.real, NV.val, Int.ofNat_eq_natCast, Int.toNat_natCast, h2, hge, hall, xor32]
        rw [hr, BitVec.xor_comm, ← CrcLaw.not_eq_xor]; rfl
      · trivial

theorem sum_fn {P : Program} (hP : P = Tryd.prog) {fr gi : Nat → Int} {ri : Int} {n : Nat} {g : Nat → BitVec 32} (hfr : ∀ i, fr i = ((four i).toNat : Int)) (hg : ∀ i, gi i = ((g i).toNat : Int)) (hr : ri = ((CrcLaw.more g 0#32 n).toNat : Int)) (hn : n ≤ 9223372036854775807) :
    FnTr P (Gf fr) 13 [.ro 1 (.s n) (fun e => [.int .u8 (gi e.val)])] [] 0 (Gives (.int .u32 ri) [] 0) := by
  have hT : T.Ok P := hP ▸ T_ok
  refine FnTr.intro (fn := Tryd.f13) (c := bodyOf Tryd.f13) (by rw [hP]; rfl) rfl rfl hT ?_
  generalize hA : Ar.real = A
  generalize hK : Gives _ _ _ = K
  cbv
  refine CS.le hA (more_fn hP hfr hg (si := 0) rfl hr hn) [] rfl rfl rfl ?_ ?_ ?_
  · (try cbv) <;> (repeat' (first | exact trivial | exact rfl | apply And.intro | (intro _ hle; first | refine chunk_le hA rfl hle rfl ?_ | refine cat_le hA ?_ | refine upd_le hA ?_ | (try cbv))))
  · trivial
  · cbv
    refine Fin.le hA 0 [] (.int .u32 ri) [] 0 rfl rfl rfl ?_ ?_ (by rw [← hK]; exact ⟨rfl, rfl, rfl⟩)
    · cbv
    · trivial

theorem refsum_fn {P : Program} {G : Gl} (hP : P = Tryd.prog) {gi : Nat → Int} {ri : Int} {n : Nat} {g : Nat → BitVec 32} (hg : ∀ i, gi i = ((g i).toNat : Int)) (hr : ri = ((CrcLaw.more g 0#32 n).toNat : Int)) (hn : n ≤ 9223372036854775807) :
    FnTr P G 14 [.ro 1 (.s n) (fun e => [.int .u8 (gi e.val)])] [] 0 (Gives (.int .u32 ri) [] 0) := by
  have hT : T.Ok P := hP ▸ T_ok
  refine FnTr.intro (fn := Tryd.f14) (c := bodyOf Tryd.f14) (by rw [hP]; rfl) rfl rfl hT ?_
  generalize hA : Ar.real = A
  generalize hK : Gives _ _ _ = K
  cbv
  refine CS.le hA (refmore_fn hP hg (si := 0) rfl hr hn) [] rfl rfl rfl ?_ ?_ ?_
  · (try cbv) <;> (repeat' (first | exact trivial | exact rfl | apply And.intro | (intro _ hle; first | refine chunk_le hA rfl hle rfl ?_ | refine cat_le hA ?_ | refine upd_le hA ?_ | (try cbv))))
  · trivial
  · cbv
    refine Fin.le hA 0 [] (.int .u32 ri) [] 0 rfl rfl rfl ?_ ?_ (by rw [← hK]; exact ⟨rfl, rfl, rfl⟩)
    · cbv
    · trivial
end Go.Proofs.YtnjjgipblimbfaaDoor
