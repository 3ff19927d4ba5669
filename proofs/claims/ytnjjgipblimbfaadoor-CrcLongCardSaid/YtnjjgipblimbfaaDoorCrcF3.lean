/-
  The sums of bytes: the same bytes; a copy; sealed bytes.
-/
import Derived.Test.YtnjjgipblimbfaaDoorCrcF2
import Derived.Test.YtnjjgipblimbfaaDoorEngTwo
set_option linter.unusedVariables false
set_option linter.unusedSimpArgs false
namespace Go.Proofs.YtnjjgipblimbfaaDoor
open Go.Eng
open Go.CrcLaw (four)
set_option maxRecDepth 100000
set_option linter.unusedVariables false

theorem same_fn {P : Program} {G : Gl} (hP : P = Tryd.prog) {n m : Nat} {f g : Nat → Int} {res : Bool} (hf : ∀ i, i < n → 0 ≤ f i ∧ f i < 256) (hg : ∀ i, i < m → 0 ≤ g i ∧ g i < 256) (hres : res = true ↔ (n = m ∧ ∀ i, i < n → f i = g i)) :
    FnTr P G 17 [.ro 1 (.s n) (fun e => [.int .u8 (f e.val)]), .ro 1 (.s m) (fun e => [.int .u8 (g e.val)])] [] 0 (Gives (.bs res) [] 0) := by
  have hT : T.Ok P := hP ▸ T_ok
  refine FnTr.intro (fn := Tryd.f17) (c := bodyOf Tryd.f17) (by rw [hP]; rfl) rfl rfl hT ?_
  generalize hA : Ar.real = A
  generalize hK : Gives _ _ _ = K
  cbv
  refine ⟨fun e _ => rfl, fun e _ => rfl, ?_⟩
  refine Fin.le hA 0 [] (.bs res) [] 0 rfl rfl rfl ?_ ?_ (by rw [← hK]; exact ⟨rfl, rfl, rfl⟩)
  · cbv
    subst hA
    rw [Bool.eq_iff_iff]
    exact (bytes_eq hf hg).trans hres.symm
  · trivial

theorem clone_own {P : Program} {G : Gl} (hP : P = Tryd.prog) {n : Nat} {f : Nat → Int} (hn : n ≤ 140737488355328) :
    FnTr P G 47 [.ro 1 (.s n) (fun e => [.int .u8 (f e.val)])] [] 0 (Gives (.sl 0 1 (.l 0) (.s n)) [(0, .row 5 1 (.s n) (fun e => [.int .u8 (f e.val)]))] 1) := by
  have hT : T.Ok P := hP ▸ T_ok
  refine FnTr.intro (fn := Tryd.f47) (c := bodyOf Tryd.f47) (by rw [hP]; rfl) rfl rfl hT ?_
  generalize hA : Ar.real = A
  generalize hK : Gives _ _ _ = K
  cbv
  refine ⟨fun h0 => ?_, ?_⟩
  · cbv
    refine Fin.leG hA 0 [] [(0, .row 5 1 (.s n) (fun e => [.int .u8 (f e.val)]))] (.sl 0 1 (.l 0) (.s n)) _ 1 rfl rfl rfl ?_ ?_ ?_ (by rw [← hK]; exact ⟨rfl, rfl, rfl⟩)
    · (try cbv) <;> (repeat' (first | exact trivial | exact rfl | apply And.intro | (intro _ hle; first | refine chunk_le hA rfl hle rfl ?_ | refine cat_le hA ?_ | refine upd_le hA ?_ | (try cbv))))
      exact h0
    · (try cbv) <;> (repeat' (first | exact trivial | exact rfl | apply And.intro | (intro _ hle; first | refine chunk_le hA rfl hle rfl ?_ | refine cat_le hA ?_ | refine upd_le hA ?_ | (try cbv))))
      exact h0
    · (try cbv) <;> (repeat' (first | exact trivial | exact rfl | apply And.intro | (intro _ hle; first | refine chunk_le hA rfl hle rfl ?_ | refine cat_le hA ?_ | refine upd_le hA ?_ | (try cbv))))
  · refine ⟨?_, Fin.le hA 0 [(4, 0)] (.sl 0 1 (.l 0) (.s n)) _ 1 rfl rfl rfl ?_ ?_ (by rw [← hK]; exact ⟨rfl, rfl, rfl⟩)⟩
    · subst hA; simp only [Ar.real, NV.val, Int.ofNat_eq_natCast, Int.toNat_natCast]
      omega
    · (try cbv) <;> (repeat' (first | exact trivial | exact rfl | apply And.intro | (intro _ hle; first | refine chunk_le hA rfl hle rfl ?_ | refine cat_le hA ?_ | refine upd_le hA ?_ | (try cbv))))
    · (try cbv) <;> (repeat' (first | exact trivial | exact rfl | apply And.intro | (intro _ hle; first | refine chunk_le hA rfl hle rfl ?_ | refine cat_le hA ?_ | refine upd_le hA ?_ | (try cbv))))
theorem clone_fn {P : Program} {G : Gl} (hP : P = Tryd.prog) {n : Nat} {f : Nat → Int} (hn : n ≤ 140737488355328) :
    FnTr P G 47 [.ro 1 (.s n) (fun e => [.int .u8 (f e.val)])] [] 0 (Gives (.ro 1 (.s n) (fun e => [.int .u8 (f e.val)])) [] 1) := by
  generalize hA : Ar.real = A
  refine FnTr.dat hA (clone_own hP hn) _ _ ?_
  cbv
  refine ⟨⟨?_, trivial⟩, fun e _ => ⟨rfl, trivial⟩, trivial⟩
  subst hA; simp only [Ar.real, NV.val, Int.ofNat_eq_natCast, Int.toNat_natCast]
  omega

theorem byte_sh (s : BitVec 32) (k : Nat) : IntKind.u8.wrap (Int.fdiv (s.toNat : Int) (2 ^ (Nat.min ((8 * k : Nat) : Int).toNat IntKind.u32.bits))) = ((s.toNat / 256 ^ k % 256 : Nat) : Int) := by
  rw [shr32, wrap_u8, BitVec.toNat_ushiftRight, Nat.shiftRight_eq_div_pow]
  rw [show ((8 * k : Nat) : Int).toNat = 8 * k from Int.toNat_natCast _, Nat.pow_mul]
theorem byte_md (s : BitVec 32) (k : Nat) : IntKind.u8.wrap (Int.tmod (s.toNat : Int) 256) = ((s.toNat / 256 ^ 0 % 256 : Nat) : Int) := by
  have := rem_nat s.toNat 256
  rw [show ((256 : Nat) : Int) = 256 from rfl] at this
  rw [this, wrap_u8]; simp
theorem byte_qr (s : BitVec 32) (k : Nat) : IntKind.u8.wrap (Int.tmod (wOp .quo .u32 (s.toNat : Int) ((256 ^ k : Nat) : Int)) 256) = ((s.toNat / 256 ^ k % 256 : Nat) : Int) := by
  rw [quo32]
  have := rem_nat (s.toNat / 256 ^ k) 256
  rw [show ((256 : Nat) : Int) = 256 from rfl] at this
  rw [this, wrap_u8]; simp
theorem byte_q (s : BitVec 32) (k : Nat) : IntKind.u8.wrap (wOp .quo .u32 (s.toNat : Int) ((256 ^ k : Nat) : Int)) = ((s.toNat / 256 ^ k % 256 : Nat) : Int) := by
  rw [quo32, wrap_u8]
theorem seal_pick (gi : Nat → Int) (s : BitVec 32) (n k : Nat) (hk : k < n + 4) :
    Ar.real.iteI (Ar.real.ltN k n) (gi k) (Ar.real.sel (Ar.real.subN k n) [((s.toNat / 256 ^ 0 % 256 : Nat) : Int), ((s.toNat / 256 ^ 1 % 256 : Nat) : Int), ((s.toNat / 256 ^ 2 % 256 : Nat) : Int), ((s.toNat / 256 ^ 3 % 256 : Nat) : Int)]) = CrcLaw.sealB gi s n k := by
  unfold CrcLaw.sealB
  simp only [Ar.real]
  by_cases h : k < n
  · simp [h]
  · simp only [h, decide_false, Bool.false_eq_true, if_false]
    obtain ⟨j, rfl⟩ : ∃ j, k = n + j := ⟨k - n, by omega⟩
    rw [show n + j - n = j by omega]
    have : j = 0 ∨ j = 1 ∨ j = 2 ∨ j = 3 := by omega
    rcases this with rfl | rfl | rfl | rfl <;> rfl

theorem seal_own {P : Program} (hP : P = Tryd.prog) {n : Nat} {fr gi hi : Nat → Int} {g : Nat → BitVec 32} (hfr : ∀ i, fr i = ((four i).toNat : Int)) (hg : ∀ i, gi i = ((g i).toNat : Int)) (hn : n ≤ 1000000000) {m : Nat} (hm : m = n + 4) (hh : ∀ i, i < m → hi i = CrcLaw.sealB gi (CrcLaw.more g 0#32 n) n i) :
    FnTr P (Gf fr) 18 [.ro 1 (.s n) (fun e => [.int .u8 (gi e.val)])] [] 0 (Gives (.sl 0 1 (.l 0) (.s m)) [(0, .row 5 1 (.s m) (fun e => [.int .u8 (hi e.val)]))] 1) := by
  obtain ⟨s, hs⟩ : ∃ s, s = CrcLaw.more g 0#32 n := ⟨_, rfl⟩
  obtain ⟨si, hsi⟩ : ∃ si : Int, si = (s.toNat : Int) := ⟨_, rfl⟩
  have hT : T.Ok P := hP ▸ T_ok
  refine FnTr.intro (fn := Tryd.f18) (c := bodyOf Tryd.f18) (by rw [hP]; rfl) rfl rfl hT ?_
  generalize hA : Ar.real = A
  generalize hK : Gives _ _ _ = K
  cbv
  refine CS.le hA (sum_fn (n := n) hP hfr hg (hsi.trans (by rw [hs])) (by omega)) [] rfl rfl rfl ?_ ?_ ?_
  · (try cbv) <;> (repeat' (first | exact trivial | exact rfl | apply And.intro | (intro _ hle; first | refine chunk_le hA rfl hle rfl ?_ | refine cat_le hA ?_ | refine upd_le hA ?_ | (try cbv))))
  · (try cbv) <;> (repeat' (first | exact trivial | exact rfl | apply And.intro | (intro _ hle; first | refine chunk_le hA rfl hle rfl ?_ | refine cat_le hA ?_ | refine upd_le hA ?_ | (try cbv))))
  cbv
  refine CS.le hA (clone_own (n := n) (f := gi) hP (by omega)) [] rfl rfl rfl ?_ ?_ ?_
  · (try cbv) <;> (repeat' (first | exact trivial | exact rfl | apply And.intro | (intro _ hle; first | refine chunk_le hA rfl hle rfl ?_ | refine cat_le hA ?_ | refine upd_le hA ?_ | (try cbv))))
  · (try cbv) <;> (repeat' (first | exact trivial | exact rfl | apply And.intro | (intro _ hle; first | refine chunk_le hA rfl hle rfl ?_ | refine cat_le hA ?_ | refine upd_le hA ?_ | (try cbv))))
  cbv
  have hb0 : A.conv .u8 si = ((s.toNat / 256 ^ 0 % 256 : Nat) : Int) := by subst hA; rw [hsi]; exact (wrap_u8 s.toNat).trans (by simp)
  have hb1 : A.conv .u8 (A.shr .u32 si 8) = ((s.toNat / 256 ^ 1 % 256 : Nat) : Int) := by subst hA; rw [hsi]; exact byte_sh s 1
  have hb2 : A.conv .u8 (A.shr .u32 si 16) = ((s.toNat / 256 ^ 2 % 256 : Nat) : Int) := by subst hA; rw [hsi]; exact byte_sh s 2
  have hb3 : A.conv .u8 (A.shr .u32 si 24) = ((s.toNat / 256 ^ 3 % 256 : Nat) : Int) := by subst hA; rw [hsi]; exact byte_sh s 3
  have hall : ∀ k, k < n + 4 → A.iteI (A.ltN k n) (gi k) (A.sel (A.subN k n) [A.conv .u8 si, A.conv .u8 (A.shr .u32 si 8), A.conv .u8 (A.shr .u32 si 16), A.conv .u8 (A.shr .u32 si 24)]) = hi k := by
    intro k hk
    rw [hb0, hb1, hb2, hb3, hh k (by omega), ← hs]
    subst hA
    exact seal_pick gi s n k hk
  have hlt : A.addN n 4 = m := by subst hA; exact hm.symm
  refine ⟨?_, ?_, ?_, ?_, Fin.le hA 0 [(17, 0)] (.sl 0 1 (.l 0) (.s m)) [(0, .row 5 1 (.s m) (fun e => [.int .u8 (hi e.val)]))] 1 rfl rfl rfl ?_ ?_ (by rw [← hK]; exact ⟨rfl, rfl, rfl⟩)⟩
  · subst hA; simp only [Ar.real, NV.val, Int.ofNat_eq_natCast, Int.toNat_natCast]
    decide
  · subst hA; simp only [Ar.real, NV.val, Int.ofNat_eq_natCast, Int.toNat_natCast]
    decide
  · subst hA; simp only [Ar.real, NV.val, Int.ofNat_eq_natCast, Int.toNat_natCast]
    decide
  · subst hA; simp only [Ar.real, NV.val, Int.ofNat_eq_natCast, Int.toNat_natCast]
    omega
  · (try cbv) <;> (repeat' (first | exact trivial | exact rfl | apply And.intro | (intro _ hle; first | refine chunk_le hA rfl hle rfl ?_ | refine cat_le hA ?_ | refine upd_le hA ?_ | (try cbv))))
    exact hlt
  · (try cbv) <;> (repeat' (first | exact trivial | exact rfl | apply And.intro | (intro _ hle; first | refine chunk_le hA rfl hle rfl ?_ | refine cat_le hA ?_ | refine upd_le hA ?_ | (try cbv))))
    · exact hlt
    · rename_i e
      have hlt' : e.val < n + 4 := by subst hA; rw [ltNV_real] at hle; exact hle
      cases e with
      | l k => cbv; exact ⟨hall k hlt', trivial⟩
      | s k => cbv; exact ⟨hall k hlt', trivial⟩
theorem seal_fn {P : Program} (hP : P = Tryd.prog) {n : Nat} {fr gi hi : Nat → Int} {g : Nat → BitVec 32} (hfr : ∀ i, fr i = ((four i).toNat : Int)) (hg : ∀ i, gi i = ((g i).toNat : Int)) (hn : n ≤ 1000000000) {m : Nat} (hm : m = n + 4) (hh : ∀ i, i < m → hi i = CrcLaw.sealB gi (CrcLaw.more g 0#32 n) n i) :
    FnTr P (Gf fr) 18 [.ro 1 (.s n) (fun e => [.int .u8 (gi e.val)])] [] 0 (Gives (.ro 1 (.s m) (fun e => [.int .u8 (hi e.val)])) [] 1) := by
  have h := seal_own (n := n) hP hfr hg hn hm hh
  generalize hA : Ar.real = A
  refine FnTr.dat hA h _ _ ?_
  cbv
  refine ⟨⟨?_, trivial⟩, fun e _ => ⟨rfl, trivial⟩, trivial⟩
  (subst hA; (simp only [Ar.real, NV.val, Int.ofNat_eq_natCast, Int.toNat_natCast]); first | done | omega | decide | exact inR64 (by omega) (by omega) | (refine ⟨?_, ?_⟩ <;> first | omega | decide | exact inR64 (by omega) (by omega)))
theorem refseal_own {P : Program} {G : Gl} (hP : P = Tryd.prog) {n : Nat} {gi hi : Nat → Int} {g : Nat → BitVec 32} (hg : ∀ i, gi i = ((g i).toNat : Int)) (hn : n ≤ 1000000000) {m : Nat} (hm : m = n + 4) (hh : ∀ i, i < m → hi i = CrcLaw.sealB gi (CrcLaw.more g 0#32 n) n i) :
    FnTr P G 19 [.ro 1 (.s n) (fun e => [.int .u8 (gi e.val)])] [] 0 (Gives (.sl 0 1 (.l 0) (.s m)) [(0, .row 5 1 (.s m) (fun e => [.int .u8 (hi e.val)]))] 1) := by
  obtain ⟨s, hs⟩ : ∃ s, s = CrcLaw.more g 0#32 n := ⟨_, rfl⟩
  obtain ⟨si, hsi⟩ : ∃ si : Int, si = (s.toNat : Int) := ⟨_, rfl⟩
  have hT : T.Ok P := hP ▸ T_ok
  refine FnTr.intro (fn := Tryd.f19) (c := bodyOf Tryd.f19) (by rw [hP]; rfl) rfl rfl hT ?_
  generalize hA : Ar.real = A
  generalize hK : Gives _ _ _ = K
  cbv
  refine CS.le hA (refsum_fn (n := n) hP hg (hsi.trans (by rw [hs])) (by omega)) [] rfl rfl rfl ?_ ?_ ?_
  · (try cbv) <;> (repeat' (first | exact trivial | exact rfl | apply And.intro | (intro _ hle; first | refine chunk_le hA rfl hle rfl ?_ | refine cat_le hA ?_ | refine upd_le hA ?_ | (try cbv))))
  · (try cbv) <;> (repeat' (first | exact trivial | exact rfl | apply And.intro | (intro _ hle; first | refine chunk_le hA rfl hle rfl ?_ | refine cat_le hA ?_ | refine upd_le hA ?_ | (try cbv))))
  cbv
  refine ⟨(by (subst hA; (simp only [Ar.real, NV.val, Int.ofNat_eq_natCast, Int.toNat_natCast]); first | done | omega | decide | exact inR64 (by omega) (by omega) | (refine ⟨?_, ?_⟩ <;> first | omega | decide | exact inR64 (by omega) (by omega)))), (by (subst hA; (simp only [Ar.real, NV.val, Int.ofNat_eq_natCast, Int.toNat_natCast]); first | done | omega | decide | exact inR64 (by omega) (by omega) | (refine ⟨?_, ?_⟩ <;> first | omega | decide | exact inR64 (by omega) (by omega)))), (by (subst hA; (simp only [Ar.real, NV.val, Int.ofNat_eq_natCast, Int.toNat_natCast]); first | done | omega | decide | exact inR64 (by omega) (by omega) | (refine ⟨?_, ?_⟩ <;> first | omega | decide | exact inR64 (by omega) (by omega)))), (by (subst hA; (simp only [Ar.real, NV.val, Int.ofNat_eq_natCast, Int.toNat_natCast]); first | done | omega | decide | exact inR64 (by omega) (by omega) | (refine ⟨?_, ?_⟩ <;> first | omega | decide | exact inR64 (by omega) (by omega)))), (by (subst hA; (simp only [Ar.real, NV.val, Int.ofNat_eq_natCast, Int.toNat_natCast]); first | done | omega | decide | exact inR64 (by omega) (by omega) | (refine ⟨?_, ?_⟩ <;> first | omega | decide | exact inR64 (by omega) (by omega)))), (by (subst hA; (simp only [Ar.real, NV.val, Int.ofNat_eq_natCast, Int.toNat_natCast]); first | done | omega | decide | exact inR64 (by omega) (by omega) | (refine ⟨?_, ?_⟩ <;> first | omega | decide | exact inR64 (by omega) (by omega)))), (by (subst hA; (simp only [Ar.real, NV.val, Int.ofNat_eq_natCast, Int.toNat_natCast]); first | done | omega | decide | exact inR64 (by omega) (by omega) | (refine ⟨?_, ?_⟩ <;> first | omega | decide | exact inR64 (by omega) (by omega)))), (by (subst hA; (simp only [Ar.real, NV.val, Int.ofNat_eq_natCast, Int.toNat_natCast]); first | done | omega | decide | exact inR64 (by omega) (by omega) | (refine ⟨?_, ?_⟩ <;> first | omega | decide | exact inR64 (by omega) (by omega)))), ?_⟩
  have hb0 : A.conv .u8 (A.rem si 256) = ((s.toNat / 256 ^ 0 % 256 : Nat) : Int) := by subst hA; rw [hsi]; exact byte_md s 0
  have hb1 : A.conv .u8 (A.rem (A.w .quo .u32 si 256) 256) = ((s.toNat / 256 ^ 1 % 256 : Nat) : Int) := by subst hA; rw [hsi]; exact byte_qr s 1
  have hb2 : A.conv .u8 (A.rem (A.w .quo .u32 si 65536) 256) = ((s.toNat / 256 ^ 2 % 256 : Nat) : Int) := by subst hA; rw [hsi]; exact byte_qr s 2
  have hb3 : A.conv .u8 (A.w .quo .u32 si 16777216) = ((s.toNat / 256 ^ 3 % 256 : Nat) : Int) := by subst hA; rw [hsi]; exact byte_q s 3
  have hall : ∀ k, k < n + 4 → A.iteI (A.ltN k n) (gi k) (A.sel (A.subN k n) [A.conv .u8 (A.rem si 256), A.conv .u8 (A.rem (A.w .quo .u32 si 256) 256), A.conv .u8 (A.rem (A.w .quo .u32 si 65536) 256), A.conv .u8 (A.w .quo .u32 si 16777216)]) = hi k := by
    intro k hk
    rw [hb0, hb1, hb2, hb3, hh k (by omega), ← hs]
    subst hA
    exact seal_pick gi s n k hk
  have hlt : A.addN n 4 = m := by subst hA; exact hm.symm
  refine Fin.le hA 0 [(23, 0)] (.sl 0 1 (.l 0) (.s m)) ([(0, .row 5 1 (.s m) (fun e => [.int .u8 (hi e.val)]))]) 1 rfl rfl rfl ?_ ?_ (by rw [← hK]; exact ⟨rfl, rfl, rfl⟩)
  · (try cbv) <;> (repeat' (first | exact trivial | exact rfl | apply And.intro | (intro _ hle; first | refine chunk_le hA rfl hle rfl ?_ | refine cat_le hA ?_ | refine upd_le hA ?_ | (try cbv))))
    exact hlt
  · (try cbv) <;> (repeat' (first | exact trivial | exact rfl | apply And.intro | (intro _ hle; first | refine chunk_le hA rfl hle rfl ?_ | refine cat_le hA ?_ | refine upd_le hA ?_ | (try cbv))))
    · exact hlt
    · rename_i e
      have hlt' : e.val < n + 4 := by subst hA; rw [ltNV_real] at hle; exact hle
      cases e with
      | l k => cbv; exact ⟨hall k hlt', trivial⟩
      | s k => cbv; exact ⟨hall k hlt', trivial⟩
theorem refseal_fn {P : Program} {G : Gl} (hP : P = Tryd.prog) {n : Nat} {gi hi : Nat → Int} {g : Nat → BitVec 32} (hg : ∀ i, gi i = ((g i).toNat : Int)) (hn : n ≤ 1000000000) {m : Nat} (hm : m = n + 4) (hh : ∀ i, i < m → hi i = CrcLaw.sealB gi (CrcLaw.more g 0#32 n) n i) :
    FnTr P G 19 [.ro 1 (.s n) (fun e => [.int .u8 (gi e.val)])] [] 0 (Gives (.ro 1 (.s m) (fun e => [.int .u8 (hi e.val)])) [] 1) := by
  have h := refseal_own (n := n) (G := G) hP hg hn hm hh
  generalize hA : Ar.real = A
  refine FnTr.dat hA h _ _ ?_
  cbv
  refine ⟨⟨?_, trivial⟩, fun e _ => ⟨rfl, trivial⟩, trivial⟩
  (subst hA; (simp only [Ar.real, NV.val, Int.ofNat_eq_natCast, Int.toNat_natCast]); first | done | omega | decide | exact inR64 (by omega) (by omega) | (refine ⟨?_, ?_⟩ <;> first | omega | decide | exact inR64 (by omega) (by omega)))
end Go.Proofs.YtnjjgipblimbfaaDoor
