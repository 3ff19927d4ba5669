/-
  The sums of bytes: what sealed bytes hold.
-/
import Derived.Test.YtnjjgipblimbfaaDoorCrcF3
set_option linter.unusedVariables false
set_option linter.unusedSimpArgs false
namespace Go.Proofs.YtnjjgipblimbfaaDoor
open Go.Eng
open Go.CrcLaw (four)
set_option maxRecDepth 100000
set_option linter.unusedVariables false

/-- What opening gives: how many bytes, and which error. -/
def OpenIs (gi : Nat → Int) (g : Nat → BitVec 32) (n m : Nat) (er : Int) : Prop :=
  (n < 4 ∧ m = 0 ∧ er = 210) ∨ (4 ≤ n ∧ (∀ i, i < n → CrcLaw.sealB gi (CrcLaw.more g 0#32 (n - 4)) (n - 4) i = gi i) ∧ m = n - 4 ∧ er = 0) ∨
    (4 ≤ n ∧ ¬ (∀ i, i < n → CrcLaw.sealB gi (CrcLaw.more g 0#32 (n - 4)) (n - 4) i = gi i) ∧ m = 0 ∧ er = 240)

theorem refopen_fn {P : Program} {G : Gl} (hP : P = Tryd.prog) {n m : Nat} {gi : Nat → Int} {er : Int} {g : Nat → BitVec 32} (hg : ∀ i, gi i = ((g i).toNat : Int)) (hg8 : ∀ i, i < n → (g i).toNat < 256) (hn : n ≤ 1000000000) (ho : OpenIs gi g n m er) :
    FnTr P G 12 [.ro 1 (.s n) (fun e => [.int .u8 (gi e.val)])] [] 0 (Gives (.tup [.ro 1 (.s m) (fun e => [.int .u8 (gi e.val)]), .int .i64 er]) [] 0) := by
  obtain ⟨q, hq⟩ : ∃ q, q = n - 4 := ⟨_, rfl⟩
  obtain ⟨hi, hh⟩ : ∃ hi : Nat → Int, ∀ i, hi i = CrcLaw.sealB gi (CrcLaw.more g 0#32 q) q i := ⟨_, fun _ => rfl⟩
  have hT : T.Ok P := hP ▸ T_ok
  refine FnTr.intro (fn := Tryd.f12) (c := bodyOf Tryd.f12) (by rw [hP]; rfl) rfl rfl hT ?_
  generalize hA : Ar.real = A
  generalize hK : Gives _ _ _ = K
  cbv
  refine ⟨fun h => ?_, fun h => ?_⟩
  · cbv
    have hlt : n < 4 := by subst hA; simp only [Ar.real] at h; simp at h; omega
    obtain ⟨rfl, rfl⟩ : m = 0 ∧ er = 210 := by rcases ho with ⟨_, h1, h2⟩ | ⟨h0, _⟩ | ⟨h0, _⟩ <;> first | exact ⟨h1, h2⟩ | omega
    refine Fin.le hA 0 [] (.tup [.ro 1 (.s 0) (fun e => [.int .u8 (gi e.val)]), .int .i64 210]) ([]) 0 rfl rfl rfl ?_ ?_ (by rw [← hK]; exact ⟨rfl, rfl, rfl⟩)
    · (try cbv) <;> (repeat' (first | exact trivial | exact rfl | apply And.intro | (intro _ hle; first | refine chunk_le hA rfl hle rfl ?_ | refine cat_le hA ?_ | refine upd_le hA ?_ | (try cbv))))
    · (try cbv) <;> (repeat' (first | exact trivial | exact rfl | apply And.intro | (intro _ hle; first | refine chunk_le hA rfl hle rfl ?_ | refine cat_le hA ?_ | refine upd_le hA ?_ | (try cbv))))
  · cbv
    have hge : 4 ≤ n := by subst hA; simp only [Ar.real] at h; simp at h; omega
    have hq0 : A.subN (A.nat (A.sub (A.i2 n) 4)) 0 = q := by subst hA; simp only [Ar.real]; omega
    have hq1 : A.nat (A.sub (A.i2 n) 4) = q := by subst hA; simp only [Ar.real]; omega
    have hbe : ∀ c, A.not (A.eqL (A.bytes n (byteAt fun e => [.int .u8 (hi e.val)])) (A.bytes n (byteAt fun e => [.int .u8 (gi e.val)]))) = c → (c = false ↔ ∀ i, i < n → hi i = gi i) := by
      intro c hc
      subst hA
      have := bytes_eq (n := n) (m := n) (f := hi) (g := gi) (fun i hi' => by rw [hh]; exact CrcLaw.sealB_rng (fun j hj => by rw [hg]; exact ⟨Int.natCast_nonneg _, by exact_mod_cast hg8 j (by omega)⟩) i) (fun i hi' => by rw [hg]; exact ⟨Int.natCast_nonneg _, by exact_mod_cast hg8 i hi'⟩)
      simp only [true_and] at this
      rw [← this, ← hc]
      simp only [Ar.real, Bool.not_eq_eq_eq_not, Bool.not_false]
      exact Iff.rfl
    refine DS.run hA hT (by rw [hP]; exact P_mixed) 1 rfl ?_
    cbv
    refine ⟨(by (subst hA; (simp only [Ar.real, NV.val, Int.ofNat_eq_natCast, Int.toNat_natCast]); first | done | omega | decide | exact inR64 (by omega) (by omega) | (refine ⟨?_, ?_⟩ <;> first | omega | decide | exact inR64 (by omega) (by omega)))), (by (subst hA; (simp only [Ar.real, NV.val, Int.ofNat_eq_natCast, Int.toNat_natCast]); first | done | omega | decide | exact inR64 (by omega) (by omega) | (refine ⟨?_, ?_⟩ <;> first | omega | decide | exact inR64 (by omega) (by omega)))), ?_⟩
    refine CD.pass hA (refseal_fn (n := q) (m := n) (hi := hi) hP hg (by omega) (by omega) (fun i _ => hh i)) [] [] rfl ⟨rfl, rfl, rfl, rfl, ?_, ?_⟩ rfl (.inl rfl) ?_
    · (try cbv) <;> (repeat' (first | exact trivial | exact rfl | apply And.intro | (intro _ hle; first | refine chunk_le hA rfl hle rfl ?_ | refine cat_le hA ?_ | refine upd_le hA ?_ | (try cbv))))
      exact hq0
    · (try cbv) <;> (repeat' (first | exact trivial | exact rfl | apply And.intro | (intro _ hle; first | refine chunk_le hA rfl hle rfl ?_ | refine cat_le hA ?_ | refine upd_le hA ?_ | (try cbv))))
    cbv
    refine ⟨fun _ _ => rfl, fun _ _ => rfl, fun h2 => ?_, fun h2 => ?_⟩
    · have hne := hbe _ h2
      cbv
      obtain ⟨rfl, rfl⟩ : m = 0 ∧ er = 240 := by
        rcases ho with ⟨h0, _⟩ | ⟨_, h0, _⟩ | ⟨_, _, h1⟩
        · omega
        · rw [← hq] at h0
          exact absurd (hne.2 fun i hi' => by rw [hh]; exact h0 i hi') (by decide)
        · exact h1
      refine Fin.le hA 0 [] (.tup [.ro 1 (.s 0) (fun e => [.int .u8 (gi e.val)]), .int .i64 240]) ([]) 0 rfl rfl rfl ?_ ?_ (by rw [← hK]; exact ⟨rfl, rfl, rfl⟩)
      · (try cbv) <;> (repeat' (first | exact trivial | exact rfl | apply And.intro | (intro _ hle; first | refine chunk_le hA rfl hle rfl ?_ | refine cat_le hA ?_ | refine upd_le hA ?_ | (try cbv))))
      · (try cbv) <;> (repeat' (first | exact trivial | exact rfl | apply And.intro | (intro _ hle; first | refine chunk_le hA rfl hle rfl ?_ | refine cat_le hA ?_ | refine upd_le hA ?_ | (try cbv))))
    · have hne := hbe _ h2
      cbv
      obtain ⟨rfl, rfl⟩ : m = q ∧ er = 0 := by
        rcases ho with ⟨h0, _⟩ | ⟨_, h0, h1⟩ | ⟨_, h0, _⟩
        · omega
        · rw [← hq] at h1; exact h1
        · rw [← hq] at h0
          exact absurd (fun i hi' => by rw [← hh]; exact hne.1 rfl i hi') h0
      refine ⟨(by (subst hA; (simp only [Ar.real, NV.val, Int.ofNat_eq_natCast, Int.toNat_natCast]); first | done | omega | decide | exact inR64 (by omega) (by omega) | (refine ⟨?_, ?_⟩ <;> first | omega | decide | exact inR64 (by omega) (by omega)))), (by (subst hA; (simp only [Ar.real, NV.val, Int.ofNat_eq_natCast, Int.toNat_natCast]); first | done | omega | decide | exact inR64 (by omega) (by omega) | (refine ⟨?_, ?_⟩ <;> first | omega | decide | exact inR64 (by omega) (by omega)))), ?_⟩
      refine Fin.le hA 0 [] (.tup [.ro 1 (.s m) (fun e => [.int .u8 (gi e.val)]), .int .i64 0]) ([]) 0 rfl rfl rfl ?_ ?_ (by rw [← hK]; exact ⟨rfl, rfl, rfl⟩)
      · (try cbv) <;> (repeat' (first | exact trivial | exact rfl | apply And.intro | (intro _ hle; first | refine chunk_le hA rfl hle rfl ?_ | refine cat_le hA ?_ | refine upd_le hA ?_ | (try cbv))))
        exact hq0
      · (try cbv) <;> (repeat' (first | exact trivial | exact rfl | apply And.intro | (intro _ hle; first | refine chunk_le hA rfl hle rfl ?_ | refine cat_le hA ?_ | refine upd_le hA ?_ | (try cbv))))

theorem shl_or (x y : BitVec 32) (hx : x.toNat < 16777216) (hy : y.toNat < 256) : wOp .or .u32 (IntKind.u32.wrap ((x.toNat : Int) * 2 ^ (Nat.min (8 : Int).toNat IntKind.u32.bits))) (y.toNat : Int) = ((x.toNat * 256 + y.toNat : Nat) : Int) := by
  have e : IntKind.u32.wrap ((x.toNat : Int) * 2 ^ (Nat.min (8 : Int).toNat IntKind.u32.bits)) = ((x <<< 8).toNat : Int) := by
    have e1 : ((x.toNat : Int) * 2 ^ (Nat.min (8 : Int).toNat IntKind.u32.bits)) = ((x.toNat * 256 : Nat) : Int) := by
      rw [Int.natCast_mul]; rfl
    rw [e1, wrap_u32, BitVec.toNat_shiftLeft, Nat.shiftLeft_eq]
  rw [e, or32]
  have e2 : (x <<< 8 ||| y).toNat = x.toNat * 256 + y.toNat := by
    rw [BitVec.toNat_or, BitVec.toNat_shiftLeft]
    have e3 : x.toNat <<< 8 % 2 ^ 32 = x.toNat <<< 8 := by rw [Nat.shiftLeft_eq]; exact Nat.mod_eq_of_lt (by omega)
    rw [e3, ← Nat.shiftLeft_add_eq_or_of_lt (by omega), Nat.shiftLeft_eq]
  rw [e2]
theorem open_num {g : Nat → BitVec 32} {q : Nat} (h : ∀ j, j < q + 4 → (g j).toNat < 256) :
    wOp .or .u32 (Ar.real.shl .u32 (wOp .or .u32 (Ar.real.shl .u32 (wOp .or .u32 (Ar.real.shl .u32 (wOp .or .u32 0 ((g (q + 3)).toNat : Int)) 8) ((g (q + 2)).toNat : Int)) 8) ((g (q + 1)).toNat : Int)) 8) ((g (q + 0)).toNat : Int) = (((((g (q + 3)).toNat * 256 + (g (q + 2)).toNat) * 256 + (g (q + 1)).toNat) * 256 + (g q).toNat : Nat) : Int) := by
  have b0 := h q (by omega)
  have b1 := h (q + 1) (by omega)
  have b2 := h (q + 2) (by omega)
  have b3 := h (q + 3) (by omega)
  have e0 : wOp .or .u32 0 ((g (q + 3)).toNat : Int) = ((g (q + 3)).toNat : Int) := by
    have := or32 0#32 (g (q + 3))
    rw [BitVec.zero_or] at this
    exact this
  rw [e0]
  have hw : ∀ k : Nat, k < 4294967296 → ∃ x : BitVec 32, x.toNat = k := fun k hk => ⟨BitVec.ofNat 32 k, by simp; omega⟩
  simp only [Nat.add_zero]
  have e1 := shl_or (g (q + 3)) (g (q + 2)) (by omega) b2
  rw [show Ar.real.shl .u32 ((g (q + 3)).toNat : Int) 8 = IntKind.u32.wrap (((g (q + 3)).toNat : Int) * 2 ^ (Nat.min (8 : Int).toNat IntKind.u32.bits)) from rfl, e1]
  obtain ⟨x, hx⟩ := hw ((g (q + 3)).toNat * 256 + (g (q + 2)).toNat) (by omega)
  rw [← hx]
  have e2 := shl_or x (g (q + 1)) (by omega) b1
  rw [show Ar.real.shl .u32 (x.toNat : Int) 8 = IntKind.u32.wrap ((x.toNat : Int) * 2 ^ (Nat.min (8 : Int).toNat IntKind.u32.bits)) from rfl, e2]
  obtain ⟨y, hy⟩ := hw (x.toNat * 256 + (g (q + 1)).toNat) (by omega)
  rw [← hy]
  exact shl_or y (g q) (by omega) b0
theorem digits4 {a b c d s : Nat} (ha : a < 256) (hb : b < 256) (hc : c < 256) (hd : d < 256) (hs : s < 4294967296) : (((d * 256 + c) * 256 + b) * 256 + a = s) ↔ (s / 1 % 256 = a ∧ s / 256 % 256 = b ∧ s / 65536 % 256 = c ∧ s / 16777216 % 256 = d) := by omega
theorem open_test {gi : Nat → Int} {g : Nat → BitVec 32} {n q : Nat} {si : Int} {c : Bool} (hg : ∀ i, gi i = ((g i).toNat : Int)) (h8 : ∀ j, j < q + 4 → (g j).toNat < 256) (hsi : si = ((CrcLaw.more g 0#32 q).toNat : Int)) (hn : n = q + 4)
    (hc : Ar.real.ne (wOp .or .u32 (Ar.real.shl .u32 (wOp .or .u32 (Ar.real.shl .u32 (wOp .or .u32 (Ar.real.shl .u32 (wOp .or .u32 0 ((g (q + 3)).toNat : Int)) 8) ((g (q + 2)).toNat : Int)) 8) ((g (q + 1)).toNat : Int)) 8) ((g (q + 0)).toNat : Int)) si = c) :
    c = false ↔ ∀ i, i < n → CrcLaw.sealB gi (CrcLaw.more g 0#32 q) q i = gi i := by
  rw [open_num h8, hsi] at hc
  generalize CrcLaw.more g 0#32 q = s at *
  have hd := digits4 (h8 q (by omega)) (h8 (q + 1) (by omega)) (h8 (q + 2) (by omega)) (h8 (q + 3) (by omega)) s.isLt
  have e1 : c = false ↔ (((g (q + 3)).toNat * 256 + (g (q + 2)).toNat) * 256 + (g (q + 1)).toNat) * 256 + (g q).toNat = s.toNat := by
    rw [← hc]
    simp only [Ar.real, bne_eq_false_iff_eq]
    omega
  rw [e1, hd]
  unfold CrcLaw.sealB
  constructor
  · rintro ⟨k0, k1, k2, k3⟩ i hi
    by_cases h : i < q
    · rw [if_pos h]
    · rw [if_neg h, hg]
      have : i = q ∨ i = q + 1 ∨ i = q + 2 ∨ i = q + 3 := by omega
      rcases this with rfl | rfl | rfl | rfl
      · rw [Nat.sub_self]; exact congrArg Nat.cast k0
      · rw [show q + 1 - q = 1 by omega]; exact congrArg Nat.cast k1
      · rw [show q + 2 - q = 2 by omega]; exact congrArg Nat.cast k2
      · rw [show q + 3 - q = 3 by omega]; exact congrArg Nat.cast k3
  · intro h
    have k0 := h q (by omega)
    have k1 := h (q + 1) (by omega)
    have k2 := h (q + 2) (by omega)
    have k3 := h (q + 3) (by omega)
    rw [if_neg (by omega), hg] at k0 k1 k2 k3
    rw [Nat.sub_self] at k0
    rw [show q + 1 - q = 1 by omega] at k1
    rw [show q + 2 - q = 2 by omega] at k2
    rw [show q + 3 - q = 3 by omega] at k3
    exact ⟨by exact_mod_cast k0, by exact_mod_cast k1, by exact_mod_cast k2, by exact_mod_cast k3⟩

theorem open_fn {P : Program} (hP : P = Tryd.prog) {n m : Nat} {fr gi : Nat → Int} {er : Int} {g : Nat → BitVec 32} (hfr : ∀ i, fr i = ((four i).toNat : Int)) (hg : ∀ i, gi i = ((g i).toNat : Int)) (hg8 : ∀ i, i < n → (g i).toNat < 256) (hn : n ≤ 1000000000) (ho : OpenIs gi g n m er) :
    FnTr P (Gf fr) 11 [.ro 1 (.s n) (fun e => [.int .u8 (gi e.val)])] [] 0 (Gives (.tup [.ro 1 (.s m) (fun e => [.int .u8 (gi e.val)]), .int .i64 er]) [] 1) := by
  obtain ⟨q, hq⟩ : ∃ q, q = n - 4 := ⟨_, rfl⟩
  obtain ⟨si, hsi⟩ : ∃ si : Int, si = ((CrcLaw.more g 0#32 q).toNat : Int) := ⟨_, rfl⟩
  have hT : T.Ok P := hP ▸ T_ok
  refine FnTr.intro (fn := Tryd.f11) (c := bodyOf Tryd.f11) (by rw [hP]; rfl) rfl rfl hT ?_
  generalize hA : Ar.real = A
  generalize hK : Gives _ _ _ = K
  cbv
  refine ⟨fun h => ?_, fun h => ?_⟩
  · cbv
    have hlt : n < 4 := by subst hA; simp only [Ar.real] at h; simp at h; omega
    obtain ⟨rfl, rfl⟩ : m = 0 ∧ er = 210 := by rcases ho with ⟨_, h1, h2⟩ | ⟨h0, _⟩ | ⟨h0, _⟩ <;> first | exact ⟨h1, h2⟩ | omega
    refine Fin.le hA 0 [] (.tup [.ro 1 (.s 0) (fun e => [.int .u8 (gi e.val)]), .int .i64 210]) ([]) 1 rfl rfl rfl ?_ ?_ (by rw [← hK]; exact ⟨rfl, rfl, rfl⟩)
    · (try cbv) <;> (repeat' (first | exact trivial | exact rfl | apply And.intro | (intro _ hle; first | refine chunk_le hA rfl hle rfl ?_ | refine cat_le hA ?_ | refine upd_le hA ?_ | (try cbv))))
    · (try cbv) <;> (repeat' (first | exact trivial | exact rfl | apply And.intro | (intro _ hle; first | refine chunk_le hA rfl hle rfl ?_ | refine cat_le hA ?_ | refine upd_le hA ?_ | (try cbv))))
  · have hge : 4 ≤ n := by subst hA; simp only [Ar.real] at h; simp at h; omega
    have hq1 : A.nat (A.sub (A.i2 n) 4) = q := by subst hA; simp only [Ar.real]; omega
    have hq0 : A.subN (A.nat (A.sub (A.i2 n) 4)) 0 = q := by rw [hq1]; subst hA; rfl
    have hr : A.inR .i64 (A.sub (A.i2 n) 4) := by (subst hA; (simp only [Ar.real, NV.val, Int.ofNat_eq_natCast, Int.toNat_natCast]); first | done | omega | decide | exact inR64 (by omega) (by omega) | (refine ⟨?_, ?_⟩ <;> first | omega | decide | exact inR64 (by omega) (by omega)))
    have ha : ∀ j : Nat, j < 4 → A.inR .i64 (A.add (A.sub (A.i2 n) 4) (j : Int)) ∧ A.idx (A.add (A.sub (A.i2 n) 4) (j : Int)) n ∧ A.nat (A.add (A.sub (A.i2 n) 4) (j : Int)) = q + j := by
      intro j hj
      subst hA; simp only [Ar.real]
      exact ⟨inR64 (by omega) (by omega), ⟨by omega, by omega⟩, by omega⟩
    have hix : ∀ j : Nat, j < 4 → A.conv .u32 (gi (A.nat (A.add (A.sub (A.i2 n) 4) (j : Int)))) = ((g (q + j)).toNat : Int) := by
      intro j hj
      rw [(ha j hj).2.2, hg]
      subst hA
      exact wrap_u32_bv _
    have hne : ∀ c, A.ne (A.w .or .u32 (A.shl .u32 (A.w .or .u32 (A.shl .u32 (A.w .or .u32 (A.shl .u32 (A.w .or .u32 0 (A.conv .u32 (gi (A.nat (A.add (A.sub (A.i2 n) 4) 3))))) 8) (A.conv .u32 (gi (A.nat (A.add (A.sub (A.i2 n) 4) 2))))) 8) (A.conv .u32 (gi (A.nat (A.add (A.sub (A.i2 n) 4) 1))))) 8) (A.conv .u32 (gi (A.nat (A.add (A.sub (A.i2 n) 4) 0))))) si = c →
        (c = false ↔ ∀ i, i < n → CrcLaw.sealB gi (CrcLaw.more g 0#32 q) q i = gi i) := by
      intro c hc
      have h0 : A.conv .u32 (gi (A.nat (A.add (A.sub (A.i2 n) 4) 0))) = ((g (q + 0)).toNat : Int) := hix 0 (by omega)
      have h1 : A.conv .u32 (gi (A.nat (A.add (A.sub (A.i2 n) 4) 1))) = ((g (q + 1)).toNat : Int) := hix 1 (by omega)
      have h2 : A.conv .u32 (gi (A.nat (A.add (A.sub (A.i2 n) 4) 2))) = ((g (q + 2)).toNat : Int) := hix 2 (by omega)
      have h3 : A.conv .u32 (gi (A.nat (A.add (A.sub (A.i2 n) 4) 3))) = ((g (q + 3)).toNat : Int) := hix 3 (by omega)
      rw [h0, h1, h2, h3] at hc
      subst hA
      exact open_test hg (fun j hj => hg8 j (by omega)) hsi (by omega) hc
    cbv
    refine ⟨hr, LS.rounds hA 5 hT ?_⟩
    cbv
    refine ⟨(ha 3 (by omega)).1, (ha 3 (by omega)).2.1, (by (subst hA; (simp only [Ar.real, NV.val, Int.ofNat_eq_natCast, Int.toNat_natCast]); first | done | omega | decide | exact inR64 (by omega) (by omega) | (refine ⟨?_, ?_⟩ <;> first | omega | decide | exact inR64 (by omega) (by omega)))), (ha 2 (by omega)).1, (ha 2 (by omega)).2.1, (by (subst hA; (simp only [Ar.real, NV.val, Int.ofNat_eq_natCast, Int.toNat_natCast]); first | done | omega | decide | exact inR64 (by omega) (by omega) | (refine ⟨?_, ?_⟩ <;> first | omega | decide | exact inR64 (by omega) (by omega)))), (ha 1 (by omega)).1, (ha 1 (by omega)).2.1, (by (subst hA; (simp only [Ar.real, NV.val, Int.ofNat_eq_natCast, Int.toNat_natCast]); first | done | omega | decide | exact inR64 (by omega) (by omega) | (refine ⟨?_, ?_⟩ <;> first | omega | decide | exact inR64 (by omega) (by omega)))), (ha 0 (by omega)).1, (ha 0 (by omega)).2.1, (by (subst hA; (simp only [Ar.real, NV.val, Int.ofNat_eq_natCast, Int.toNat_natCast]); first | done | omega | decide | exact inR64 (by omega) (by omega) | (refine ⟨?_, ?_⟩ <;> first | omega | decide | exact inR64 (by omega) (by omega)))), ?_⟩
    refine CS.le hA (sum_fn (n := q) hP hfr hg hsi (by omega)) [] rfl rfl rfl ?_ ?_ ?_
    · (try cbv) <;> (repeat' (first | exact trivial | exact rfl | apply And.intro | (intro _ hle; first | refine chunk_le hA rfl hle rfl ?_ | refine cat_le hA ?_ | refine upd_le hA ?_ | (try cbv))))
      exact hq0
    · (try cbv) <;> (repeat' (first | exact trivial | exact rfl | apply And.intro | (intro _ hle; first | refine chunk_le hA rfl hle rfl ?_ | refine cat_le hA ?_ | refine upd_le hA ?_ | (try cbv))))
    cbv
    refine ⟨fun h2 => ?_, fun h2 => ?_⟩
    · have hc := hne _ h2
      cbv
      obtain ⟨rfl, rfl⟩ : m = 0 ∧ er = 240 := by
        rcases ho with ⟨h0, _⟩ | ⟨_, h0, _⟩ | ⟨_, _, h1⟩
        · omega
        · rw [← hq] at h0
          exact absurd (hc.2 h0) (by decide)
        · exact h1
      refine Fin.le hA 0 [] (.tup [.ro 1 (.s 0) (fun e => [.int .u8 (gi e.val)]), .int .i64 240]) ([]) 1 rfl rfl rfl ?_ ?_ (by rw [← hK]; exact ⟨rfl, rfl, rfl⟩)
      · (try cbv) <;> (repeat' (first | exact trivial | exact rfl | apply And.intro | (intro _ hle; first | refine chunk_le hA rfl hle rfl ?_ | refine cat_le hA ?_ | refine upd_le hA ?_ | (try cbv))))
      · (try cbv) <;> (repeat' (first | exact trivial | exact rfl | apply And.intro | (intro _ hle; first | refine chunk_le hA rfl hle rfl ?_ | refine cat_le hA ?_ | refine upd_le hA ?_ | (try cbv))))
    · have hc := hne _ h2
      cbv
      obtain ⟨rfl, rfl⟩ : m = q ∧ er = 0 := by
        rcases ho with ⟨h0, _⟩ | ⟨_, h0, h1⟩ | ⟨_, h0, _⟩
        · omega
        · rw [← hq] at h1; exact h1
        · rw [← hq] at h0
          exact absurd (hc.1 rfl) h0
      refine ⟨(by (subst hA; (simp only [Ar.real, NV.val, Int.ofNat_eq_natCast, Int.toNat_natCast]); first | done | omega | decide | exact inR64 (by omega) (by omega) | (refine ⟨?_, ?_⟩ <;> first | omega | decide | exact inR64 (by omega) (by omega)))), ?_⟩
      refine CS.le hA (clone_fn (n := m) (f := gi) hP (by omega)) [] rfl rfl rfl ?_ ?_ ?_
      · (try cbv) <;> (repeat' (first | exact trivial | exact rfl | apply And.intro | (intro _ hle; first | refine chunk_le hA rfl hle rfl ?_ | refine cat_le hA ?_ | refine upd_le hA ?_ | (try cbv))))
        exact hq0
      · (try cbv) <;> (repeat' (first | exact trivial | exact rfl | apply And.intro | (intro _ hle; first | refine chunk_le hA rfl hle rfl ?_ | refine cat_le hA ?_ | refine upd_le hA ?_ | (try cbv))))
      cbv
      refine Fin.le hA 0 [] (.tup [.ro 1 (.s m) (fun e => [.int .u8 (gi e.val)]), .int .i64 0]) ([]) 1 rfl rfl rfl ?_ ?_ (by rw [← hK]; exact ⟨rfl, rfl, rfl⟩)
      · (try cbv) <;> (repeat' (first | exact trivial | exact rfl | apply And.intro | (intro _ hle; first | refine chunk_le hA rfl hle rfl ?_ | refine cat_le hA ?_ | refine upd_le hA ?_ | (try cbv))))
      · (try cbv) <;> (repeat' (first | exact trivial | exact rfl | apply And.intro | (intro _ hle; first | refine chunk_le hA rfl hle rfl ?_ | refine cat_le hA ?_ | refine upd_le hA ?_ | (try cbv))))
end Go.Proofs.YtnjjgipblimbfaaDoor
