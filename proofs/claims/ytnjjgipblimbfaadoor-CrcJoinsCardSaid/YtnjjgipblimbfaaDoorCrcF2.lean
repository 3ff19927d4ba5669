/-
  The sums of bytes: products, and how sums are joined.
-/
import Derived.Test.YtnjjgipblimbfaaDoorCrcF1
set_option linter.unusedVariables false
set_option linter.unusedSimpArgs false
namespace Go.Proofs.YtnjjgipblimbfaaDoor
open Go.Eng
open Go.CrcLaw (half mulGo times)
set_option maxRecDepth 100000
set_option linter.unusedVariables false

theorem lit1 : (1 : Int) = ((1#32).toNat : Int) := by decide
theorem litp : (3988292384 : Int) = ((3988292384#32).toNat : Int) := by decide
theorem key0 {k : Int} {n : Nat} (hk : k = (n : Int) - 1) (h : 0 ≤ k) : 0 < n := by omega
theorem key1 {k : Int} {m : Nat} (hk : k = ((m + 1 : Nat) : Int) - 1) : k = (m : Int) := by omega
theorem key2 {k : Int} {n : Nat} (hk : k = (n : Int) - 1) (h : k < 0) : n = 0 := by omega

theorem times_fn {P : Program} {G : Gl} (hP : P = Tryd.prog) {ai bi oi : Int} {a b : BitVec 32} (ha : ai = (a.toNat : Int)) (hb : bi = (b.toNat : Int)) (ho : oi = ((times a b).toNat : Int)) :
    FnTr P G 49 [.int .u32 ai, .int .u32 bi] [] 0 (Gives (.int .u32 oi) [] 0) := by
  have hT : T.Ok P := hP ▸ T_ok
  refine FnTr.intro (fn := Tryd.f49) (c := bodyOf Tryd.f49) (by rw [hP]; rfl) rfl rfl hT ?_
  generalize hA : Ar.real = A
  generalize hK : Gives _ _ _ = K
  cbv
  refine LS.le3 hT hA 0 (fun (k : Int) (o : Int) (x : Int) => [(6, .int .i64 k), (5, .int .u32 o), (1, .int .u32 x)]) (fun _ _ _ => []) (fun k o x => ∃ (n : Nat) (ob xb : BitVec 32), k = (n : Int) - 1 ∧ o = (ob.toNat : Int) ∧ x = (xb.toNat : Int) ∧ n ≤ 32 ∧ mulGo a n xb ob = times a b) (fun k _ _ => (k + 1).toNat) 31 0 bi [] rfl rfl ?_ ?_ ?_
  · (try cbv) <;> (repeat' (first | exact trivial | exact rfl | apply And.intro | (intro _ hle; first | refine chunk_le hA rfl hle rfl ?_ | refine cat_le hA ?_ | refine upd_le hA ?_ | (try cbv))))
  · exact ⟨32, 0#32, b, rfl, rfl, hb, Nat.le_refl _, rfl⟩
  · intro R hR k o x hex
    cbv
    obtain ⟨n, ob, xb, hk, hob, hxb, hn, hm⟩ := hex
    refine ⟨fun h => ?_, fun h => ?_⟩
    · have hn0 : 0 < n := by subst hA; simp only [Ar.real] at h; simp at h; exact key0 hk h
      obtain ⟨m, rfl⟩ : ∃ m, n = m + 1 := ⟨n - 1, by omega⟩
      have hkm : k = (m : Int) := key1 hk
      have hbit : ∀ y : BitVec 32, Ar.real.eq (Ar.real.w .and .u32 (y.toNat : Int) 1) 1 = y.getLsbD 0 := by
        intro y
        simp only [Ar.real]
        rw [lit1, and32, and_one]
        cases y.getLsbD 0 <;> rfl
      have hsh : ∀ (y : BitVec 32) (j : Int), Ar.real.shr .u32 (y.toNat : Int) j = ((y >>> j.toNat).toNat : Int) := fun y j => shr32 y j
      obtain ⟨o1, ho1⟩ : ∃ o1 : Int, o1 = ((ob ^^^ xb).toNat : Int) := ⟨_, rfl⟩
      obtain ⟨x1, hx1⟩ : ∃ x1 : Int, x1 = ((half xb).toNat : Int) := ⟨_, rfl⟩
      have hhalf : ∀ y : BitVec 32, half y = bif y.getLsbD 0 then (y >>> 1) ^^^ 3988292384#32 else y >>> 1 := by
        intro y; unfold half; cases y.getLsbD 0 <;> simp
      obtain ⟨k1, hk1⟩ : ∃ k1 : Int, k1 = (m : Int) - 1 := ⟨_, rfl⟩
      have hsub : Ar.real.sub k 1 = k1 := by simp only [Ar.real]; rw [hkm, hk1]
      have hrng : Ar.real.inR .i64 (Ar.real.sub k 1) := by
        rw [hsub, hk1]; constructor <;> simp [IntKind.min, IntKind.max, IntKind.bits, IntKind.signed] <;> omega
      have hb0 : ai = (a.toNat : Int) := ha
      have hfa : ∀ c, Ar.real.eq (Ar.real.w .and .u32 (Ar.real.shr .u32 ai k) 1) 1 = c → a.getLsbD m = c := by
        intro c hc
        rw [ha, hkm, hsh, hbit] at hc
        simpa using hc
      have hfb : ∀ c, Ar.real.eq (Ar.real.w .and .u32 x 1) 1 = c → xb.getLsbD 0 = c := by
        intro c hc
        rw [hxb, hbit] at hc
        exact hc
      have hxo : Ar.real.w .xor .u32 o x = ((ob ^^^ xb).toNat : Int) := by rw [hob, hxb]; exact xor32 _ _
      have hx0 : xb.getLsbD 0 = false → Ar.real.shr .u32 x 1 = ((half xb).toNat : Int) := by
        intro hc; rw [hxb, hsh, hhalf, hc]; rfl
      have hx1' : xb.getLsbD 0 = true → Ar.real.w .xor .u32 (Ar.real.shr .u32 x 1) 3988292384 = ((half xb).toNat : Int) := by
        intro hc; rw [hxb, hsh, litp]
        refine (xor32 _ _).trans ?_
        rw [hhalf, hc]; rfl
      have hm' : mulGo a m (half xb) (bif a.getLsbD m then ob ^^^ xb else ob) = times a b := hm
      have hnn : Ar.real.nn k := by show 0 ≤ k; rw [hkm]; exact Int.natCast_nonneg m
      have hn1 : Ar.real.nn 1 := by show (0 : Int) ≤ 1; decide
      have hmeas : (k1 + 1).toNat < (k + 1).toNat := by rw [hkm, hk1]; omega
      rw [hA] at hsub hrng hfa hfb hxo hx0 hx1' hnn hn1
      cbv
      refine ⟨hnn, fun h => ?_, fun h => ?_⟩
      · have ha1 := hfa true h
        rw [ha1] at hm'
        cbv
        refine ⟨hn1, fun h2 => ?_, fun h2 => ?_⟩
        · have hb1 := hfb true h2
          cbv
          refine ⟨hrng, hR _ _ _ _ ⟨k1, o1, x1, 0, [], rfl, rfl, ?_, ⟨m, ob ^^^ xb, half xb, hk1, ho1, hx1, by omega, hm'⟩, hmeas⟩⟩
          clear hR
          (try cbv) <;> (repeat' (first | exact trivial | exact rfl | apply And.intro | (intro _ hle; first | refine chunk_le hA rfl hle rfl ?_ | refine cat_le hA ?_ | refine upd_le hA ?_ | (try cbv))))
          · exact (hx1' hb1).trans hx1.symm
          · exact hxo.trans ho1.symm
          · exact hsub
        · have hb1 := hfb false h2
          cbv
          refine ⟨hrng, hR _ _ _ _ ⟨k1, o1, x1, 0, [], rfl, rfl, ?_, ⟨m, ob ^^^ xb, half xb, hk1, ho1, hx1, by omega, hm'⟩, hmeas⟩⟩
          clear hR
          (try cbv) <;> (repeat' (first | exact trivial | exact rfl | apply And.intro | (intro _ hle; first | refine chunk_le hA rfl hle rfl ?_ | refine cat_le hA ?_ | refine upd_le hA ?_ | (try cbv))))
          · exact (hx0 hb1).trans hx1.symm
          · exact hxo.trans ho1.symm
          · exact hsub
      · have ha1 := hfa false h
        rw [ha1] at hm'
        cbv
        refine ⟨hn1, fun h2 => ?_, fun h2 => ?_⟩
        · have hb1 := hfb true h2
          cbv
          refine ⟨hrng, hR _ _ _ _ ⟨k1, o, x1, 0, [], rfl, rfl, ?_, ⟨m, ob, half xb, hk1, hob, hx1, by omega, hm'⟩, hmeas⟩⟩
          clear hR
          (try cbv) <;> (repeat' (first | exact trivial | exact rfl | apply And.intro | (intro _ hle; first | refine chunk_le hA rfl hle rfl ?_ | refine cat_le hA ?_ | refine upd_le hA ?_ | (try cbv))))
          · exact (hx1' hb1).trans hx1.symm
          · exact hsub
        · have hb1 := hfb false h2
          cbv
          refine ⟨hrng, hR _ _ _ _ ⟨k1, o, x1, 0, [], rfl, rfl, ?_, ⟨m, ob, half xb, hk1, hob, hx1, by omega, hm'⟩, hmeas⟩⟩
          clear hR
          (try cbv) <;> (repeat' (first | exact trivial | exact rfl | apply And.intro | (intro _ hle; first | refine chunk_le hA rfl hle rfl ?_ | refine cat_le hA ?_ | refine upd_le hA ?_ | (try cbv))))
          · exact (hx0 hb1).trans hx1.symm
          · exact hsub
    · cbv
      clear hR
      have hn0 : n = 0 := by subst hA; simp only [Ar.real] at h; simp at h; exact key2 hk h
      subst hn0
      refine Fin.le hA 0 [] (.int .u32 oi) [] 0 rfl rfl rfl ?_ ?_ (by rw [← hK]; exact ⟨rfl, rfl, rfl⟩)
      · cbv
        rw [hob, ho, ← hm]; rfl
      · trivial

theorem join_step {m n : Nat} {a : BitVec 32} (h : n % 2 = 1) : CrcLaw.hs ((m + m) * (n / 2)) (CrcLaw.hs m a) = CrcLaw.hs (m * n) a := by
  rw [← CrcLaw.hs_add]
  congr 1
  have e : n = 2 * (n / 2) + 1 := by omega
  generalize n / 2 = q at e
  subst e
  rw [Nat.mul_add, ← Nat.mul_assoc, Nat.mul_comm m 2, Nat.two_mul]
  omega
theorem join_step' {m n : Nat} {a : BitVec 32} (h : n % 2 ≠ 1) : CrcLaw.hs ((m + m) * (n / 2)) a = CrcLaw.hs (m * n) a := by
  congr 1
  have e : n = 2 * (n / 2) := by omega
  generalize n / 2 = q at e
  subst e
  rw [← Nat.mul_assoc, Nat.mul_comm m 2, Nat.two_mul]
theorem div2_le {n : Nat} (h : n ≤ 9223372036854775807) : n / 2 ≤ 9223372036854775807 := by omega
theorem div2_lt {n : Nat} (h : 0 < n) : n / 2 < n := by omega

theorem join_fn {P : Program} {G : Gl} (hP : P = Tryd.prog) {ai bi ni oi : Int} {a b : BitVec 32} {n : Nat} (ha : ai = (a.toNat : Int)) (hb : bi = (b.toNat : Int)) (hni : ni = (n : Int)) (hn : n ≤ 9223372036854775807) (ho : oi = ((CrcLaw.hs (8 * n) a ^^^ b).toNat : Int)) :
    FnTr P G 20 [.int .u32 ai, .int .u32 bi, .int .i64 ni] [] 0 (Gives (.int .u32 oi) [] 0) := by
  have hT : T.Ok P := hP ▸ T_ok
  refine FnTr.intro (fn := Tryd.f20) (c := bodyOf Tryd.f20) (by rw [hP]; rfl) rfl rfl hT ?_
  generalize hA : Ar.real = A
  generalize hK : Gives _ _ _ = K
  cbv
  refine LS.le3 hT hA 0 (fun (k : Int) (x : Int) (p : Int) => [(2, .int .i64 k), (0, .int .u32 x), (7, .int .u32 p)]) (fun _ _ _ => []) (fun k x p => ∃ (q m : Nat) (xb : BitVec 32), k = (q : Int) ∧ q ≤ 9223372036854775807 ∧ x = (xb.toNat : Int) ∧ p = ((CrcLaw.hs m CrcLaw.unit).toNat : Int) ∧ CrcLaw.hs (m * q) xb = CrcLaw.hs (8 * n) a) (fun k _ _ => k.toNat) ni ai 8388608 [] rfl rfl ?_ ?_ ?_
  · (try cbv) <;> (repeat' (first | exact trivial | exact rfl | apply And.intro | (intro _ hle; first | refine chunk_le hA rfl hle rfl ?_ | refine cat_le hA ?_ | refine upd_le hA ?_ | (try cbv))))
  · exact ⟨n, 8, a, hni, hn, ha, by rw [← CrcLaw.power8]; decide +kernel, rfl⟩
  · intro R hR k x p hex
    cbv
    obtain ⟨q, m, xb, hk, hq, hx, hp, hm⟩ := hex
    refine ⟨fun h => ?_, fun h => ?_⟩
    · have hq0 : 0 < q := by subst hA; simp only [Ar.real] at h; simp [hk] at h; omega
      obtain ⟨x1, hx1⟩ : ∃ x1 : Int, x1 = ((CrcLaw.hs m xb).toNat : Int) := ⟨_, rfl⟩
      obtain ⟨p1, hp1⟩ : ∃ p1 : Int, p1 = ((CrcLaw.hs (m + m) CrcLaw.unit).toNat : Int) := ⟨_, rfl⟩
      obtain ⟨k1, hk1⟩ : ∃ k1 : Int, k1 = ((q / 2 : Nat) : Int) := ⟨_, rfl⟩
      have hnn : Ar.real.nn 1 := by show (0 : Int) ≤ 1; decide
      have hodd : ∀ c, Ar.real.eq (Ar.real.w .and .i64 k 1) 1 = c → (c = true ↔ q % 2 = 1) := by
        intro c hc
        rw [hk] at hc
        simp only [Ar.real] at hc
        rw [and_one64 q hq] at hc
        rw [← hc]
        constructor
        · intro e; have := of_decide_eq_true (p := ((q % 2 : Nat) : Int) = 1) (by simpa using e); omega
        · intro e; rw [e]; rfl
      have hshr : Ar.real.shr .i64 k 1 = k1 := by rw [hk, hk1]; exact shr_one64 q
      have hmul : ((CrcLaw.times (CrcLaw.hs m CrcLaw.unit) xb).toNat : Int) = ((CrcLaw.hs m xb).toNat : Int) := by rw [CrcLaw.times_hs]
      have hpow : ((CrcLaw.times (CrcLaw.hs m CrcLaw.unit) (CrcLaw.hs m CrcLaw.unit)).toNat : Int) = ((CrcLaw.hs (m + m) CrcLaw.unit).toNat : Int) := by rw [CrcLaw.times_hs, ← CrcLaw.hs_add]
      have hmeas : k1.toNat < k.toNat := by rw [hk1, hk]; exact div2_lt hq0
      rw [hA] at hnn hodd hshr
      cbv
      refine ⟨fun h2 => ?_, fun h2 => ?_⟩
      · have hod := (hodd true h2).1 rfl
        cbv
        refine CS.le hA (times_fn hP hp hx (hx1.trans hmul.symm)) [] rfl rfl rfl ?_ ?_ ?_
        · (try cbv) <;> (repeat' (first | exact trivial | exact rfl | apply And.intro | (intro _ hle; first | refine chunk_le hA rfl hle rfl ?_ | refine cat_le hA ?_ | refine upd_le hA ?_ | (try cbv))))
        · trivial
        · cbv
          refine CS.le hA (times_fn hP hp hp (hp1.trans hpow.symm)) [] rfl rfl rfl ?_ ?_ ?_
          · (try cbv) <;> (repeat' (first | exact trivial | exact rfl | apply And.intro | (intro _ hle; first | refine chunk_le hA rfl hle rfl ?_ | refine cat_le hA ?_ | refine upd_le hA ?_ | (try cbv))))
          · trivial
          · cbv
            refine ⟨hnn, hR _ _ _ _ ⟨k1, x1, p1, 0, [], rfl, rfl, ?_, ⟨q / 2, m + m, _, hk1, div2_le hq, hx1, hp1, (join_step hod).trans hm⟩, hmeas⟩⟩
            clear hR
            (try cbv) <;> (repeat' (first | exact trivial | exact rfl | apply And.intro | (intro _ hle; first | refine chunk_le hA rfl hle rfl ?_ | refine cat_le hA ?_ | refine upd_le hA ?_ | (try cbv))))
            · exact hshr
      · have hod : q % 2 ≠ 1 := fun e => by have := (hodd false h2).2 e; cases this
        cbv
        refine CS.le hA (times_fn hP hp hp (hp1.trans hpow.symm)) [] rfl rfl rfl ?_ ?_ ?_
        · (try cbv) <;> (repeat' (first | exact trivial | exact rfl | apply And.intro | (intro _ hle; first | refine chunk_le hA rfl hle rfl ?_ | refine cat_le hA ?_ | refine upd_le hA ?_ | (try cbv))))
        · trivial
        · cbv
          refine ⟨hnn, hR _ _ _ _ ⟨k1, x, p1, 0, [], rfl, rfl, ?_, ⟨q / 2, m + m, xb, hk1, div2_le hq, hx, hp1, (join_step' hod).trans hm⟩, hmeas⟩⟩
          clear hR
          (try cbv) <;> (repeat' (first | exact trivial | exact rfl | apply And.intro | (intro _ hle; first | refine chunk_le hA rfl hle rfl ?_ | refine cat_le hA ?_ | refine upd_le hA ?_ | (try cbv))))
          · exact hshr
    · cbv
      clear hR
      have hq0 : q = 0 := by subst hA; simp only [Ar.real] at h; simp [hk] at h; omega
      subst hq0
      refine Fin.le hA 0 [] (.int .u32 oi) [] 0 rfl rfl rfl ?_ ?_ (by rw [← hK]; exact ⟨rfl, rfl, rfl⟩)
      · cbv
        subst hA
        rw [hx, hb, ho, ← hm]
        exact xor32 _ _
      · trivial
end Go.Proofs.YtnjjgipblimbfaaDoor
