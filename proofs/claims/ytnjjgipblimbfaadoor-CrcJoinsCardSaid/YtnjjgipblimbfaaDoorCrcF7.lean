/-
  The sums of bytes: the law CrcTurns, as the code runs it.
-/
import Derived.Test.YtnjjgipblimbfaaDoorCrcF6
set_option linter.unusedVariables false
set_option linter.unusedSimpArgs false
namespace Go.Proofs.YtnjjgipblimbfaaDoor
open Go.Eng
open Go.CrcLaw (four)
set_option maxRecDepth 100000
set_option linter.unusedVariables false

theorem turns_law {P : Program} (hP : P = Tryd.prog) {fr gi : Nat → Int} {g : Nat → BitVec 32} {n : Nat} {ai xi : Int} {x : BitVec 32} (hfr : ∀ i, fr i = ((four i).toNat : Int)) (hg : ∀ i, gi i = ((g i).toNat : Int)) (hg8 : ∀ i, i < n → (g i).toNat < 256) (ha : intWf .u16 ai) (hx : xi = (x.toNat : Int)) (hn : n ≤ 9223372036854775807) :
    FnTr P (Gf fr) 6 [.ro 1 (.s n) (fun e => [.int .u8 (gi e.val)]), .int .u16 ai, .int .u32 xi] [] 0 (Gives (.bl true) [] 10) := by
  have hrefl : ∀ i, i < n → 0 ≤ gi i ∧ gi i < 256 := fun i hi => by have := hg8 i hi; rw [hg]; omega
  obtain ⟨n4, hn4⟩ : ∃ n4, n4 = n + 4 := ⟨_, rfl⟩
  obtain ⟨hi, hh⟩ : ∃ hi : Nat → Int, ∀ i, hi i = CrcLaw.sealB gi (CrcLaw.more g 0#32 n) n i := ⟨_, fun _ => rfl⟩
  have hhr : ∀ i, 0 ≤ hi i ∧ hi i < 256 := fun i => by rw [hh]; exact CrcLaw.sealB_rng hrefl i
  obtain ⟨s, hgg⟩ : ∃ s : Nat → BitVec 32, ∀ i, hi i = ((s i).toNat : Int) := ⟨fun i => BitVec.ofNat 32 (hi i).toNat, fun i => by have := hhr i; rw [BitVec.toNat_ofNat]; omega⟩
  have hs8 : ∀ i, (s i).toNat < 256 := fun i => by have := hhr i; have := hgg i; omega
  have hlen : ∀ {A : Ar}, Ar.real = A → A.gt (A.i2 n) 1000 = false → n ≤ 1000 := by
    intro A hA h; subst hA; simp only [Ar.real] at h; simp at h; omega
  have hf0 : 0 ≤ ai := ha.1
  have hf1 : ai ≤ 65535 := ha.2
  clear ha
  have hT : T.Ok P := hP ▸ T_ok
  refine FnTr.intro (fn := Tryd.f6) (c := bodyOf Tryd.f6) (by rw [hP]; rfl) rfl rfl hT ?_
  generalize hA : Ar.real = A
  generalize hK : Gives _ _ _ = K
  cbv
  refine ⟨fun h1 => ?_, fun h1 => ?_⟩
  · have hn' := hlen hA h1
    clear hlen
    cbv
    refine ⟨fun h2 => ?_, fun h2 => ?_⟩
    · cbv
      refine CS.le hA (lives_fn hP hfr) [] rfl rfl rfl ?_ ?_ ?_
      · (try cbv) <;> (repeat' (first | exact trivial | exact rfl | apply And.intro | (intro _ hle; first | refine chunk_le hA rfl hle rfl ?_ | refine cat_le hA ?_ | refine upd_le hA ?_ | (try cbv))))
      · (try cbv) <;> (repeat' (first | exact trivial | exact rfl | apply And.intro | (intro _ hle; first | refine chunk_le hA rfl hle rfl ?_ | refine cat_le hA ?_ | refine upd_le hA ?_ | (try cbv))))
      cbv
      refine Fin.le hA 0 [] (.bl true) ([]) 10 rfl rfl rfl ?_ ?_ (by rw [← hK]; exact ⟨rfl, rfl, rfl⟩)
      · (try cbv) <;> (repeat' (first | exact trivial | exact rfl | apply And.intro | (intro _ hle; first | refine chunk_le hA rfl hle rfl ?_ | refine cat_le hA ?_ | refine upd_le hA ?_ | (try cbv))))
      · (try cbv) <;> (repeat' (first | exact trivial | exact rfl | apply And.intro | (intro _ hle; first | refine chunk_le hA rfl hle rfl ?_ | refine cat_le hA ?_ | refine upd_le hA ?_ | (try cbv))))
    · have hxz : ¬ xi = 0 := by subst hA; simp only [Ar.real] at h2; simpa using h2
      cbv
      refine CS.le hA (refseal_own (n := n) (m := n4) hP hg (by omega) hn4 (fun i _ => hh i)) [] rfl rfl rfl ?_ ?_ ?_
      · (try cbv) <;> (repeat' (first | exact trivial | exact rfl | apply And.intro | (intro _ hle; first | refine chunk_le hA rfl hle rfl ?_ | refine cat_le hA ?_ | refine upd_le hA ?_ | (try cbv))))
      · (try cbv) <;> (repeat' (first | exact trivial | exact rfl | apply And.intro | (intro _ hle; first | refine chunk_le hA rfl hle rfl ?_ | refine cat_le hA ?_ | refine upd_le hA ?_ | (try cbv))))
      cbv
      refine ⟨(by (subst hA; (simp only [Ar.real, NV.val, Int.ofNat_eq_natCast, Int.toNat_natCast]); first | done | omega | decide | exact inR64 (by omega) (by omega) | (refine ⟨?_, ?_⟩ <;> first | omega | decide | exact inR64 (by omega) (by omega)))), (by (subst hA; (simp only [Ar.real, NV.val, Int.ofNat_eq_natCast, Int.toNat_natCast]); first | done | omega | decide | exact inR64 (by omega) (by omega) | (refine ⟨?_, ?_⟩ <;> first | omega | decide | exact inR64 (by omega) (by omega)))), (by (subst hA; (simp only [Ar.real, NV.val, Int.ofNat_eq_natCast, Int.toNat_natCast]); first | done | omega | decide | exact inR64 (by omega) (by omega) | (refine ⟨?_, ?_⟩ <;> first | omega | decide | exact inR64 (by omega) (by omega)))), ?_⟩
      obtain ⟨k, hkp, hk32⟩ : ∃ k : Nat, Int.tmod (IntKind.i64.wrap ai) (8 * (n4 : Int) - 31) = (k : Int) ∧ k + 32 ≤ 8 * n4 := by
        rw [wrap_i64 (by omega) (by omega)]
        refine ⟨(ai.toNat % (8 * n4 - 31)), ?_, ?_⟩
        · have := rem_nat ai.toNat (8 * n4 - 31)
          rw [← this]
          congr 1 <;> omega
        · have : ai.toNat % (8 * n4 - 31) < 8 * n4 - 31 := Nat.mod_lt _ (by omega)
          omega
      refine LS.le2 hT hA 10 (fun (i : Nat) (ci : Nat → Int) => [(9, .int .i64 (i : Int))]) (fun i ci => [(9, .row 5 1 (.s n4) (fun e => [.int .u8 (ci e.val)]))]) (fun i ci => i ≤ 32 ∧ ∀ j, ci j = ((CrcLaw.turn s x k i j).toNat : Int)) (fun i _ => 32 - i) 0 hi [] rfl rfl ?_ ?_ ?_
      · (try cbv) <;> (repeat' (first | exact trivial | exact rfl | apply And.intro | (intro _ hle; first | refine chunk_le hA rfl hle rfl ?_ | refine cat_le hA ?_ | refine upd_le hA ?_ | (try cbv))))
      · exact ⟨by omega, hgg⟩
      · intro R hR i ci hp
        cbv
        obtain ⟨hi32, hci⟩ := hp
        refine ⟨fun h3 => ?_, fun h3 => ?_⟩
        · have hlt : i < 32 := by subst hA; simp only [Ar.real] at h3; simp at h3; omega
          have hbit : ∀ {c}, A.eq (A.w .and .u32 (A.shr .u32 xi (i : Int)) 1) 1 = c → x.getLsbD i = c := by
            intro c hc
            subst hA
            simp only [Ar.real] at hc
            rw [hx, shr32, lit1, and32, and_one] at hc
            rw [← hc]
            simp only [BitVec.getLsbD_ushiftRight, Int.toNat_natCast, Nat.add_zero]
            cases x.getLsbD i <;> rfl
          cbv
          refine ⟨(by (subst hA; (simp only [Ar.real, NV.val, Int.ofNat_eq_natCast, Int.toNat_natCast]); first | done | omega | decide | exact inR64 (by omega) (by omega) | (refine ⟨?_, ?_⟩ <;> first | omega | decide | exact inR64 (by omega) (by omega)))), fun h4 => ?_, fun h4 => ?_⟩
          · cbv
            refine DS.run hA hT (by rw [hP]; exact P_mixed) 1 rfl ?_
            cbv
            have hb := hbit h4
            have hR1 : inRange .i64 ((k : Int) + (i : Int)) := inR64 (by omega) (by omega)
            have hq8 : Int.tdiv ((k : Int) + (i : Int)) 8 = (((k + i) / 8 : Nat) : Int) := quo_nat (k + i) 8
            have hr8 : Int.tmod ((k : Int) + (i : Int)) 8 = (((k + i) % 8 : Nat) : Int) := rem_nat (k + i) 8
            obtain ⟨c', hc'⟩ : ∃ c' : Nat → Int, ∀ j, c' j = ((CrcLaw.turn s x k (i + 1) j).toNat : Int) := ⟨_, fun _ => rfl⟩
            refine ⟨?_, ?_, ?_, ?_, ?_, ?_, ?_, ?_, ?_, ?_, ?_, ?_, hR _ _ _ ⟨i + 1, c', 10, [], rfl, rfl, ?_, ⟨hlt, hc'⟩, (by show 32 - (i + 1) < 32 - i; omega)⟩⟩
            all_goals clear hR
            · subst hA; simp only [Ar.real, NV.val, Int.ofNat_eq_natCast, Int.toNat_natCast, hkp]
              exact hR1
            · (subst hA; (simp only [Ar.real, NV.val, Int.ofNat_eq_natCast, Int.toNat_natCast, hkp, hq8, hr8]); first | done | omega | decide | exact inR64 (by omega) (by omega) | (refine ⟨?_, ?_⟩ <;> first | omega | decide | exact inR64 (by omega) (by omega)))
            · subst hA; simp only [Ar.real, NV.val, Int.ofNat_eq_natCast, Int.toNat_natCast, hkp]
              exact hR1
            · (subst hA; (simp only [Ar.real, NV.val, Int.ofNat_eq_natCast, Int.toNat_natCast, hkp, hq8, hr8]); first | done | omega | decide | exact inR64 (by omega) (by omega) | (refine ⟨?_, ?_⟩ <;> first | omega | decide | exact inR64 (by omega) (by omega)))
            · (subst hA; (simp only [Ar.real, NV.val, Int.ofNat_eq_natCast, Int.toNat_natCast, hkp, hq8, hr8]); first | done | omega | decide | exact inR64 (by omega) (by omega) | (refine ⟨?_, ?_⟩ <;> first | omega | decide | exact inR64 (by omega) (by omega)))
            · (subst hA; (simp only [Ar.real, NV.val, Int.ofNat_eq_natCast, Int.toNat_natCast, hkp, hq8, hr8]); first | done | omega | decide | exact inR64 (by omega) (by omega) | (refine ⟨?_, ?_⟩ <;> first | omega | decide | exact inR64 (by omega) (by omega)))
            · subst hA; simp only [Ar.real, NV.val, Int.ofNat_eq_natCast, Int.toNat_natCast, hkp]
              exact hR1
            · (subst hA; (simp only [Ar.real, NV.val, Int.ofNat_eq_natCast, Int.toNat_natCast, hkp, hq8, hr8]); first | done | omega | decide | exact inR64 (by omega) (by omega) | (refine ⟨?_, ?_⟩ <;> first | omega | decide | exact inR64 (by omega) (by omega)))
            · (subst hA; (simp only [Ar.real, NV.val, Int.ofNat_eq_natCast, Int.toNat_natCast, hkp, hq8, hr8]); first | done | omega | decide | exact inR64 (by omega) (by omega) | (refine ⟨?_, ?_⟩ <;> first | omega | decide | exact inR64 (by omega) (by omega)))
            · (subst hA; (simp only [Ar.real, NV.val, Int.ofNat_eq_natCast, Int.toNat_natCast, hkp, hq8, hr8]); first | done | omega | decide | exact inR64 (by omega) (by omega) | (refine ⟨?_, ?_⟩ <;> first | omega | decide | exact inR64 (by omega) (by omega)))
            · (subst hA; (simp only [Ar.real, NV.val, Int.ofNat_eq_natCast, Int.toNat_natCast, hkp, hq8, hr8]); first | done | omega | decide | exact inR64 (by omega) (by omega) | (refine ⟨?_, ?_⟩ <;> first | omega | decide | exact inR64 (by omega) (by omega)))
            · (subst hA; (simp only [Ar.real, NV.val, Int.ofNat_eq_natCast, Int.toNat_natCast]); first | done | omega | decide | exact inR64 (by omega) (by omega) | (refine ⟨?_, ?_⟩ <;> first | omega | decide | exact inR64 (by omega) (by omega)))
            · have hsel : A.nat (A.quo (A.add (A.rem (A.conv .i64 ai) (A.sub (A.mul 8 (A.i2 n4)) 31)) (Int.ofNat i)) 8) = (k + i) / 8 := by
                subst hA; simp only [Ar.real, NV.val, Int.ofNat_eq_natCast, Int.toNat_natCast, hkp, hq8]
              have hval : A.w .xor .u8 (ci (A.nat (A.quo (A.add (A.rem (A.conv .i64 ai) (A.sub (A.mul 8 (A.i2 n4)) 31)) (Int.ofNat i)) 8))) (A.shl .u8 1 (A.rem (A.add (A.rem (A.conv .i64 ai) (A.sub (A.mul 8 (A.i2 n4)) 31)) (Int.ofNat i)) 8)) = ((CrcLaw.turn s x k i ((k + i) / 8) ^^^ 1#32 <<< ((k + i) % 8)).toNat : Int) := by
                have hshl := shl8_one _ (Nat.mod_lt (k + i) (show 0 < 8 by decide))
                rw [Int.toNat_natCast] at hshl
                subst hA; simp only [Ar.real, NV.val, Int.ofNat_eq_natCast, Int.toNat_natCast, hkp, hq8, hr8]
                rw [hci, hshl]
                exact xor8 _ _ (CrcLaw.turn_lt hs8 _ _) (one_shl_lt _ (Nat.mod_lt _ (by decide)))
              (try cbv) <;> (repeat' (first | exact trivial | exact rfl | apply And.intro | (intro _ hle; first | refine chunk_le hA rfl hle rfl ?_ | refine cat_le hA ?_ | refine upd_le hA ?_ | (try cbv))))
              · subst hA; simp only [Ar.real, NV.val, Int.ofNat_eq_natCast, Int.toNat_natCast]
                rfl
              · rename_i e
                rw [hc', CrcLaw.turn, hb]
                simp only [cond_true]
                by_cases he : e.val = (k + i) / 8
                · rw [if_pos he, he, if_pos hsel.symm]
                  exact hval.symm
                · rw [if_neg he, if_neg (fun h => he (h.trans hsel)), hci]
          · cbv
            have hb := hbit h4
            refine ⟨(by (subst hA; (simp only [Ar.real, NV.val, Int.ofNat_eq_natCast, Int.toNat_natCast]); first | done | omega | decide | exact inR64 (by omega) (by omega) | (refine ⟨?_, ?_⟩ <;> first | omega | decide | exact inR64 (by omega) (by omega)))), hR _ _ _ ⟨i + 1, ci, 10, [], rfl, rfl, ?_, ⟨hlt, ?_⟩, (by show 32 - (i + 1) < 32 - i; omega)⟩⟩
            · clear hR
              (try cbv) <;> (repeat' (first | exact trivial | exact rfl | apply And.intro | (intro _ hle; first | refine chunk_le hA rfl hle rfl ?_ | refine cat_le hA ?_ | refine upd_le hA ?_ | (try cbv))))
              subst hA; simp only [Ar.real, NV.val, Int.ofNat_eq_natCast, Int.toNat_natCast]
              rfl
            · intro j
              rw [hci, CrcLaw.turn, hb]; rfl
        · have h32 : i = 32 := by subst hA; simp only [Ar.real] at h3; simp at h3; omega
          subst h32
          clear hR
          cbv
          refine CS.frzA hA (by (try cbv) <;> (repeat' (first | exact trivial | exact rfl | apply And.intro | (intro _ hle; first | refine chunk_le hA rfl hle rfl ?_ | refine cat_le hA ?_ | refine upd_le hA ?_ | (try cbv)))); all_goals (subst hA; (simp only [Ar.real, NV.val, Int.ofNat_eq_natCast, Int.toNat_natCast]); first | done | omega | decide | exact inR64 (by omega) (by omega) | (refine ⟨?_, ?_⟩ <;> first | omega | decide | exact inR64 (by omega) (by omega)))) ?_
          cbv
          have ho : OpenIs ci (CrcLaw.turn s x k 32) n4 0 240 := by
            refine .inr (.inr ⟨by omega, ?_, rfl, rfl⟩)
            rw [show n4 - 4 = n by omega, hn4, CrcLaw.sealed_bytes hci]
            have hx0 : x ≠ 0#32 := by
              intro e
              subst e
              exact hxz (by rw [hx]; rfl)
            refine CrcLaw.turned s x k n hx0 (by omega) ?_
            have := (CrcLaw.sealed_bytes (n := n) hgg (CrcLaw.more g 0#32 n)).1 (fun i hi' => ?_)
            · have e : CrcLaw.more s 0#32 n = CrcLaw.more g 0#32 n := by
                unfold CrcLaw.more
                rw [CrcLaw.raw_congr (fun i hi' => ?_)]
                have h1 := hgg i
                rw [hh, CrcLaw.sealB, if_pos hi', hg] at h1
                exact BitVec.eq_of_toNat_eq (by exact_mod_cast h1.symm)
              rw [e]; exact this
            · by_cases hlt' : i < n
              · unfold CrcLaw.sealB; rw [if_pos hlt']
              · rw [hh, CrcLaw.sealB, CrcLaw.sealB, if_neg hlt', if_neg hlt']
          refine CS.leR hA (open_fn (n := n4) (m := 0) hP hfr hci (fun i _ => CrcLaw.turn_lt hs8 _ _) (by omega) ho) (.tup [.ro 1 (.l 0) (fun e => [.any]), .lit .i64 240]) [] rfl rfl rfl ?_ ?_ ?_ ?_
          · (try cbv) <;> (repeat' (first | exact trivial | exact rfl | apply And.intro | (intro _ hle; first | refine chunk_le hA rfl hle rfl ?_ | refine cat_le hA ?_ | refine upd_le hA ?_ | (try cbv))))
          · (try cbv) <;> (repeat' (first | exact trivial | exact rfl | apply And.intro | (intro _ hle; first | refine chunk_le hA rfl hle rfl ?_ | refine cat_le hA ?_ | refine upd_le hA ?_ | (try cbv))))
          · (try cbv) <;> (repeat' (first | exact trivial | exact rfl | apply And.intro | (intro _ hle; first | refine chunk_le hA rfl hle rfl ?_ | refine cat_le hA ?_ | refine upd_le hA ?_ | (try cbv))))
          cbv
          refine CS.le hA (lives_fn hP hfr) [] rfl rfl rfl ?_ ?_ ?_
          · (try cbv) <;> (repeat' (first | exact trivial | exact rfl | apply And.intro | (intro _ hle; first | refine chunk_le hA rfl hle rfl ?_ | refine cat_le hA ?_ | refine upd_le hA ?_ | (try cbv))))
          · (try cbv) <;> (repeat' (first | exact trivial | exact rfl | apply And.intro | (intro _ hle; first | refine chunk_le hA rfl hle rfl ?_ | refine cat_le hA ?_ | refine upd_le hA ?_ | (try cbv))))
          cbv
          refine Fin.le hA 0 [] (.bl true) ([]) 10 rfl rfl rfl ?_ ?_ (by rw [← hK]; exact ⟨rfl, rfl, rfl⟩)
          · (try cbv) <;> (repeat' (first | exact trivial | exact rfl | apply And.intro | (intro _ hle; first | refine chunk_le hA rfl hle rfl ?_ | refine cat_le hA ?_ | refine upd_le hA ?_ | (try cbv))))
          · (try cbv) <;> (repeat' (first | exact trivial | exact rfl | apply And.intro | (intro _ hle; first | refine chunk_le hA rfl hle rfl ?_ | refine cat_le hA ?_ | refine upd_le hA ?_ | (try cbv))))
  · cbv
    refine CS.le hA (lives_fn hP hfr) [] rfl rfl rfl ?_ ?_ ?_
    · (try cbv) <;> (repeat' (first | exact trivial | exact rfl | apply And.intro | (intro _ hle; first | refine chunk_le hA rfl hle rfl ?_ | refine cat_le hA ?_ | refine upd_le hA ?_ | (try cbv))))
    · (try cbv) <;> (repeat' (first | exact trivial | exact rfl | apply And.intro | (intro _ hle; first | refine chunk_le hA rfl hle rfl ?_ | refine cat_le hA ?_ | refine upd_le hA ?_ | (try cbv))))
    cbv
    refine Fin.le hA 0 [] (.bl true) ([]) 10 rfl rfl rfl ?_ ?_ (by rw [← hK]; exact ⟨rfl, rfl, rfl⟩)
    · (try cbv) <;> (repeat' (first | exact trivial | exact rfl | apply And.intro | (intro _ hle; first | refine chunk_le hA rfl hle rfl ?_ | refine cat_le hA ?_ | refine upd_le hA ?_ | (try cbv))))
    · (try cbv) <;> (repeat' (first | exact trivial | exact rfl | apply And.intro | (intro _ hle; first | refine chunk_le hA rfl hle rfl ?_ | refine cat_le hA ?_ | refine upd_le hA ?_ | (try cbv))))
end Go.Proofs.YtnjjgipblimbfaaDoor
