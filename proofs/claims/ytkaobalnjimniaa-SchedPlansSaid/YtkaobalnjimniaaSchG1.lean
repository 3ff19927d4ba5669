/-
  Schedules: where trees are grown at the turns to come.
-/
import Derived.Test.YtkaobalnjimniaaSchF9
set_option linter.unusedVariables false
set_option linter.unusedSimpArgs false
namespace Go.Proofs.Ytkaobalnjimniaa
open Go.Eng
open Go.SchLaw (minAt nextV upV PS atOf stepP planP)
set_option maxRecDepth 100000
set_option linter.unusedVariables false

theorem plan_good {P : Program} {G : Gl} (hP : P = Try.prog) {d w t s e k p h tr ke no : Int} {sn en cn n tn m : Nat} {f pr nr : Nat → Int} (hh : intWf .i64 h) (hR : RightP d w t s e k p h tr ke no) (hsn : s = (sn : Int)) (hen : e = (en : Int)) (hcn : cn ≤ 1099511627776) (hnt : (n : Int) ≤ t) (htn : tn ≤ 64)
    (hf : ∀ i, i < n → 0 ≤ f i ∧ f i ≤ (cn : Int)) (x : PS) (hx : x = planP sn en t ⟨cn, n, f, fun _ => 0⟩ tn) (hm : m = x.n) (hp : ∀ i, pr i = x.p i) (hn : ∀ i, nr i = x.b i) :
    FnTr P G 39 [.agg [.int .i64 d, .int .i64 w, .int .i64 t, .int .i64 s, .int .i64 e, .int .i64 k, .int .i64 p, .int .i64 h, .int .i64 tr, .int .i64 ke, .int .i64 no], .int .i64 (cn : Int), .ro 1 (.s n) (fun e => [.int .i64 (f e.val)]), .int .i64 (tn : Int)] [] 0
      (Gives (.tup [.sl 0 1 (.l 0) (.s tn), .sl 1 1 (.l 0) (.s m), .int .i64 0]) [(0, .row 3 1 (.s tn) (fun e => [.int .i64 (pr e.val)])), (1, .row 3 1 (.s m) (fun e => [.int .i64 (nr e.val)]))] 4) := by
  have hn16 : n ≤ 16 := by unfold RightP at hR; omega
  obtain ⟨g, hg⟩ : ∃ g, g = ofL [(cn : Int)] := ⟨_, rfl⟩
  have hg0 : ∀ i, g i = [(cn : Int)].getD i 0 := fun i => by rw [hg]; rfl
  have hk : FnTr P G 72 [.agg [.int .i64 d, .int .i64 w, .int .i64 t, .int .i64 s, .int .i64 e, .int .i64 k, .int .i64 p, .int .i64 h, .int .i64 tr, .int .i64 ke, .int .i64 no], .ro 1 (.s 1) (fun e => [.int .i64 (g e.val)])] [] 0 (Gives (.int .i64 0) [] 1) :=
    right1_fn hP (by omega) hh (.inr (.inr ⟨hR, fun i hi => by obtain rfl : i = 0 := by omega
                                                               rw [hg0]; show 0 ≤ (cn : Int) ∧ (cn : Int) ≤ 1099511627776; omega, rfl⟩))
  have hpc := SchLaw.planP_c sn en t ⟨cn, n, f, fun _ => 0⟩
  have hpn := SchLaw.planP_n sn en t ⟨cn, n, f, fun _ => 0⟩
  obtain ⟨x0, hx0⟩ : ∃ x0 : PS, x0 = ⟨cn, n, f, fun _ => 0⟩ := ⟨_, rfl⟩
  rw [← hx0] at hx hpc hpn
  have hxc : x0.c = cn := by rw [hx0]
  have hxn : x0.n = n := by rw [hx0]
  have hxb : ∀ i, x0.b i = f i := fun i => by rw [hx0]
  have hxp : ∀ i, x0.p i = 0 := fun i => by rw [hx0]
  have hes : sn ≤ 64 ∧ 0 < en ∧ en ≤ 256 := by unfold RightP at hR; omega
  have hpc' : ∀ j, j ≤ 64 → (planP sn en t x0 j).c ≤ 1099511648320 := fun j hj => by have := hpc hes.2.1 hes.1 hes.2.2 j; omega
  have hpn' : ∀ j, j ≤ 64 → (planP sn en t x0 j).n ≤ 80 := fun j hj => by have := hpn j; omega
  clear hpc hpn hx0
  have hnx : ∀ c v : Nat, c ≤ 2199023255552 → v = nextV c sn en → FnTr P G 73 [.agg [.int .i64 d, .int .i64 w, .int .i64 t, .int .i64 s, .int .i64 e, .int .i64 k, .int .i64 p, .int .i64 h, .int .i64 tr, .int .i64 ke, .int .i64 no], .int .i64 (c : Int)] [] 0 (Gives (.int .i64 (v : Int)) [] 0) := by
    intro c v h1 h2
    rw [hsn, hen]
    exact next_fn hP hes.1 hes.2.1 hes.2.2 h1 h2
  have hpl : ∀ (n : Nat) (b : Nat → Int) (r : Nat), n ≤ 80 → r = atOf t n b → FnTr P G 68 [.agg [.int .i64 d, .int .i64 w, .int .i64 t, .int .i64 s, .int .i64 e, .int .i64 k, .int .i64 p, .int .i64 h, .int .i64 tr, .int .i64 ke, .int .i64 no], .ro 1 (.s n) (fun e => [.int .i64 (b e.val)])] [] 0 (Gives (.int .i64 (r : Int)) [] 0) := by
    intro n b r h1 h2
    refine place_fn hP (by omega) ?_
    rw [h2]; unfold atOf; split <;> rfl
  have hst : ∀ j, planP sn en t x0 (j + 1) = stepP sn en t j (planP sn en t x0 j) := fun _ => rfl
  have hT : T.Ok P := hP ▸ T_ok
  refine FnTr.intro (fn := Try.f39) (c := bodyOf Try.f39) (by rw [hP]; rfl) rfl rfl hT ?_
  generalize hA : Ar.real = A
  generalize hK : Gives _ _ _ = K
  cbv
  refine CS.frzA hA (by (try cbv) <;> (repeat' (first | exact trivial | exact rfl | apply And.intro | (intro _ hle; first | refine chunk_le hA rfl hle rfl ?_ | refine cat_le hA ?_ | refine upd_le hA ?_ | (try cbv)))); all_goals (subst hA; (try simp only [natCast_eq] at *); (simp only [Ar.real, NV.val, Int.ofNat_eq_natCast, Int.toNat_natCast]); first | done | omega | decide | exact inR64 (by omega) (by omega) | (refine ⟨?_, ?_⟩ <;> first | omega | decide | exact inR64 (by omega) (by omega)))) ?_
  cbv
  refine CS.leR hA hk (.lit .i64 0) [] rfl rfl rfl ?_ ?_ ?_ ?_
  · (try cbv) <;> (repeat' (first | exact trivial | exact rfl | apply And.intro | (intro _ hle; first | refine chunk_le hA rfl hle rfl ?_ | refine cat_le hA ?_ | refine upd_le hA ?_ | (try cbv))))
    exact hg0 _
  · (try cbv) <;> (repeat' (first | exact trivial | exact rfl | apply And.intro | (intro _ hle; first | refine chunk_le hA rfl hle rfl ?_ | refine cat_le hA ?_ | refine upd_le hA ?_ | (try cbv))))
  · (try cbv) <;> (repeat' (first | exact trivial | exact rfl | apply And.intro | (intro _ hle; first | refine chunk_le hA rfl hle rfl ?_ | refine cat_le hA ?_ | refine upd_le hA ?_ | (try cbv))))
  cbv
  refine ⟨fun h1 => ?_, fun h1 => by exfalso; (subst hA; simp only [Ar.real, NV.val, Int.ofNat_eq_natCast, Int.toNat_natCast, decide_eq_true_eq, decide_eq_false_iff_not, Bool.not_true, Bool.not_false, beq_iff_eq, bne_iff_ne, beq_eq_false_iff_ne, bne_eq_false_iff_eq, ne_eq, Bool.not_eq_true', Bool.not_eq_false', natCast_eq] at *; first | contradiction | omega | (generalize Int.tmod _ _ = qtm at *; omega))⟩
  cbv
  refine ⟨fun h2 => ?_, fun h2 => by exfalso; (subst hA; simp only [Ar.real, NV.val, Int.ofNat_eq_natCast, Int.toNat_natCast, decide_eq_true_eq, decide_eq_false_iff_not, Bool.not_true, Bool.not_false, beq_iff_eq, bne_iff_ne, beq_eq_false_iff_ne, bne_eq_false_iff_eq, ne_eq, Bool.not_eq_true', Bool.not_eq_false', natCast_eq] at *; first | contradiction | omega | (generalize Int.tmod _ _ = qtm at *; omega))⟩
  cbv
  refine ⟨fun h3 => by exfalso; (subst hA; simp only [Ar.real, NV.val, Int.ofNat_eq_natCast, Int.toNat_natCast, decide_eq_true_eq, decide_eq_false_iff_not, Bool.not_true, Bool.not_false, beq_iff_eq, bne_iff_ne, beq_eq_false_iff_ne, bne_eq_false_iff_eq, ne_eq, Bool.not_eq_true', Bool.not_eq_false', natCast_eq] at *; first | contradiction | omega | (generalize Int.tmod _ _ = qtm at *; omega)), fun h3 => ?_⟩
  cbv
  refine LS.clr [17, 19] ?_
  refine LS.le hT hA 1 (fun (i : Nat) => [(39, .int .i64 (i : Int))]) (fun _ => [(0, .cells 54 [.int .i64 d, .int .i64 w, .int .i64 t, .int .i64 s, .int .i64 e, .int .i64 k, .int .i64 p, .int .i64 h, .int .i64 tr, .int .i64 ke, .int .i64 no])]) (fun i => i ≤ n) (fun i => n - i) 0 [] rfl rfl ?_ ?_ ?_
  · (try cbv) <;> (repeat' (first | exact trivial | exact rfl | apply And.intro | (intro _ hle; first | refine chunk_le hA rfl hle rfl ?_ | refine cat_le hA ?_ | refine upd_le hA ?_ | (try cbv))))
  · exact Nat.zero_le _
  · intro R hR' i hi
    cbv
    refine ⟨fun h4 => ?_, fun h4 => ?_⟩
    · have hlt : i < n := by subst hA; simp only [Ar.real] at h4; simp at h4; omega
      have hfi := hf i hlt
      cbv
      refine ⟨(by (subst hA; (try simp only [natCast_eq] at *); (simp only [Ar.real, NV.val, Int.ofNat_eq_natCast, Int.toNat_natCast]); first | done | omega | decide | exact inR64 (by omega) (by omega) | (refine ⟨?_, ?_⟩ <;> first | omega | decide | exact inR64 (by omega) (by omega)))), fun h5 => ?_, fun h5 => by clear hR' hf hx; exfalso; (subst hA; simp only [Ar.real, NV.val, Int.ofNat_eq_natCast, Int.toNat_natCast, decide_eq_true_eq, decide_eq_false_iff_not, Bool.not_true, Bool.not_false, beq_iff_eq, bne_iff_ne, beq_eq_false_iff_ne, bne_eq_false_iff_eq, ne_eq, Bool.not_eq_true', Bool.not_eq_false', natCast_eq] at *; first | contradiction | omega | (generalize Int.tmod _ _ = qtm at *; omega))⟩
      cbv
      refine ⟨fun h6 => by clear hR' hf hx; exfalso; (subst hA; simp only [Ar.real, NV.val, Int.ofNat_eq_natCast, Int.toNat_natCast, decide_eq_true_eq, decide_eq_false_iff_not, Bool.not_true, Bool.not_false, beq_iff_eq, bne_iff_ne, beq_eq_false_iff_ne, bne_eq_false_iff_eq, ne_eq, Bool.not_eq_true', Bool.not_eq_false', natCast_eq] at *; first | contradiction | omega | (generalize Int.tmod _ _ = qtm at *; omega)), fun h6 => ?_⟩
      cbv
      refine ⟨(by (subst hA; (try simp only [natCast_eq] at *); (simp only [Ar.real, NV.val, Int.ofNat_eq_natCast, Int.toNat_natCast]); first | done | omega | decide | exact inR64 (by omega) (by omega) | (refine ⟨?_, ?_⟩ <;> first | omega | decide | exact inR64 (by omega) (by omega)))), hR' _ _ ⟨i + 1, 1, [], rfl, rfl, ?_, hlt, (by show n - (i + 1) < n - i; omega)⟩⟩
      clear hR'
      (try cbv) <;> (repeat' (first | exact trivial | exact rfl | apply And.intro | (intro _ hle; first | refine chunk_le hA rfl hle rfl ?_ | refine cat_le hA ?_ | refine upd_le hA ?_ | (try cbv))))
      subst hA; simp only [Ar.real, NV.val, Int.ofNat_eq_natCast, Int.toNat_natCast]
      rfl
    · clear hR'
      have hin : i = n := by subst hA; simp only [Ar.real] at h4; simp at h4; omega
      cbv
      refine ⟨(by (subst hA; (try simp only [natCast_eq] at *); (simp only [Ar.real, NV.val, Int.ofNat_eq_natCast, Int.toNat_natCast]); first | done | omega | decide | exact inR64 (by omega) (by omega) | (refine ⟨?_, ?_⟩ <;> first | omega | decide | exact inR64 (by omega) (by omega)))), (by (subst hA; (try simp only [natCast_eq] at *); (simp only [Ar.real, NV.val, Int.ofNat_eq_natCast, Int.toNat_natCast]); first | done | omega | decide | exact inR64 (by omega) (by omega) | (refine ⟨?_, ?_⟩ <;> first | omega | decide | exact inR64 (by omega) (by omega)))), ?_⟩
      refine LS.clr [51, 53, 55] ?_
      refine LS.le2 hT hA 1 (fun (j : Nat) (y : PS) => [(57, .int .i64 (j : Int)), (1, .int .i64 (y.c : Int)), (14, .sl 1 1 (.l 0) (.s y.n)), (15, .sl 2 1 (.l 0) (.s j))])
        (fun j y => [(0, .cells 54 [.int .i64 d, .int .i64 w, .int .i64 t, .int .i64 s, .int .i64 e, .int .i64 k, .int .i64 p, .int .i64 h, .int .i64 tr, .int .i64 ke, .int .i64 no]), (1, .row 3 1 (.s y.n) (fun e => [.int .i64 (y.b e.val)])), (2, .row 3 1 (.s j) (fun e => [.int .i64 (y.p e.val)]))])
        (fun j y => j ≤ tn ∧ y = planP sn en t x0 j) (fun j _ => tn - j) 0 x0 [(4, 1), (7, 2)] rfl rfl ?_ ?_ ?_
      · (try cbv) <;> (repeat' (first | exact trivial | exact rfl | apply And.intro | (intro _ hle; first | refine chunk_le hA rfl hle rfl ?_ | refine cat_le hA ?_ | refine upd_le hA ?_ | refine int_le ?_ | skip)))
        · exact congrArg Int.ofNat hxc.symm
        · exact hxn.symm
        · exact hxn.symm
        · exact (hxb _).symm
        · exact (hxp _).symm
      · exact ⟨Nat.zero_le _, rfl⟩
      · intro R hR' j y hj
        cbv
        obtain ⟨hj1, hj2⟩ := hj
        obtain ⟨yc, yn, yb, yp⟩ := y
        cbv
        refine ⟨fun h5 => ?_, fun h5 => ?_⟩
        · have hlt : j < tn := by subst hA; simp only [Ar.real, Int.ofNat_eq_natCast, decide_eq_true_eq] at h5; omega
          have hyc : yc ≤ 1099511648320 := by have := hpc' j (by omega); rw [← hj2] at this; exact this
          have hyn : yn ≤ 80 := by have := hpn' j (by omega); rw [← hj2] at this; exact this
          obtain ⟨v, hv⟩ : ∃ v, v = nextV yc sn en := ⟨_, rfl⟩
          obtain ⟨r, hr⟩ : ∃ r, r = atOf t yn yb := ⟨_, rfl⟩
          have hrn : r ≤ yn := by rw [hr]; exact SchLaw.atOf_le _ _ _
          obtain ⟨yn', hyn'⟩ : ∃ q, q = if r = yn then yn + 1 else yn := ⟨_, rfl⟩
          obtain ⟨yb', hyb'⟩ : ∃ q : Nat → Int, ∀ i, q i = if i = r then (v : Int) else yb i := ⟨_, fun _ => rfl⟩
          obtain ⟨yp', hyp'⟩ : ∃ q : Nat → Int, ∀ i, q i = if i = j then (r : Int) else yp i := ⟨_, fun _ => rfl⟩
          have hs : (⟨v, yn', yb', yp'⟩ : PS) = planP sn en t x0 (j + 1) := by
            rw [hst, ← hj2, hyn', funext hyb', funext hyp', hv, hr]; rfl
          cbv
          refine CS.le hA (hnx yc v (by omega) hv) [] rfl rfl rfl ?_ ?_ ?_
          · (try cbv) <;> (repeat' (first | exact trivial | exact rfl | apply And.intro | (intro _ hle; first | refine chunk_le hA rfl hle rfl ?_ | refine cat_le hA ?_ | refine upd_le hA ?_ | (try cbv))))
          · (try cbv) <;> (repeat' (first | exact trivial | exact rfl | apply And.intro | (intro _ hle; first | refine chunk_le hA rfl hle rfl ?_ | refine cat_le hA ?_ | refine upd_le hA ?_ | (try cbv))))
          cbv
          refine CS.lend hA (hpl yn yb r hyn hr) [] [1] 1 rfl ⟨rfl, rfl, rfl, rfl, ?_, ?_⟩ rfl (.inr ⟨rfl, trivial⟩) ?_
          · (try cbv) <;> (repeat' (first | exact trivial | exact rfl | apply And.intro | (intro _ hle; first | refine chunk_le hA rfl hle rfl ?_ | refine cat_le hA ?_ | refine upd_le hA ?_ | refine int_le ?_ | skip)))
            all_goals first | (subst hA; (try simp only [natCast_eq] at *); (simp only [Ar.real, NV.val, Int.ofNat_eq_natCast, Int.toNat_natCast]); first | done | omega | decide | exact inR64 (by omega) (by omega) | (refine ⟨?_, ?_⟩ <;> first | omega | decide | exact inR64 (by omega) (by omega))) | skip
          · (try cbv) <;> (repeat' (first | exact trivial | exact rfl | apply And.intro | (intro _ hle; first | refine chunk_le hA rfl hle rfl ?_ | refine cat_le hA ?_ | refine upd_le hA ?_ | (try cbv))))
          cbv
          have hplaces : ∀ e : NV, ltNV A e (.s (A.addN j 1)) → leL (leSV A 4) (catG A 1 (.s j) (fun e => [.int .i64 (yp e.val)]) (fun x => chunkS A 1 [.int .i64 (r : Int)] (addNV A (.l 0) x)) e) [.int .i64 (yp' e.val)] := by
            intro e he
            have hl := Ints.lits hA (cs := [.int .i64 (r : Int)]) (kd := .i64) (ns := [(r : Int)]) rfl
            refine Ints.le hA (F := catG A 1 (.s j) (fun e => [.int .i64 (yp e.val)]) (fun x => chunkS A 1 [.int .i64 (r : Int)] (addNV A (.l 0) x))) (Ints.cat hA (F := fun e => [.int .i64 (yp e.val)]) (G := fun x => chunkS A 1 [.int .i64 (r : Int)] (addNV A (.l 0) x)) (f := yp) (n := j) (m := 1) (.s j) rfl (fun k => ⟨_, rfl, rfl⟩) (g := fun i => [(r : Int)].getD i 0) (fun k hk => hl (.s k) hk) (fun k => ⟨_, _, rfl, rfl⟩) ⟨j, rfl⟩) he (by subst hA; exact Nat.le_refl _) ?_
            have h7 : e.val < j + 1 := by subst hA; exact ltNV_real.1 he
            rw [hyp']
            by_cases h8 : e.val < j
            · rw [if_pos h8, if_neg (by omega)]
            · have h9 : e.val = j := by omega
              rw [h9, if_neg (by omega), if_pos rfl, Nat.sub_self]; rfl
          refine ⟨(by (subst hA; (try simp only [natCast_eq] at *); (simp only [Ar.real, NV.val, Int.ofNat_eq_natCast, Int.toNat_natCast]); first | done | omega | decide | exact inR64 (by omega) (by omega) | (refine ⟨?_, ?_⟩ <;> first | omega | decide | exact inR64 (by omega) (by omega)))), fun h6 => ?_, fun h6 => ?_⟩
          · have hre : r = yn := by subst hA; simp only [Ar.real, Int.ofNat_eq_natCast, beq_iff_eq] at h6; omega
            have hnr : A.nat (r : Int) = r := by subst hA; simp only [Ar.real, natCast_eq]; omega
            have hb1 : ∀ e : NV, ltNV A e (.s (A.addN yn 1)) → leL (leSV A 4) (updF A 1 (.s (A.nat (r : Int))) 0 [.int .i64 (v : Int)] (catG A 1 (.s yn) (fun e => [.int .i64 (yb e.val)]) (fun x => chunkS A 1 [.lit .i64 0] (addNV A (.l 0) x))) e) [.int .i64 (yb' e.val)] := by
              intro e he
              have hl := Ints.lits hA (cs := [.lit .i64 0]) (kd := .i64) (ns := [0]) rfl
              have hc := Ints.cat hA (F := fun e => [.int .i64 (yb e.val)]) (G := fun x => chunkS A 1 [.lit .i64 0] (addNV A (.l 0) x)) (f := yb) (n := yn) (m := 1) (.s yn) rfl (fun k => ⟨_, rfl, rfl⟩) (g := fun i => [0].getD i 0) (fun k hk => hl (.s k) hk) (fun k => ⟨_, _, rfl, rfl⟩) ⟨yn, rfl⟩
              refine Ints.le hA (Ints.upd hA (A.nat (r : Int)) (s := .int .i64 (v : Int)) (v := (v : Int)) rfl hc) he (by subst hA; exact Nat.le_refl _) ?_
              have h7 : e.val < yn + 1 := by subst hA; exact ltNV_real.1 he
              rw [hyb', hnr]
              by_cases h8 : e.val = r
              · rw [if_pos h8, if_pos h8]
              · rw [if_neg h8, if_neg h8, if_pos (by omega)]
            have hyn2 : yn' = yn + 1 := by rw [hyn', if_pos hre]
            subst hyn2
            cbv
            refine ⟨(by (subst hA; (try simp only [natCast_eq] at *); (simp only [Ar.real, NV.val, Int.ofNat_eq_natCast, Int.toNat_natCast]); first | done | omega | decide | exact inR64 (by omega) (by omega) | (refine ⟨?_, ?_⟩ <;> first | omega | decide | exact inR64 (by omega) (by omega)))), (by (subst hA; (try simp only [natCast_eq] at *); (simp only [Ar.real, NV.val, Int.ofNat_eq_natCast, Int.toNat_natCast]); first | done | omega | decide | exact inR64 (by omega) (by omega) | (refine ⟨?_, ?_⟩ <;> first | omega | decide | exact inR64 (by omega) (by omega)))), (by (subst hA; (try simp only [natCast_eq] at *); (simp only [Ar.real, NV.val, Int.ofNat_eq_natCast, Int.toNat_natCast]); first | done | omega | decide | exact inR64 (by omega) (by omega) | (refine ⟨?_, ?_⟩ <;> first | omega | decide | exact inR64 (by omega) (by omega)))), (by (subst hA; (try simp only [natCast_eq] at *); (simp only [Ar.real, NV.val, Int.ofNat_eq_natCast, Int.toNat_natCast]); first | done | omega | decide | exact inR64 (by omega) (by omega) | (refine ⟨?_, ?_⟩ <;> first | omega | decide | exact inR64 (by omega) (by omega)))), hR' _ _ _ ⟨j + 1, ⟨v, yn + 1, yb', yp'⟩, 1, [(22, 1), (14, 2)], rfl, rfl, ?_, ⟨hlt, hs⟩, (by show tn - (j + 1) < tn - j; omega)⟩⟩
            clear hR'
            (try cbv) <;> (repeat' (first | exact trivial | exact rfl | apply And.intro | (intro _ hle; first | exact hplaces _ hle | exact hb1 _ hle | refine chunk_le hA rfl hle rfl ?_ | refine cat_le hA ?_ | refine upd_le hA ?_ | refine int_le ?_ | skip)))
            all_goals (subst hA; (try simp only [natCast_eq] at *); (simp only [Ar.real, NV.val, Int.ofNat_eq_natCast, Int.toNat_natCast]); first | done | omega | decide | exact inR64 (by omega) (by omega) | (refine ⟨?_, ?_⟩ <;> first | omega | decide | exact inR64 (by omega) (by omega)))
          · have hre : r ≠ yn := by subst hA; simp only [Ar.real, Int.ofNat_eq_natCast] at h6; simp at h6; omega
            have hnr : A.nat (r : Int) = r := by subst hA; simp only [Ar.real, natCast_eq]; omega
            have hb1 : ∀ e : NV, ltNV A e (.s yn) → leL (leSV A 4) (updF A 1 (.s (A.nat (r : Int))) 0 [.int .i64 (v : Int)] (fun e => [.int .i64 (yb e.val)]) e) [.int .i64 (yb' e.val)] := by
              intro e he
              refine Ints.le hA (Ints.upd hA (A.nat (r : Int)) (s := .int .i64 (v : Int)) (v := (v : Int)) rfl (Ints.base .i64 yb yn)) he (Nat.le_refl _) ?_
              rw [hyb', hnr]
            have hyn2 : yn' = yn := by rw [hyn', if_neg hre]
            subst hyn2
            cbv
            refine ⟨(by (subst hA; (try simp only [natCast_eq] at *); (simp only [Ar.real, NV.val, Int.ofNat_eq_natCast, Int.toNat_natCast]); first | done | omega | decide | exact inR64 (by omega) (by omega) | (refine ⟨?_, ?_⟩ <;> first | omega | decide | exact inR64 (by omega) (by omega)))), (by (subst hA; (try simp only [natCast_eq] at *); (simp only [Ar.real, NV.val, Int.ofNat_eq_natCast, Int.toNat_natCast]); first | done | omega | decide | exact inR64 (by omega) (by omega) | (refine ⟨?_, ?_⟩ <;> first | omega | decide | exact inR64 (by omega) (by omega)))), (by (subst hA; (try simp only [natCast_eq] at *); (simp only [Ar.real, NV.val, Int.ofNat_eq_natCast, Int.toNat_natCast]); first | done | omega | decide | exact inR64 (by omega) (by omega) | (refine ⟨?_, ?_⟩ <;> first | omega | decide | exact inR64 (by omega) (by omega)))), hR' _ _ _ ⟨j + 1, ⟨v, yn', yb', yp'⟩, 1, [(1, 1), (14, 2)], rfl, rfl, ?_, ⟨hlt, hs⟩, (by show tn - (j + 1) < tn - j; omega)⟩⟩
            clear hR'
            (try cbv) <;> (repeat' (first | exact trivial | exact rfl | apply And.intro | (intro _ hle; first | exact hplaces _ hle | exact hb1 _ hle | refine chunk_le hA rfl hle rfl ?_ | refine cat_le hA ?_ | refine upd_le hA ?_ | refine int_le ?_ | skip)))
            all_goals (subst hA; (try simp only [natCast_eq] at *); (simp only [Ar.real, NV.val, Int.ofNat_eq_natCast, Int.toNat_natCast]); first | done | omega | decide | exact inR64 (by omega) (by omega) | (refine ⟨?_, ?_⟩ <;> first | omega | decide | exact inR64 (by omega) (by omega)))
        · have hjt : j = tn := by subst hA; simp only [Ar.real, Int.ofNat_eq_natCast, decide_eq_false_iff_not] at h5; omega
          clear hR'
          subst hjt
          rw [← hx] at hj2
          cbv
          refine Fin.le hA 0 [(2, 0), (1, 1)] (.tup [.sl 0 1 (.l 0) (.s j), .sl 1 1 (.l 0) (.s m), .int .i64 0]) ([(0, .row 3 1 (.s j) (fun e => [.int .i64 (pr e.val)])), (1, .row 3 1 (.s m) (fun e => [.int .i64 (nr e.val)]))]) 4 rfl rfl rfl ?_ ?_ (by rw [← hK]; exact ⟨rfl, rfl, rfl⟩)
          · (try cbv) <;> (repeat' (first | exact trivial | exact rfl | apply And.intro | (intro _ hle; first | refine chunk_le hA rfl hle rfl ?_ | refine cat_le hA ?_ | refine upd_le hA ?_ | refine int_le ?_ | skip)))
            rw [hm, ← hj2]
          · (try cbv) <;> (repeat' (first | exact trivial | exact rfl | apply And.intro | (intro _ hle; first | refine chunk_le hA rfl hle rfl ?_ | refine cat_le hA ?_ | refine upd_le hA ?_ | refine int_le ?_ | skip)))
            · rw [hp, ← hj2]
            · rw [hm, ← hj2]
            · rw [hn, ← hj2]
end Go.Proofs.Ytkaobalnjimniaa
