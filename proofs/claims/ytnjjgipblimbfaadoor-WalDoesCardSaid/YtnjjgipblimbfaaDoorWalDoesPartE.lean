/-
  A verified symbolic executor over the code of the model, and what it shows of this program: part 5 of 6 (LawWalDoes).
-/
import Derived.Test.YtnjjgipblimbfaaDoorWalDoesPartD
set_option linter.unusedVariables false
set_option linter.unusedSimpArgs false
namespace Go.Proofs.YtnjjgipblimbfaaDoor.Dsk
open Go.Eng
open Go.DskLaw (q64 secV isB Sim pcs needN)
open Go.WalLaw
set_option maxRecDepth 100000
set_option maxHeartbeats 1000000
section
variable {P : Program} {G : Gl} {s N first fin n k : Nat} {d d1 : Dk} {RS RL RS' RL' : Nat → Nat → Int} {W W' : Nat → Bool} {c c' at1 e : Int} {f : Nat → Int}
theorem rput_fn (hP : P = Tryd.prog) (hs : 1 ≤ s ∧ s ≤ 4096) (hf : first + needN n ≤ fin ∧ fin ≤ s) (hn : n ≤ 65536) (hfb : ∀ i, i < n → 0 ≤ f i ∧ f i ≤ 255) (ok : DkOk s d) (hi : RIs d RS RL W c) (hd : d1 = putD d first n f) (ho : RIs d1 RS RL' W' c')
    (he : (putK d n = needN n ∧ at1 = ((first + needN n : Nat) : Int) ∧ e = 0) ∨ (putK d n < needN n ∧ at1 = 0 ∧ e = 6)) :
    FnTr P G 94 [RD s RS RL W c, .int .i64 (first : Int), .int .i64 (fin : Int), By n f] [] 0 (Gives (.tup [RD s RS RL' W' c', .int .i64 at1, .int .i64 e]) [] 10) := by
  obtain ⟨k, hk⟩ : ∃ k, k = needN n := ⟨_, rfl⟩
  have hkn : k ≤ 1100 := by rw [hk]; unfold needN; omega
  obtain ⟨V, hV⟩ : ∃ V : Nat → Nat → Int, ∀ j x, V j x = pcs n f j x := ⟨_, fun _ _ => rfl⟩
  have hVb : ∀ j x, 0 ≤ V j x ∧ V j x ≤ 255 := fun j x => by rw [hV]; exact pcs_range hfb j x
  have a1 := refrun_fn (P := P) (G := G) (s := (s : Int)) (a := (first : Int)) (b := (fin : Int)) (r := true) hP ⟨fun _ => by omega, fun _ => rfl⟩
  have a2 := refneed_fn (P := P) (G := G) hP n (n := (n : Int)) (m := k) (by omega) (by omega) (by omega) hk
  have a3 := rpieces_fn (P := P) (G := G) hP n (n := n) (k := k) (f := f) (V := V) (by omega) (by omega) hk (fun j x _ _ => hV j x)
  have hsim := hi.sim ok rfl hs
  rw [← hk] at he hf
  have hT : T.Ok P := hP ▸ T_ok
  refine jjI Tryd.f94 hT ?_
  generalize hA : Ar.real = A
  generalize hK : Gives _ _ _ = K
  cbv
  refine jjT hA (a1) (.bl true) [] ?_
  cbv
  have k1 : A.gt (A.i2 n) 65536 = false := by clear a1 a2 a3; subst hA; simp [Ar.real]; omega
  first | refine testR k1 rfl ?_ | refine testL k1 rfl ?_
  cbv
  refine jjS hA (a2) [] ?_
  cbv
  have k2 : A.gt (k : Int) (A.sub (fin : Int) (first : Int)) = false := by clear a1 a2 a3; subst hA; simp [Ar.real]; omega
  refine ⟨jjO, ?_⟩
  first | refine testR k2 rfl ?_ | refine testL k2 rfl ?_
  cbv
  refine jjS hA (a3) [] ?_
  cbv
  clear a1 a2 a3
  refine LS.le6 hT hA 2 (fun (i : Nat) (_ : Int → Option (Nat → Int)) (_ : Int) (_ : Nat → Nat → Int) (_ : Nat → Bool) (_ : Int) => [(12, .int .i64 (i : Int))])
    (fun i Lx cax RLx Wx cx => [(0, .cells 46 [Rw64 s RS, Rw64 s RLx, .ro 1 (.s s) (fun e => [.bs (Wx e.val)]), .int .i64 cx]), (1, .cells 46 [.nils, .nils, .nils, .lit .i64 0])])
    (fun i Lx cax RLx Wx cx => i ≤ k ∧ (∀ j, Lx j = if (first : Int) ≤ j ∧ j < (first : Int) + (i : Nat) then some (pcs n f (j - first).toNat) else d.L j) ∧ cax = (if d.ar then d.ca - (i : Int) else d.ca) ∧ (d.ar = true → (i : Int) ≤ d.ca) ∧ Sim s (64 * s) d.S Lx d.ar cax RS RLx Wx cx)
    (fun i _ _ _ _ _ => k - i) 0 d.L d.ca RL W c [] rfl rfl ?_ ?_ ?_
  · (try cbv) <;> (repeat' (first | exact trivial | exact rfl | apply And.intro | exact fun _ => rfl | (intro _ hle; first | refine chunk_le hA rfl hle rfl ?_ | refine cat_le hA ?_ | refine upd_le hA ?_ | refine int_le ?_ | skip)))
    all_goals first | exact jjO | trace_state
  · exact ⟨Nat.zero_le _, fun j => by rw [if_neg (by omega)], by split <;> simp, fun _ => ok.hca.1, hsim⟩
  · intro R hR i Lx cax RLx Wx cx hp
    obtain ⟨hik, hLx, hcax, har, hsx⟩ := hp
    have hcr := hsx.crange
    have hend : i = putK d n → (∀ t x, x < 64 → RLx t x = RL' t x) ∧ (∀ t, Wx t = W' t) ∧ cx = c' := fun hi2 => by
      have eL : Lx = d1.L := by funext j; rw [hLx, hd, hi2]; rfl
      have eca : cax = d1.ca := by rw [hcax, hd, hi2]; rfl
      have eS : d1.S = d.S := by rw [hd]; rfl
      have ear : d1.ar = d.ar := by rw [hd]; rfl
      refine ⟨fun t x hx => ?_, fun t => ?_, ?_⟩
      · rw [hsx.rl t x hx, ho.rl, eL, eS]
      · rw [hsx.w, ho.w, eL]
      · rw [hsx.hc, ho.hc, eca, ear]
    have hst0 : cx = 0 → i < k → putK d n = i := fun hc0 hlt => by
      have hoff := hsx.off.1 hc0
      have h9 := hcax
      rw [hoff.2, if_pos hoff.1] at h9
      exact putK_stop d n i ok.hca.1 (by rw [← hk]; exact hlt) hoff.1 (by clear hcax har hsx hLx hend; omega)
    have hpk0 : i = k → putK d n = k := fun e => Nat.le_antisymm (by rw [hk]; exact putK_le d n) (by rw [← e]; exact putK_min d n i ok.hca.1 (by rw [← hk, e]; exact Nat.le_refl _) har)
    have hcan0 : ∀ cay, cay = (if d.ar then cax - 1 else cax) → cay = (if d.ar then d.ca - ((i + 1 : Nat) : Int) else d.ca) := fun cay h => by
      rw [h, hcax]
      cases d.ar with
      | true => simp only [if_true]; clear hcax har hsx hLx hend h; omega
      | false => rfl
    have harn0 : cx ≠ 0 → d.ar = true → ((i + 1 : Nat) : Int) ≤ d.ca := fun hc0 h => by
      have h1 := har h
      have h2 : ¬ cax = 0 := fun h2 => hc0 (hsx.off.2 ⟨h, h2⟩)
      rw [hcax, if_pos h] at h2
      clear hcax har hsx hLx hend
      omega
    cbv
    refine ⟨fun h1 => ?_, fun h1 => ?_⟩
    · have hlt : i < k := by clear hR; subst hA; simp [Ar.real] at h1; omega
      have kn : A.nat (Int.ofNat i) = i := by clear hR; subst hA; rfl
      obtain ⟨q, hq⟩ : ∃ q, q = first + i := ⟨_, rfl⟩
      have kq : A.add (Int.ofNat first) (Int.ofNat i) = Int.ofNat q := by clear hR; subst hA; show ((first : Nat) : Int) + (i : Nat) = (q : Nat); omega
      by_cases hc0 : cx = 0
      · have hst : putK d n = i := hst0 hc0 hlt
        obtain ⟨e1, e2, e3⟩ := hend hst.symm
        obtain ⟨ha0, he6⟩ : at1 = 0 ∧ e = 6 := by
          rcases he with q2 | q2
          · exact absurd q2.1 (by rw [hst]; exact Nat.ne_of_lt hlt)
          · exact q2.2
        have a4 := refwrite_off (P := P) (G := G) (s := s) (n := 64) (S := RS) (L := RLx) (f := V i) (W := Wx) (c := cx) (i := (q : Int)) hP hc0
        clear hR hsx hLx hcax har hend he hi ho hV hVb hst0 hpk0 hcan0 harn0
        cbv
        refine jjR hA hT 300 ?_
        cbv
        refine ⟨?_, ⟨?_, ?_⟩⟩
        iterate 2 exact jjO
        refine CD.pass hA (a4) [] [] rfl ⟨rfl, rfl, rfl, rfl, ?_, ?_⟩ rfl (.inl rfl) ?_
        iterate 2 ((try cbv) <;> (repeat' (first | exact trivial | exact rfl | apply And.intro | exact fun _ => rfl | (intro _ hle; first | refine chunk_le hA rfl hle rfl ?_ | refine cat_le hA ?_ | refine upd_le hA ?_ | (try cbv)))) <;> (try exact jjO) <;> (try first | exact kq | (rw [kn])))
        cbv
        refine jjD ?_
        cbv
        refine Fin.le hA 0 [] (.tup [RD s RS RL' W' c', .int .i64 at1, .int .i64 e]) ([]) 10 rfl rfl rfl ?_ ?_ jjK
        · (try cbv) <;> (repeat' (first | exact trivial | exact rfl | apply And.intro | exact fun _ => rfl | (intro _ hle; first | refine chunk_le hA rfl hle rfl ?_ | refine cat_le hA ?_ | refine upd_le hA ?_ | refine int_le ?_ | skip)))
          all_goals first | (refine e1 _ _ ?_; subst hA; exact ltNV_real.1 (by assumption)) | exact e2 _ | exact e3 | exact ha0.symm | exact he6.symm | exact jjO | trace_state
        · exact jjL
      · obtain ⟨Ly, hLy⟩ : ∃ Ly : Int → Option (Nat → Int), ∀ j, Ly j = if j = (q : Int) then some (V i) else Lx j := ⟨_, fun _ => rfl⟩
        obtain ⟨cay, hcay⟩ : ∃ cay, cay = if d.ar then cax - 1 else cax := ⟨_, rfl⟩
        obtain ⟨RLy, hRLy⟩ : ∃ RLy : Nat → Nat → Int, ∀ t y, RLy t y = if t = q then V i y else RLx t y := ⟨_, fun _ _ => rfl⟩
        obtain ⟨Wy, hWy⟩ : ∃ Wy : Nat → Bool, ∀ t, Wy t = if t = q then true else Wx t := ⟨_, fun _ => rfl⟩
        obtain ⟨cy, hcy⟩ : ∃ cy, cy = if 0 < cx then cx - 1 else cx := ⟨_, rfl⟩
        have hqs : q < s := by omega
        have hsy : Sim s (64 * s) d.S Ly d.ar cay RS RLy Wy cy := hsx.write (f := V i) hc0 hqs (fun y _ => hVb i y) hLy hcay hRLy hWy hcy
        have a4 := refwrite_ok (P := P) (G := G) (s := s) (n := 64) (i := q) (S := RS) (L := RLx) (L' := RLy) (f := V i) (W := Wx) (W' := Wy) hP hs.2 hc0 hcr hqs rfl (fun t y _ _ => hRLy t y) (fun t _ => hWy t) hcy
        have hLn : ∀ j, Ly j = if (first : Int) ≤ j ∧ j < (first : Int) + (i + 1 : Nat) then some (pcs n f (j - first).toNat) else d.L j := put_step (n := n) (f := f) hLx (fun j => by rw [hLy, hq, show V i = pcs n f i by funext y; exact hV i y])
        have hcan := hcan0 cay hcay
        have harn := harn0 hc0
        clear hsx hLx hcax har hend he hi ho hV hVb hLy hRLy hWy hcay hst0 hpk0 hcan0 harn0
        cbv
        refine jjR hA hT 300 ?_
        cbv
        refine ⟨?_, ⟨?_, ?_⟩⟩
        iterate 2 exact jjO
        refine CD.pass hA (a4) [] [] rfl ⟨rfl, rfl, rfl, rfl, ?_, ?_⟩ rfl (.inl rfl) ?_
        iterate 2 ((try cbv) <;> (repeat' (first | exact trivial | exact rfl | apply And.intro | exact fun _ => rfl | (intro _ hle; first | refine chunk_le hA rfl hle rfl ?_ | refine cat_le hA ?_ | refine upd_le hA ?_ | (try cbv)))) <;> (try exact jjO) <;> (try first | exact kq | (rw [kn])))
        cbv
        refine jjD ?_
        cbv
        refine ⟨jjO, hR _ _ _ _ _ _ _ ⟨i + 1, Ly, cay, RLy, Wy, cy, 2, [], rfl, rfl, ?_, ⟨hlt, hLn, hcan, harn, hsy⟩, (by show k - (i + 1) < k - i; omega)⟩⟩
        clear hR hsy hLn hcan harn
        (try cbv) <;> (repeat' (first | exact trivial | exact rfl | apply And.intro | exact fun _ => rfl | (intro _ hle; first | refine chunk_le hA rfl hle rfl ?_ | refine cat_le hA ?_ | refine upd_le hA ?_ | refine int_le ?_ | skip)))
        all_goals first | exact jjO | trace_state
    · have hik : i = k := by clear hR; subst hA; simp [Ar.real] at h1; omega
      have hpk : putK d n = k := hpk0 hik
      obtain ⟨e1, e2, e3⟩ := hend (by rw [hpk, hik])
      obtain ⟨ha0, he6⟩ : at1 = ((first + k : Nat) : Int) ∧ e = 0 := by
        rcases he with q2 | q2
        · exact q2.2
        · exact absurd q2.1 (by rw [hpk]; exact Nat.lt_irrefl _)
      obtain ⟨q, hq⟩ : ∃ q, q = first + k := ⟨_, rfl⟩
      rw [← hq] at ha0
      clear hR hsx hLx hcax har hend he hi ho hV hVb hst0 hpk0 hcan0 harn0
      cbv
      refine ⟨jjO, ?_⟩
      refine Fin.le hA 0 [] (.tup [RD s RS RL' W' c', .int .i64 at1, .int .i64 e]) ([]) 10 rfl rfl rfl ?_ ?_ jjK
      · (try cbv) <;> (repeat' (first | exact trivial | exact rfl | apply And.intro | exact fun _ => rfl | (intro _ hle; first | refine chunk_le hA rfl hle rfl ?_ | refine cat_le hA ?_ | refine upd_le hA ?_ | refine int_le ?_ | skip)))
        all_goals first | (refine e1 _ _ ?_; subst hA; exact ltNV_real.1 (by assumption)) | exact e2 _ | exact e3 | (rw [ha0]; exact jjO) | exact he6.symm | exact jjO | trace_state
      · exact jjL
theorem rput_all (hP : P = Tryd.prog) {at1 : Nat} (hs : 1 ≤ s ∧ s ≤ 4096) (hf : first + needN n ≤ fin ∧ fin ≤ s) (hn : n ≤ 65536) (hfb : ∀ i, i < n → 0 ≤ f i ∧ f i ≤ 255) (ok : DkOk s d) (hi : RIs d RS RL W c) (hd : d1 = putD d first n f) (ho : RIs d1 RS' RL' W' c')
    (hk : putK d n = needN n) (ha : at1 = first + needN n) :
    FnTr P G 94 [RD s RS RL W c, .int .i64 (first : Int), .int .i64 (fin : Int), By n f] [] 0 (Gives (.tup [RD s RS' RL' W' c', .int .i64 (at1 : Int), .lit .i64 0]) [] 10) := by
  have hS : RS' = RS := hi.sameS ho (by rw [hd]; rfl)
  rw [hS] at ho ⊢
  have h := rput_fn (P := P) (G := G) (at1 := (at1 : Int)) (e := 0) hP hs hf hn hfb ok hi hd ho (.inl ⟨hk, by rw [ha], rfl⟩)
  generalize hA : Ar.real = A
  refine FnTr.as hA h ?_ ?_ ?_ rfl
  iterate 2 exact jjL
  · exact jjL
theorem rput_part (hP : P = Tryd.prog) (hs : 1 ≤ s ∧ s ≤ 4096) (hf : first + needN n ≤ fin ∧ fin ≤ s) (hn : n ≤ 65536) (hfb : ∀ i, i < n → 0 ≤ f i ∧ f i ≤ 255) (ok : DkOk s d) (hi : RIs d RS RL W c) (hd : d1 = putD d first n f) (ho : RIs d1 RS' RL' W' c')
    (hk : putK d n < needN n) :
    FnTr P G 94 [RD s RS RL W c, .int .i64 (first : Int), .int .i64 (fin : Int), By n f] [] 0 (Gives (.tup [RD s RS' RL' W' c', .lit .i64 0, .lit .i64 6]) [] 10) := by
  have hS : RS' = RS := hi.sameS ho (by rw [hd]; rfl)
  rw [hS] at ho ⊢
  have h := rput_fn (P := P) (G := G) (at1 := 0) (e := 6) hP hs hf hn hfb ok hi hd ho (.inr ⟨hk, rfl, rfl⟩)
  generalize hA : Ar.real = A
  refine FnTr.as hA h ?_ ?_ ?_ rfl
  iterate 2 exact jjL
  · exact jjL
end
open Go.DskLaw (q64 secV isB)
theorem beq_fn {P : Program} {G : Gl} (hP : P = Tryd.prog) {n m : Nat} {f g : Nat → Int} {res : Bool} {N M : NV} (hN : N.val = n) (hM : M.val = m) (hf : ∀ i, i < n → 0 ≤ f i ∧ f i < 256) (hg : ∀ i, i < m → 0 ≤ g i ∧ g i < 256) (hres : res = true ↔ (n = m ∧ ∀ i, i < n → f i = g i)) :
    FnTr P G 102 [.ro 1 N (fun e => [.int .u8 (f e.val)]), .ro 1 M (fun e => [.int .u8 (g e.val)])] [] 0 (Gives (.bs res) [] 0) := by
  subst hN hM
  have hT : T.Ok P := hP ▸ T_ok
  refine jjI Tryd.f102 hT ?_
  generalize hA : Ar.real = A
  generalize hK : Gives _ _ _ = K
  cbv
  refine ⟨fun e _ => rfl, fun e _ => rfl, ?_⟩
  refine Fin.le hA 0 [] (.bs res) [] 0 rfl rfl rfl ?_ ?_ jjK
  · cbv
    subst hA
    rw [Bool.eq_iff_iff]
    exact (bytes_eq hf hg).trans hres.symm
  · trivial
theorem shl_or64 (x : Nat) (y : Int) (hx : x < 72057594037927936) (hy : 0 ≤ y ∧ y ≤ 255) : wOp .or .u64 (Ar.real.shl .u64 (x : Int) 8) y = ((x * 256 + y.toNat : Nat) : Int) := by
  obtain ⟨z, hz⟩ : ∃ z : Nat, y = (z : Int) := ⟨y.toNat, by omega⟩
  subst hz
  have hz : z < 256 := by omega
  have e1 : Ar.real.shl .u64 (x : Int) 8 = ((x * 256 : Nat) : Int) := by
    show IntKind.u64.wrap ((x : Int) * 2 ^ (Nat.min (8 : Int).toNat IntKind.u64.bits)) = _
    rw [show ((x : Int) * 2 ^ (Nat.min (8 : Int).toNat IntKind.u64.bits)) = ((x * 256 : Nat) : Int) by rw [Int.natCast_mul]; rfl]
    simp only [IntKind.wrap, IntKind.bits, IntKind.signed]
    simp
    omega
  rw [e1]
  show IntKind.u64.wrap ((BitVec.ofInt 64 ((x * 256 : Nat) : Int) ||| BitVec.ofInt 64 (z : Int)).toNat : Int) = _
  have e2 : (BitVec.ofInt 64 ((x * 256 : Nat) : Int) ||| BitVec.ofInt 64 (z : Int)).toNat = x * 256 + z := by
    rw [BitVec.toNat_or, BitVec.ofInt_natCast, BitVec.ofInt_natCast, BitVec.toNat_ofNat, BitVec.toNat_ofNat, Nat.mod_eq_of_lt (by omega), Nat.mod_eq_of_lt (by omega)]
    rw [show x * 256 = x <<< 8 by rw [Nat.shiftLeft_eq], ← Nat.shiftLeft_add_eq_or_of_lt (by omega)]
  rw [e2]
  simp only [IntKind.wrap, IntKind.bits, IntKind.signed, zt]
  simp
  omega
theorem gen_off {P : Program} {G : Gl} (hP : P = Tryd.prog) {N : Nat} {S : Nat → Int} {L : Int → Option (Nat → Int)} {ar : Bool} {ca i : Int} (h : ar = true ∧ ca = 0) :
    FnTr P G 85 [.ptr 0 0, .int .i64 i] (DH N S L ar ca) 3 (Gives (.tup [.lit .i64 0, .lit .i64 6]) (DH N S L ar ca) 3) := by
  have a1 := read_off (P := P) (G := G) (N := N) (S := S) (L := L) (i := i) hP h
  have hT : T.Ok P := hP ▸ T_ok
  refine jjI Tryd.f85 hT ?_
  generalize hA : Ar.real = A
  generalize hK : Gives _ _ _ = K
  cbv
  refine jjS hA (a1) [(0, 0), (1, 1), (2, 2)] ?_
  cbv
  refine Fin.le hA 3 [] (.tup [.lit .i64 0, .lit .i64 6]) (DH N S L ar ca) 3 rfl rfl rfl ?_ ?_ jjK
  iterate 2 exact jjL
theorem gen_fn {P : Program} {G : Gl} (hP : P = Tryd.prog) {N s sec g : Nat} {S v : Nat → Int} {L : Int → Option (Nat → Int)} {ar : Bool} {ca : Int} (h : ¬ (ar = true ∧ ca = 0)) (hN : N = 64 * s) (hs : 4 ≤ s ∧ s ≤ 4096) (hi : sec < 2) (hv : v = secV S L sec) (hb : isB v) (hg : GenIs v sec g) :
    FnTr P G 85 [.ptr 0 0, .int .i64 (sec : Int)] (DH N S L ar ca) 3 (Gives (.tup [.int .i64 (g : Int), .lit .i64 0]) (DH N S L ar ca) 1000) := by
  have a1 := read_fn (P := P) (G := G) (S := S) (L := L) (ar := ar) (ca := ca) hP h hN hs.2 (i := sec) (by omega) hv
  obtain ⟨X, hX⟩ : ∃ X : Nat → Nat, ∀ j, X j = genN v j := ⟨_, fun _ => rfl⟩
  have hX0 : X 0 = 0 := hX 0
  have hXlt : ∀ j, j ≤ 8 → X j < 256 ^ j := fun j hj => by rw [hX]; exact genN_lt v (fun i hi => hb i (by omega)) j hj
  have hXs : ∀ j, j < 8 → wOp .or .u64 (Ar.real.shl .u64 (X j : Int) 8) (v j) = (X (j + 1) : Int) := fun j hj => by
    have h1 := hXlt j (by omega)
    have h2 : (256 : Nat) ^ j ≤ 256 ^ 7 := Nat.pow_le_pow_right (by decide) (by omega)
    rw [hX, hX]
    rw [hX] at h1
    exact shl_or64 _ _ (by omega) (hb j (by omega))
  have hX8 : X 8 = genN v 8 := hX 8
  clear hX
  have hT : T.Ok P := hP ▸ T_ok
  refine jjI Tryd.f85 hT ?_
  generalize hA : Ar.real = A
  generalize hK : Gives _ _ _ = K
  cbv
  refine jjS hA (a1) [(0, 0), (1, 1), (2, 2)] ?_
  cbv
  refine ⟨jjO, ?_⟩
  refine LS.le hT hA 24 (fun (i : Nat) => [(8, .int .u64 ((X i : Nat) : Int)), (23, .int .i64 (i : Int))]) (fun _ => DH N S L ar ca) (fun i => i ≤ 8) (fun i => 8 - i) 0 [] rfl rfl ?_ ?_ ?_
  · (try cbv) <;> (repeat' (first | exact trivial | exact rfl | apply And.intro | exact fun _ => rfl | (intro _ hle; first | refine chunk_le hA rfl hle rfl ?_ | refine cat_le hA ?_ | refine upd_le hA ?_ | (try cbv))))
    all_goals (subst hA; rw [hX0]; rfl)
  · exact Nat.zero_le _
  · intro R hR i hi
    cbv
    refine ⟨fun q1 => ?_, fun q1 => ?_⟩
    · have hi8 : i < 8 := by clear hR hX0 hXs hXlt hX8 hb hg; subst hA; simp [Ar.real] at q1; omega
      have hXs := hXs i hi8
      have hv1 := hb i (by omega)
      clear hX0 hXlt hX8 hb hg
      have kn : A.nat (Int.ofNat i) = i := by clear hR hXs; subst hA; rfl
      have kv : (addNV A (.l 0) (.s (A.nat (Int.ofNat i)))).val = i := by clear hR hXs kn; subst hA; rw [addNV_zero]; rfl
      have kx : A.w .or .u64 (A.shl .u64 ((X i : Nat) : Int) 8) (A.conv .u64 (v (addNV A (.l 0) (.s (A.nat (Int.ofNat i)))).val)) = ((X (i + 1) : Nat) : Int) := by
        rw [kv]
        clear hR kn kv
        subst hA
        have e : Ar.real.conv .u64 (v i) = v i := by
          show IntKind.u64.wrap (v i) = v i
          simp only [IntKind.wrap, IntKind.bits, IntKind.signed]
          simp
          omega
        rw [e]; exact hXs
      clear hXs
      cbv
      refine ⟨?_, ?_, ?_, hR _ _ ⟨i + 1, 24, [], rfl, rfl, ?_, hi8, (by show 8 - (i + 1) < 8 - i; omega)⟩⟩
      iterate 3 exact jjO
      clear hR
      (try cbv) <;> (repeat' (first | exact trivial | exact rfl | apply And.intro | exact fun _ => rfl | (intro _ hle; first | refine chunk_le hA rfl hle rfl ?_ | refine cat_le hA ?_ | refine upd_le hA ?_ | (try cbv))))
      all_goals first | exact kx | exact jjO
    · have hi8 : i = 8 := by clear hR hX0 hXs hXlt hX8 hb hg; subst hA; simp [Ar.real] at q1; omega
      subst hi8
      clear hR hX0 hXs
      have hlt := hXlt 8 (Nat.le_refl _)
      clear hXlt
      obtain ⟨x, hx⟩ : ∃ x, x = X 8 := ⟨_, rfl⟩
      have hG : GenOk v sec ↔ (1 ≤ x ∧ x ≤ 1099511627776 ∧ x % 2 = sec ∧ ∀ i, i < 64 → v i = headB x i) := by rw [hx, hX8]; exact Iff.rfl
      have hg2 : (GenOk v sec ∧ g = x) ∨ (¬ GenOk v sec ∧ g = 0) := by rw [hx, hX8]; exact hg
      clear hX8 hg
      by_cases g1 : x < 1
      · have g0 : g = 0 := by rcases hg2 with h | h; exact absurd (hG.1 h.1).1 (by omega); exact h.2
        have k1 : A.lt ((X 8 : Nat) : Int) 1 = true := by rw [← hx]; clear hG hg2; subst hA; simp [Ar.real]; omega
        clear hG hg2 hb
        cbv
        first | refine testR k1 rfl ?_ | refine testL k1 rfl ?_
        cbv
        refine Fin.le hA 3 [] (.tup [.int .i64 (g : Int), .lit .i64 0]) (DH N S L ar ca) 1000 rfl rfl rfl ?_ ?_ jjK
        · (try cbv) <;> (repeat' (first | exact trivial | exact rfl | apply And.intro | exact fun _ => rfl | (intro _ hle; first | refine chunk_le hA rfl hle rfl ?_ | refine cat_le hA ?_ | refine upd_le hA ?_ | (try cbv))))
          all_goals exact jjO
        · exact jjL
      have k1 : A.lt ((X 8 : Nat) : Int) 1 = false := by rw [← hx]; clear hG hg2; subst hA; simp [Ar.real]; omega
      by_cases g2 : 1099511627776 < x
      · have g0 : g = 0 := by rcases hg2 with h | h; exact absurd (hG.1 h.1).2.1 (by omega); exact h.2
        have k2 : A.gt ((X 8 : Nat) : Int) 1099511627776 = true := by rw [← hx]; clear hG hg2; subst hA; simp [Ar.real]; omega
        clear hG hg2 hb
        cbv
        first | refine testR k1 rfl ?_ | refine testL k1 rfl ?_
        cbv
        first | refine testR k2 rfl ?_ | refine testL k2 rfl ?_
        cbv
        refine Fin.le hA 3 [] (.tup [.int .i64 (g : Int), .lit .i64 0]) (DH N S L ar ca) 1000 rfl rfl rfl ?_ ?_ jjK
        · (try cbv) <;> (repeat' (first | exact trivial | exact rfl | apply And.intro | exact fun _ => rfl | (intro _ hle; first | refine chunk_le hA rfl hle rfl ?_ | refine cat_le hA ?_ | refine upd_le hA ?_ | (try cbv))))
          all_goals exact jjO
        · exact jjL
      have k2 : A.gt ((X 8 : Nat) : Int) 1099511627776 = false := by rw [← hx]; clear hG hg2; subst hA; simp [Ar.real]; omega
      have kc : A.conv .i64 ((X 8 : Nat) : Int) = (x : Int) := by
        rw [← hx]; clear hG hg2; subst hA
        show IntKind.i64.wrap (x : Int) = (x : Int)
        simp only [IntKind.wrap, IntKind.bits, IntKind.signed]
        simp
        omega
      have kr : A.rem (x : Int) 2 = ((x % 2 : Nat) : Int) := by clear hG hg2 k1 k2 kc; subst hA; rfl
      by_cases g3 : ¬ x % 2 = sec
      · have g0 : g = 0 := by rcases hg2 with h | h; exact absurd (hG.1 h.1).2.2.1 g3; exact h.2
        have k3 : A.ne (A.rem (A.conv .i64 ((X 8 : Nat) : Int)) 2) (Int.ofNat sec) = true := by rw [kc, kr]; clear hG hg2 k1 k2 kc kr; subst hA; simp [Ar.real]; omega
        clear hG hg2 hb
        cbv
        first | refine testR k1 rfl ?_ | refine testL k1 rfl ?_
        cbv
        first | refine testR k2 rfl ?_ | refine testL k2 rfl ?_
        cbv
        refine ⟨jjO, ?_⟩
        first | refine testR k3 rfl ?_ | refine testL k3 rfl ?_
        cbv
        refine Fin.le hA 3 [] (.tup [.int .i64 (g : Int), .lit .i64 0]) (DH N S L ar ca) 1000 rfl rfl rfl ?_ ?_ jjK
        · (try cbv) <;> (repeat' (first | exact trivial | exact rfl | apply And.intro | exact fun _ => rfl | (intro _ hle; first | refine chunk_le hA rfl hle rfl ?_ | refine cat_le hA ?_ | refine upd_le hA ?_ | (try cbv))))
          all_goals (clear k1 k2 k3 kc kr; exact jjO)
        · exact jjL
      have g3 := Decidable.not_not.1 g3
      have k3 : A.ne (A.rem (A.conv .i64 ((X 8 : Nat) : Int)) 2) (Int.ofNat sec) = false := by rw [kc, kr]; clear hG hg2 k1 k2 kc kr; subst hA; simp [Ar.real]; omega
      obtain ⟨hd, hhd⟩ : ∃ hd : Nat → Int, ∀ i, hd i = headB x i := ⟨_, fun _ => rfl⟩
      have c1 := head_fn (P := P) (G := G) (g := x) (f := hd) hP (by omega) (fun i _ => hhd i)
      have bh : ∀ i, i < 64 → 0 ≤ hd i ∧ hd i < 256 := fun i _ => by rw [hhd]; have := headB_range x i; omega
      have bv : ∀ i, i < 64 → 0 ≤ v i ∧ v i < 256 := fun i hi => by have := hb i hi; omega
      by_cases g4 : ∀ i, i < 64 → v i = hd i
      · have g0 : g = x := by
          rcases hg2 with h | h
          · exact h.2
          · exact absurd (hG.2 ⟨by omega, by omega, g3, fun i hi => by rw [g4 i hi, hhd]⟩) h.1
        have c2 := beq_fn (P := P) (G := G) (n := 64) (m := 64) (f := v) (g := hd) (res := true) (N := .l 64) (M := .l 64) hP rfl rfl bv bh ⟨fun _ => ⟨rfl, g4⟩, fun _ => rfl⟩
        clear hG hg2 hb hhd bh bv g4
        cbv
        first | refine testR k1 rfl ?_ | refine testL k1 rfl ?_
        cbv
        first | refine testR k2 rfl ?_ | refine testL k2 rfl ?_
        cbv
        refine ⟨jjO, ?_⟩
        first | refine testR k3 rfl ?_ | refine testL k3 rfl ?_
        cbv
        refine CS.le hA c1 [] rfl rfl rfl ?_ ?_ ?_
        · (try cbv) <;> (repeat' (first | exact trivial | exact rfl | apply And.intro | exact fun _ => rfl | (intro _ hle; first | refine chunk_le hA rfl hle rfl ?_ | refine cat_le hA ?_ | refine upd_le hA ?_ | (try cbv))))
          all_goals exact kc
        · exact jjL
        cbv
        refine jjT hA (c2) (.bl true) [] ?_
        cbv
        refine Fin.le hA 3 [] (.tup [.int .i64 (g : Int), .lit .i64 0]) (DH N S L ar ca) 1000 rfl rfl rfl ?_ ?_ jjK
        · (try cbv) <;> (repeat' (first | exact trivial | exact rfl | apply And.intro | exact fun _ => rfl | (intro _ hle; first | refine chunk_le hA rfl hle rfl ?_ | refine cat_le hA ?_ | refine upd_le hA ?_ | (try cbv))))
          all_goals first | (rw [g0]; exact kc) | (clear k1 k2 k3 kc kr; exact jjO)
        · exact jjL
      · have g0 : g = 0 := by
          rcases hg2 with h | h
          · exact absurd (fun i hi => by rw [(hG.1 h.1).2.2.2 i hi, hhd]) g4
          · exact h.2
        have c2 := beq_fn (P := P) (G := G) (n := 64) (m := 64) (f := v) (g := hd) (res := false) (N := .l 64) (M := .l 64) hP rfl rfl bv bh ⟨fun h => (by cases h), fun h => absurd h.2 g4⟩
        clear hG hg2 hb hhd bh bv g4
        cbv
        first | refine testR k1 rfl ?_ | refine testL k1 rfl ?_
        cbv
        first | refine testR k2 rfl ?_ | refine testL k2 rfl ?_
        cbv
        refine ⟨jjO, ?_⟩
        first | refine testR k3 rfl ?_ | refine testL k3 rfl ?_
        cbv
        refine CS.le hA c1 [] rfl rfl rfl ?_ ?_ ?_
        · (try cbv) <;> (repeat' (first | exact trivial | exact rfl | apply And.intro | exact fun _ => rfl | (intro _ hle; first | refine chunk_le hA rfl hle rfl ?_ | refine cat_le hA ?_ | refine upd_le hA ?_ | (try cbv))))
          all_goals exact kc
        · exact jjL
        cbv
        refine jjT hA (c2) (.bl false) [] ?_
        cbv
        refine Fin.le hA 3 [] (.tup [.int .i64 (g : Int), .lit .i64 0]) (DH N S L ar ca) 1000 rfl rfl rfl ?_ ?_ jjK
        · (try cbv) <;> (repeat' (first | exact trivial | exact rfl | apply And.intro | exact fun _ => rfl | (intro _ hle; first | refine chunk_le hA rfl hle rfl ?_ | refine cat_le hA ?_ | refine upd_le hA ?_ | (try cbv))))
          all_goals (clear k1 k2 k3 kc kr; exact jjO)
        · exact jjL
open Go.DskLaw (q64 secV isB needN)
theorem newest_off {P : Program} {G : Gl} (hP : P = Tryd.prog) {N : Nat} {S : Nat → Int} {L : Int → Option (Nat → Int)} {ar : Bool} {ca : Int} (h : ar = true ∧ ca = 0) :
    FnTr P G 56 [.ptr 0 0] (DH N S L ar ca) 3 (Gives (.tup [.lit .i64 0, .lit .i64 6]) (DH N S L ar ca) 3) := by
  have a1 := gen_off (P := P) (G := G) (N := N) (S := S) (L := L) (i := 0) hP h
  have hT : T.Ok P := hP ▸ T_ok
  refine jjI Tryd.f56 hT ?_
  generalize hA : Ar.real = A
  generalize hK : Gives _ _ _ = K
  cbv
  refine LS.rounds hA 1 hT ?_
  cbv
  refine jjS hA (a1) [(0, 0), (1, 1), (2, 2)] ?_
  cbv
  refine Fin.le hA 3 [] (.tup [.lit .i64 0, .lit .i64 6]) (DH N S L ar ca) 3 rfl rfl rfl ?_ ?_ jjK
  iterate 2 exact jjL
theorem newest_fn {P : Program} {G : Gl} (hP : P = Tryd.prog) {N s g0 g1 g : Nat} {S : Nat → Int} {V : Nat → Nat → Int} {L : Int → Option (Nat → Int)} {ar : Bool} {ca : Int} (h : ¬ (ar = true ∧ ca = 0)) (hN : N = 64 * s) (hs : 4 ≤ s ∧ s ≤ 4096) (hV : ∀ i, i < 2 → V i = secV S L i ∧ isB (V i)) (h0 : GenIs (V 0) 0 g0) (h1 : GenIs (V 1) 1 g1) (hg : g = max g0 g1) :
    FnTr P G 56 [.ptr 0 0] (DH N S L ar ca) 3 (Gives (.tup [.int .i64 (g : Int), .lit .i64 0]) (DH N S L ar ca) 3) := by
  have a1 := gen_fn (P := P) (G := G) hP h hN hs (sec := 0) (by omega) (hV 0 (by omega)).1 (hV 0 (by omega)).2 h0
  have a2 := gen_fn (P := P) (G := G) hP h hN hs (sec := 1) (by omega) (hV 1 (by omega)).1 (hV 1 (by omega)).2 h1
  have hm : max (max (0 : Int) (g0 : Int)) (g1 : Int) = (g : Int) := by omega
  clear hV h0 h1 hg
  have hT : T.Ok P := hP ▸ T_ok
  refine jjI Tryd.f56 hT ?_
  generalize hA : Ar.real = A
  generalize hK : Gives _ _ _ = K
  cbv
  refine LS.rounds hA 3 hT ?_
  cbv
  refine jjS hA (a1) [(0, 0), (1, 1), (2, 2)] ?_
  cbv
  refine jjS hA (a2) [(0, 0), (1, 1), (2, 2)] ?_
  cbv
  refine Fin.le hA 3 [] (.tup [.int .i64 (g : Int), .lit .i64 0]) (DH N S L ar ca) 3 rfl rfl rfl ?_ ?_ jjK
  · (try cbv) <;> (repeat' (first | exact trivial | exact rfl | apply And.intro | exact fun _ => rfl | (intro _ hle; first | refine chunk_le hA rfl hle rfl ?_ | refine cat_le hA ?_ | refine upd_le hA ?_ | (try cbv))))
    subst hA
    simp only [zn] at *
    simp only [Ar.real, zo]
    split <;> split <;> omega
  · exact jjL
theorem wasked_small {P : Program} {G : Gl} (hP : P = Tryd.prog) {N s : Nat} {S : Nat → Int} {L : Int → Option (Nat → Int)} {ar : Bool} {ca : Int} (hN : N = 64 * s) (hs : s < 4) :
    FnTr P G 54 [.ptr 0 0] (DH N S L ar ca) 3 (Gives (.lit .i64 1) (DH N S L ar ca) 3) := by
  have a1 := len_fn (P := P) (G := G) (S := S) (L := L) (ar := ar) (ca := ca) hP hN (by omega)
  have hT : T.Ok P := hP ▸ T_ok
  refine jjI Tryd.f54 hT ?_
  generalize hA : Ar.real = A
  generalize hK : Gives _ _ _ = K
  cbv
  have k1 : A.lt (s : Int) 4 = true := by subst hA; simp [Ar.real]; omega
  refine jjS hA (a1) [(0, 0), (1, 1), (2, 2)] ?_
  cbv
  first | refine testR k1 rfl ?_ | refine testL k1 rfl ?_
  cbv
  refine Fin.le hA 3 [] (.lit .i64 1) (DH N S L ar ca) 3 rfl rfl rfl ?_ ?_ jjK
  iterate 2 exact jjL
theorem wasked_ok {P : Program} {G : Gl} (hP : P = Tryd.prog) {N s : Nat} {S : Nat → Int} {L : Int → Option (Nat → Int)} {ar : Bool} {ca : Int} (hN : N = 64 * s) (hs : 4 ≤ s ∧ s ≤ 4096) :
    FnTr P G 54 [.ptr 0 0] (DH N S L ar ca) 3 (Gives (.lit .i64 0) (DH N S L ar ca) 3) := by
  have a1 := len_fn (P := P) (G := G) (S := S) (L := L) (ar := ar) (ca := ca) hP hN (by omega)
  have hT : T.Ok P := hP ▸ T_ok
  refine jjI Tryd.f54 hT ?_
  generalize hA : Ar.real = A
  generalize hK : Gives _ _ _ = K
  cbv
  have k1 : A.lt (s : Int) 4 = false := by subst hA; simp [Ar.real]; omega
  refine jjS hA (a1) [(0, 0), (1, 1), (2, 2)] ?_
  cbv
  first | refine testR k1 rfl ?_ | refine testL k1 rfl ?_
  cbv
  refine Fin.le hA 3 [] (.lit .i64 0) (DH N S L ar ca) 3 rfl rfl rfl ?_ ?_ jjK
  iterate 2 exact jjL
theorem full_fn {P : Program} {G : Gl} (hP : P = Tryd.prog) {N s h n m : Nat} {S f : Nat → Int} {L : Int → Option (Nat → Int)} {ar : Bool} {ca : Int} {r : Bool} (hN : N = 64 * s) (hs : 4 ≤ s ∧ s ≤ 4096) (hh : h = (s - 2) / 2) (hn : n ≤ 1000000) (hm : m = needN (n + 4)) (hr : r = true ↔ (65536 < n + 4 ∨ h < m)) :
    FnTr P G 55 [.ptr 0 0, By n f] (DH N S L ar ca) 3 (Gives (.bs r) (DH N S L ar ca) 10) := by
  have a1 := half_fn (P := P) (G := G) (S := S) (L := L) (ar := ar) (ca := ca) hP hN hs hh
  have a2 := need_fn (P := P) (G := G) (n := (n : Int) + 4) (m := m) hP (by omega) (by rw [hm]; congr 1)
  by_cases q1 : 65536 < n + 4
  · have hr : r = true := hr.2 (.inl q1)
    subst hr
    have hT : T.Ok P := hP ▸ T_ok
    refine jjI Tryd.f55 hT ?_
    generalize hA : Ar.real = A
    generalize hK : Gives _ _ _ = K
    cbv
    have k1 : A.gt (A.add (A.i2 n) 4) 65536 = true := by subst hA; simp [Ar.real]; omega
    refine ⟨jjO, ?_⟩
    first | refine testR k1 rfl ?_ | refine testL k1 rfl ?_
    cbv
    refine Fin.le hA 3 [] (.bs true) (DH N S L ar ca) 10 rfl rfl rfl ?_ ?_ jjK
    iterate 2 exact jjL
  · have hr : r = true ↔ h < m := hr.trans ⟨fun q => q.resolve_left q1, .inr⟩
    clear hm hh
    have hT : T.Ok P := hP ▸ T_ok
    refine jjI Tryd.f55 hT ?_
    generalize hA : Ar.real = A
    generalize hK : Gives _ _ _ = K
    cbv
    have k1 : A.gt (A.add (A.i2 n) 4) 65536 = false := by clear hr; subst hA; simp [Ar.real]; omega
    refine ⟨jjO, ?_⟩
    first | refine testR k1 rfl ?_ | refine testL k1 rfl ?_
    cbv
    refine ⟨jjO, ?_⟩
    refine jjS hA (a2) [] ?_
    cbv
    refine jjS hA (a1) [(0, 0), (1, 1), (2, 2)] ?_
    cbv
    refine Fin.le hA 3 [] (.bs r) (DH N S L ar ca) 10 rfl rfl rfl ?_ ?_ jjK
    · (try cbv) <;> (repeat' (first | exact trivial | exact rfl | apply And.intro | exact fun _ => rfl | (intro _ hle; first | refine chunk_le hA rfl hle rfl ?_ | refine cat_le hA ?_ | refine upd_le hA ?_ | (try cbv))))
      subst hA
      rw [Bool.eq_iff_iff, hr]
      simp [Ar.real]
    · exact jjL
open Go.DskLaw (q64 secV isB needN pcs wipeP)
open Go.CrcLaw (four)
theorem seal2_fn {P : Program} (hP : P = Tryd.prog) {n m : Nat} {fr b hi : Nat → Int} (hfr : ∀ i, fr i = ((four i).toNat : Int)) (hb : ∀ i, i < n → 0 ≤ b i ∧ b i ≤ 255) (hn : n ≤ 1000000000) (hm : m = n + 4) (hh : ∀ i, i < m → hi i = sealF n b i) :
    FnTr P (Gf fr) 18 [By n b] [] 0 (Gives (By m hi) [] 1) := by
  have h := seal_fn hP hfr (gi := cutF n b) (g := bvF n b) (bvF_nat hb) hn hm hh
  obtain ⟨c, hc⟩ : ∃ c : Nat → Int, c = cutF n b := ⟨_, rfl⟩
  have hcb : ∀ i, i < n → b i = c i := fun i hi => by rw [hc]; unfold cutF; rw [if_pos hi]
  rw [← hc] at h
  generalize hA : Ar.real = A
  refine FnTr.as hA h ?_ ?_ ?_ rfl
  · (try cbv) <;> (repeat' (first | exact trivial | exact rfl | apply And.intro | exact fun _ => rfl | (intro _ hle; first | refine chunk_le hA rfl hle rfl ?_ | refine cat_le hA ?_ | refine upd_le hA ?_ | (try cbv))))
    all_goals (refine hcb _ ?_; subst hA; exact ltNV_real.1 (by assumption))
  iterate 2 exact jjL
abbrev DHd (N : Nat) (d : Dk) : Hl := DH N d.S d.L d.ar d.ca
section
variable {P : Program} {G : Gl} {N s : Nat} {d d1 d2 : Dk}
theorem put_all (hP : P = Tryd.prog) {n first fin : Nat} {f : Nat → Int} {at' : Int} (hN : N = 64 * s) (hs : s ≤ 4096) (hok : DkOk s d) (h : first + needN n ≤ fin ∧ fin ≤ s) (hn : n ≤ 65536) (hk : putK d n = needN n) (hd : d1 = putD d first n f) (ha : at' = ((first + needN n : Nat) : Int)) :
    FnTr P G 60 [.ptr 0 0, .int .i64 (first : Int), .int .i64 (fin : Int), By n f] (DHd N d) 3 (Gives (.tup [.int .i64 at', .lit .i64 0]) (DHd N d1) 3) := by
  have h1 := put_ok (P := P) (G := G) (S := d.S) (L := d.L) (L' := d1.L) (f := f) (ar := d.ar) (ca := d.ca) (ca' := d1.ca) (at' := at') (e' := 0) (k := putK d n) hP hN hs h hn hok.hca (by
    unfold putK; cases e : d.ar
    · exact .inl ⟨rfl, rfl⟩
    · exact .inr ⟨rfl, rfl⟩) (fun i => by rw [hd]; rfl) (by rw [hd]; rfl) (.inl ⟨hk, ha, rfl⟩)
  have eS : d1.S = d.S := by rw [hd]; rfl
  have eA : d1.ar = d.ar := by rw [hd]; rfl
  show FnTr _ _ _ _ _ _ (Gives _ (DH N d1.S d1.L d1.ar d1.ca) 3)
  rw [eS, eA]
  clear hd hk ha hok
  generalize hA : Ar.real = A
  refine FnTr.as hA h1 ?_ ?_ ?_ rfl
  iterate 2 exact jjL
  · exact jjL
theorem put_part (hP : P = Tryd.prog) {n first fin : Nat} {f : Nat → Int} (hN : N = 64 * s) (hs : s ≤ 4096) (hok : DkOk s d) (h : first + needN n ≤ fin ∧ fin ≤ s) (hn : n ≤ 65536) (hk : putK d n < needN n) (hd : d1 = putD d first n f) :
    FnTr P G 60 [.ptr 0 0, .int .i64 (first : Int), .int .i64 (fin : Int), By n f] (DHd N d) 3 (Gives (.tup [.lit .i64 0, .lit .i64 6]) (DHd N d1) 3) := by
  have h1 := put_ok (P := P) (G := G) (S := d.S) (L := d.L) (L' := d1.L) (f := f) (ar := d.ar) (ca := d.ca) (ca' := d1.ca) (at' := 0) (e' := 6) (k := putK d n) hP hN hs h hn hok.hca (by
    unfold putK; cases e : d.ar
    · exact .inl ⟨rfl, rfl⟩
    · exact .inr ⟨rfl, rfl⟩) (fun i => by rw [hd]; rfl) (by rw [hd]; rfl) (.inr ⟨hk, rfl, rfl⟩)
  have eS : d1.S = d.S := by rw [hd]; rfl
  have eA : d1.ar = d.ar := by rw [hd]; rfl
  show FnTr _ _ _ _ _ _ (Gives _ (DH N d1.S d1.L d1.ar d1.ca) 3)
  rw [eS, eA]
  clear hd hk hok
  generalize hA : Ar.real = A
  refine FnTr.as hA h1 ?_ ?_ ?_ rfl
  iterate 2 exact jjL
  · exact jjL
theorem wipe_all (hP : P = Tryd.prog) {first fin m : Nat} (hN : N = 64 * s) (hs : s ≤ 4096) (hok : 0 ≤ d.ca ∧ d.ca ≤ 9223372036854775807) (h : first ≤ fin ∧ fin ≤ s) (ho : ¬ offD d) (hw : wipeD d first fin = (some m, d1)) :
    FnTr P G 68 [.ptr 0 0, .int .i64 (first : Int), .int .i64 (fin : Int)] (DHd N d) 3 (Gives (.tup [.int .i64 (m : Int), .lit .i64 0]) (DHd N d1) 3) := by
  obtain ⟨⟨on, L', c'⟩, hr⟩ : ∃ r, wipeP (fun i => secV d.S d.L i) d.ar (fin - first) first 0 d.L d.ca = r := ⟨_, rfl⟩
  have hw : ((wipeP (fun i => secV d.S d.L i) d.ar (fin - first) first 0 d.L d.ca).1, (⟨d.S, (wipeP (fun i => secV d.S d.L i) d.ar (fin - first) first 0 d.L d.ca).2.1, d.ar, (wipeP (fun i => secV d.S d.L i) d.ar (fin - first) first 0 d.L d.ca).2.2⟩ : Dk)) = (some m, d1) := hw
  rw [hr] at hw
  obtain ⟨e1, e2⟩ := Prod.mk.inj hw
  subst e2
  exact wipe_ok hP hN hs h ho hok (V := fun i => secV d.S d.L i) (fun _ _ => rfl) hr (fun n hn => by have q := hn.symm.trans e1; cases q; exact ⟨rfl, rfl, rfl⟩) (fun hn => by have q := hn.symm.trans e1; cases q)
theorem wipe_part (hP : P = Tryd.prog) {first fin : Nat} (hN : N = 64 * s) (hs : s ≤ 4096) (hok : 0 ≤ d.ca ∧ d.ca ≤ 9223372036854775807) (h : first ≤ fin ∧ fin ≤ s) (ho : ¬ offD d) (hw : wipeD d first fin = (none, d1)) :
    FnTr P G 68 [.ptr 0 0, .int .i64 (first : Int), .int .i64 (fin : Int)] (DHd N d) 3 (Gives (.tup [.lit .i64 0, .lit .i64 6]) (DHd N d1) 3) := by
  obtain ⟨⟨on, L', c'⟩, hr⟩ : ∃ r, wipeP (fun i => secV d.S d.L i) d.ar (fin - first) first 0 d.L d.ca = r := ⟨_, rfl⟩
  have hw : ((wipeP (fun i => secV d.S d.L i) d.ar (fin - first) first 0 d.L d.ca).1, (⟨d.S, (wipeP (fun i => secV d.S d.L i) d.ar (fin - first) first 0 d.L d.ca).2.1, d.ar, (wipeP (fun i => secV d.S d.L i) d.ar (fin - first) first 0 d.L d.ca).2.2⟩ : Dk)) = (none, d1) := hw
  rw [hr] at hw
  obtain ⟨e1, e2⟩ := Prod.mk.inj hw
  subst e2
  exact wipe_ok hP hN hs h ho hok (V := fun i => secV d.S d.L i) (fun _ _ => rfl) hr (fun n hn => by have q := hn.symm.trans e1; cases q) (fun hn => ⟨rfl, rfl, rfl⟩)
theorem flush_all (hP : P = Tryd.prog) (hN : N = 64 * s) (hs : 1 ≤ s ∧ s ≤ 4096) (hok : DkOk s d) (ho : ¬ offD d) (hd : d1 = flushD d) :
    FnTr P G 31 [.ptr 0 0] (DHd N d) 3 (Gives (.lit .i64 0) (DHd N d1) 3) := by
  subst hd
  exact flush_ok (S' := (flushD d).S) (L' := (flushD d).L) (ca' := (flushD d).ca) hP ho hN hs rfl hok.hca hok.key (fun _ _ => rfl) (fun _ => rfl)
theorem write_all (hP : P = Tryd.prog) {i : Nat} {f : Nat → Int} (hN : N = 64 * s) (hs : s ≤ 4096) (hok : DkOk s d) (ho : ¬ offD d) (hi : i < s) (hd : d1 = writeD d i f) :
    FnTr P G 30 [.ptr 0 0, .int .i64 (i : Int), By 64 f] (DHd N d) 3 (Gives (.lit .i64 0) (DHd N d1) 3) := by
  subst hd
  exact write_ok (L' := (writeD d i f).L) (ca' := (writeD d i f).ca) hP ho hN hs hi rfl (fun _ => rfl) rfl hok.hca
end
section
variable {P : Program} {fr : Nat → Int} {N s h gen fi en nb n a1 m : Nat} {b f hd : Nat → Int} {d d1 d2 d3 d4 d5 : Dk}
theorem lay_put (hP : P = Tryd.prog) (hfr : ∀ i, fr i = ((four i).toNat : Int)) (hN : N = 64 * s) (hs : 4 ≤ s ∧ s ≤ 4096) (hh : h = (s - 2) / 2) (hg : gen ≤ 1099511627777) (hfi : fi = 2 + gen % 2 * h) (hen : en = fi + h) (hb : ∀ i, i < nb → 0 ≤ b i ∧ b i ≤ 255) (hn : n = nb + 4) (hn6 : n ≤ 65536) (hnh : needN n ≤ h) (hf : ∀ i, i < n → f i = sealF nb b i) (hes : en ≤ s) (ha1 : a1 = fi + needN n) (ok : DkOk s d) (hk : putK d n < needN n) (hd1 : d1 = putD d fi n f) :
    FnTr P (Gf fr) 57 [.ptr 0 0, .int .i64 (gen : Int), By nb b] (DHd N d) 3 (Gives (.tup [.lit .i64 0, .lit .i64 6]) (DHd N d1) 3) := by
  have c1 := first_fn (P := P) (G := Gf fr) (S := d.S) (L := d.L) (ar := d.ar) (ca := d.ca) hP hN hs hh hg hfi
  have c2 := end_fn (P := P) (G := Gf fr) (S := d.S) (L := d.L) (ar := d.ar) (ca := d.ca) hP hN hs hh hg hfi hen
  have c3 := seal2_fn (P := P) hP hfr hb (by omega) hn hf
  have c4 := put_part (P := P) (G := Gf fr) (f := f) hP hN hs.2 ok ⟨by omega, hes⟩ hn6 hk hd1
  clear hfr hh hfi hen hb hn hn6 hnh hf hes ha1 ok hN hs hk hd1
  have hT : T.Ok P := hP ▸ T_ok
  refine FnTr.introD (fn := Tryd.f57) (fg := Tryd.f86) (g := 86) (by rw [hP]; rfl) rfl rfl (by rw [hP]; rfl) rfl rfl rfl rfl rfl rfl rfl rfl rfl hT ?_
  generalize hA : Ar.real = A
  generalize hK : Gives _ _ _ = K
  cbv
  refine jjS hA (c1) [(0, 0), (1, 1), (2, 2)] ?_
  cbv
  refine jjS hA (c2) [(0, 0), (1, 1), (2, 2)] ?_
  cbv
  refine jjS hA (c3) [] ?_
  cbv
  refine jjS hA (c4) [(0, 0), (1, 1), (2, 2)] ?_
  cbv
  refine jjR hA hT 1 ?_
  cbv
  refine jjD ?_
  cbv
  refine Fin.le hA 3 [] (.tup [.lit .i64 0, .lit .i64 6]) (DHd N d1) 3 rfl rfl rfl ?_ ?_ jjK
  iterate 2 exact jjL
theorem lay_wipe0 (hP : P = Tryd.prog) (hfr : ∀ i, fr i = ((four i).toNat : Int)) (hN : N = 64 * s) (hs : 4 ≤ s ∧ s ≤ 4096) (hh : h = (s - 2) / 2) (hg : gen ≤ 1099511627777) (hfi : fi = 2 + gen % 2 * h) (hen : en = fi + h) (hb : ∀ i, i < nb → 0 ≤ b i ∧ b i ≤ 255) (hn : n = nb + 4) (hn6 : n ≤ 65536) (hnh : needN n ≤ h) (hf : ∀ i, i < n → f i = sealF nb b i) (hes : en ≤ s) (ha1 : a1 = fi + needN n) (ok : DkOk s d) (hk : putK d n = needN n) (hd1 : d1 = putD d fi n f) (o1 : offD d1) :
    FnTr P (Gf fr) 57 [.ptr 0 0, .int .i64 (gen : Int), By nb b] (DHd N d) 3 (Gives (.tup [.lit .i64 0, .lit .i64 6]) (DHd N d1) 3) := by
  have c1 := first_fn (P := P) (G := Gf fr) (S := d.S) (L := d.L) (ar := d.ar) (ca := d.ca) hP hN hs hh hg hfi
  have c2 := end_fn (P := P) (G := Gf fr) (S := d.S) (L := d.L) (ar := d.ar) (ca := d.ca) hP hN hs hh hg hfi hen
  have c3 := seal2_fn (P := P) hP hfr hb (by omega) hn hf
  have c2' := end_fn (P := P) (G := Gf fr) (S := d1.S) (L := d1.L) (ar := d1.ar) (ca := d1.ca) hP hN hs hh hg hfi hen
  have c4 := put_all (P := P) (G := Gf fr) (f := f) hP hN hs.2 ok ⟨by omega, hes⟩ hn6 hk hd1 (at' := (a1 : Int)) (by rw [ha1])
  have c5 := wipe_off (P := P) (G := Gf fr) (S := d1.S) (L := d1.L) (a := (a1 : Int)) (b := (en : Int)) hP hN hs.2 ⟨by omega, by omega, by omega⟩ o1
  clear hfr hh hfi hen hb hn hn6 hnh hf hes ha1 ok hN hs hk hd1 o1
  have hT : T.Ok P := hP ▸ T_ok
  refine FnTr.introD (fn := Tryd.f57) (fg := Tryd.f86) (g := 86) (by rw [hP]; rfl) rfl rfl (by rw [hP]; rfl) rfl rfl rfl rfl rfl rfl rfl rfl rfl hT ?_
  generalize hA : Ar.real = A
  generalize hK : Gives _ _ _ = K
  cbv
  refine jjS hA (c1) [(0, 0), (1, 1), (2, 2)] ?_
  cbv
  refine jjS hA (c2) [(0, 0), (1, 1), (2, 2)] ?_
  cbv
  refine jjS hA (c3) [] ?_
  cbv
  refine jjS hA (c4) [(0, 0), (1, 1), (2, 2)] ?_
  cbv
  refine jjR hA hT 12 ?_
  cbv
  refine jjP hA (c2') [(0, 0), (1, 1), (2, 2)] ?_
  cbv
  refine jjP hA (c5) [(0, 0), (1, 1), (2, 2)] ?_
  cbv
  refine jjD ?_
  cbv
  refine jjR hA hT 1 ?_
  cbv
  refine jjD ?_
  cbv
  refine Fin.le hA 3 [] (.tup [.lit .i64 0, .lit .i64 6]) (DHd N d1) 3 rfl rfl rfl ?_ ?_ jjK
  iterate 2 exact jjL
theorem lay_wipe (hP : P = Tryd.prog) (hfr : ∀ i, fr i = ((four i).toNat : Int)) (hN : N = 64 * s) (hs : 4 ≤ s ∧ s ≤ 4096) (hh : h = (s - 2) / 2) (hg : gen ≤ 1099511627777) (hfi : fi = 2 + gen % 2 * h) (hen : en = fi + h) (hb : ∀ i, i < nb → 0 ≤ b i ∧ b i ≤ 255) (hn : n = nb + 4) (hn6 : n ≤ 65536) (hnh : needN n ≤ h) (hf : ∀ i, i < n → f i = sealF nb b i) (hes : en ≤ s) (ha1 : a1 = fi + needN n) (ok : DkOk s d) (hk : putK d n = needN n) (hd1 : d1 = putD d fi n f) (hw : wipeD d1 a1 en = (none, d2)) (o1 : ¬ offD d1) (k1 : 0 ≤ d1.ca ∧ d1.ca ≤ 9223372036854775807) :
    FnTr P (Gf fr) 57 [.ptr 0 0, .int .i64 (gen : Int), By nb b] (DHd N d) 3 (Gives (.tup [.lit .i64 0, .lit .i64 6]) (DHd N d2) 3) := by
  have c1 := first_fn (P := P) (G := Gf fr) (S := d.S) (L := d.L) (ar := d.ar) (ca := d.ca) hP hN hs hh hg hfi
  have c2 := end_fn (P := P) (G := Gf fr) (S := d.S) (L := d.L) (ar := d.ar) (ca := d.ca) hP hN hs hh hg hfi hen
  have c3 := seal2_fn (P := P) hP hfr hb (by omega) hn hf
  have c2' := end_fn (P := P) (G := Gf fr) (S := d1.S) (L := d1.L) (ar := d1.ar) (ca := d1.ca) hP hN hs hh hg hfi hen
  have c4 := put_all (P := P) (G := Gf fr) (f := f) hP hN hs.2 ok ⟨by omega, hes⟩ hn6 hk hd1 (at' := (a1 : Int)) (by rw [ha1])
  have c5 := wipe_part (P := P) (G := Gf fr) hP hN hs.2 k1 ⟨by omega, hes⟩ o1 hw
  clear hfr hh hfi hen hb hn hn6 hnh hf hes ha1 ok hN hs hk hd1 hw o1 k1
  have hT : T.Ok P := hP ▸ T_ok
  refine FnTr.introD (fn := Tryd.f57) (fg := Tryd.f86) (g := 86) (by rw [hP]; rfl) rfl rfl (by rw [hP]; rfl) rfl rfl rfl rfl rfl rfl rfl rfl rfl hT ?_
  generalize hA : Ar.real = A
  generalize hK : Gives _ _ _ = K
  cbv
  refine jjS hA (c1) [(0, 0), (1, 1), (2, 2)] ?_
  cbv
  refine jjS hA (c2) [(0, 0), (1, 1), (2, 2)] ?_
  cbv
  refine jjS hA (c3) [] ?_
  cbv
  refine jjS hA (c4) [(0, 0), (1, 1), (2, 2)] ?_
  cbv
  refine jjR hA hT 12 ?_
  cbv
  refine jjP hA (c2') [(0, 0), (1, 1), (2, 2)] ?_
  cbv
  refine jjP hA (c5) [(0, 0), (1, 1), (2, 2)] ?_
  cbv
  refine jjD ?_
  cbv
  refine jjR hA hT 1 ?_
  cbv
  refine jjD ?_
  cbv
  refine Fin.le hA 3 [] (.tup [.lit .i64 0, .lit .i64 6]) (DHd N d2) 3 rfl rfl rfl ?_ ?_ jjK
  iterate 2 exact jjL
theorem lay_flush (hP : P = Tryd.prog) (hfr : ∀ i, fr i = ((four i).toNat : Int)) (hN : N = 64 * s) (hs : 4 ≤ s ∧ s ≤ 4096) (hh : h = (s - 2) / 2) (hg : gen ≤ 1099511627777) (hfi : fi = 2 + gen % 2 * h) (hen : en = fi + h) (hb : ∀ i, i < nb → 0 ≤ b i ∧ b i ≤ 255) (hn : n = nb + 4) (hn6 : n ≤ 65536) (hnh : needN n ≤ h) (hf : ∀ i, i < n → f i = sealF nb b i) (hes : en ≤ s) (ha1 : a1 = fi + needN n) (ok : DkOk s d) (hk : putK d n = needN n) (hd1 : d1 = putD d fi n f) (hw : wipeD d1 a1 en = (some m, d2)) (o1 : ¬ offD d1) (k1 : 0 ≤ d1.ca ∧ d1.ca ≤ 9223372036854775807) (o2 : offD d2) :
    FnTr P (Gf fr) 57 [.ptr 0 0, .int .i64 (gen : Int), By nb b] (DHd N d) 3 (Gives (.tup [.lit .i64 0, .lit .i64 6]) (DHd N d2) 3) := by
  have c1 := first_fn (P := P) (G := Gf fr) (S := d.S) (L := d.L) (ar := d.ar) (ca := d.ca) hP hN hs hh hg hfi
  have c2 := end_fn (P := P) (G := Gf fr) (S := d.S) (L := d.L) (ar := d.ar) (ca := d.ca) hP hN hs hh hg hfi hen
  have c3 := seal2_fn (P := P) hP hfr hb (by omega) hn hf
  have c2' := end_fn (P := P) (G := Gf fr) (S := d1.S) (L := d1.L) (ar := d1.ar) (ca := d1.ca) hP hN hs hh hg hfi hen
  have c4 := put_all (P := P) (G := Gf fr) (f := f) hP hN hs.2 ok ⟨by omega, hes⟩ hn6 hk hd1 (at' := (a1 : Int)) (by rw [ha1])
  have c5 := wipe_all (P := P) (G := Gf fr) hP hN hs.2 k1 ⟨by omega, hes⟩ o1 hw
  have c6 := flush_off (P := P) (G := Gf fr) (N := N) (S := d2.S) (L := d2.L) hP o2
  clear hfr hh hfi hen hb hn hn6 hnh hf hes ha1 ok hN hs hk hd1 hw o1 k1 o2
  have hT : T.Ok P := hP ▸ T_ok
  refine FnTr.introD (fn := Tryd.f57) (fg := Tryd.f86) (g := 86) (by rw [hP]; rfl) rfl rfl (by rw [hP]; rfl) rfl rfl rfl rfl rfl rfl rfl rfl rfl hT ?_
  generalize hA : Ar.real = A
  generalize hK : Gives _ _ _ = K
  cbv
  refine jjS hA (c1) [(0, 0), (1, 1), (2, 2)] ?_
  cbv
  refine jjS hA (c2) [(0, 0), (1, 1), (2, 2)] ?_
  cbv
  refine jjS hA (c3) [] ?_
  cbv
  refine jjS hA (c4) [(0, 0), (1, 1), (2, 2)] ?_
  cbv
  refine jjR hA hT 12 ?_
  cbv
  refine jjP hA (c2') [(0, 0), (1, 1), (2, 2)] ?_
  cbv
  refine jjP hA (c5) [(0, 0), (1, 1), (2, 2)] ?_
  cbv
  refine jjD ?_
  cbv
  refine jjS hA (c6) [(0, 0), (1, 1), (2, 2)] ?_
  cbv
  refine jjR hA hT 1 ?_
  cbv
  refine jjD ?_
  cbv
  refine Fin.le hA 3 [] (.tup [.lit .i64 0, .lit .i64 6]) (DHd N d2) 3 rfl rfl rfl ?_ ?_ jjK
  iterate 2 exact jjL
theorem lay_write (hP : P = Tryd.prog) (hfr : ∀ i, fr i = ((four i).toNat : Int)) (hN : N = 64 * s) (hs : 4 ≤ s ∧ s ≤ 4096) (hh : h = (s - 2) / 2) (hg : gen ≤ 1099511627777) (hfi : fi = 2 + gen % 2 * h) (hen : en = fi + h) (hb : ∀ i, i < nb → 0 ≤ b i ∧ b i ≤ 255) (hn : n = nb + 4) (hn6 : n ≤ 65536) (hnh : needN n ≤ h) (hf : ∀ i, i < n → f i = sealF nb b i) (hes : en ≤ s) (ha1 : a1 = fi + needN n) (ok : DkOk s d) (hk : putK d n = needN n) (hd1 : d1 = putD d fi n f) (hw : wipeD d1 a1 en = (some m, d2)) (o1 : ¬ offD d1) (k1 : 0 ≤ d1.ca ∧ d1.ca ≤ 9223372036854775807) (o2 : ¬ offD d2) (ok2 : DkOk s d2) (hd3 : d3 = flushD d2) (hhd : hd = headB gen) (o3 : offD d3) :
    FnTr P (Gf fr) 57 [.ptr 0 0, .int .i64 (gen : Int), By nb b] (DHd N d) 3 (Gives (.tup [.lit .i64 0, .lit .i64 6]) (DHd N d3) 3) := by
  have c1 := first_fn (P := P) (G := Gf fr) (S := d.S) (L := d.L) (ar := d.ar) (ca := d.ca) hP hN hs hh hg hfi
  have c2 := end_fn (P := P) (G := Gf fr) (S := d.S) (L := d.L) (ar := d.ar) (ca := d.ca) hP hN hs hh hg hfi hen
  have c3 := seal2_fn (P := P) hP hfr hb (by omega) hn hf
  have c2' := end_fn (P := P) (G := Gf fr) (S := d1.S) (L := d1.L) (ar := d1.ar) (ca := d1.ca) hP hN hs hh hg hfi hen
  have c4 := put_all (P := P) (G := Gf fr) (f := f) hP hN hs.2 ok ⟨by omega, hes⟩ hn6 hk hd1 (at' := (a1 : Int)) (by rw [ha1])
  have c5 := wipe_all (P := P) (G := Gf fr) hP hN hs.2 k1 ⟨by omega, hes⟩ o1 hw
  have c6 := flush_all (P := P) (G := Gf fr) hP hN ⟨by omega, hs.2⟩ ok2 o2 hd3
  have c7 := head_fn (P := P) (G := Gf fr) (g := gen) (f := hd) hP hg (fun i _ => by rw [hhd])
  have c8 := write_off (P := P) (G := Gf fr) (N := N) (n := 64) (S := d3.S) (L := d3.L) (f := hd) (i := ((gen % 2 : Nat) : Int)) hP o3
  clear hfr hh hfi hen hb hn hn6 hnh hf hes ha1 ok hN hs hk hd1 hw o1 k1 o2 ok2 hd3 hhd o3
  have hT : T.Ok P := hP ▸ T_ok
  refine FnTr.introD (fn := Tryd.f57) (fg := Tryd.f86) (g := 86) (by rw [hP]; rfl) rfl rfl (by rw [hP]; rfl) rfl rfl rfl rfl rfl rfl rfl rfl rfl hT ?_
  generalize hA : Ar.real = A
  generalize hK : Gives _ _ _ = K
  cbv
  refine jjS hA (c1) [(0, 0), (1, 1), (2, 2)] ?_
  cbv
  refine jjS hA (c2) [(0, 0), (1, 1), (2, 2)] ?_
  cbv
  refine jjS hA (c3) [] ?_
  cbv
  refine jjS hA (c4) [(0, 0), (1, 1), (2, 2)] ?_
  cbv
  refine jjR hA hT 12 ?_
  cbv
  refine jjP hA (c2') [(0, 0), (1, 1), (2, 2)] ?_
  cbv
  refine jjP hA (c5) [(0, 0), (1, 1), (2, 2)] ?_
  cbv
  refine jjD ?_
  cbv
  refine jjS hA (c6) [(0, 0), (1, 1), (2, 2)] ?_
  cbv
  have kr : A.rem (Int.ofNat gen) 2 = ((gen % 2 : Nat) : Int) := by subst hA; rfl
  refine ⟨jjO, ?_⟩
  refine jjS hA (c7) [] ?_
  cbv
  refine CS.le hA c8 [(0, 0), (1, 1), (2, 2)] rfl rfl rfl ?_ ?_ ?_
  · (try cbv) <;> (repeat' (first | exact trivial | exact rfl | apply And.intro | exact fun _ => rfl | (intro _ hle; first | refine chunk_le hA rfl hle rfl ?_ | refine cat_le hA ?_ | refine upd_le hA ?_ | (try cbv))))
    all_goals first | exact kr | (subst hA; rfl)
  · exact jjL
  cbv
  refine jjR hA hT 1 ?_
  cbv
  refine jjD ?_
  cbv
  refine Fin.le hA 3 [] (.tup [.lit .i64 0, .lit .i64 6]) (DHd N d3) 3 rfl rfl rfl ?_ ?_ jjK
  iterate 2 exact jjL
theorem lay_again (hP : P = Tryd.prog) (hfr : ∀ i, fr i = ((four i).toNat : Int)) (hN : N = 64 * s) (hs : 4 ≤ s ∧ s ≤ 4096) (hh : h = (s - 2) / 2) (hg : gen ≤ 1099511627777) (hfi : fi = 2 + gen % 2 * h) (hen : en = fi + h) (hb : ∀ i, i < nb → 0 ≤ b i ∧ b i ≤ 255) (hn : n = nb + 4) (hn6 : n ≤ 65536) (hnh : needN n ≤ h) (hf : ∀ i, i < n → f i = sealF nb b i) (hes : en ≤ s) (ha1 : a1 = fi + needN n) (ok : DkOk s d) (hk : putK d n = needN n) (hd1 : d1 = putD d fi n f) (hw : wipeD d1 a1 en = (some m, d2)) (o1 : ¬ offD d1) (k1 : 0 ≤ d1.ca ∧ d1.ca ≤ 9223372036854775807) (o2 : ¬ offD d2) (ok2 : DkOk s d2) (hd3 : d3 = flushD d2) (hhd : hd = headB gen) (o3 : ¬ offD d3) (ok3 : DkOk s d3) (hd4 : d4 = writeD d3 (gen % 2) hd) (o4 : offD d4) :
    FnTr P (Gf fr) 57 [.ptr 0 0, .int .i64 (gen : Int), By nb b] (DHd N d) 3 (Gives (.tup [.lit .i64 0, .lit .i64 6]) (DHd N d4) 3) := by
  have c1 := first_fn (P := P) (G := Gf fr) (S := d.S) (L := d.L) (ar := d.ar) (ca := d.ca) hP hN hs hh hg hfi
  have c2 := end_fn (P := P) (G := Gf fr) (S := d.S) (L := d.L) (ar := d.ar) (ca := d.ca) hP hN hs hh hg hfi hen
  have c3 := seal2_fn (P := P) hP hfr hb (by omega) hn hf
  have c2' := end_fn (P := P) (G := Gf fr) (S := d1.S) (L := d1.L) (ar := d1.ar) (ca := d1.ca) hP hN hs hh hg hfi hen
  have c4 := put_all (P := P) (G := Gf fr) (f := f) hP hN hs.2 ok ⟨by omega, hes⟩ hn6 hk hd1 (at' := (a1 : Int)) (by rw [ha1])
  have c5 := wipe_all (P := P) (G := Gf fr) hP hN hs.2 k1 ⟨by omega, hes⟩ o1 hw
  have c6 := flush_all (P := P) (G := Gf fr) hP hN ⟨by omega, hs.2⟩ ok2 o2 hd3
  have c7 := head_fn (P := P) (G := Gf fr) (g := gen) (f := hd) hP hg (fun i _ => by rw [hhd])
  have c8 := write_all (P := P) (G := Gf fr) (f := hd) hP hN hs.2 ok3 o3 (i := gen % 2) (by omega) hd4
  have c9 := flush_off (P := P) (G := Gf fr) (N := N) (S := d4.S) (L := d4.L) hP o4
  clear hfr hh hfi hen hb hn hn6 hnh hf hes ha1 ok hN hs hk hd1 hw o1 k1 o2 ok2 hd3 hhd o3 ok3 hd4 o4
  have hT : T.Ok P := hP ▸ T_ok
  refine FnTr.introD (fn := Tryd.f57) (fg := Tryd.f86) (g := 86) (by rw [hP]; rfl) rfl rfl (by rw [hP]; rfl) rfl rfl rfl rfl rfl rfl rfl rfl rfl hT ?_
  generalize hA : Ar.real = A
  generalize hK : Gives _ _ _ = K
  cbv
  refine jjS hA (c1) [(0, 0), (1, 1), (2, 2)] ?_
  cbv
  refine jjS hA (c2) [(0, 0), (1, 1), (2, 2)] ?_
  cbv
  refine jjS hA (c3) [] ?_
  cbv
  refine jjS hA (c4) [(0, 0), (1, 1), (2, 2)] ?_
  cbv
  refine jjR hA hT 12 ?_
  cbv
  refine jjP hA (c2') [(0, 0), (1, 1), (2, 2)] ?_
  cbv
  refine jjP hA (c5) [(0, 0), (1, 1), (2, 2)] ?_
  cbv
  refine jjD ?_
  cbv
  refine jjS hA (c6) [(0, 0), (1, 1), (2, 2)] ?_
  cbv
  have kr : A.rem (Int.ofNat gen) 2 = ((gen % 2 : Nat) : Int) := by subst hA; rfl
  refine ⟨jjO, ?_⟩
  refine jjS hA (c7) [] ?_
  cbv
  refine CS.le hA c8 [(0, 0), (1, 1), (2, 2)] rfl rfl rfl ?_ ?_ ?_
  · (try cbv) <;> (repeat' (first | exact trivial | exact rfl | apply And.intro | exact fun _ => rfl | (intro _ hle; first | refine chunk_le hA rfl hle rfl ?_ | refine cat_le hA ?_ | refine upd_le hA ?_ | (try cbv))))
    all_goals first | exact kr | (subst hA; rfl)
  · exact jjL
  cbv
  refine jjR hA hT 12 ?_
  cbv
  refine jjP hA (c9) [(0, 0), (1, 1), (2, 2)] ?_
  cbv
  refine jjD ?_
  cbv
  refine Fin.le hA 3 [] (.tup [.lit .i64 0, .lit .i64 6]) (DHd N d4) 3 rfl rfl rfl ?_ ?_ jjK
  iterate 2 exact jjL
theorem lay_ok (hP : P = Tryd.prog) (hfr : ∀ i, fr i = ((four i).toNat : Int)) (hN : N = 64 * s) (hs : 4 ≤ s ∧ s ≤ 4096) (hh : h = (s - 2) / 2) (hg : gen ≤ 1099511627777) (hfi : fi = 2 + gen % 2 * h) (hen : en = fi + h) (hb : ∀ i, i < nb → 0 ≤ b i ∧ b i ≤ 255) (hn : n = nb + 4) (hn6 : n ≤ 65536) (hnh : needN n ≤ h) (hf : ∀ i, i < n → f i = sealF nb b i) (hes : en ≤ s) (ha1 : a1 = fi + needN n) (ok : DkOk s d) (hk : putK d n = needN n) (hd1 : d1 = putD d fi n f) (hw : wipeD d1 a1 en = (some m, d2)) (o1 : ¬ offD d1) (k1 : 0 ≤ d1.ca ∧ d1.ca ≤ 9223372036854775807) (o2 : ¬ offD d2) (ok2 : DkOk s d2) (hd3 : d3 = flushD d2) (hhd : hd = headB gen) (o3 : ¬ offD d3) (ok3 : DkOk s d3) (hd4 : d4 = writeD d3 (gen % 2) hd) (o4 : ¬ offD d4) (ok4 : DkOk s d4) (hd5 : d5 = flushD d4) :
    FnTr P (Gf fr) 57 [.ptr 0 0, .int .i64 (gen : Int), By nb b] (DHd N d) 3 (Gives (.tup [.int .i64 (a1 : Int), .lit .i64 0]) (DHd N d5) 3) := by
  have c1 := first_fn (P := P) (G := Gf fr) (S := d.S) (L := d.L) (ar := d.ar) (ca := d.ca) hP hN hs hh hg hfi
  have c2 := end_fn (P := P) (G := Gf fr) (S := d.S) (L := d.L) (ar := d.ar) (ca := d.ca) hP hN hs hh hg hfi hen
  have c3 := seal2_fn (P := P) hP hfr hb (by omega) hn hf
  have c2' := end_fn (P := P) (G := Gf fr) (S := d1.S) (L := d1.L) (ar := d1.ar) (ca := d1.ca) hP hN hs hh hg hfi hen
  have c4 := put_all (P := P) (G := Gf fr) (f := f) hP hN hs.2 ok ⟨by omega, hes⟩ hn6 hk hd1 (at' := (a1 : Int)) (by rw [ha1])
  have c5 := wipe_all (P := P) (G := Gf fr) hP hN hs.2 k1 ⟨by omega, hes⟩ o1 hw
  have c6 := flush_all (P := P) (G := Gf fr) hP hN ⟨by omega, hs.2⟩ ok2 o2 hd3
  have c7 := head_fn (P := P) (G := Gf fr) (g := gen) (f := hd) hP hg (fun i _ => by rw [hhd])
  have c8 := write_all (P := P) (G := Gf fr) (f := hd) hP hN hs.2 ok3 o3 (i := gen % 2) (by omega) hd4
  have c9 := flush_all (P := P) (G := Gf fr) hP hN ⟨by omega, hs.2⟩ ok4 o4 hd5
  clear hfr hh hfi hen hb hn hn6 hnh hf hes ha1 ok hN hs hk hd1 hw o1 k1 o2 ok2 hd3 hhd o3 ok3 hd4 o4 ok4 hd5
  have hT : T.Ok P := hP ▸ T_ok
  refine FnTr.introD (fn := Tryd.f57) (fg := Tryd.f86) (g := 86) (by rw [hP]; rfl) rfl rfl (by rw [hP]; rfl) rfl rfl rfl rfl rfl rfl rfl rfl rfl hT ?_
  generalize hA : Ar.real = A
  generalize hK : Gives _ _ _ = K
  cbv
  refine jjS hA (c1) [(0, 0), (1, 1), (2, 2)] ?_
  cbv
  refine jjS hA (c2) [(0, 0), (1, 1), (2, 2)] ?_
  cbv
  refine jjS hA (c3) [] ?_
  cbv
  refine jjS hA (c4) [(0, 0), (1, 1), (2, 2)] ?_
  cbv
  refine jjR hA hT 12 ?_
  cbv
  refine jjP hA (c2') [(0, 0), (1, 1), (2, 2)] ?_
  cbv
  refine jjP hA (c5) [(0, 0), (1, 1), (2, 2)] ?_
  cbv
  refine jjD ?_
  cbv
  refine jjS hA (c6) [(0, 0), (1, 1), (2, 2)] ?_
  cbv
  have kr : A.rem (Int.ofNat gen) 2 = ((gen % 2 : Nat) : Int) := by subst hA; rfl
  refine ⟨jjO, ?_⟩
  refine jjS hA (c7) [] ?_
  cbv
  refine CS.le hA c8 [(0, 0), (1, 1), (2, 2)] rfl rfl rfl ?_ ?_ ?_
  · (try cbv) <;> (repeat' (first | exact trivial | exact rfl | apply And.intro | exact fun _ => rfl | (intro _ hle; first | refine chunk_le hA rfl hle rfl ?_ | refine cat_le hA ?_ | refine upd_le hA ?_ | (try cbv))))
    all_goals first | exact kr | (subst hA; rfl)
  · exact jjL
  cbv
  refine jjR hA hT 12 ?_
  cbv
  refine jjP hA (c9) [(0, 0), (1, 1), (2, 2)] ?_
  cbv
  refine jjD ?_
  cbv
  refine Fin.le hA 3 [] (.tup [.int .i64 (a1 : Int), .lit .i64 0]) (DHd N d5) 3 rfl rfl rfl ?_ ?_ jjK
  iterate 2 exact jjL
end
structure Reg (s h gen fi en : Nat) : Prop where
  hs : 4 ≤ s ∧ s ≤ 4096
  hh : h = (s - 2) / 2
  hg : gen ≤ 1099511627777
  hfi : fi = 2 + gen % 2 * h
  hen : en = fi + h
theorem Reg.le {s h gen fi en : Nat} (r : Reg s h gen fi en) : 2 ≤ fi ∧ fi ≤ en ∧ en ≤ s := by
  have h1 := r.hs
  have h2 := r.hh
  have h3 := r.hfi
  have h4 := r.hen
  have : gen % 2 = 0 ∨ gen % 2 = 1 := by omega
  rcases this with e | e <;> rw [e] at h3 <;> omega
theorem lay_fn {P : Program} {fr : Nat → Int} {N s h gen fi en nb n : Nat} {b : Nat → Int} {d d' : Dk} {at' e : Int} (hP : P = Tryd.prog) (hfr : ∀ i, fr i = ((four i).toNat : Int)) (hN : N = 64 * s) (hr : Reg s h gen fi en) (hb : ∀ i, i < nb → 0 ≤ b i ∧ b i ≤ 255) (hn : n = nb + 4) (hn6 : n ≤ 65536) (hnh : needN n ≤ h) (ok : DkOk s d) (hl : LayIs d gen fi en n (sealF nb b) d' at' e) :
    (e = 6 ∧ at' = 0 ∧ FnTr P (Gf fr) 57 [.ptr 0 0, .int .i64 (gen : Int), By nb b] (DHd N d) 3 (Gives (.tup [.lit .i64 0, .lit .i64 6]) (DHd N d') 3)) ∨
    (e = 0 ∧ at' = ((fi + needN n : Nat) : Int) ∧ FnTr P (Gf fr) 57 [.ptr 0 0, .int .i64 (gen : Int), By nb b] (DHd N d) 3 (Gives (.tup [.int .i64 ((fi + needN n : Nat) : Int), .lit .i64 0]) (DHd N d') 3)) := by
  obtain ⟨hs, hh, hg, hfi, hen⟩ := hr
  have hes := (Reg.le ⟨hs, hh, hg, hfi, hen⟩).2.2
  have hF : ∀ i, i < n → sealF nb b i = sealF nb b i := fun _ _ => rfl
  have okp : DkOk s (putD d fi n (sealF nb b)) := ok.put (by omega) (fun i _ => sealF_range hb i)
  have hi2 : gen % 2 < s := by omega
  cases hl with
  | put hk => exact .inl ⟨rfl, rfl, lay_put hP hfr hN hs hh hg hfi hen hb hn hn6 hnh hF hes rfl ok hk rfl⟩
  | wipe0 hk o1 => exact .inl ⟨rfl, rfl, lay_wipe0 hP hfr hN hs hh hg hfi hen hb hn hn6 hnh hF hes rfl ok hk rfl o1⟩
  | wipe hk o1 hw => exact .inl ⟨rfl, rfl, lay_wipe hP hfr hN hs hh hg hfi hen hb hn hn6 hnh hF hes rfl ok hk rfl hw o1 okp.hca⟩
  | flush hk o1 hw o2 => exact .inl ⟨rfl, rfl, lay_flush hP hfr hN hs hh hg hfi hen hb hn hn6 hnh hF hes rfl ok hk rfl hw o1 okp.hca o2⟩
  | write hk o1 hw o2 o3 => exact .inl ⟨rfl, rfl, lay_write hP hfr hN hs hh hg hfi hen hb hn hn6 hnh hF hes rfl ok hk rfl hw o1 okp.hca o2 (okp.wipe ⟨by omega, hes⟩ hw) rfl rfl o3⟩
  | again hk o1 hw o2 o3 o4 =>
    have ok2 := okp.wipe ⟨by omega, hes⟩ hw
    exact .inl ⟨rfl, rfl, lay_again hP hfr hN hs hh hg hfi hen hb hn hn6 hnh hF hes rfl ok hk rfl hw o1 okp.hca o2 ok2 rfl rfl o3 (ok2.flush o2) rfl o4⟩
  | ok hk o1 hw o2 o3 o4 =>
    have ok2 := okp.wipe ⟨by omega, hes⟩ hw
    exact .inr ⟨rfl, rfl, lay_ok hP hfr hN hs hh hg hfi hen hb hn hn6 hnh hF hes rfl ok hk rfl hw o1 okp.hca o2 ok2 rfl rfl o3 (ok2.flush o2) rfl o4 ((ok2.flush o2).write o3 hi2 (fun x _ => headB_range gen x)) rfl⟩
abbrev LgC (gen at' bn : Nat) (b : Nat → Int) (o : NV) (c su : Nat) (dead : Bool) : List SV := [.ptr 0 0, .int .i64 (gen : Int), .int .i64 (at' : Int), By bn b, .sl 4 1 o (.s c), .int .i64 (su : Int), .bs dead]
abbrev LgR (cn : Nat) (nl : Nat → Nat) (nf : Nat → Nat → Int) : Blk := .row 22 1 (.s cn) (fun e => [.ro 1 (.s (nl e.val)) (fun x => [.int .u8 (nf e.val x.val)])])
abbrev LgH (N : Nat) (d : Dk) (gen at' bn : Nat) (b : Nat → Int) (o : NV) (c su : Nat) (dead : Bool) (cn : Nat) (nl : Nat → Nat) (nf : Nat → Nat → Int) : Hl :=
  (3, .cells 94 (LgC gen at' bn b o c su dead)) :: (4, LgR cn nl nf) :: DHd N d
section
variable {P : Program} {fr : Nat → Int} {N s h gen g1 fi en nb n at1 : Nat} {b : Nat → Int} {d d' : Dk}
theorem begin_small {G : Gl} (hP : P = Tryd.prog) (hN : N = 64 * s) (hs : s < 4) :
    FnTr P G 23 [.ptr 0 0, By nb b] (DHd N d) 3 (Gives (.tup [.nilp, .lit .i64 1]) (DHd N d) 5000) := by
  have c1 := wasked_small (P := P) (G := G) (S := d.S) (L := d.L) (ar := d.ar) (ca := d.ca) hP hN hs
  have hT : T.Ok P := hP ▸ T_ok
  refine jjI Tryd.f23 hT ?_
  generalize hA : Ar.real = A
  generalize hK : Gives _ _ _ = K
  cbv
  refine jjS hA (c1) [(0, 0), (1, 1), (2, 2)] ?_
  cbv
  refine Fin.le hA 3 [] (.tup [.nilp, .lit .i64 1]) (DHd N d) 5000 rfl rfl rfl ?_ ?_ jjK
  iterate 2 exact jjL
theorem begin_full {G : Gl} (hP : P = Tryd.prog) (hN : N = 64 * s) (hs : 4 ≤ s ∧ s ≤ 4096) (hh : h = (s - 2) / 2) (hn : nb ≤ 1000000) (hf : 65536 < nb + 4 ∨ h < needN (nb + 4)) :
    FnTr P G 23 [.ptr 0 0, By nb b] (DHd N d) 3 (Gives (.tup [.nilp, .lit .i64 2]) (DHd N d) 5000) := by
  have c1 := wasked_ok (P := P) (G := G) (S := d.S) (L := d.L) (ar := d.ar) (ca := d.ca) hP hN hs
  have c2 := full_fn (P := P) (G := G) (S := d.S) (f := b) (L := d.L) (ar := d.ar) (ca := d.ca) (r := true) hP hN hs hh hn rfl ⟨fun _ => hf, fun _ => rfl⟩
  clear hf
  have hT : T.Ok P := hP ▸ T_ok
  refine jjI Tryd.f23 hT ?_
  generalize hA : Ar.real = A
  generalize hK : Gives _ _ _ = K
  cbv
  refine jjS hA (c1) [(0, 0), (1, 1), (2, 2)] ?_
  cbv
  refine jjT hA (c2) (.bl true) [(0, 0), (1, 1), (2, 2)] ?_
  cbv
  refine Fin.le hA 3 [] (.tup [.nilp, .lit .i64 2]) (DHd N d) 5000 rfl rfl rfl ?_ ?_ jjK
  iterate 2 exact jjL
theorem begin_long {G : Gl} (hP : P = Tryd.prog) (hN : N = 64 * s) (hs : 4 ≤ s ∧ s ≤ 4096) (hh : h = (s - 2) / 2) (hn : nb ≤ 1000000) (hf : ¬ (65536 < nb + 4 ∨ h < needN (nb + 4)))
    (cN : FnTr P G 56 [.ptr 0 0] (DHd N d) 3 (Gives (.tup [.int .i64 (gen : Int), .lit .i64 0]) (DHd N d) 3)) (hg : gen = 1099511627776) :
    FnTr P G 23 [.ptr 0 0, By nb b] (DHd N d) 3 (Gives (.tup [.nilp, .lit .i64 3]) (DHd N d) 5000) := by
  have c1 := wasked_ok (P := P) (G := G) (S := d.S) (L := d.L) (ar := d.ar) (ca := d.ca) hP hN hs
  have c2 := full_fn (P := P) (G := G) (S := d.S) (f := b) (L := d.L) (ar := d.ar) (ca := d.ca) (r := false) hP hN hs hh hn rfl ⟨fun h => (by cases h), fun h => absurd h hf⟩
  clear hf
  have hT : T.Ok P := hP ▸ T_ok
  refine jjI Tryd.f23 hT ?_
  generalize hA : Ar.real = A
  generalize hK : Gives _ _ _ = K
  cbv
  have k1 : A.gt (A.add (gen : Int) 1) 1099511627776 = true := by clear c1 c2 cN; subst hA; simp [Ar.real]; omega
  refine jjS hA (c1) [(0, 0), (1, 1), (2, 2)] ?_
  cbv
  refine jjT hA (c2) (.bl false) [(0, 0), (1, 1), (2, 2)] ?_
  cbv
  refine jjS hA (cN) [(0, 0), (1, 1), (2, 2)] ?_
  cbv
  refine ⟨jjO, ?_⟩
  first | refine testR k1 rfl ?_ | refine testL k1 rfl ?_
  cbv
  refine Fin.le hA 3 [] (.tup [.nilp, .lit .i64 3]) (DHd N d) 5000 rfl rfl rfl ?_ ?_ jjK
  iterate 2 exact jjL
theorem begin_err (hP : P = Tryd.prog) (hN : N = 64 * s) (hs : 4 ≤ s ∧ s ≤ 4096) (hh : h = (s - 2) / 2) (hn : nb ≤ 1000000) (hf : ¬ (65536 < nb + 4 ∨ h < needN (nb + 4)))
    (cN : FnTr P (Gf fr) 56 [.ptr 0 0] (DHd N d) 3 (Gives (.tup [.int .i64 (gen : Int), .lit .i64 0]) (DHd N d) 3)) (hg : gen < 1099511627776) (hg1 : g1 = gen + 1)
    (cL : FnTr P (Gf fr) 57 [.ptr 0 0, .int .i64 (g1 : Int), By nb b] (DHd N d) 3 (Gives (.tup [.lit .i64 0, .lit .i64 6]) (DHd N d') 3)) :
    FnTr P (Gf fr) 23 [.ptr 0 0, By nb b] (DHd N d) 3 (Gives (.tup [.nilp, .lit .i64 6]) (DHd N d') 9000) := by
  have c1 := wasked_ok (P := P) (G := Gf fr) (S := d.S) (L := d.L) (ar := d.ar) (ca := d.ca) hP hN hs
  have c2 := full_fn (P := P) (G := Gf fr) (S := d.S) (f := b) (L := d.L) (ar := d.ar) (ca := d.ca) (r := false) hP hN hs hh hn rfl ⟨fun h => (by cases h), fun h => absurd h hf⟩
  clear hf
  have hT : T.Ok P := hP ▸ T_ok
  refine jjI Tryd.f23 hT ?_
  generalize hA : Ar.real = A
  generalize hK : Gives _ _ _ = K
  cbv
  have k1 : A.gt (A.add (gen : Int) 1) 1099511627776 = false := by clear c1 c2 cN cL; subst hA; simp [Ar.real]; omega
  refine jjS hA (c1) [(0, 0), (1, 1), (2, 2)] ?_
  cbv
  refine jjT hA (c2) (.bl false) [(0, 0), (1, 1), (2, 2)] ?_
  cbv
  refine jjS hA (cN) [(0, 0), (1, 1), (2, 2)] ?_
  cbv
  refine ⟨jjO, ?_⟩
  first | refine testR k1 rfl ?_ | refine testL k1 rfl ?_
  cbv
  refine ⟨jjO, ?_⟩
  refine jjS hA (cL) [(0, 0), (1, 1), (2, 2)] ?_
  cbv
  refine Fin.le hA 3 [] (.tup [.nilp, .lit .i64 6]) (DHd N d') 9000 rfl rfl rfl ?_ ?_ jjK
  iterate 2 exact jjL
theorem begin_ok (hP : P = Tryd.prog) (hN : N = 64 * s) (hs : 4 ≤ s ∧ s ≤ 4096) (hh : h = (s - 2) / 2) (hn : nb ≤ 1000000) (hf : ¬ (65536 < nb + 4 ∨ h < needN (nb + 4)))
    (cN : FnTr P (Gf fr) 56 [.ptr 0 0] (DHd N d) 3 (Gives (.tup [.int .i64 (gen : Int), .lit .i64 0]) (DHd N d) 3)) (hg : gen < 1099511627776) (hg1 : g1 = gen + 1)
    (cL : FnTr P (Gf fr) 57 [.ptr 0 0, .int .i64 (g1 : Int), By nb b] (DHd N d) 3 (Gives (.tup [.int .i64 (at1 : Int), .lit .i64 0]) (DHd N d') 3)) (nl : Nat → Nat) (nf : Nat → Nat → Int) :
    FnTr P (Gf fr) 23 [.ptr 0 0, By nb b] (DHd N d) 3 (Gives (.tup [.ptr 3 0, .lit .i64 0]) (LgH N d' g1 at1 nb b (.l 0) 0 0 false 0 nl nf) 9000) := by
  have c1 := wasked_ok (P := P) (G := Gf fr) (S := d.S) (L := d.L) (ar := d.ar) (ca := d.ca) hP hN hs
  have c2 := full_fn (P := P) (G := Gf fr) (S := d.S) (f := b) (L := d.L) (ar := d.ar) (ca := d.ca) (r := false) hP hN hs hh hn rfl ⟨fun h => (by cases h), fun h => absurd h hf⟩
  have c3 := _root_.Go.Proofs.YtnjjgipblimbfaaDoor.clone_fn (P := P) (G := Gf fr) (n := nb) (f := b) hP (by omega)
  clear hf
  have hT : T.Ok P := hP ▸ T_ok
  refine jjI Tryd.f23 hT ?_
  generalize hA : Ar.real = A
  generalize hK : Gives _ _ _ = K
  cbv
  have k1 : A.gt (A.add (gen : Int) 1) 1099511627776 = false := by clear c1 c2 c3 cN cL; subst hA; simp [Ar.real]; omega
  refine jjS hA (c1) [(0, 0), (1, 1), (2, 2)] ?_
  cbv
  refine jjT hA (c2) (.bl false) [(0, 0), (1, 1), (2, 2)] ?_
  cbv
  refine jjS hA (cN) [(0, 0), (1, 1), (2, 2)] ?_
  cbv
  refine ⟨jjO, ?_⟩
  first | refine testR k1 rfl ?_ | refine testL k1 rfl ?_
  cbv
  refine ⟨jjO, ?_⟩
  refine jjS hA (cL) [(0, 0), (1, 1), (2, 2)] ?_
  cbv
  refine ⟨jjO, ?_⟩
  refine jjS hA (c3) [] ?_
  cbv
  refine Fin.leG hA 3 [(61, 3)] [(4, LgR 0 nl nf)] (.tup [.ptr 3 0, .lit .i64 0]) (LgH N d' g1 at1 nb b (.l 0) 0 0 false 0 nl nf) 9000 rfl rfl rfl ?_ ?_ ?_ jjK
  iterate 2 exact jjL
  · (try cbv) <;> (repeat' (first | exact trivial | exact rfl | apply And.intro | exact fun _ => rfl | (intro _ hle; first | refine chunk_le hA rfl hle rfl ?_ | refine cat_le hA ?_ | refine upd_le hA ?_ | (try cbv))))
    clear k1
    exact jjO
end
section
variable {P : Program} {G : Gl} {N s h gen at1 nb c su cn : Nat} {o : NV} {b : Nat → Int} {d : Dk} {dead : Bool} {nl : Nat → Nat} {nf : Nat → Nat → Int}
theorem alive_ok (hP : P = Tryd.prog) (hd : dead = false) :
    FnTr P G 59 [.ptr 3 0] (LgH N d gen at1 nb b o c su dead cn nl nf) 5 (Gives (.lit .i64 0) (LgH N d gen at1 nb b o c su dead cn nl nf) 5) := by
  have hT : T.Ok P := hP ▸ T_ok
  refine jjI Tryd.f59 hT ?_
  generalize hA : Ar.real = A
  generalize hK : Gives _ _ _ = K
  cbv
  first | refine testR hd rfl ?_ | refine testL hd rfl ?_
  cbv
  refine Fin.le hA 5 [] (.lit .i64 0) (LgH N d gen at1 nb b o c su dead cn nl nf) 5 rfl rfl rfl ?_ ?_ jjK
  iterate 2 exact jjL
theorem alive_dead (hP : P = Tryd.prog) (hd : dead = true) :
    FnTr P G 59 [.ptr 3 0] (LgH N d gen at1 nb b o c su dead cn nl nf) 5 (Gives (.lit .i64 6) (LgH N d gen at1 nb b o c su dead cn nl nf) 5) := by
  have hT : T.Ok P := hP ▸ T_ok
  refine jjI Tryd.f59 hT ?_
  generalize hA : Ar.real = A
  generalize hK : Gives _ _ _ = K
  cbv
  first | refine testR hd rfl ?_ | refine testL hd rfl ?_
  cbv
  refine Fin.le hA 5 [] (.lit .i64 6) (LgH N d gen at1 nb b o c su dead cn nl nf) 5 rfl rfl rfl ?_ ?_ jjK
  iterate 2 exact jjL
theorem told_fn (hP : P = Tryd.prog) (hd : dead = false) :
    FnTr P G 62 [.ptr 3 0, .int .i64 6] (LgH N d gen at1 nb b o c su dead cn nl nf) 5 (Gives (.lit .i64 6) (LgH N d gen at1 nb b o c su true cn nl nf) 5) := by
  have hT : T.Ok P := hP ▸ T_ok
  refine jjI Tryd.f62 hT ?_
  generalize hA : Ar.real = A
  generalize hK : Gives _ _ _ = K
  cbv
  first | refine testR hd rfl ?_ | refine testL hd rfl ?_
  cbv
  refine Fin.le hA 5 [] (.lit .i64 6) (LgH N d gen at1 nb b o c su true cn nl nf) 5 rfl rfl rfl ?_ ?_ jjK
  · exact jjL
  · (try cbv) <;> (repeat' (first | exact trivial | exact rfl | apply And.intro | exact fun _ => rfl | (intro _ hle; first | refine chunk_le hA rfl hle rfl ?_ | refine cat_le hA ?_ | refine upd_le hA ?_ | (try cbv))))
    all_goals (subst hA; rfl)
theorem generation_fn (hP : P = Tryd.prog) :
    FnTr P G 50 [.ptr 3 0] (LgH N d gen at1 nb b o c su dead cn nl nf) 5 (Gives (.int .i64 (gen : Int)) (LgH N d gen at1 nb b o c su dead cn nl nf) 5) := by
  have hT : T.Ok P := hP ▸ T_ok
  refine jjI Tryd.f50 hT ?_
  generalize hA : Ar.real = A
  generalize hK : Gives _ _ _ = K
  cbv
  refine Fin.le hA 5 [] (.int .i64 (gen : Int)) (LgH N d gen at1 nb b o c su dead cn nl nf) 5 rfl rfl rfl ?_ ?_ jjK
  iterate 2 exact jjL
theorem sureof_fn (hP : P = Tryd.prog) :
    FnTr P G 52 [.ptr 3 0] (LgH N d gen at1 nb b o c su dead cn nl nf) 5 (Gives (.int .i64 (su : Int)) (LgH N d gen at1 nb b o c su dead cn nl nf) 5) := by
  have hT : T.Ok P := hP ▸ T_ok
  refine jjI Tryd.f52 hT ?_
  generalize hA : Ar.real = A
  generalize hK : Gives _ _ _ = K
  cbv
  refine Fin.le hA 5 [] (.int .i64 (su : Int)) (LgH N d gen at1 nb b o c su dead cn nl nf) 5 rfl rfl rfl ?_ ?_ jjK
  iterate 2 exact jjL
theorem base_fn (hP : P = Tryd.prog) (hn : nb ≤ 1000000) :
    FnTr P G 33 [.ptr 3 0] (LgH N d gen at1 nb b o c su dead cn nl nf) 5 (Gives (By nb b) (LgH N d gen at1 nb b o c su dead cn nl nf) 100) := by
  have c3 := _root_.Go.Proofs.YtnjjgipblimbfaaDoor.clone_fn (P := P) (G := G) (n := nb) (f := b) hP (by omega)
  have hT : T.Ok P := hP ▸ T_ok
  refine jjI Tryd.f33 hT ?_
  generalize hA : Ar.real = A
  generalize hK : Gives _ _ _ = K
  cbv
  refine jjS hA (c3) [] ?_
  cbv
  refine Fin.le hA 5 [] (By nb b) (LgH N d gen at1 nb b o c su dead cn nl nf) 100 rfl rfl rfl ?_ ?_ jjK
  iterate 2 exact jjL
theorem room_fn (hP : P = Tryd.prog) {fi en : Nat} (hN : N = 64 * s) (hr : Reg s h gen fi en) (ha : at1 ≤ en) :
    FnTr P G 51 [.ptr 3 0] (LgH N d gen at1 nb b o c su dead cn nl nf) 5 (Gives (.int .i64 ((en - at1 : Nat) : Int)) (LgH N d gen at1 nb b o c su dead cn nl nf) 100) := by
  have c1 := end_fn (P := P) (G := G) (S := d.S) (L := d.L) (ar := d.ar) (ca := d.ca) hP hN hr.hs hr.hh hr.hg hr.hfi hr.hen
  have hle := hr.le
  have hs := hr.hs
  obtain ⟨x, hx⟩ : ∃ x, x = en - at1 := ⟨_, rfl⟩
  rw [← hx]
  clear hr hN
  have hT : T.Ok P := hP ▸ T_ok
  refine jjI Tryd.f51 hT ?_
  generalize hA : Ar.real = A
  generalize hK : Gives _ _ _ = K
  cbv
  refine jjR hA hT 12 ?_
  cbv
  refine jjP hA (c1) [(0, 0), (1, 1), (2, 2)] ?_
  cbv
  refine ⟨jjO, ?_⟩
  refine jjD ?_
  cbv
  refine Fin.le hA 5 [] (.int .i64 (x : Int)) (LgH N d gen at1 nb b o c su dead cn nl nf) 100 rfl rfl rfl ?_ ?_ jjK
  · (try cbv) <;> (repeat' (first | exact trivial | exact rfl | apply And.intro | exact fun _ => rfl | (intro _ hle; first | refine chunk_le hA rfl hle rfl ?_ | refine cat_le hA ?_ | refine upd_le hA ?_ | (try cbv))))
    exact jjO
  · exact jjL
theorem fits_no (hP : P = Tryd.prog) {n : Int} {nn : Nat} (hn : nn = n.toNat) (hf : 65532 < nn) :
    FnTr P G 53 [.ptr 3 0, .int .i64 n] (LgH N d gen at1 nb b o c su dead cn nl nf) 5 (Gives (.bs false) (LgH N d gen at1 nb b o c su dead cn nl nf) 200) := by
  have hT : T.Ok P := hP ▸ T_ok
  refine jjI Tryd.f53 hT ?_
  generalize hA : Ar.real = A
  generalize hK : Gives _ _ _ = K
  cbv
  have k1 : A.le (A.max n 0) 65532 = false := by subst hA; simp only [Ar.real]; split <;> simp <;> omega
  first | refine testR k1 rfl ?_ | refine testL k1 rfl ?_
  cbv
  refine Fin.le hA 5 [] (.bs false) (LgH N d gen at1 nb b o c su dead cn nl nf) 200 rfl rfl rfl ?_ ?_ jjK
  iterate 2 exact jjL
theorem fits_fn (hP : P = Tryd.prog) {fi en : Nat} (hN : N = 64 * s) (hr : Reg s h gen fi en) (ha : at1 ≤ en) {n : Int} {nn m : Nat} {r : Bool} (hn : nn = n.toNat) (hf : nn ≤ 65532) (hm : m = needN (nn + 4)) (hrr : r = true ↔ m ≤ en - at1) :
    FnTr P G 53 [.ptr 3 0, .int .i64 n] (LgH N d gen at1 nb b o c su dead cn nl nf) 5 (Gives (.bs r) (LgH N d gen at1 nb b o c su dead cn nl nf) 200) := by
  have c1 := room_fn (P := P) (G := G) (nb := nb) (b := b) (o := o) (c := c) (su := su) (cn := cn) (d := d) (dead := dead) (nl := nl) (nf := nf) hP hN hr ha
  have c2 := need_fn (P := P) (G := G) (n := (nn : Int) + 4) (m := m) hP (by omega) (by rw [hm]; congr 1)
  obtain ⟨x, hx⟩ : ∃ x, x = en - at1 := ⟨_, rfl⟩
  rw [← hx] at c1 hrr
  clear hr hN hx hm
  have hT : T.Ok P := hP ▸ T_ok
  refine jjI Tryd.f53 hT ?_
  generalize hA : Ar.real = A
  generalize hK : Gives _ _ _ = K
  cbv
  have k1 : A.le (A.max n 0) 65532 = true := by clear c1 c2 hrr; subst hA; simp only [Ar.real]; split <;> simp <;> omega
  have k2 : A.add (A.max n 0) 4 = (nn : Int) + 4 := by clear c1 c2 hrr; subst hA; simp only [Ar.real]; split <;> omega
  first | refine testR k1 rfl ?_ | refine testL k1 rfl ?_
  cbv
  refine ⟨by (show A.inR .i64 (A.add (A.max n 0) 4)); rw [k2]; clear c1 c2 hrr; exact jjO, ?_⟩
  refine CS.le hA c2 [] rfl rfl rfl ?_ ?_ ?_
  · (try cbv) <;> (repeat' (first | exact trivial | exact rfl | apply And.intro | exact fun _ => rfl | (intro _ hle; first | refine chunk_le hA rfl hle rfl ?_ | refine cat_le hA ?_ | refine upd_le hA ?_ | (try cbv))))
    all_goals exact k2
  · exact jjL
  cbv
  refine jjS hA (c1) [(0, 0), (1, 1), (2, 2), (3, 3), (4, 4)] ?_
  cbv
  refine Fin.le hA 5 [] (.bs r) (LgH N d gen at1 nb b o c su dead cn nl nf) 200 rfl rfl rfl ?_ ?_ jjK
  · (try cbv) <;> (repeat' (first | exact trivial | exact rfl | apply And.intro | exact fun _ => rfl | (intro _ hle; first | refine chunk_le hA rfl hle rfl ?_ | refine cat_le hA ?_ | refine upd_le hA ?_ | (try cbv))))
    subst hA
    rw [Bool.eq_iff_iff, hrr]
    simp [Ar.real]
  · exact jjL
theorem sync_off (hP : P = Tryd.prog) (hd : dead = false) (ho : offD d) :
    FnTr P G 28 [.ptr 3 0] (LgH N d gen at1 nb b o c su dead cn nl nf) 5 (Gives (.lit .i64 6) (LgH N d gen at1 nb b o c su true cn nl nf) 100) := by
  have c1 := alive_ok (P := P) (G := G) (N := N) (gen := gen) (at1 := at1) (nb := nb) (b := b) (o := o) (c := c) (su := su) (cn := cn) (d := d) (nl := nl) (nf := nf) hP hd
  have c2 := flush_off (P := P) (G := G) (N := N) (S := d.S) (L := d.L) hP ho
  have c3 := told_fn (P := P) (G := G) (N := N) (gen := gen) (at1 := at1) (nb := nb) (b := b) (o := o) (c := c) (su := su) (cn := cn) (d := d) (nl := nl) (nf := nf) hP hd
  have hT : T.Ok P := hP ▸ T_ok
  refine jjI Tryd.f28 hT ?_
  generalize hA : Ar.real = A
  generalize hK : Gives _ _ _ = K
  cbv
  refine jjS hA (c1) [(0, 0), (1, 1), (2, 2), (3, 3), (4, 4)] ?_
  cbv
  refine jjS hA (c2) [(0, 0), (1, 1), (2, 2)] ?_
  cbv
  refine jjS hA (c3) [(0, 0), (1, 1), (2, 2), (3, 3), (4, 4)] ?_
  cbv
  refine Fin.le hA 5 [] (.lit .i64 6) (LgH N d gen at1 nb b o c su true cn nl nf) 100 rfl rfl rfl ?_ ?_ jjK
  iterate 2 exact jjL
theorem sync_dead (hP : P = Tryd.prog) (hd : dead = true) :
    FnTr P G 28 [.ptr 3 0] (LgH N d gen at1 nb b o c su dead cn nl nf) 5 (Gives (.lit .i64 6) (LgH N d gen at1 nb b o c su dead cn nl nf) 100) := by
  have c1 := alive_dead (P := P) (G := G) (N := N) (gen := gen) (at1 := at1) (nb := nb) (b := b) (o := o) (c := c) (su := su) (cn := cn) (d := d) (nl := nl) (nf := nf) hP hd
  have hT : T.Ok P := hP ▸ T_ok
  refine jjI Tryd.f28 hT ?_
  generalize hA : Ar.real = A
  generalize hK : Gives _ _ _ = K
  cbv
  refine jjS hA (c1) [(0, 0), (1, 1), (2, 2), (3, 3), (4, 4)] ?_
  cbv
  refine Fin.le hA 5 [] (.lit .i64 6) (LgH N d gen at1 nb b o c su dead cn nl nf) 100 rfl rfl rfl ?_ ?_ jjK
  iterate 2 exact jjL
theorem sync_ok {d1 : Dk} (hP : P = Tryd.prog) (hd : dead = false) (hN : N = 64 * s) (hs : 1 ≤ s ∧ s ≤ 4096) (ok : DkOk s d) (ho : ¬ offD d) (h1 : d1 = flushD d) :
    FnTr P G 28 [.ptr 3 0] (LgH N d gen at1 nb b o c su dead cn nl nf) 5 (Gives (.lit .i64 0) (LgH N d1 gen at1 nb b o c c dead cn nl nf) 100) := by
  have c1 := alive_ok (P := P) (G := G) (N := N) (gen := gen) (at1 := at1) (nb := nb) (b := b) (o := o) (c := c) (su := su) (cn := cn) (d := d) (nl := nl) (nf := nf) hP hd
  have c2 := flush_all (P := P) (G := G) hP hN hs ok ho h1
  clear ho h1 ok
  have hT : T.Ok P := hP ▸ T_ok
  refine jjI Tryd.f28 hT ?_
  generalize hA : Ar.real = A
  generalize hK : Gives _ _ _ = K
  cbv
  refine jjS hA (c1) [(0, 0), (1, 1), (2, 2), (3, 3), (4, 4)] ?_
  cbv
  refine jjS hA (c2) [(0, 0), (1, 1), (2, 2)] ?_
  cbv
  refine Fin.le hA 5 [] (.lit .i64 0) (LgH N d1 gen at1 nb b o c c dead cn nl nf) 100 rfl rfl rfl ?_ ?_ jjK
  · exact jjL
  · (try cbv) <;> (repeat' (first | exact trivial | exact rfl | apply And.intro | exact fun _ => rfl | (intro _ hle; first | refine chunk_le hA rfl hle rfl ?_ | refine cat_le hA ?_ | refine upd_le hA ?_ | (try cbv))))
    subst hA; rfl
end
abbrev NtS (c : Nat) (nl : Nat → Nat) (nf : Nat → Nat → Int) : SV := .ro 1 (.s c) (fun e => [.ro 1 (.s (nl e.val)) (fun x => [.int .u8 (nf e.val x.val)])])
section
variable {P : Program} {G : Gl} {N s h gen at1 nb c su cn : Nat} {o : NV} {b : Nat → Int} {d : Dk} {dead : Bool} {nl ml : Nat → Nat} {nf mf : Nat → Nat → Int}
theorem notes_own (hP : P = Tryd.prog) (ho : o = .l 0 ∨ ∃ k, o = .s k) (hc : cn = o.val + c) (hcl : c ≤ 1000000) (hl : ∀ i, i < c → ml i = nl (o.val + i) ∧ ml i ≤ 1000000) (hf : ∀ i, i < c → ∀ x, mf i x = nf (o.val + i) x) :
    FnTr P G 35 [.ptr 3 0] (LgH N d gen at1 nb b o c su dead cn nl nf) 5 (Gives (.sl 5 1 (.l 0) (.s c)) ((5, LgR c ml mf) :: LgH N d gen at1 nb b o c su dead cn nl nf) 6) := by
  have c1 : ∀ i, i < c → FnTr P G 47 [By (ml i) (mf i)] [] 0 (Gives (By (ml i) (mf i)) [] 1) := fun i hi => _root_.Go.Proofs.YtnjjgipblimbfaaDoor.clone_fn (P := P) (G := G) (n := ml i) (f := mf i) hP (by have := (hl i hi).2; omega)
  obtain ⟨ov, hov⟩ : ∃ ov, ov = o.val := ⟨_, rfl⟩
  rw [← hov] at hc hl hf
  rcases ho with rfl | ⟨k, rfl⟩
  · have hov : ov = 0 := hov
    have hT : T.Ok P := hP ▸ T_ok
    refine jjI Tryd.f35 hT ?_
    generalize hA : Ar.real = A
    generalize hK : Gives _ _ _ = K
    cbv
    refine LS.ghost 22 1 (.l 0) (fun _ => [.nils]) rfl ?_
    refine LS.le hT hA 5 (fun (i : Nat) => [(13, .int .i64 (i : Int)), (3, .sl 5 1 (.l 0) (.s i))]) (fun i => (5, LgR i ml mf) :: LgH N d gen at1 nb b (.l 0) c su dead cn nl nf) (fun i => i ≤ c) (fun i => c - i) 0 [(15, 5)] rfl rfl ?_ ?_ ?_
    · (try cbv) <;> (repeat' (first | exact trivial | exact rfl | apply And.intro | exact fun _ => rfl | (intro _ hle; first | refine chunk_le hA rfl hle rfl ?_ | refine cat_le hA ?_ | refine upd_le hA ?_ | refine int_le ?_ | skip)))
      all_goals (exfalso; subst hA; exact absurd (ltNV_real.1 hle) (Nat.not_lt_zero _))
    · exact Nat.zero_le _
    · intro R hR i hi
      cbv
      refine ⟨fun q1 => ?_, fun q1 => ?_⟩
      · have hic : i < c := by clear hR c1 hl hf; subst hA; simp [Ar.real] at q1; omega
        have c1 := c1 i hic
        have hl := (hl i hic).1
        have hf := hf i hic
        have kv : (A.nat (Int.ofNat i)) = ov + i := by clear hR c1 hf; rw [hov]; subst hA; show i = 0 + i; omega
        have kl : A.leN (A.addN (A.nat (Int.ofNat i)) 1) cn := by rw [kv]; clear hR c1 hf hl; subst hA; (show ov + i + 1 ≤ cn); omega
        have hpush : ∀ e, ltNV A e (.s (A.addN i 1)) → leL (leSV A 4) (catG A 1 (.s i) (fun e => [.ro 1 (.s (ml e.val)) (fun x => [.int .u8 (mf e.val x.val)])]) (fun x => chunkS A 1 [.ro 1 (.s (ml i)) (fun x => [.int .u8 (mf i x.val)])] (addNV A (.l 0) x)) e) [.ro 1 (.s (ml e.val)) (fun x => [.int .u8 (mf e.val x.val)])] := fun e he => by
          have he : e.val < i + 1 := by subst hA; exact ltNV_real.1 he
          exact rows_push (len := ml) (len' := ml) (g := mf) (g' := mf) (h := mf i) hA (by omega) (by split; rfl; rw [show e.val = i by omega]) (fun j _ => by split; rfl; rw [show e.val = i by omega])
        cbv
        refine ⟨jjO, kl, ?_⟩
        refine CS.le hA c1 [] rfl rfl rfl ?_ ?_ ?_
        · clear hR
          (try cbv) <;> (repeat' (first | exact trivial | exact rfl | apply And.intro | exact fun _ => rfl | (intro _ hle; first | refine chunk_le hA rfl hle rfl ?_ | refine cat_le hA ?_ | refine upd_le hA ?_ | (try cbv))))
          all_goals first | (show nl (A.nat (Int.ofNat i)) = _; rw [kv]; exact hl.symm) | (show nf (A.nat (Int.ofNat i)) _ = _; rw [kv]; exact (hf _).symm)
        · clear hR
          (try cbv) <;> (repeat' (first | exact trivial | exact rfl | apply And.intro | exact fun _ => rfl | (intro _ hle; first | refine chunk_le hA rfl hle rfl ?_ | refine cat_le hA ?_ | refine upd_le hA ?_ | (try cbv))))
        cbv
        clear kv kl c1 hl hf
        refine ⟨⟨?_, ?_, ?_⟩, ?_, hR _ _ ⟨i + 1, 5, [(14, 5)], rfl, rfl, ?_, hic, (by show c - (i + 1) < c - i; omega)⟩⟩
        iterate 4 exact jjO
        clear hR
        (try cbv) <;> (repeat' (first | exact trivial | exact rfl | apply And.intro | exact fun _ => rfl | (intro _ hle; first | exact hpush _ hle | refine chunk_le hA rfl hle rfl ?_ | refine cat_le hA ?_ | refine upd_le hA ?_ | refine int_le ?_ | skip)))
        all_goals exact jjO
      · have hic : i = c := by clear hR c1 hl hf; subst hA; simp [Ar.real] at q1; omega
        subst hic
        clear hR c1 hl hf
        cbv
        refine Fin.le hA 5 [(5, 5)] (.sl 5 1 (.l 0) (.s i)) ((5, LgR i ml mf) :: LgH N d gen at1 nb b (.l 0) i su dead cn nl nf) 6 rfl rfl rfl ?_ ?_ jjK
        · (try cbv) <;> (repeat' (first | exact trivial | exact rfl | apply And.intro | exact fun _ => rfl | (intro _ hle; first | refine chunk_le hA rfl hle rfl ?_ | refine cat_le hA ?_ | refine upd_le hA ?_ | refine int_le ?_ | skip)))
        · (try cbv) <;> (repeat' (first | exact trivial | exact rfl | apply And.intro | exact fun _ => rfl | (intro _ hle; first | refine chunk_le hA rfl hle rfl ?_ | refine cat_le hA ?_ | refine upd_le hA ?_ | refine int_le ?_ | skip)))
  · have hov : ov = k := hov
    have hT : T.Ok P := hP ▸ T_ok
    refine jjI Tryd.f35 hT ?_
    generalize hA : Ar.real = A
    generalize hK : Gives _ _ _ = K
    cbv
    refine LS.ghost 22 1 (.l 0) (fun _ => [.nils]) rfl ?_
    refine LS.le hT hA 5 (fun (i : Nat) => [(13, .int .i64 (i : Int)), (3, .sl 5 1 (.l 0) (.s i))]) (fun i => (5, LgR i ml mf) :: LgH N d gen at1 nb b (.s k) c su dead cn nl nf) (fun i => i ≤ c) (fun i => c - i) 0 [(15, 5)] rfl rfl ?_ ?_ ?_
    · (try cbv) <;> (repeat' (first | exact trivial | exact rfl | apply And.intro | exact fun _ => rfl | (intro _ hle; first | refine chunk_le hA rfl hle rfl ?_ | refine cat_le hA ?_ | refine upd_le hA ?_ | refine int_le ?_ | skip)))
      all_goals (exfalso; subst hA; exact absurd (ltNV_real.1 hle) (Nat.not_lt_zero _))
    · exact Nat.zero_le _
    · intro R hR i hi
      cbv
      refine ⟨fun q1 => ?_, fun q1 => ?_⟩
      · have hic : i < c := by clear hR c1 hl hf; subst hA; simp [Ar.real] at q1; omega
        have c1 := c1 i hic
        have hl := (hl i hic).1
        have hf := hf i hic
        have kv : (A.addN k (A.nat (Int.ofNat i))) = ov + i := by clear hR c1 hf; rw [hov]; subst hA; rfl
        have kl : A.leN (A.addN (A.addN k (A.nat (Int.ofNat i))) 1) cn := by rw [kv]; clear hR c1 hf hl; subst hA; (show ov + i + 1 ≤ cn); omega
        have hpush : ∀ e, ltNV A e (.s (A.addN i 1)) → leL (leSV A 4) (catG A 1 (.s i) (fun e => [.ro 1 (.s (ml e.val)) (fun x => [.int .u8 (mf e.val x.val)])]) (fun x => chunkS A 1 [.ro 1 (.s (ml i)) (fun x => [.int .u8 (mf i x.val)])] (addNV A (.l 0) x)) e) [.ro 1 (.s (ml e.val)) (fun x => [.int .u8 (mf e.val x.val)])] := fun e he => by
          have he : e.val < i + 1 := by subst hA; exact ltNV_real.1 he
          exact rows_push (len := ml) (len' := ml) (g := mf) (g' := mf) (h := mf i) hA (by omega) (by split; rfl; rw [show e.val = i by omega]) (fun j _ => by split; rfl; rw [show e.val = i by omega])
        cbv
        refine ⟨jjO, kl, ?_⟩
        refine CS.le hA c1 [] rfl rfl rfl ?_ ?_ ?_
        · clear hR
          (try cbv) <;> (repeat' (first | exact trivial | exact rfl | apply And.intro | exact fun _ => rfl | (intro _ hle; first | refine chunk_le hA rfl hle rfl ?_ | refine cat_le hA ?_ | refine upd_le hA ?_ | (try cbv))))
          all_goals first | (show nl (A.addN k (A.nat (Int.ofNat i))) = _; rw [kv]; exact hl.symm) | (show nf (A.addN k (A.nat (Int.ofNat i))) _ = _; rw [kv]; exact (hf _).symm)
        · clear hR
          (try cbv) <;> (repeat' (first | exact trivial | exact rfl | apply And.intro | exact fun _ => rfl | (intro _ hle; first | refine chunk_le hA rfl hle rfl ?_ | refine cat_le hA ?_ | refine upd_le hA ?_ | (try cbv))))
        cbv
        clear kv kl c1 hl hf
        refine ⟨⟨?_, ?_, ?_⟩, ?_, hR _ _ ⟨i + 1, 5, [(14, 5)], rfl, rfl, ?_, hic, (by show c - (i + 1) < c - i; omega)⟩⟩
        iterate 4 exact jjO
        clear hR
        (try cbv) <;> (repeat' (first | exact trivial | exact rfl | apply And.intro | exact fun _ => rfl | (intro _ hle; first | exact hpush _ hle | refine chunk_le hA rfl hle rfl ?_ | refine cat_le hA ?_ | refine upd_le hA ?_ | refine int_le ?_ | skip)))
        all_goals exact jjO
      · have hic : i = c := by clear hR c1 hl hf; subst hA; simp [Ar.real] at q1; omega
        subst hic
        clear hR c1 hl hf
        cbv
        refine Fin.le hA 5 [(5, 5)] (.sl 5 1 (.l 0) (.s i)) ((5, LgR i ml mf) :: LgH N d gen at1 nb b (.s k) i su dead cn nl nf) 6 rfl rfl rfl ?_ ?_ jjK
        · (try cbv) <;> (repeat' (first | exact trivial | exact rfl | apply And.intro | exact fun _ => rfl | (intro _ hle; first | refine chunk_le hA rfl hle rfl ?_ | refine cat_le hA ?_ | refine upd_le hA ?_ | refine int_le ?_ | skip)))
        · (try cbv) <;> (repeat' (first | exact trivial | exact rfl | apply And.intro | exact fun _ => rfl | (intro _ hle; first | refine chunk_le hA rfl hle rfl ?_ | refine cat_le hA ?_ | refine upd_le hA ?_ | refine int_le ?_ | skip)))
theorem notes_fn (hP : P = Tryd.prog) (ho : o = .l 0 ∨ ∃ k, o = .s k) (hc : cn = o.val + c) (hcl : c ≤ 1000000) (hl : ∀ i, i < c → ml i = nl (o.val + i) ∧ ml i ≤ 1000000) (hf : ∀ i, i < c → ∀ x, mf i x = nf (o.val + i) x) :
    FnTr P G 35 [.ptr 3 0] (LgH N d gen at1 nb b o c su dead cn nl nf) 5 (Gives (NtS c ml mf) (LgH N d gen at1 nb b o c su dead cn nl nf) 6) := by
  have h1 := notes_own (P := P) (G := G) (N := N) (gen := gen) (at1 := at1) (nb := nb) (b := b) (su := su) (d := d) (dead := dead) hP ho hc hcl hl hf
  generalize hA : Ar.real = A
  refine FnTr.dat hA h1 _ _ ?_
  (try cbv) <;> (repeat' (first | exact trivial | exact rfl | apply And.intro | exact fun _ => rfl | (intro _ hle; first | refine chunk_le hA rfl hle rfl ?_ | refine cat_le hA ?_ | refine upd_le hA ?_ | refine int_le ?_ | skip)))
  all_goals exact jjO
end
abbrev LgQ (q : Nat) (N : Nat) (d : Dk) (gen at' bn : Nat) (b : Nat → Int) (o : NV) (c su : Nat) (dead : Bool) (cn : Nat) (nl : Nat → Nat) (nf : Nat → Nat → Int) : Hl :=
  (3, .cells 94 [.ptr 0 0, .int .i64 (gen : Int), .int .i64 (at' : Int), By bn b, .sl q 1 o (.s c), .int .i64 (su : Int), .bs dead]) :: (q, LgR cn nl nf) :: DHd N d
section
variable {P : Program} {fr : Nat → Int} {N s h gen fi en at1 at2 nb c su cn n m k : Nat} {b f : Nat → Int} {o : NV} {d d1 : Dk} {dead : Bool} {nl ml : Nat → Nat} {nf mf : Nat → Nat → Int}
theorem append_dead {G : Gl} (hP : P = Tryd.prog) (hd : dead = true) :
    FnTr P G 26 [.ptr 3 0, By n f] (LgH N d gen at1 nb b o c su dead cn nl nf) 5 (Gives (.lit .i64 6) (LgH N d gen at1 nb b o c su dead cn nl nf) 3000) := by
  have c1 := alive_dead (P := P) (G := G) (N := N) (gen := gen) (at1 := at1) (nb := nb) (b := b) (o := o) (c := c) (su := su) (cn := cn) (d := d) (nl := nl) (nf := nf) hP hd
  have hT : T.Ok P := hP ▸ T_ok
  refine jjI Tryd.f26 hT ?_
  generalize hA : Ar.real = A
  generalize hK : Gives _ _ _ = K
  cbv
  refine jjS hA (c1) [(0, 0), (1, 1), (2, 2), (3, 3), (4, 4)] ?_
  cbv
  refine Fin.le hA 5 [] (.lit .i64 6) (LgH N d gen at1 nb b o c su dead cn nl nf) 3000 rfl rfl rfl ?_ ?_ jjK
  iterate 2 exact jjL
theorem append_full {G : Gl} (hP : P = Tryd.prog) (hd : dead = false)
    (cF : FnTr P G 53 [.ptr 3 0, .int .i64 (n : Int)] (LgH N d gen at1 nb b o c su dead cn nl nf) 5 (Gives (.bs false) (LgH N d gen at1 nb b o c su dead cn nl nf) 200)) :
    FnTr P G 26 [.ptr 3 0, By n f] (LgH N d gen at1 nb b o c su dead cn nl nf) 5 (Gives (.lit .i64 2) (LgH N d gen at1 nb b o c su dead cn nl nf) 3000) := by
  have c1 := alive_ok (P := P) (G := G) (N := N) (gen := gen) (at1 := at1) (nb := nb) (b := b) (o := o) (c := c) (su := su) (cn := cn) (d := d) (nl := nl) (nf := nf) hP hd
  have hT : T.Ok P := hP ▸ T_ok
  refine jjI Tryd.f26 hT ?_
  generalize hA : Ar.real = A
  generalize hK : Gives _ _ _ = K
  cbv
  refine jjS hA (c1) [(0, 0), (1, 1), (2, 2), (3, 3), (4, 4)] ?_
  cbv
  refine jjT hA (cF) (.bl false) [(0, 0), (1, 1), (2, 2), (3, 3), (4, 4)] ?_
  cbv
  refine Fin.le hA 5 [] (.lit .i64 2) (LgH N d gen at1 nb b o c su dead cn nl nf) 3000 rfl rfl rfl ?_ ?_ jjK
  iterate 2 exact jjL
theorem append_part (hP : P = Tryd.prog) (hfr : ∀ i, fr i = ((four i).toNat : Int)) (hd : dead = false) (hN : N = 64 * s) (hr : Reg s h gen fi en) (hb : ∀ i, i < n → 0 ≤ f i ∧ f i ≤ 255) (hn6 : n + 4 ≤ 65536) (hm : m = n + 4) (hg : ∀ i, i < m → mf 0 i = sealF n f i) (ok : DkOk s d) (hfit : at1 + needN m ≤ en) (hk : putK d m < needN m) (h1 : d1 = putD d at1 m (mf 0))
    (cF : FnTr P (Gf fr) 53 [.ptr 3 0, .int .i64 (n : Int)] (LgH N d gen at1 nb b o c su dead cn nl nf) 5 (Gives (.bs true) (LgH N d gen at1 nb b o c su dead cn nl nf) 200)) :
    FnTr P (Gf fr) 26 [.ptr 3 0, By n f] (LgH N d gen at1 nb b o c su dead cn nl nf) 5 (Gives (.lit .i64 6) (LgH N d1 gen at1 nb b o c su true cn nl nf) 3000) := by
  have c1 := alive_ok (P := P) (G := Gf fr) (N := N) (gen := gen) (at1 := at1) (nb := nb) (b := b) (o := o) (c := c) (su := su) (cn := cn) (d := d) (nl := nl) (nf := nf) hP hd
  have c2 := end_fn (P := P) (G := Gf fr) (S := d.S) (L := d.L) (ar := d.ar) (ca := d.ca) hP hN hr.hs hr.hh hr.hg hr.hfi hr.hen
  have c3 := seal2_fn (P := P) hP hfr hb (by omega) hm hg
  have c4 := put_part (P := P) (G := Gf fr) (f := mf 0) hP hN hr.hs.2 ok ⟨hfit, hr.le.2.2⟩ (by omega) hk h1
  have c5 := told_fn (P := P) (G := Gf fr) (N := N) (gen := gen) (at1 := at1) (nb := nb) (b := b) (o := o) (c := c) (su := su) (cn := cn) (d := d1) (nl := nl) (nf := nf) hP hd
  clear hfr hr hb hn6 hm hg ok hfit hk h1 hN
  have hT : T.Ok P := hP ▸ T_ok
  refine jjI Tryd.f26 hT ?_
  generalize hA : Ar.real = A
  generalize hK : Gives _ _ _ = K
  cbv
  refine jjS hA (c1) [(0, 0), (1, 1), (2, 2), (3, 3), (4, 4)] ?_
  cbv
  refine jjT hA (cF) (.bl true) [(0, 0), (1, 1), (2, 2), (3, 3), (4, 4)] ?_
  cbv
  refine jjR hA hT 30 ?_
  cbv
  refine jjP hA (c2) [(0, 0), (1, 1), (2, 2)] ?_
  cbv
  refine jjP hA (c3) [] ?_
  cbv
  refine jjP hA (c4) [(0, 0), (1, 1), (2, 2)] ?_
  cbv
  refine jjD ?_
  cbv
  refine jjS hA (c5) [(0, 0), (1, 1), (2, 2), (3, 3), (4, 4)] ?_
  cbv
  refine Fin.le hA 5 [] (.lit .i64 6) (LgH N d1 gen at1 nb b o c su true cn nl nf) 3000 rfl rfl rfl ?_ ?_ jjK
  iterate 2 exact jjL
theorem append_ok (hP : P = Tryd.prog) (hfr : ∀ i, fr i = ((four i).toNat : Int)) (hd : dead = false) (hN : N = 64 * s) (hr : Reg s h gen fi en) (hb : ∀ i, i < n → 0 ≤ f i ∧ f i ≤ 255) (hn6 : n + 4 ≤ 65536) (hm : m = n + 4) (hg : ∀ i, i < m → b i = b i) {g : Nat → Int} (hgg : ∀ i, i < m → g i = sealF n f i) (ok : DkOk s d) (hfit : at1 + needN m ≤ en) (hk : putK d m = needN m) (h1 : d1 = putD d at1 m g) (ha : at2 = at1 + needN m) (hcl : c ≤ 1000000) {c2 : Nat} (hc2 : c2 = c + 1)
    (hl : ∀ i, ml i = if i < c then nl i else n) (hf : ∀ i x, mf i x = if i < c then nf i x else f x)
    (cF : FnTr P (Gf fr) 53 [.ptr 3 0, .int .i64 (n : Int)] (LgH N d gen at1 nb b (.l 0) c su dead c nl nf) 5 (Gives (.bs true) (LgH N d gen at1 nb b (.l 0) c su dead c nl nf) 200)) :
    FnTr P (Gf fr) 26 [.ptr 3 0, By n f] (LgH N d gen at1 nb b (.l 0) c su dead c nl nf) 5 (Gives (.lit .i64 0) (LgQ 5 N d1 gen at2 nb b (.l 0) c2 su dead c2 ml mf) 3000) := by
  have c1 := alive_ok (P := P) (G := Gf fr) (N := N) (gen := gen) (at1 := at1) (nb := nb) (b := b) (o := .l 0) (c := c) (su := su) (cn := c) (d := d) (nl := nl) (nf := nf) hP hd
  have e2 := end_fn (P := P) (G := Gf fr) (S := d.S) (L := d.L) (ar := d.ar) (ca := d.ca) hP hN hr.hs hr.hh hr.hg hr.hfi hr.hen
  have c3 := seal2_fn (P := P) hP hfr hb (by omega) hm hgg
  have c4 := put_all (P := P) (G := Gf fr) (f := g) (at' := (at2 : Int)) hP hN hr.hs.2 ok ⟨hfit, hr.le.2.2⟩ (by omega) hk h1 (by rw [ha])
  have c5 := _root_.Go.Proofs.YtnjjgipblimbfaaDoor.clone_fn (P := P) (G := Gf fr) (n := n) (f := f) hP (by omega)
  have hpush : ∀ {A : Ar}, Ar.real = A → ∀ e, ltNV A e (.s (A.addN c 1)) → leL (leSV A 4) (catG A 1 (.s c) (fun e => [.ro 1 (.s (nl e.val)) (fun x => [.int .u8 (nf e.val x.val)])]) (fun x => chunkS A 1 [.ro 1 (.s n) (fun x => [.int .u8 (f x.val)])] (addNV A (.l 0) x)) e) [.ro 1 (.s (ml e.val)) (fun x => [.int .u8 (mf e.val x.val)])] := fun {A} hA e he => by
    have he : e.val < c + 1 := by subst hA; exact ltNV_real.1 he
    exact rows_push (len := nl) (len' := ml) (g := nf) (g' := mf) (h := f) hA (by omega) (hl _) (fun j _ => hf _ j)
  clear hfr hr hb hm hgg ok hfit hk h1 hN hl hf
  have hT : T.Ok P := hP ▸ T_ok
  refine jjI Tryd.f26 hT ?_
  generalize hA : Ar.real = A
  generalize hK : Gives _ _ _ = K
  cbv
  have hpush := hpush hA
  refine jjS hA (c1) [(0, 0), (1, 1), (2, 2), (3, 3), (4, 4)] ?_
  cbv
  refine jjT hA (cF) (.bl true) [(0, 0), (1, 1), (2, 2), (3, 3), (4, 4)] ?_
  cbv
  refine jjR hA hT 30 ?_
  cbv
  refine jjP hA (e2) [(0, 0), (1, 1), (2, 2)] ?_
  cbv
  refine jjP hA (c3) [] ?_
  cbv
  refine jjP hA (c4) [(0, 0), (1, 1), (2, 2)] ?_
  cbv
  refine jjD ?_
  cbv
  refine jjR hA hT 30 ?_
  cbv
  refine jjP hA (c5) [] ?_
  cbv
  refine ⟨⟨?_, ?_, ?_⟩, ?_⟩
  iterate 3 exact jjO
  refine jjD ?_
  cbv
  refine Fin.le hA 5 [(1216, 5)] (.lit .i64 0) (LgQ 5 N d1 gen at2 nb b (.l 0) c2 su dead c2 ml mf) 3000 rfl rfl rfl ?_ ?_ jjK
  · exact jjL
  · clear c1 e2 c3 c4 c5 cF
    (try cbv) <;> (repeat' (first | exact trivial | exact rfl | apply And.intro | exact fun _ => rfl | (intro _ hle; first | exact hpush _ hle | refine chunk_le hA rfl hle rfl ?_ | refine cat_le hA ?_ | refine upd_le hA ?_ | refine int_le ?_ | skip)))
    all_goals (subst hc2; subst hA; rfl)
end
section
variable {P : Program} {fr : Nat → Int} {N s h gen g1 at1 at2 nb c su cn n : Nat} {b f : Nat → Int} {o : NV} {d d1 : Dk} {dead : Bool} {nl ml : Nat → Nat} {nf mf : Nat → Nat → Int}
theorem switch_dead {G : Gl} (hP : P = Tryd.prog) (hd : dead = true) :
    FnTr P G 38 [.ptr 3 0, By n f] (LgH N d gen at1 nb b o c su dead cn nl nf) 5 (Gives (.lit .i64 6) (LgH N d gen at1 nb b o c su dead cn nl nf) 3000) := by
  have c1 := alive_dead (P := P) (G := G) (N := N) (gen := gen) (at1 := at1) (nb := nb) (b := b) (o := o) (c := c) (su := su) (cn := cn) (d := d) (nl := nl) (nf := nf) hP hd
  have hT : T.Ok P := hP ▸ T_ok
  refine jjI Tryd.f38 hT ?_
  generalize hA : Ar.real = A
  generalize hK : Gives _ _ _ = K
  cbv
  refine jjS hA (c1) [(0, 0), (1, 1), (2, 2), (3, 3), (4, 4)] ?_
  cbv
  refine Fin.le hA 5 [] (.lit .i64 6) (LgH N d gen at1 nb b o c su dead cn nl nf) 3000 rfl rfl rfl ?_ ?_ jjK
  iterate 2 exact jjL
theorem switch_full {G : Gl} (hP : P = Tryd.prog) (hd : dead = false) (hN : N = 64 * s) (hs : 4 ≤ s ∧ s ≤ 4096) (hh : h = (s - 2) / 2) (hn : n ≤ 1000000) (hf : 65536 < n + 4 ∨ h < needN (n + 4)) :
    FnTr P G 38 [.ptr 3 0, By n f] (LgH N d gen at1 nb b o c su dead cn nl nf) 5 (Gives (.lit .i64 2) (LgH N d gen at1 nb b o c su dead cn nl nf) 3000) := by
  have c1 := alive_ok (P := P) (G := G) (N := N) (gen := gen) (at1 := at1) (nb := nb) (b := b) (o := o) (c := c) (su := su) (cn := cn) (d := d) (nl := nl) (nf := nf) hP hd
  have c2 := full_fn (P := P) (G := G) (S := d.S) (f := f) (L := d.L) (ar := d.ar) (ca := d.ca) (r := true) hP hN hs hh hn rfl ⟨fun _ => hf, fun _ => rfl⟩
  clear hf
  have hT : T.Ok P := hP ▸ T_ok
  refine jjI Tryd.f38 hT ?_
  generalize hA : Ar.real = A
  generalize hK : Gives _ _ _ = K
  cbv
  refine jjS hA (c1) [(0, 0), (1, 1), (2, 2), (3, 3), (4, 4)] ?_
  cbv
  refine jjT hA (c2) (.bl true) [(0, 0), (1, 1), (2, 2)] ?_
  cbv
  refine Fin.le hA 5 [] (.lit .i64 2) (LgH N d gen at1 nb b o c su dead cn nl nf) 3000 rfl rfl rfl ?_ ?_ jjK
  iterate 2 exact jjL
theorem switch_long {G : Gl} (hP : P = Tryd.prog) (hd : dead = false) (hN : N = 64 * s) (hs : 4 ≤ s ∧ s ≤ 4096) (hh : h = (s - 2) / 2) (hn : n ≤ 1000000) (hf : ¬ (65536 < n + 4 ∨ h < needN (n + 4))) (hg : gen = 1099511627776) :
    FnTr P G 38 [.ptr 3 0, By n f] (LgH N d gen at1 nb b o c su dead cn nl nf) 5 (Gives (.lit .i64 3) (LgH N d gen at1 nb b o c su dead cn nl nf) 3000) := by
  have c1 := alive_ok (P := P) (G := G) (N := N) (gen := gen) (at1 := at1) (nb := nb) (b := b) (o := o) (c := c) (su := su) (cn := cn) (d := d) (nl := nl) (nf := nf) hP hd
  have c2 := full_fn (P := P) (G := G) (S := d.S) (f := f) (L := d.L) (ar := d.ar) (ca := d.ca) (r := false) hP hN hs hh hn rfl ⟨fun h => (by cases h), fun h => absurd h hf⟩
  clear hf
  have hT : T.Ok P := hP ▸ T_ok
  refine jjI Tryd.f38 hT ?_
  generalize hA : Ar.real = A
  generalize hK : Gives _ _ _ = K
  cbv
  have k1 : A.gt (A.add (gen : Int) 1) 1099511627776 = true := by clear c1 c2; subst hA; simp [Ar.real]; omega
  refine jjS hA (c1) [(0, 0), (1, 1), (2, 2), (3, 3), (4, 4)] ?_
  cbv
  refine jjT hA (c2) (.bl false) [(0, 0), (1, 1), (2, 2)] ?_
  cbv
  refine ⟨jjO, ?_⟩
  first | refine testR k1 rfl ?_ | refine testL k1 rfl ?_
  cbv
  refine Fin.le hA 5 [] (.lit .i64 3) (LgH N d gen at1 nb b o c su dead cn nl nf) 3000 rfl rfl rfl ?_ ?_ jjK
  iterate 2 exact jjL
theorem switch_err (hP : P = Tryd.prog) (hd : dead = false) (hN : N = 64 * s) (hs : 4 ≤ s ∧ s ≤ 4096) (hh : h = (s - 2) / 2) (hn : n ≤ 1000000) (hf : ¬ (65536 < n + 4 ∨ h < needN (n + 4))) (hg : gen < 1099511627776) (hg1 : g1 = gen + 1)
    (cL : FnTr P (Gf fr) 57 [.ptr 0 0, .int .i64 (g1 : Int), By n f] (DHd N d) 3 (Gives (.tup [.lit .i64 0, .lit .i64 6]) (DHd N d1) 3)) :
    FnTr P (Gf fr) 38 [.ptr 3 0, By n f] (LgH N d gen at1 nb b o c su dead cn nl nf) 5 (Gives (.lit .i64 6) (LgH N d1 gen at1 nb b o c su true cn nl nf) 5000) := by
  have c1 := alive_ok (P := P) (G := Gf fr) (N := N) (gen := gen) (at1 := at1) (nb := nb) (b := b) (o := o) (c := c) (su := su) (cn := cn) (d := d) (nl := nl) (nf := nf) hP hd
  have c2 := full_fn (P := P) (G := Gf fr) (S := d.S) (f := f) (L := d.L) (ar := d.ar) (ca := d.ca) (r := false) hP hN hs hh hn rfl ⟨fun h => (by cases h), fun h => absurd h hf⟩
  have c5 := told_fn (P := P) (G := Gf fr) (N := N) (gen := gen) (at1 := at1) (nb := nb) (b := b) (o := o) (c := c) (su := su) (cn := cn) (d := d1) (nl := nl) (nf := nf) hP hd
  clear hf
  have hT : T.Ok P := hP ▸ T_ok
  refine jjI Tryd.f38 hT ?_
  generalize hA : Ar.real = A
  generalize hK : Gives _ _ _ = K
  cbv
  have k1 : A.gt (A.add (gen : Int) 1) 1099511627776 = false := by clear c1 c2 c5 cL; subst hA; simp [Ar.real]; omega
  refine jjS hA (c1) [(0, 0), (1, 1), (2, 2), (3, 3), (4, 4)] ?_
  cbv
  refine jjT hA (c2) (.bl false) [(0, 0), (1, 1), (2, 2)] ?_
  cbv
  refine ⟨jjO, ?_⟩
  first | refine testR k1 rfl ?_ | refine testL k1 rfl ?_
  cbv
  refine jjR hA hT 30 ?_
  cbv
  refine ⟨jjO, ?_⟩
  refine jjP hA (cL) [(0, 0), (1, 1), (2, 2)] ?_
  cbv
  refine jjD ?_
  cbv
  refine jjS hA (c5) [(0, 0), (1, 1), (2, 2), (3, 3), (4, 4)] ?_
  cbv
  refine Fin.le hA 5 [] (.lit .i64 6) (LgH N d1 gen at1 nb b o c su true cn nl nf) 5000 rfl rfl rfl ?_ ?_ jjK
  iterate 2 exact jjL
theorem switch_ok (hP : P = Tryd.prog) (hd : dead = false) (hN : N = 64 * s) (hs : 4 ≤ s ∧ s ≤ 4096) (hh : h = (s - 2) / 2) (hn : n ≤ 1000000) (hf : ¬ (65536 < n + 4 ∨ h < needN (n + 4))) (hg : gen < 1099511627776) (hg1 : g1 = gen + 1)
    (cL : FnTr P (Gf fr) 57 [.ptr 0 0, .int .i64 (g1 : Int), By n f] (DHd N d) 3 (Gives (.tup [.int .i64 (at2 : Int), .lit .i64 0]) (DHd N d1) 3)) :
    FnTr P (Gf fr) 38 [.ptr 3 0, By n f] (LgH N d gen at1 nb b o c su dead cn nl nf) 5 (Gives (.lit .i64 0) (LgQ 5 N d1 g1 at2 n f (.l 0) 0 0 false 0 ml mf) 5000) := by
  have c1 := alive_ok (P := P) (G := Gf fr) (N := N) (gen := gen) (at1 := at1) (nb := nb) (b := b) (o := o) (c := c) (su := su) (cn := cn) (d := d) (nl := nl) (nf := nf) hP hd
  have c2 := full_fn (P := P) (G := Gf fr) (S := d.S) (f := f) (L := d.L) (ar := d.ar) (ca := d.ca) (r := false) hP hN hs hh hn rfl ⟨fun h => (by cases h), fun h => absurd h hf⟩
  have c5 := _root_.Go.Proofs.YtnjjgipblimbfaaDoor.clone_fn (P := P) (G := Gf fr) (n := n) (f := f) hP (by omega)
  clear hf
  have hT : T.Ok P := hP ▸ T_ok
  refine jjI Tryd.f38 hT ?_
  generalize hA : Ar.real = A
  generalize hK : Gives _ _ _ = K
  cbv
  have k1 : A.gt (A.add (gen : Int) 1) 1099511627776 = false := by clear c1 c2 c5 cL; subst hA; simp [Ar.real]; omega
  refine jjS hA (c1) [(0, 0), (1, 1), (2, 2), (3, 3), (4, 4)] ?_
  cbv
  refine jjT hA (c2) (.bl false) [(0, 0), (1, 1), (2, 2)] ?_
  cbv
  refine ⟨jjO, ?_⟩
  first | refine testR k1 rfl ?_ | refine testL k1 rfl ?_
  cbv
  refine jjR hA hT 30 ?_
  cbv
  refine ⟨jjO, ?_⟩
  refine jjP hA (cL) [(0, 0), (1, 1), (2, 2)] ?_
  cbv
  refine jjD ?_
  cbv
  refine jjR hA hT 30 ?_
  cbv
  refine ⟨jjO, ?_⟩
  refine jjP hA (c5) [] ?_
  cbv
  refine jjD ?_
  cbv
  refine Fin.leG hA 5 [] [(5, LgR 0 ml mf)] (.lit .i64 0) (LgQ 5 N d1 g1 at2 n f (.l 0) 0 0 false 0 ml mf) 5000 rfl rfl rfl ?_ ?_ ?_ jjK
  iterate 2 exact jjL
  · (try cbv) <;> (repeat' (first | exact trivial | exact rfl | apply And.intro | exact fun _ => rfl | (intro _ hle; first | refine chunk_le hA rfl hle rfl ?_ | refine cat_le hA ?_ | refine upd_le hA ?_ | (try cbv))))
    clear k1
    exact jjO
end
end Go.Proofs.YtnjjgipblimbfaaDoor.Dsk
namespace Go.WalLaw
open Go.DskLaw
def OpenOk (n : Nat) (f : Nat → Int) : Prop := 4 ≤ n ∧ ∀ i, i < n → sealF (n - 4) f i = f i
open Classical in
noncomputable def recP (V : Nat → Nat → Int) (fin : Nat) : Nat → Nat → Nat → (Nat → Nat × (Nat → Int)) → Nat × (Nat → Nat × (Nat → Int)) × Nat
  | 0, x, c, g => (c, g, x)
  | k + 1, x, c, g => match getP V x fin (fin - x) x 0 (fun _ => 0) with
    | none => (c, g, x)
    | some (n, f, next) => if OpenOk n f then recP V fin k next (c + 1) (fun i => if i < c then g i else (n - 4, f)) else (c, g, x)
section
variable {V : Nat → Nat → Int} {fin k x c n next : Nat} {g : Nat → Nat × (Nat → Int)} {f : Nat → Int}
theorem recP_none (h : getP V x fin (fin - x) x 0 (fun _ => 0) = none) : recP V fin (k + 1) x c g = (c, g, x) := by
  conv => lhs; unfold recP
  rw [h]
theorem recP_bad (h : getP V x fin (fin - x) x 0 (fun _ => 0) = some (n, f, next)) (ho : ¬ OpenOk n f) : recP V fin (k + 1) x c g = (c, g, x) := by
  conv => lhs; unfold recP
  rw [h]
  exact if_neg ho
theorem recP_some (h : getP V x fin (fin - x) x 0 (fun _ => 0) = some (n, f, next)) (ho : OpenOk n f) : recP V fin (k + 1) x c g = recP V fin k next (c + 1) (fun i => if i < c then g i else (n - 4, f)) := by
  conv => lhs; unfold recP
  rw [h]
  exact if_pos ho
end
theorem raw_congr {g g' : Nat → BitVec 32} (r : BitVec 32) : ∀ n, (∀ i, i < n → g i = g' i) → CrcLaw.raw g r n = CrcLaw.raw g' r n := by
  intro n
  induction n with
  | zero => intro _; rfl
  | succ n ih =>
    intro h
    show CrcLaw.step (CrcLaw.raw g r n) (g n) = CrcLaw.step (CrcLaw.raw g' r n) (g' n)
    rw [ih (fun i hi => h i (by omega)), h n (by omega)]
theorem more_congr {g g' : Nat → BitVec 32} {s : BitVec 32} {n : Nat} (h : ∀ i, i < n → g i = g' i) : CrcLaw.more g s n = CrcLaw.more g' s n := by
  unfold CrcLaw.more
  rw [raw_congr _ n h]
theorem open_iff {n : Nat} {f : Nat → Int} (h4 : 4 ≤ n) : (∀ i, i < n → CrcLaw.sealB (cutF n f) (CrcLaw.more (bvF n f) 0#32 (n - 4)) (n - 4) i = cutF n f i) ↔ ∀ i, i < n → sealF (n - 4) f i = f i := by
  have e1 : CrcLaw.more (bvF n f) 0#32 (n - 4) = CrcLaw.more (bvF (n - 4) f) 0#32 (n - 4) := more_congr (fun i hi => by
    unfold bvF cutF
    rw [if_pos (by omega), if_pos hi])
  have e2 : ∀ i, i < n → CrcLaw.sealB (cutF n f) (CrcLaw.more (bvF n f) 0#32 (n - 4)) (n - 4) i = sealF (n - 4) f i := fun i hi => by
    rw [e1]
    unfold sealF CrcLaw.sealB
    by_cases q : i < n - 4
    · rw [if_pos q, if_pos q]; unfold cutF; rw [if_pos hi, if_pos q]
    · rw [if_neg q, if_neg q]
  have e3 : ∀ i, i < n → cutF n f i = f i := fun i hi => by unfold cutF; rw [if_pos hi]
  exact ⟨fun h i hi => by rw [← e2 i hi, h i hi, e3 i hi], fun h i hi => by rw [e2 i hi, h i hi, e3 i hi]⟩
end Go.WalLaw
namespace Go.Proofs.YtnjjgipblimbfaaDoor.Dsk
open Go.Eng
open Go.DskLaw (q64 secV isB needN pcs getP)
open Go.WalLaw
open Go.CrcLaw (four)
set_option maxRecDepth 100000
set_option maxHeartbeats 1000000
section
variable {P : Program} {fr : Nat → Int} {n m : Nat} {f : Nat → Int}
theorem open2_fn (hP : P = Tryd.prog) (hfr : ∀ i, fr i = ((four i).toNat : Int)) (hb : ∀ i, i < n → 0 ≤ f i ∧ f i ≤ 255) (hn : n ≤ 1000000000) (ho : OpenOk n f) (hm : m = n - 4) :
    FnTr P (Gf fr) 11 [By n f] [] 0 (Gives (.tup [By m f, .lit .i64 0]) [] 1) := by
  have h := open_fn hP hfr (gi := cutF n f) (g := bvF n f) (m := m) (er := 0) (bvF_nat hb) (fun i _ => bvF_lt hb i) hn (.inr (.inl ⟨ho.1, (open_iff ho.1).2 ho.2, hm, rfl⟩))
  obtain ⟨c, hc⟩ : ∃ c : Nat → Int, c = cutF n f := ⟨_, rfl⟩
  have hcb : ∀ i, i < n → f i = c i := fun i hi => by rw [hc]; unfold cutF; rw [if_pos hi]
  have hcb2 : ∀ i, i < m → c i = f i := fun i hi => (hcb i (by omega)).symm
  rw [← hc] at h
  clear ho hb hc
  generalize hA : Ar.real = A
  refine FnTr.as hA h ?_ ?_ ?_ rfl
  · (try cbv) <;> (repeat' (first | exact trivial | exact rfl | apply And.intro | exact fun _ => rfl | (intro _ hle; first | refine chunk_le hA rfl hle rfl ?_ | refine cat_le hA ?_ | refine upd_le hA ?_ | (try cbv))))
    all_goals (refine hcb _ ?_; subst hA; exact ltNV_real.1 (by assumption))
  · (try cbv) <;> (repeat' (first | exact trivial | exact rfl | apply And.intro | exact fun _ => rfl | (intro _ hle; first | refine chunk_le hA rfl hle rfl ?_ | refine cat_le hA ?_ | refine upd_le hA ?_ | (try cbv))))
    all_goals (refine hcb2 _ ?_; subst hA; exact ltNV_real.1 (by assumption))
  · exact jjL
theorem open2_bad (hP : P = Tryd.prog) (hfr : ∀ i, fr i = ((four i).toNat : Int)) (hb : ∀ i, i < n → 0 ≤ f i ∧ f i ≤ 255) (hn : n ≤ 1000000000) (ho : ¬ OpenOk n f) :
    ∃ er : Int, er ≠ 0 ∧ FnTr P (Gf fr) 11 [By n f] [] 0 (Gives (.tup [By 0 f, .int .i64 er]) [] 1) := by
  have key : ∃ er : Int, er ≠ 0 ∧ FnTr P (Gf fr) 11 [By n (cutF n f)] [] 0 (Gives (.tup [By 0 (cutF n f), .int .i64 er]) [] 1) := by
    by_cases h4 : n < 4
    · exact ⟨210, by decide, open_fn hP hfr (gi := cutF n f) (g := bvF n f) (m := 0) (er := 210) (bvF_nat hb) (fun i _ => bvF_lt hb i) hn (.inl ⟨h4, rfl, rfl⟩)⟩
    · exact ⟨240, by decide, open_fn hP hfr (gi := cutF n f) (g := bvF n f) (m := 0) (er := 240) (bvF_nat hb) (fun i _ => bvF_lt hb i) hn (.inr (.inr ⟨by omega, fun h => ho ⟨by omega, (open_iff (by omega)).1 h⟩, rfl, rfl⟩))⟩
  obtain ⟨er, he, h⟩ := key
  refine ⟨er, he, ?_⟩
  obtain ⟨c, hc⟩ : ∃ c : Nat → Int, c = cutF n f := ⟨_, rfl⟩
  have hcb : ∀ i, i < n → f i = c i := fun i hi => by rw [hc]; unfold cutF; rw [if_pos hi]
  rw [← hc] at h
  clear ho hb hc
  generalize hA : Ar.real = A
  refine FnTr.as hA h ?_ ?_ ?_ rfl
  · (try cbv) <;> (repeat' (first | exact trivial | exact rfl | apply And.intro | exact fun _ => rfl | (intro _ hle; first | refine chunk_le hA rfl hle rfl ?_ | refine cat_le hA ?_ | refine upd_le hA ?_ | (try cbv))))
    all_goals (refine hcb _ ?_; subst hA; exact ltNV_real.1 (by assumption))
  · (try cbv) <;> (repeat' (first | exact trivial | exact rfl | apply And.intro | exact fun _ => rfl | (intro _ hle; first | refine chunk_le hA rfl hle rfl ?_ | refine cat_le hA ?_ | refine upd_le hA ?_ | (try cbv))))
    all_goals (exfalso; subst hA; exact absurd (ltNV_real.1 (by assumption)) (Nat.not_lt_zero _))
  · exact jjL
theorem records_own {N s h gen fi en c0 last : Nat} {d : Dk} {V : Nat → Nat → Int} {g0 gs : Nat → Nat × (Nat → Int)} (hP : P = Tryd.prog) (hfr : ∀ i, fr i = ((four i).toNat : Int)) (hN : N = 64 * s) (hr : Reg s h gen fi en) (ho : ¬ offD d) (hV : ∀ i, i < s → V i = secV d.S d.L i ∧ isB (V i)) (hR0 : recP V en (en - fi + 1) fi 0 g0 = (c0, gs, last)) :
    FnTr P (Gf fr) 67 [.ptr 0 0, .int .i64 (gen : Int)] (DHd N d) 3 (Gives (.tup [.sl 3 1 (.l 0) (.s c0), .int .i64 (last : Int)]) ((3, LgR c0 (fun i => (gs i).1) (fun i => (gs i).2)) :: DHd N d) 4) := by
  have b1 := first_fn (P := P) (G := Gf fr) (S := d.S) (L := d.L) (ar := d.ar) (ca := d.ca) hP hN hr.hs hr.hh hr.hg hr.hfi
  have b2 := end_fn (P := P) (G := Gf fr) (S := d.S) (L := d.L) (ar := d.ar) (ca := d.ca) hP hN hr.hs hr.hh hr.hg hr.hfi hr.hen
  have hreg := hr.le
  have hs := hr.hs
  have c1 : ∀ x, x ≤ en → getP V x en (en - x) x 0 (fun _ => 0) = none → FnTr P (Gf fr) 91 [.ptr 0 0, .int .i64 (x : Int), .int .i64 (en : Int)] (DHd N d) 3 (Gives (.tup [.nils, .lit .i64 0, .lit .i64 4]) (DHd N d) 3) := fun x hx e => get_none hP hN hs.2 ⟨hx, hreg.2.2⟩ ho hV e
  have c2 : ∀ x n next f, x ≤ en → getP V x en (en - x) x 0 (fun _ => 0) = some (n, f, next) → FnTr P (Gf fr) 91 [.ptr 0 0, .int .i64 (x : Int), .int .i64 (en : Int)] (DHd N d) 3 (Gives (.tup [By n f, .int .i64 (next : Int), .lit .i64 0]) (DHd N d) 4) := fun x n next f hx e => get_fn hP hN hs.2 ⟨hx, hreg.2.2⟩ ho hV e
  have c3 : ∀ x n next f, x ≤ en → getP V x en (en - x) x 0 (fun _ => 0) = some (n, f, next) → (OpenOk n f → FnTr P (Gf fr) 11 [By n f] [] 0 (Gives (.tup [By (n - 4) f, .lit .i64 0]) [] 1)) ∧ (¬ OpenOk n f → ∃ er : Int, er ≠ 0 ∧ FnTr P (Gf fr) 11 [By n f] [] 0 (Gives (.tup [By 0 f, .int .i64 er]) [] 1)) := fun x n next f hx e => by
    have hn := (DskLaw.getP_next _ e).2.2
    have hb := DskLaw.getP_isB (fun i hi => (hV i (by omega)).2) _ _ _ _ _ _ _ (fun i hi => by omega) e
    exact ⟨fun q => open2_fn hP hfr hb (by omega) q rfl, fun q => open2_bad hP hfr hb (by omega) q⟩
  clear hV hr hfr ho hN
  have hT : T.Ok P := hP ▸ T_ok
  refine jjI Tryd.f67 hT ?_
  generalize hA : Ar.real = A
  generalize hK : Gives _ _ _ = K
  cbv
  refine jjS hA (b1) [(0, 0), (1, 1), (2, 2)] ?_
  cbv
  refine LS.ghost 22 1 (.l 0) (fun _ => [.nils]) rfl ?_
  refine LS.le3 hT hA 3 (fun (x : Nat) (c : Nat) (_ : Nat → Nat × (Nat → Int)) => [(6, .int .i64 (x : Int)), (7, .sl 3 1 (.l 0) (.s c))]) (fun _ c g => (3, LgR c (fun i => (g i).1) (fun i => (g i).2)) :: DHd N d) (fun x c g => x ≤ en ∧ c ≤ x ∧ ∃ k, en - x < k ∧ recP V en k x c g = (c0, gs, last)) (fun x _ _ => en - x) fi 0 g0 [(12, 3)] rfl rfl ?_ ?_ ?_
  · (try cbv) <;> (repeat' (first | exact trivial | exact rfl | apply And.intro | exact fun _ => rfl | (intro _ hle; first | refine chunk_le hA rfl hle rfl ?_ | refine cat_le hA ?_ | refine upd_le hA ?_ | refine int_le ?_ | skip)))
    all_goals (exfalso; subst hA; exact absurd (ltNV_real.1 (by assumption)) (Nat.not_lt_zero _))
  · exact ⟨hreg.2.1, Nat.zero_le _, _, Nat.lt_succ_self _, hR0⟩
  · intro R hR x c g hx
    obtain ⟨hxf, hcx, k, hk, hsc⟩ := hx
    cbv
    refine jjS hA (b2) [(0, 0), (1, 1), (2, 2)] ?_
    cbv
    cases hg : getP V x en (en - x) x 0 (fun _ => 0) with
    | none =>
      obtain ⟨k', rfl⟩ : ∃ k', k = k' + 1 := ⟨k - 1, by omega⟩
      rw [recP_none hg] at hsc
      obtain ⟨rfl, rfl, rfl⟩ : c = c0 ∧ g = gs ∧ x = last := by cases hsc; exact ⟨rfl, rfl, rfl⟩
      have a1 := c1 x hxf hg
      clear c1 c2 c3 hR
      refine jjS hA (a1) [(0, 0), (1, 1), (2, 2)] ?_
      cbv
      refine Fin.le hA 3 [(3, 3)] (.tup [.sl 3 1 (.l 0) (.s c), .int .i64 (x : Int)]) ((3, LgR c (fun i => (g i).1) (fun i => (g i).2)) :: DHd N d) 4 rfl rfl rfl ?_ ?_ jjK
      · (try cbv) <;> (repeat' (first | exact trivial | exact rfl | apply And.intro | exact fun _ => rfl | (intro _ hle; first | refine chunk_le hA rfl hle rfl ?_ | refine cat_le hA ?_ | refine upd_le hA ?_ | refine int_le ?_ | skip)))
      · (try cbv) <;> (repeat' (first | exact trivial | exact rfl | apply And.intro | exact fun _ => rfl | (intro _ hle; first | refine chunk_le hA rfl hle rfl ?_ | refine cat_le hA ?_ | refine upd_le hA ?_ | refine int_le ?_ | skip)))
    | some r =>
      obtain ⟨n, f, next⟩ := r
      have hnx := DskLaw.getP_next _ hg
      obtain ⟨k', rfl⟩ : ∃ k', k = k' + 1 := ⟨k - 1, by omega⟩
      have a2 := c2 x n next f hxf hg
      have a3 := c3 x n next f hxf hg
      clear c1 c2 c3
      by_cases hok : ¬ OpenOk n f
      · rw [recP_bad hg hok] at hsc
        obtain ⟨rfl, rfl, rfl⟩ : c = c0 ∧ g = gs ∧ x = last := by cases hsc; exact ⟨rfl, rfl, rfl⟩
        obtain ⟨er, her, a4⟩ := a3.2 hok
        have k1 : A.ne er 0 = true := by clear hR a3 a2 a4; subst hA; simp [Ar.real]; exact her
        clear hR a3
        refine jjS hA (a2) [(0, 0), (1, 1), (2, 2)] ?_
        cbv
        refine jjS hA (a4) [] ?_
        cbv
        first | refine testR k1 rfl ?_ | refine testL k1 rfl ?_
        cbv
        refine Fin.le hA 3 [(3, 3)] (.tup [.sl 3 1 (.l 0) (.s c), .int .i64 (x : Int)]) ((3, LgR c (fun i => (g i).1) (fun i => (g i).2)) :: DHd N d) 4 rfl rfl rfl ?_ ?_ jjK
        · (try cbv) <;> (repeat' (first | exact trivial | exact rfl | apply And.intro | exact fun _ => rfl | (intro _ hle; first | refine chunk_le hA rfl hle rfl ?_ | refine cat_le hA ?_ | refine upd_le hA ?_ | refine int_le ?_ | skip)))
        · (try cbv) <;> (repeat' (first | exact trivial | exact rfl | apply And.intro | exact fun _ => rfl | (intro _ hle; first | refine chunk_le hA rfl hle rfl ?_ | refine cat_le hA ?_ | refine upd_le hA ?_ | refine int_le ?_ | skip)))
      have hok := Classical.not_not.1 hok
      have a4 := a3.1 hok
      rw [recP_some hg hok] at hsc
      clear a3 hok
      obtain ⟨n4, hn4⟩ : ∃ n4, n4 = n - 4 := ⟨_, rfl⟩
      rw [← hn4] at a4 hsc
      obtain ⟨g', hg'⟩ : ∃ g' : Nat → Nat × (Nat → Int), g' = fun i => if i < c then g i else (n4, f) := ⟨_, rfl⟩
      rw [← hg'] at hsc
      refine jjS hA (a2) [(0, 0), (1, 1), (2, 2)] ?_
      cbv
      refine jjS hA (a4) [] ?_
      cbv
      have hpush : ∀ e, ltNV A e (.s (A.addN c 1)) → leL (leSV A 4) (catG A 1 (.s c) (fun e => [.ro 1 (.s ((fun i => (g i).1) e.val)) (fun x => [.int .u8 ((fun i => (g i).2) e.val x.val)])]) (fun x => chunkS A 1 [.ro 1 (.s n4) (fun x => [.int .u8 (f x.val)])] (addNV A (.l 0) x)) e) [.ro 1 (.s ((fun i => (g' i).1) e.val)) (fun x => [.int .u8 ((fun i => (g' i).2) e.val x.val)])] := fun e he => by
        have he : e.val < c + 1 := by subst hA; exact ltNV_real.1 he
        have hlen : (g' e.val).1 = if e.val < c then (g e.val).1 else n4 := by
          rw [hg']; simp only []
          by_cases q : e.val < c
          · rw [if_pos q, if_pos q]
          · rw [if_neg q, if_neg q]
        have hrow : ∀ j, j < (g' e.val).1 → (g' e.val).2 j = if e.val < c then (g e.val).2 j else f j := fun j _ => by
          rw [hg']; simp only []
          by_cases q : e.val < c
          · rw [if_pos q, if_pos q]
          · rw [if_neg q, if_neg q]
        exact rows_push (len := fun i => (g i).1) (len' := fun i => (g' i).1) (g := fun i => (g i).2) (g' := fun i => (g' i).2) (h := f) hA (by omega) hlen hrow
      refine ⟨⟨?_, ?_, ?_⟩, hR _ _ _ _ ⟨next, c + 1, g', 3, [(36, 3)], rfl, rfl, ?_, ⟨hnx.2.1, by omega, k', by omega, hsc⟩, (by show en - next < en - x; omega)⟩⟩
      iterate 3 exact jjO
      clear hR
      (try cbv) <;> (repeat' (first | exact trivial | exact rfl | apply And.intro | exact fun _ => rfl | (intro _ hle; first | exact hpush _ hle | refine chunk_le hA rfl hle rfl ?_ | refine cat_le hA ?_ | refine upd_le hA ?_ | refine int_le ?_ | skip)))
      all_goals exact jjO
end
section
variable {P : Program} {fr : Nat → Int} {N s h gen fi en c last : Nat} {d d1 d2 : Dk} {gs : Nat → Nat × (Nat → Int)}
theorem open_off {G : Gl} (hP : P = Tryd.prog) (hN : N = 64 * s) (hs : 4 ≤ s ∧ s ≤ 4096) (ho : offD d) :
    FnTr P G 32 [.ptr 0 0] (DHd N d) 3 (Gives (.tup [.nilp, .lit .i64 6]) (DHd N d) 3) := by
  have c1 := wasked_ok (P := P) (G := G) (S := d.S) (L := d.L) (ar := d.ar) (ca := d.ca) hP hN hs
  have c3 := newest_off (P := P) (G := G) (N := N) (S := d.S) (L := d.L) hP ho
  have hT : T.Ok P := hP ▸ T_ok
  refine jjI Tryd.f32 hT ?_
  generalize hA : Ar.real = A
  generalize hK : Gives _ _ _ = K
  cbv
  refine jjS hA (c1) [(0, 0), (1, 1), (2, 2)] ?_
  cbv
  refine jjS hA (c3) [(0, 0), (1, 1), (2, 2)] ?_
  cbv
  refine Fin.le hA 3 [] (.tup [.nilp, .lit .i64 6]) (DHd N d) 3 rfl rfl rfl ?_ ?_ jjK
  iterate 2 exact jjL
theorem open_none {G : Gl} (hP : P = Tryd.prog) (hN : N = 64 * s) (hs : 4 ≤ s ∧ s ≤ 4096) (hg : gen = 0)
    (cN : FnTr P G 56 [.ptr 0 0] (DHd N d) 3 (Gives (.tup [.int .i64 (gen : Int), .lit .i64 0]) (DHd N d) 3)) :
    FnTr P G 32 [.ptr 0 0] (DHd N d) 3 (Gives (.tup [.nilp, .lit .i64 4]) (DHd N d) 3) := by
  have c1 := wasked_ok (P := P) (G := G) (S := d.S) (L := d.L) (ar := d.ar) (ca := d.ca) hP hN hs
  have hT : T.Ok P := hP ▸ T_ok
  refine jjI Tryd.f32 hT ?_
  generalize hA : Ar.real = A
  generalize hK : Gives _ _ _ = K
  cbv
  have k1 : A.eq (gen : Int) 0 = true := by clear c1 cN; subst hA; simp [Ar.real]; omega
  refine jjS hA (c1) [(0, 0), (1, 1), (2, 2)] ?_
  cbv
  refine jjS hA (cN) [(0, 0), (1, 1), (2, 2)] ?_
  cbv
  first | refine testR k1 rfl ?_ | refine testL k1 rfl ?_
  cbv
  refine Fin.le hA 3 [] (.tup [.nilp, .lit .i64 4]) (DHd N d) 3 rfl rfl rfl ?_ ?_ jjK
  iterate 2 exact jjL
theorem open_log {G : Gl} (hP : P = Tryd.prog) (hN : N = 64 * s) (hs : 4 ≤ s ∧ s ≤ 4096) (hg : 0 < gen) (hc : c = 0)
    (cN : FnTr P G 56 [.ptr 0 0] (DHd N d) 3 (Gives (.tup [.int .i64 (gen : Int), .lit .i64 0]) (DHd N d) 3))
    (cR : FnTr P G 67 [.ptr 0 0, .int .i64 (gen : Int)] (DHd N d) 3 (Gives (.tup [.sl 3 1 (.l 0) (.s c), .int .i64 (last : Int)]) ((3, LgR c (fun i => (gs i).1) (fun i => (gs i).2)) :: DHd N d) 4)) :
    FnTr P G 32 [.ptr 0 0] (DHd N d) 3 (Gives (.tup [.nilp, .lit .i64 270]) (DHd N d) 3) := by
  have c1 := wasked_ok (P := P) (G := G) (S := d.S) (L := d.L) (ar := d.ar) (ca := d.ca) hP hN hs
  have hT : T.Ok P := hP ▸ T_ok
  refine jjI Tryd.f32 hT ?_
  generalize hA : Ar.real = A
  generalize hK : Gives _ _ _ = K
  cbv
  have k1 : A.eq (gen : Int) 0 = false := by clear c1 cN cR; subst hA; simp [Ar.real]; omega
  have k2 : A.eq (A.i2 c) 0 = true := by clear c1 cN cR; subst hA; simp [Ar.real]; omega
  refine jjS hA (c1) [(0, 0), (1, 1), (2, 2)] ?_
  cbv
  refine jjS hA (cN) [(0, 0), (1, 1), (2, 2)] ?_
  cbv
  first | refine testR k1 rfl ?_ | refine testL k1 rfl ?_
  cbv
  refine jjS hA (cR) [(0, 0), (1, 1), (2, 2)] ?_
  cbv
  first | refine testR k2 rfl ?_ | refine testL k2 rfl ?_
  cbv
  refine Fin.le hA 3 [] (.tup [.nilp, .lit .i64 270]) (DHd N d) 3 rfl rfl rfl ?_ ?_ jjK
  iterate 2 exact jjL
theorem open_part {G : Gl} (hP : P = Tryd.prog) (hN : N = 64 * s) (hr : Reg s h gen fi en) (hg : 0 < gen) (hc : 0 < c) (ok : DkOk s d) (ho : ¬ offD d) (hl : last ≤ en) (hw : wipeD d last en = (none, d1))
    (cN : FnTr P G 56 [.ptr 0 0] (DHd N d) 3 (Gives (.tup [.int .i64 (gen : Int), .lit .i64 0]) (DHd N d) 3))
    (cR : FnTr P G 67 [.ptr 0 0, .int .i64 (gen : Int)] (DHd N d) 3 (Gives (.tup [.sl 3 1 (.l 0) (.s c), .int .i64 (last : Int)]) ((3, LgR c (fun i => (gs i).1) (fun i => (gs i).2)) :: DHd N d) 4)) :
    FnTr P G 32 [.ptr 0 0] (DHd N d) 3 (Gives (.tup [.nilp, .lit .i64 6]) (DHd N d1) 3) := by
  have c1 := wasked_ok (P := P) (G := G) (S := d.S) (L := d.L) (ar := d.ar) (ca := d.ca) hP hN hr.hs
  have c2 := end_fn (P := P) (G := G) (S := d.S) (L := d.L) (ar := d.ar) (ca := d.ca) hP hN hr.hs hr.hh hr.hg hr.hfi hr.hen
  have c3 := wipe_part (P := P) (G := G) hP hN hr.hs.2 ok.hca ⟨hl, hr.le.2.2⟩ ho hw
  clear hr ok ho hw hN
  have hT : T.Ok P := hP ▸ T_ok
  refine jjI Tryd.f32 hT ?_
  generalize hA : Ar.real = A
  generalize hK : Gives _ _ _ = K
  cbv
  have k1 : A.eq (gen : Int) 0 = false := by clear c1 cN cR c2 c3; subst hA; simp [Ar.real]; omega
  have k2 : A.eq (A.i2 c) 0 = false := by clear c1 cN cR c2 c3; subst hA; simp [Ar.real]; omega
  refine jjS hA (c1) [(0, 0), (1, 1), (2, 2)] ?_
  cbv
  refine jjS hA (cN) [(0, 0), (1, 1), (2, 2)] ?_
  cbv
  first | refine testR k1 rfl ?_ | refine testL k1 rfl ?_
  cbv
  refine jjS hA (cR) [(0, 0), (1, 1), (2, 2)] ?_
  cbv
  first | refine testR k2 rfl ?_ | refine testL k2 rfl ?_
  cbv
  refine jjS hA (c2) [(0, 0), (1, 1), (2, 2)] ?_
  cbv
  refine jjS hA (c3) [(0, 0), (1, 1), (2, 2)] ?_
  cbv
  refine Fin.le hA 3 [] (.tup [.nilp, .lit .i64 6]) (DHd N d1) 3 rfl rfl rfl ?_ ?_ jjK
  iterate 2 exact jjL
theorem open_ok0 {G : Gl} {m cc : Nat} (hP : P = Tryd.prog) (hN : N = 64 * s) (hr : Reg s h gen fi en) (hg : 0 < gen) (hc : c = cc + 1) (hcl : c ≤ 1000000) (ok : DkOk s d) (ho : ¬ offD d) (hl : last ≤ en) (hm : m = 0) (hw : wipeD d last en = (some m, d1))
    (cN : FnTr P G 56 [.ptr 0 0] (DHd N d) 3 (Gives (.tup [.int .i64 (gen : Int), .lit .i64 0]) (DHd N d) 3))
    (cR : FnTr P G 67 [.ptr 0 0, .int .i64 (gen : Int)] (DHd N d) 3 (Gives (.tup [.sl 3 1 (.l 0) (.s c), .int .i64 (last : Int)]) ((3, LgR c (fun i => (gs i).1) (fun i => (gs i).2)) :: DHd N d) 4)) :
    FnTr P G 32 [.ptr 0 0] (DHd N d) 3 (Gives (.tup [.ptr 3 0, .lit .i64 0]) (LgH N d1 gen last (gs 0).1 (gs 0).2 (.s 1) cc cc false c (fun i => (gs i).1) (fun i => (gs i).2)) 100) := by
  have c1 := wasked_ok (P := P) (G := G) (S := d.S) (L := d.L) (ar := d.ar) (ca := d.ca) hP hN hr.hs
  have c2 := end_fn (P := P) (G := G) (S := d.S) (L := d.L) (ar := d.ar) (ca := d.ca) hP hN hr.hs hr.hh hr.hg hr.hfi hr.hen
  have c3 := wipe_all (P := P) (G := G) hP hN hr.hs.2 ok.hca ⟨hl, hr.le.2.2⟩ ho hw
  clear hr ok ho hw hN
  have hT : T.Ok P := hP ▸ T_ok
  refine jjI Tryd.f32 hT ?_
  generalize hA : Ar.real = A
  generalize hK : Gives _ _ _ = K
  cbv
  have k1 : A.eq (gen : Int) 0 = false := by clear c1 cN cR c2 c3; subst hA; simp [Ar.real]; omega
  have k2 : A.eq (A.i2 c) 0 = false := by clear c1 cN cR c2 c3; subst hA; simp [Ar.real]; omega
  have k3 : A.gt (m : Int) 0 = false := by clear c1 cN cR c2 c3; subst hA; simp [Ar.real]; omega
  refine jjS hA (c1) [(0, 0), (1, 1), (2, 2)] ?_
  cbv
  refine jjS hA (cN) [(0, 0), (1, 1), (2, 2)] ?_
  cbv
  first | refine testR k1 rfl ?_ | refine testL k1 rfl ?_
  cbv
  refine jjS hA (cR) [(0, 0), (1, 1), (2, 2)] ?_
  cbv
  first | refine testR k2 rfl ?_ | refine testL k2 rfl ?_
  cbv
  refine jjS hA (c2) [(0, 0), (1, 1), (2, 2)] ?_
  cbv
  refine jjS hA (c3) [(0, 0), (1, 1), (2, 2)] ?_
  cbv
  first | refine testR k3 rfl ?_ | refine testL k3 rfl ?_
  cbv
  refine jjR hA hT 30 ?_
  cbv
  refine ⟨?_, ?_, ⟨?_, ?_, ?_⟩, ?_, ?_⟩
  iterate 6 exact jjO
  refine jjD ?_
  cbv
  refine Fin.le hA 3 [(424, 3), (32, 4)] (.tup [.ptr 3 0, .lit .i64 0]) (LgH N d1 gen last (gs 0).1 (gs 0).2 (.s 1) cc cc false c (fun i => (gs i).1) (fun i => (gs i).2)) 100 rfl rfl rfl ?_ ?_ jjK
  · (try cbv) <;> (repeat' (first | exact trivial | exact rfl | apply And.intro | exact fun _ => rfl | (intro _ hle; first | refine chunk_le hA rfl hle rfl ?_ | refine cat_le hA ?_ | refine upd_le hA ?_ | refine int_le ?_ | skip)))
  · (try cbv) <;> (repeat' (first | exact trivial | exact rfl | apply And.intro | exact fun _ => rfl | (intro _ hle; first | refine chunk_le hA rfl hle rfl ?_ | refine cat_le hA ?_ | refine upd_le hA ?_ | refine int_le ?_ | skip)))
    all_goals (clear k1 k2 k3 c1 c2 c3 cN cR)
    all_goals first | (subst hc; subst hA; rfl) | exact jjO | trace_state
theorem open_okF {G : Gl} {m cc : Nat} (hP : P = Tryd.prog) (hN : N = 64 * s) (hr : Reg s h gen fi en) (hg : 0 < gen) (hc : c = cc + 1) (hcl : c ≤ 1000000) (ok : DkOk s d) (ho : ¬ offD d) (hl : last ≤ en) (hm : 0 < m) (ok1 : DkOk s d1) (o1 : ¬ offD d1) (hd2 : d2 = flushD d1) (hw : wipeD d last en = (some m, d1))
    (cN : FnTr P G 56 [.ptr 0 0] (DHd N d) 3 (Gives (.tup [.int .i64 (gen : Int), .lit .i64 0]) (DHd N d) 3))
    (cR : FnTr P G 67 [.ptr 0 0, .int .i64 (gen : Int)] (DHd N d) 3 (Gives (.tup [.sl 3 1 (.l 0) (.s c), .int .i64 (last : Int)]) ((3, LgR c (fun i => (gs i).1) (fun i => (gs i).2)) :: DHd N d) 4)) :
    FnTr P G 32 [.ptr 0 0] (DHd N d) 3 (Gives (.tup [.ptr 3 0, .lit .i64 0]) (LgH N d2 gen last (gs 0).1 (gs 0).2 (.s 1) cc cc false c (fun i => (gs i).1) (fun i => (gs i).2)) 100) := by
  have c1 := wasked_ok (P := P) (G := G) (S := d.S) (L := d.L) (ar := d.ar) (ca := d.ca) hP hN hr.hs
  have c2 := end_fn (P := P) (G := G) (S := d.S) (L := d.L) (ar := d.ar) (ca := d.ca) hP hN hr.hs hr.hh hr.hg hr.hfi hr.hen
  have c3 := wipe_all (P := P) (G := G) hP hN hr.hs.2 ok.hca ⟨hl, hr.le.2.2⟩ ho hw
  have c4 := flush_all (P := P) (G := G) hP hN ⟨by have := hr.hs; omega, hr.hs.2⟩ ok1 o1 hd2
  clear hr ok ho hw hN ok1 o1 hd2
  have hT : T.Ok P := hP ▸ T_ok
  refine jjI Tryd.f32 hT ?_
  generalize hA : Ar.real = A
  generalize hK : Gives _ _ _ = K
  cbv
  have k1 : A.eq (gen : Int) 0 = false := by clear c1 cN cR c2 c3 c4; subst hA; simp [Ar.real]; omega
  have k2 : A.eq (A.i2 c) 0 = false := by clear c1 cN cR c2 c3 c4; subst hA; simp [Ar.real]; omega
  have k3 : A.gt (m : Int) 0 = true := by clear c1 cN cR c2 c3 c4; subst hA; simp [Ar.real]; omega
  refine jjS hA (c1) [(0, 0), (1, 1), (2, 2)] ?_
  cbv
  refine jjS hA (cN) [(0, 0), (1, 1), (2, 2)] ?_
  cbv
  first | refine testR k1 rfl ?_ | refine testL k1 rfl ?_
  cbv
  refine jjS hA (cR) [(0, 0), (1, 1), (2, 2)] ?_
  cbv
  first | refine testR k2 rfl ?_ | refine testL k2 rfl ?_
  cbv
  refine jjS hA (c2) [(0, 0), (1, 1), (2, 2)] ?_
  cbv
  refine jjS hA (c3) [(0, 0), (1, 1), (2, 2)] ?_
  cbv
  first | refine testR k3 rfl ?_ | refine testL k3 rfl ?_
  cbv
  refine jjS hA (c4) [(0, 0), (1, 1), (2, 2)] ?_
  cbv
  refine jjR hA hT 30 ?_
  cbv
  refine ⟨?_, ?_, ⟨?_, ?_, ?_⟩, ?_, ?_⟩
  iterate 6 exact jjO
  refine jjD ?_
  cbv
  refine Fin.le hA 3 [(429, 3), (32, 4)] (.tup [.ptr 3 0, .lit .i64 0]) (LgH N d2 gen last (gs 0).1 (gs 0).2 (.s 1) cc cc false c (fun i => (gs i).1) (fun i => (gs i).2)) 100 rfl rfl rfl ?_ ?_ jjK
  · (try cbv) <;> (repeat' (first | exact trivial | exact rfl | apply And.intro | exact fun _ => rfl | (intro _ hle; first | refine chunk_le hA rfl hle rfl ?_ | refine cat_le hA ?_ | refine upd_le hA ?_ | refine int_le ?_ | skip)))
  · (try cbv) <;> (repeat' (first | exact trivial | exact rfl | apply And.intro | exact fun _ => rfl | (intro _ hle; first | refine chunk_le hA rfl hle rfl ?_ | refine cat_le hA ?_ | refine upd_le hA ?_ | refine int_le ?_ | skip)))
    all_goals (clear k1 k2 k3 c1 c2 c3 c4 cN cR)
    all_goals first | (subst hc; subst hA; rfl) | exact jjO | trace_state
theorem open_offF {G : Gl} {m cc : Nat} (hP : P = Tryd.prog) (hN : N = 64 * s) (hr : Reg s h gen fi en) (hg : 0 < gen) (hc : c = cc + 1) (hcl : c ≤ 1000000) (ok : DkOk s d) (ho : ¬ offD d) (hl : last ≤ en) (hm : 0 < m) (ok1 : DkOk s d1) (o1 : offD d1) (hw : wipeD d last en = (some m, d1))
    (cN : FnTr P G 56 [.ptr 0 0] (DHd N d) 3 (Gives (.tup [.int .i64 (gen : Int), .lit .i64 0]) (DHd N d) 3))
    (cR : FnTr P G 67 [.ptr 0 0, .int .i64 (gen : Int)] (DHd N d) 3 (Gives (.tup [.sl 3 1 (.l 0) (.s c), .int .i64 (last : Int)]) ((3, LgR c (fun i => (gs i).1) (fun i => (gs i).2)) :: DHd N d) 4)) :
    FnTr P G 32 [.ptr 0 0] (DHd N d) 3 (Gives (.tup [.nilp, .lit .i64 6]) (DHd N d1) 3) := by
  have c1 := wasked_ok (P := P) (G := G) (S := d.S) (L := d.L) (ar := d.ar) (ca := d.ca) hP hN hr.hs
  have c2 := end_fn (P := P) (G := G) (S := d.S) (L := d.L) (ar := d.ar) (ca := d.ca) hP hN hr.hs hr.hh hr.hg hr.hfi hr.hen
  have c3 := wipe_all (P := P) (G := G) hP hN hr.hs.2 ok.hca ⟨hl, hr.le.2.2⟩ ho hw
  have c4 := flush_off (P := P) (G := G) (N := N) (S := d1.S) (L := d1.L) hP o1
  clear hr ok ho hw hN ok1 o1
  have hT : T.Ok P := hP ▸ T_ok
  refine jjI Tryd.f32 hT ?_
  generalize hA : Ar.real = A
  generalize hK : Gives _ _ _ = K
  cbv
  have k1 : A.eq (gen : Int) 0 = false := by clear c1 cN cR c2 c3 c4; subst hA; simp [Ar.real]; omega
  have k2 : A.eq (A.i2 c) 0 = false := by clear c1 cN cR c2 c3 c4; subst hA; simp [Ar.real]; omega
  have k3 : A.gt (m : Int) 0 = true := by clear c1 cN cR c2 c3 c4; subst hA; simp [Ar.real]; omega
  refine jjS hA (c1) [(0, 0), (1, 1), (2, 2)] ?_
  cbv
  refine jjS hA (cN) [(0, 0), (1, 1), (2, 2)] ?_
  cbv
  first | refine testR k1 rfl ?_ | refine testL k1 rfl ?_
  cbv
  refine jjS hA (cR) [(0, 0), (1, 1), (2, 2)] ?_
  cbv
  first | refine testR k2 rfl ?_ | refine testL k2 rfl ?_
  cbv
  refine jjS hA (c2) [(0, 0), (1, 1), (2, 2)] ?_
  cbv
  refine jjS hA (c3) [(0, 0), (1, 1), (2, 2)] ?_
  cbv
  first | refine testR k3 rfl ?_ | refine testL k3 rfl ?_
  cbv
  refine jjS hA (c4) [(0, 0), (1, 1), (2, 2)] ?_
  cbv
  refine Fin.le hA 3 [] (.tup [.nilp, .lit .i64 6]) (DHd N d1) 3 rfl rfl rfl ?_ ?_ jjK
  iterate 2 exact jjL
end
open Go.DskLaw (q64 secV isB)
section
variable {P : Program} {G : Gl} {s h g fi en sec : Nat} {S L : Nat → Nat → Int} {W : Nat → Bool} {c : Int}
theorem rhalf_fn (hP : P = Tryd.prog) (hs : 4 ≤ s ∧ s ≤ 4096) (hh : h = (s - 2) / 2) :
    FnTr P G 58 [RD s S L W c] [] 0 (Gives (.int .i64 (h : Int)) [] 10) := by
  have e1 : Int.tdiv ((s : Int) - 2) 2 = (h : Int) := by rw [show ((s : Int) - 2) = ((s - 2 : Nat) : Int) by omega, hh]; rfl
  have hh2 : h ≤ 2047 := by omega
  have hT : T.Ok P := hP ▸ T_ok
  refine jjI Tryd.f58 hT ?_
  generalize hA : Ar.real = A
  generalize hK : Gives _ _ _ = K
  cbv
  have k1 : A.quo (A.sub (A.i2 s) 2) 2 = (h : Int) := by subst hA; exact e1
  refine ⟨?_, ⟨?_, (by (show A.inR .i64 (A.quo (A.sub (A.i2 s) 2) 2)); rw [k1]; exact jjO)⟩, ?_⟩
  iterate 2 exact jjO
  refine Fin.le hA 0 [] (.int .i64 (h : Int)) ([]) 10 rfl rfl rfl ?_ ?_ jjK
  · (try cbv) <;> (repeat' (first | exact trivial | exact rfl | apply And.intro | exact fun _ => rfl | (intro _ hle; first | refine chunk_le hA rfl hle rfl ?_ | refine cat_le hA ?_ | refine upd_le hA ?_ | (try cbv))))
    exact k1
  · exact jjL
theorem rfirst_fn (hP : P = Tryd.prog) (hs : 4 ≤ s ∧ s ≤ 4096) (hh : h = (s - 2) / 2) (hg : g ≤ 1099511627777) (hf : fi = 2 + g % 2 * h) :
    FnTr P G 25 [RD s S L W c, .int .i64 (g : Int)] [] 0 (Gives (.int .i64 (fi : Int)) [] 20) := by
  have a1 := rhalf_fn (P := P) (G := G) (S := S) (L := L) (W := W) (c := c) hP hs hh
  obtain ⟨r, hr⟩ : ∃ r, r = g % 2 := ⟨_, rfl⟩
  obtain ⟨rh, hrh⟩ : ∃ rh, rh = r * h := ⟨_, rfl⟩
  have e0 : Int.tmod (g : Int) 2 = (r : Int) := by rw [hr]; rfl
  have e1 : (r : Int) * (h : Int) = (rh : Int) := by rw [hrh]; exact (Int.natCast_mul r h).symm
  have hh2 : h ≤ 2047 := by omega
  have hr2 : r ≤ 1 := by omega
  have hrh2 : rh ≤ 2047 := by
    rw [hrh]
    have : r = 0 ∨ r = 1 := by omega
    rcases this with e | e <;> rw [e] <;> omega
  have hf : fi = 2 + rh := by rw [hf, ← hr, ← hrh]
  clear hh
  have hT : T.Ok P := hP ▸ T_ok
  refine jjI Tryd.f25 hT ?_
  generalize hA : Ar.real = A
  generalize hK : Gives _ _ _ = K
  cbv
  have k0 : A.rem (Int.ofNat g) 2 = (r : Int) := by subst hA; exact e0
  have k1 : A.mul (r : Int) (Int.ofNat h) = (rh : Int) := by subst hA; exact e1
  refine ⟨jjO, ?_⟩
  refine jjS hA (a1) [] ?_
  cbv
  have k2 : A.mul (A.rem (Int.ofNat g) 2) (Int.ofNat h) = (rh : Int) := by rw [k0]; exact k1
  refine ⟨by (show A.inR .i64 (A.mul (A.rem (Int.ofNat g) 2) (Int.ofNat h))); rw [k2]; exact jjO, by (show A.inR .i64 (A.add 2 (A.mul (A.rem (Int.ofNat g) 2) (Int.ofNat h)))); rw [k2]; exact jjO, ?_⟩
  refine Fin.le hA 0 [] (.int .i64 (fi : Int)) ([]) 20 rfl rfl rfl ?_ ?_ jjK
  · (try cbv) <;> (repeat' (first | exact trivial | exact rfl | apply And.intro | exact fun _ => rfl | (intro _ hle; first | refine chunk_le hA rfl hle rfl ?_ | refine cat_le hA ?_ | refine upd_le hA ?_ | (try cbv))))
    show A.add 2 (A.mul (A.rem (Int.ofNat g) 2) (Int.ofNat h)) = _
    rw [k2]
    exact jjO
  · exact jjL
end
end Go.Proofs.YtnjjgipblimbfaaDoor.Dsk
namespace Go.WalLaw
open Go.DskLaw
theorem openOk_seal {n : Nat} {b f : Nat → Int} (hf : ∀ i, i < n + 4 → f i = sealF n b i) : OpenOk (n + 4) f := by
  refine ⟨by omega, fun i hi => ?_⟩
  rw [hf i hi, show n + 4 - 4 = n by omega]
  have hb : ∀ j, j < n → f j = b j := fun j hj => by
    rw [hf j (by omega)]
    unfold sealF CrcLaw.sealB cutF
    rw [if_pos hj, if_pos hj]
  have e1 : CrcLaw.more (bvF n f) 0#32 n = CrcLaw.more (bvF n b) 0#32 n := more_congr (fun j hj => by
    unfold bvF cutF
    rw [if_pos hj, if_pos hj, hb j hj])
  unfold sealF
  rw [e1]
  unfold CrcLaw.sealB
  by_cases q : i < n
  · rw [if_pos q, if_pos q]; unfold cutF; rw [if_pos q, if_pos q, hb i q]
  · rw [if_neg q, if_neg q]
theorem sealF_front {n i : Nat} {b : Nat → Int} (h : i < n) : sealF n b i = b i := by
  unfold sealF CrcLaw.sealB cutF
  rw [if_pos h, if_pos h]
def RecsV (V : Nat → Nat → Int) (fi : Nat) (nl : Nat → Nat) (nf : Nat → Nat → Int) (K : Nat) : Prop :=
  ∀ i, i < K → ∀ j, j < needN (nl i + 4) → ∀ x, x < 64 → V (atN fi (fun i => nl i + 4) i + j) x = pcs (nl i + 4) (sealF (nl i) (nf i)) j x
def Same (K : Nat) (g : Nat → Nat × (Nat → Int)) (nl : Nat → Nat) (nf : Nat → Nat → Int) : Prop := ∀ j, j < K → (g j).1 = nl j ∧ ∀ x, x < nl j → (g j).2 x = nf j x
theorem recP_recs {V : Nat → Nat → Int} {fi en K : Nat} {nl : Nat → Nat} {nf : Nat → Nat → Int} (hen : atN fi (fun i => nl i + 4) K ≤ en) (hl : ∀ i, i < K → nl i + 4 ≤ 65536) (hV : RecsV V fi nl nf K)
    (hstop : getP V (atN fi (fun i => nl i + 4) K) en (en - atN fi (fun i => nl i + 4) K) (atN fi (fun i => nl i + 4) K) 0 (fun _ => 0) = none) :
    ∀ (k i : Nat) (g : Nat → Nat × (Nat → Int)), i ≤ K → K - i < k → Same i g nl nf → ∃ gs, recP V en k (atN fi (fun i => nl i + 4) i) i g = (K, gs, atN fi (fun i => nl i + 4) K) ∧ Same K gs nl nf := by
  intro k
  induction k with
  | zero => intro i g _ h; omega
  | succ k ih =>
    intro i g hi hk hg
    by_cases q : i = K
    · subst q
      exact ⟨g, recP_none hstop, hg⟩
    · have hiK : i < K := by omega
      have hle : atN fi (fun i => nl i + 4) (i + 1) ≤ en := Nat.le_trans (atN_mono (by omega)) hen
      have hst : atN fi (fun i => nl i + 4) (i + 1) = atN fi (fun i => nl i + 4) i + needN (nl i + 4) := rfl
      obtain ⟨f', h1, h2⟩ := getP_whole (V := V) (first := atN fi (fun i => nl i + 4) i) (fin := en) (n := nl i + 4) (r := sealF (nl i) (nf i)) (by omega) (hl i hiK) (hV i hiK) (needN (nl i + 4) - 1) 0 (fun _ => 0) (by have := need1 (nl i + 4); omega) (fun j hj _ => by omega)
      have h1 : getP V (atN fi (fun i => nl i + 4) i) en (en - atN fi (fun i => nl i + 4) i) (atN fi (fun i => nl i + 4) i) 0 (fun _ => 0) = some (nl i + 4, f', atN fi (fun i => nl i + 4) i + needN (nl i + 4)) := h1
      rw [recP_some h1 (openOk_seal h2)]
      refine ih (i + 1) _ (by omega) (by omega) ?_
      intro j hj
      by_cases q2 : j < i
      · simp only [if_pos q2]; exact hg j q2
      · obtain rfl : j = i := by omega
        simp only [if_neg q2]
        exact ⟨by omega, fun x hx => by rw [h2 x (by omega), sealF_front hx]⟩
theorem genN_congr {v w : Nat → Int} : ∀ j, (∀ i, i < j → v i = w i) → genN v j = genN w j := by
  intro j
  induction j with
  | zero => intro _; rfl
  | succ j ih =>
    intro h
    unfold genN
    rw [ih (fun i hi => h i (by omega)), h j (by omega)]
theorem genN_headB {n : Nat} (hn : n < 256 ^ 8) : ∀ j, j ≤ 8 → genN (headB n) j = n / 256 ^ (8 - j) := by
  intro j
  induction j with
  | zero => intro _; show 0 = _; rw [Nat.div_eq_of_lt hn]
  | succ j ih =>
    intro hj
    unfold genN
    rw [ih (by omega)]
    have e1 : headB n j = ((n / 256 ^ (7 - j) % 256 : Nat) : Int) := by unfold headB; rw [if_pos (by omega)]
    rw [e1, Int.toNat_natCast, show 8 - j = (7 - j) + 1 by omega, show 8 - (j + 1) = 7 - j by omega, Nat.pow_succ, ← Nat.div_div_eq_div_mul]
    omega
theorem genN_all {n : Nat} (hn : n < 256 ^ 8) : genN (headB n) 8 = n := by
  rw [genN_headB hn 8 (by omega)]
  show n / 1 = n
  exact Nat.div_one n
theorem headB_zero (x : Nat) : headB 0 x = 0 := by
  unfold headB
  split
  · simp
  · split
    · simp
    · rfl
theorem genIs_headB {g sec : Nat} {v : Nat → Int} (hg : g ≤ 1099511627776) (hv : ∀ x, x < 64 → v x = headB g x) (hs : g % 2 = sec ∨ g = 0) : GenIs v sec g := by
  have e : genN v 8 = g := by rw [genN_congr 8 (fun i hi => hv i (by omega)), genN_all (by omega)]
  rcases Nat.eq_zero_or_pos g with rfl | h
  · exact .inr ⟨fun q => by have := q.1; omega, rfl⟩
  · exact .inl ⟨⟨by omega, by omega, by omega, by rw [e]; exact hv⟩, e.symm⟩
theorem genIs_congr {v w : Nat → Int} {sec g : Nat} (h : ∀ x, x < 64 → v x = w x) (hg : GenIs v sec g) : GenIs w sec g := by
  have e : genN v 8 = genN w 8 := genN_congr 8 (fun i hi => h i (by omega))
  have k : GenOk v sec ↔ GenOk w sec := by
    unfold GenOk
    rw [e]
    exact ⟨fun q => ⟨q.1, q.2.1, q.2.2.1, fun i hi => by rw [← h i hi]; exact q.2.2.2 i hi⟩, fun q => ⟨q.1, q.2.1, q.2.2.1, fun i hi => by rw [h i hi]; exact q.2.2.2 i hi⟩⟩
  rcases hg with ⟨a, b⟩ | ⟨a, b⟩
  · exact .inl ⟨k.1 a, by rw [← e]; exact b⟩
  · exact .inr ⟨fun q => a (k.2 q), b⟩
theorem wipeP_fr {V : Nat → Nat → Int} {ar : Bool} : ∀ (k x n : Nat) (L : Int → Option (Nat → Int)) (ca : Int) (t : Int), (wipeP V ar k x n L ca).2.1 t = L t ∨ ((x : Int) ≤ t ∧ t < ((x + k : Nat) : Int) ∧ (wipeP V ar k x n L ca).2.1 t = some (fun _ => 0)) := by
  intro k
  induction k with
  | zero => intro x n L ca t; exact .inl rfl
  | succ k ih =>
    intro x n L ca t
    by_cases ho : ar = true ∧ ca = 0
    · rw [wipeP_off ho]; exact .inl rfl
    · by_cases hb : ∀ i, i < 64 → V x i = 0
      · rw [wipeP_blank ho hb]
        rcases ih (x + 1) n L ca t with h | ⟨h1, h2, h3⟩
        · exact .inl h
        · exact .inr ⟨by omega, by omega, h3⟩
      · rw [wipeP_full ho hb]
        rcases ih (x + 1) (n + 1) (fun i => if i = (x : Int) then some (fun _ => 0) else L i) (if ar then ca - 1 else ca) t with h | ⟨h1, h2, h3⟩
        · by_cases q : t = (x : Int)
          · refine .inr ⟨by omega, by omega, ?_⟩
            rw [h]; exact if_pos q
          · left
            rw [h]; exact if_neg q
        · exact .inr ⟨by omega, by omega, h3⟩
theorem wipeP_done {V : Nat → Nat → Int} {ar : Bool} : ∀ (k x n : Nat) (L : Int → Option (Nat → Int)) (ca : Int) (m : Nat), (wipeP V ar k x n L ca).1 = some m → ∀ t : Nat, x ≤ t → t < x + k → (wipeP V ar k x n L ca).2.1 t = some (fun _ => 0) ∨ ((wipeP V ar k x n L ca).2.1 t = L t ∧ ∀ i, i < 64 → V t i = 0) := by
  intro k
  induction k with
  | zero => intro x n L ca m _ t h1 h2; omega
  | succ k ih =>
    intro x n L ca m hm t h1 h2
    by_cases ho : ar = true ∧ ca = 0
    · rw [wipeP_off ho] at hm; cases hm
    · by_cases hb : ∀ i, i < 64 → V x i = 0
      · rw [wipeP_blank ho hb] at hm ⊢
        by_cases q : t = x
        · rw [q]
          rcases wipeP_fr (V := V) (ar := ar) k (x + 1) n L ca (x : Int) with h | ⟨h3, h4, h5⟩
          · exact .inr ⟨h, hb⟩
          · omega
        · exact ih (x + 1) n L ca m hm t (by omega) (by omega)
      · rw [wipeP_full ho hb] at hm ⊢
        by_cases q : t = x
        · rw [q]
          rcases wipeP_fr (V := V) (ar := ar) k (x + 1) (n + 1) (fun i => if i = (x : Int) then some (fun _ => 0) else L i) (if ar then ca - 1 else ca) (x : Int) with h | ⟨h3, h4, h5⟩
          · left; rw [h]; exact if_pos rfl
          · exact .inl h5
        · rcases ih (x + 1) (n + 1) (fun i => if i = (x : Int) then some (fun _ => 0) else L i) (if ar then ca - 1 else ca) m hm t (by omega) (by omega) with h | ⟨h3, h4⟩
          · exact .inl h
          · exact .inr ⟨by rw [h3]; exact if_neg (by omega), h4⟩
theorem wipeP_run {V : Nat → Nat → Int} : ∀ (k x n : Nat) (L : Int → Option (Nat → Int)) (ca : Int), ∃ m, (wipeP V false k x n L ca).1 = some m := by
  intro k
  induction k with
  | zero => intro x n L ca; exact ⟨n, rfl⟩
  | succ k ih =>
    intro x n L ca
    have ho : ¬ (false = true ∧ ca = 0) := fun h => by cases h.1
    by_cases hb : ∀ i, i < 64 → V x i = 0
    · rw [wipeP_blank ho hb]; exact ih _ _ _ _
    · rw [wipeP_full ho hb]; exact ih _ _ _ _
theorem wipeD_fr {d d' : Dk} {a b : Nat} {on : Option Nat} (hw : wipeD d a b = (on, d')) (t : Int) : d'.L t = d.L t ∨ ((a : Int) ≤ t ∧ t < (b : Int) ∧ d'.L t = some (fun _ => 0)) := by
  obtain ⟨_, e2⟩ := Prod.mk.inj hw
  subst e2
  rcases wipeP_fr (V := fun i => secV d.S d.L i) (ar := d.ar) (b - a) a 0 d.L d.ca t with h | ⟨h1, h2, h3⟩
  · exact .inl h
  · exact .inr ⟨h1, by omega, h3⟩
theorem wipeD_S {d d' : Dk} {a b : Nat} {on : Option Nat} (hw : wipeD d a b = (on, d')) : d'.S = d.S ∧ d'.ar = d.ar := by
  obtain ⟨_, e2⟩ := Prod.mk.inj hw
  subst e2
  exact ⟨rfl, rfl⟩
theorem wipeD_done {d d' : Dk} {a b m : Nat} (hw : wipeD d a b = (some m, d')) (t : Nat) (h1 : a ≤ t) (h2 : t < b) (x : Nat) (hx : x < 64) : secV d'.S d'.L t x = 0 := by
  obtain ⟨e1, e2⟩ := Prod.mk.inj hw
  subst e2
  rcases wipeP_done (V := fun i => secV d.S d.L i) (ar := d.ar) (b - a) a 0 d.L d.ca m e1 t h1 (by omega) with h | ⟨h3, h4⟩
  · rw [secV_some' h]
  · have h4 : secV d.S d.L t x = 0 := h4 x hx
    cases e : d.L (t : Int) with
    | none => rw [secV_none' (h3.trans e)]; rw [secV_none' e] at h4; exact h4
    | some g => rw [secV_some' (h3.trans e)]; rw [secV_some' e] at h4; exact h4
theorem wipeD_run {d : Dk} {a b : Nat} (h : d.ar = false) : ∃ m d', wipeD d a b = (some m, d') := by
  obtain ⟨m, hm⟩ := wipeP_run (V := fun i => secV d.S d.L i) (b - a) a 0 d.L d.ca
  refine ⟨m, (wipeD d a b).2, Prod.ext ?_ rfl⟩
  show (wipeP (fun i => secV d.S d.L i) d.ar (b - a) a 0 d.L d.ca).1 = some m
  rw [h]
  exact hm
abbrev stN (fi : Nat) (nl : Nat → Nat) (i : Nat) : Nat := atN fi (fun i => nl i + 4) i
abbrev recB (nl : Nat → Nat) (nf : Nat → Nat → Int) (i j x : Nat) : Int := pcs (nl i + 4) (sealF (nl i) (nf i)) j x
theorem stN_succ (fi : Nat) (nl : Nat → Nat) (i : Nat) : stN fi nl (i + 1) = stN fi nl i + needN (nl i + 4) := rfl
theorem stN_mono {fi : Nat} {nl : Nat → Nat} {i j : Nat} (h : i ≤ j) : stN fi nl i ≤ stN fi nl j := atN_mono h
theorem stN_congr {fi c : Nat} {nl nl' : Nat → Nat} (h : ∀ i, i < c → nl' i = nl i) : ∀ i, i ≤ c → stN fi nl' i = stN fi nl i := by
  intro i
  induction i with
  | zero => intro _; rfl
  | succ i ih => intro hi; rw [stN_succ, stN_succ, ih (by omega), h i (by omega)]
theorem stN_in {fi c i j : Nat} {nl : Nat → Nat} (hi : i < c) (hj : j < needN (nl i + 4)) : fi ≤ stN fi nl i + j ∧ stN fi nl i + j < stN fi nl c := by
  have h1 : stN fi nl (i + 1) ≤ stN fi nl c := stN_mono (by omega)
  have h2 : stN fi nl 0 ≤ stN fi nl i := stN_mono (by omega)
  have h3 : stN fi nl 0 = fi := rfl
  rw [stN_succ] at h1
  omega
structure LogI (d : Dk) (fi en su w c : Nat) (nl : Nat → Nat) (nf : Nat → Nat → Int) : Prop where
  hsu : 1 ≤ su ∧ su ≤ c
  hw : stN fi nl su ≤ w ∧ w ≤ stN fi nl c
  hen : stN fi nl c ≤ en
  hlen : ∀ i, i < c → nl i + 4 ≤ 65536
  recs : ∀ i, i < su → ∀ j, j < needN (nl i + 4) → ∀ x, x < 64 → d.S (64 * (stN fi nl i + j) + x) = recB nl nf i j x
  blank : ∀ t, stN fi nl su ≤ t → t < en → ∀ x, x < 64 → d.S (64 * t + x) = 0
  lin : ∀ i, i < c → ∀ j, j < needN (nl i + 4) → stN fi nl su ≤ stN fi nl i + j → stN fi nl i + j < w → ∃ g, d.L ((stN fi nl i + j : Nat) : Int) = some g ∧ ∀ x, x < 64 → g x = recB nl nf i j x
  lout : ∀ t : Nat, fi ≤ t → t < en → (t < stN fi nl su ∨ w ≤ t) → d.L (t : Int) = none
structure HdI (d : Dk) (g : Nat) : Prop where
  cur : ∀ x, x < 64 → d.S (64 * (g % 2) + x) = headB g x
  old : ∀ x, x < 64 → d.S (64 * ((g + 1) % 2) + x) = headB (g - 1) x
  l0 : d.L 0 = none
  l1 : d.L 1 = none
structure ImgD (d : Dk) (g fi en K : Nat) (nl : Nat → Nat) (nf : Nat → Nat → Int) : Prop where
  heads : ∃ g0 g1, GenIs (fun x => d.S (64 * 0 + x)) 0 g0 ∧ GenIs (fun x => d.S (64 * 1 + x)) 1 g1 ∧ g = max g0 g1
  hK : 1 ≤ K ∧ stN fi nl K ≤ en
  hlen : ∀ i, i < K → nl i + 4 ≤ 65536
  recs : ∀ i, i < K → ∀ j, j < needN (nl i + 4) → ∀ x, x < 64 → d.S (64 * (stN fi nl i + j) + x) = recB nl nf i j x
  stop : ∃ j0, (∀ j, j < j0 → d.S (64 * (stN fi nl K + j) + 63) = 0 ∨ d.S (64 * (stN fi nl K + j) + 63) = 1) ∧ (stN fi nl K + j0 < en → d.S (64 * (stN fi nl K + j0) + 63) = 0)
  lz : ∀ k g, d.L k = some g → ∃ t : Nat, k = (t : Int) ∧ stN fi nl K ≤ t ∧ t < en ∧ ∀ x, x < 64 → g x = 0
def crashD (d : Dk) (ks kb : Nat → Int) (n : Nat) : Dk := ⟨(crashP d.S d.L ks kb n).1, fun _ => none, false, 0⟩
theorem crashD_S {s : Nat} {d : Dk} {ks kb : Nat → Int} {n : Nat} (ok : DkOk s d) (t x : Nat) (hx : x < 64) : (crashD d ks kb n).S (64 * t + x) = secC d.S d.L ks kb n t x := (crashP_eq (fun k g h => (ok.key k g h).1) n).2 t x hx
theorem secC_none {S : Nat → Int} {L : Int → Option (Nat → Int)} {ks kb : Nat → Int} {n t : Nat} (h : L (t : Int) = none) (x : Nat) : secC S L ks kb n t x = S (64 * t + x) := by unfold secC; rw [h]
theorem secC_some {S : Nat → Int} {L : Int → Option (Nat → Int)} {ks kb : Nat → Int} {n t : Nat} {g : Nat → Int} (h : L (t : Int) = some g) : ∃ k, k ≤ 64 ∧ ∀ x, secC S L ks kb n t x = if x < k then g x else S (64 * t + x) := by
  refine ⟨(keptB ks kb (t : Int) n).getD 0, ?_, fun x => ?_⟩
  · cases e : keptB ks kb (t : Int) n with
    | none => exact Nat.zero_le _
    | some b => exact keptB_le e
  · unfold secC; rw [h]
theorem DkOk.crash {s : Nat} {d : Dk} {ks kb : Nat → Int} {n : Nat} (ok : DkOk s d) : DkOk s (crashD d ks kb n) where
  hca := ⟨Int.le_refl 0, (by decide : (0 : Int) ≤ 9223372036854775807)⟩
  key := fun k g e => by cases e
  sb := fun x hx => by
    rw [show x = 64 * (x / 64) + x % 64 by omega, crashD_S ok (x / 64) (x % 64) (by omega)]
    cases e : d.L ((x / 64 : Nat) : Int) with
    | none => rw [secC_none e]; exact ok.sb _ (by omega)
    | some g =>
      obtain ⟨k, _, hk⟩ := secC_some (S := d.S) (ks := ks) (kb := kb) (n := n) e
      rw [hk]
      split
      · exact ok.lb _ g e _ (by omega)
      · exact ok.sb _ (by omega)
  lb := fun k g e => by cases e
theorem usedP_mark1 {v : Nat → Int} (h : v 63 = 1) : usedP v = none ∨ usedP v = some (62, true) := by
  by_cases q : padOk v
  · by_cases q2 : (v 62).toNat = 62
    · exact .inr (usedP_on q h q2)
    · exact .inl (usedP_none2 q h q2)
  · exact .inl (usedP_none1 q)
theorem getP_marks {V : Nat → Nat → Int} {first fin j0 : Nat} (h1 : ∀ j, j < j0 → first + j < fin → V (first + j) 63 = 0 ∨ V (first + j) 63 = 1) (h2 : first + j0 < fin → V (first + j0) 63 = 0) :
    ∀ (k j n : Nat) (f : Nat → Int), k + j = j0 → getP V first fin (fin - (first + j)) (first + j) n f = none := by
  intro k
  induction k with
  | zero =>
    intro j n f hk
    obtain rfl : j = j0 := by omega
    by_cases q : fin ≤ first + j
    · exact getP_stop q _
    · exact getP_none (by omega) (usedP_zero (h2 (by omega)))
  | succ k ih =>
    intro j n f hk
    by_cases q : fin ≤ first + j
    · exact getP_stop q _
    · rcases h1 j (by omega) (by omega) with e | e
      · exact getP_none (by omega) (usedP_zero e)
      · rcases usedP_mark1 e with u | u
        · exact getP_none (by omega) u
        · by_cases l : 65536 < n + 62
          · exact getP_long (by omega) u l
          · rw [getP_on (by omega) u l]
            exact ih (j + 1) _ _ (by omega)
theorem secV_eq {S : Nat → Int} {L : Int → Option (Nat → Int)} (h : ∀ k, L k = none) (t x : Nat) : secV S L t x = S (64 * t + x) := secV_none' (h _) x
theorem ImgD.read {d : Dk} {g fi en K : Nat} {nl : Nat → Nat} {nf : Nat → Nat → Int} (h : ImgD d g fi en K nl nf) (hL : ∀ k, d.L k = none) (g0 : Nat → Nat × (Nat → Int)) :
    ∃ gs, recP (fun t => secV d.S d.L t) en (en - fi + 1) fi 0 g0 = (K, gs, stN fi nl K) ∧ Same K gs nl nf := by
  refine recP_recs (nl := nl) (nf := nf) h.hK.2 h.hlen ?_ ?_ (en - fi + 1) 0 g0 (by omega) ?_ (fun j hj => by omega)
  · intro i hi j hj x hx
    show secV d.S d.L _ x = _
    rw [secV_eq hL]
    exact h.recs i hi j hj x hx
  · obtain ⟨j0, h1, h2⟩ := h.stop
    refine getP_marks (V := fun t => secV d.S d.L t) (first := stN fi nl K) (j0 := j0) (fun j hj _ => ?_) (fun hq => ?_) j0 0 0 _ (by omega)
    · show secV d.S d.L _ 63 = 0 ∨ secV d.S d.L _ 63 = 1
      rw [secV_eq hL]
      exact h1 j hj
    · show secV d.S d.L _ 63 = 0
      rw [secV_eq hL]
      exact h2 hq
  · have h1 := h.hK.2
    have h2 : fi + K ≤ stN fi nl K := le_atN fi (fun i => nl i + 4) K
    show K - 0 < en - fi + 1
    omega
theorem ImgD.gens {d : Dk} {g fi en K : Nat} {nl : Nat → Nat} {nf : Nat → Nat → Int} (h : ImgD d g fi en K nl nf) (hL : ∀ k, d.L k = none) :
    ∃ g0 g1, GenIs (secV d.S d.L 0) 0 g0 ∧ GenIs (secV d.S d.L 1) 1 g1 ∧ g = max g0 g1 := by
  obtain ⟨g0, g1, h0, h1, e⟩ := h.heads
  exact ⟨g0, g1, genIs_congr (fun x _ => (secV_eq hL 0 x).symm) h0, genIs_congr (fun x _ => (secV_eq hL 1 x).symm) h1, e⟩
theorem ImgD.wipe {d d' : Dk} {g fi en K : Nat} {nl : Nat → Nat} {nf : Nat → Nat → Int} {on : Option Nat} (h : ImgD d g fi en K nl nf) (hw : wipeD d (stN fi nl K) en = (on, d')) : ImgD d' g fi en K nl nf := by
  have e1 := (wipeD_S hw).1
  refine ⟨by rw [e1]; exact h.heads, h.hK, h.hlen, by rw [e1]; exact h.recs, by rw [e1]; exact h.stop, fun k g e => ?_⟩
  rcases wipeD_fr hw k with q | ⟨q1, q2, q3⟩
  · exact h.lz k g (by rw [← q]; exact e)
  · rw [q3] at e
    cases e
    exact ⟨k.toNat, by omega, by omega, by omega, fun _ _ => rfl⟩
theorem flushD_S (d : Dk) (t x : Nat) (hx : x < 64) : (flushD d).S (64 * t + x) = secV d.S d.L t x := by
  show secV d.S d.L ((64 * t + x) / 64) ((64 * t + x) % 64) = _
  rw [show (64 * t + x) / 64 = t by omega, show (64 * t + x) % 64 = x by omega]
theorem ImgD.flush {d : Dk} {g fi en K : Nat} {nl : Nat → Nat} {nf : Nat → Nat → Int} (h : ImgD d g fi en K nl nf) (hf : 2 ≤ fi) : ImgD (flushD d) g fi en K nl nf := by
  have hst : fi ≤ stN fi nl K := stN_mono (fi := fi) (nl := nl) (i := 0) (by omega)
  have lo : ∀ t x, t < stN fi nl K → x < 64 → (flushD d).S (64 * t + x) = d.S (64 * t + x) := fun t x ht hx => by
    rw [flushD_S d t x hx]
    refine secV_none' ?_ x
    cases e : d.L (t : Int) with
    | none => rfl
    | some g =>
      obtain ⟨t', e1, e2, _⟩ := h.lz _ g e
      omega
  have hi : ∀ t, (flushD d).S (64 * t + 63) = d.S (64 * t + 63) ∨ (flushD d).S (64 * t + 63) = 0 := fun t => by
    rw [flushD_S d t 63 (by omega)]
    cases e : d.L (t : Int) with
    | none => exact .inl (secV_none' e 63)
    | some g =>
      obtain ⟨_, _, _, _, hz⟩ := h.lz _ g e
      rw [secV_some' e]
      exact .inr (hz 63 (by omega))
  refine ⟨?_, h.hK, h.hlen, ?_, ?_, fun k g e => by cases e⟩
  · obtain ⟨g0, g1, h0, h1, e⟩ := h.heads
    exact ⟨g0, g1, genIs_congr (fun x hx => (lo 0 x (by omega) hx).symm) h0, genIs_congr (fun x hx => (lo 1 x (by omega) hx).symm) h1, e⟩
  · intro i hi j hj x hx
    rw [lo _ x (stN_in hi hj).2 hx]
    exact h.recs i hi j hj x hx
  · obtain ⟨j0, h1, h2⟩ := h.stop
    refine ⟨j0, fun j hj => ?_, fun hq => ?_⟩
    · rcases hi (stN fi nl K + j) with e | e
      · rw [e]; exact h1 j hj
      · exact .inl e
    · rcases hi (stN fi nl K + j0) with e | e
      · rw [e]; exact h2 hq
      · exact e
def headQ (g j : Nat) (x : Nat) : Int := if (8 ≤ x + j ∧ x < 8) ∨ 64 ≤ x + j then headB g x else 0
theorem headQ_zero (g x : Nat) (hx : x < 64) : headQ g 0 x = 0 := by
  unfold headQ; rw [if_neg (by omega)]
theorem headQ_all (g x : Nat) (hx : x < 64) : headQ g 8 x = headB g x := by
  unfold headQ
  split
  · rfl
  · unfold headB; rw [if_neg (by omega), if_neg (by omega)]
theorem headQ_succ (g j x : Nat) (hj : j < 8) (hx : x < 64) : headQ g (j + 1) x = if x = 63 - j then ((g / 256 ^ j % 256 : Nat) : Int) else if x = 7 - j then ((g / 256 ^ j % 256 : Nat) : Int) else headQ g j x := by
  unfold headQ headB
  by_cases h1 : x = 63 - j
  · rw [if_pos (by omega), if_neg (by omega), if_pos (by omega), if_pos h1, show 63 - x = j by omega]
  · rw [if_neg h1]
    by_cases h2 : x = 7 - j
    · rw [if_pos (by omega), if_pos (by omega), if_pos h2, show 7 - x = j by omega]
    · rw [if_neg h2]
      by_cases h3 : (8 ≤ x + j ∧ x < 8) ∨ 64 ≤ x + j
      · rw [if_pos (by omega), if_pos h3]
      · rw [if_neg (by omega), if_neg h3]
theorem genN_mono (v : Nat → Int) {i j : Nat} (h : i ≤ j) : genN v i ≤ genN v j := by
  induction j with
  | zero => rw [Nat.le_zero.1 h]; exact Nat.le_refl _
  | succ j ih =>
    rcases Nat.lt_or_ge i (j + 1) with q | q
    · have := ih (by omega)
      show _ ≤ genN v j * 256 + (v j).toNat
      omega
    · rw [show i = j + 1 by omega]; exact Nat.le_refl _
end Go.WalLaw
namespace Go.Proofs.YtnjjgipblimbfaaDoor.Dsk
open Go.Eng
open Go.DskLaw (q64 secV isB)
open Go.WalLaw
set_option maxRecDepth 100000
set_option maxHeartbeats 1000000
theorem byteR (x : Nat) : IntKind.u8.wrap (Int.tmod (x : Int) 256) = ((x % 256 : Nat) : Int) := by
  rw [show Int.tmod (x : Int) 256 = ((x % 256 : Nat) : Int) from rem_nat x 256]
  simp only [IntKind.wrap, IntKind.bits, IntKind.signed]
  simp
theorem rhead_own {P : Program} {G : Gl} (hP : P = Tryd.prog) {g : Nat} {f : Nat → Int} (hg : g ≤ 9223372036854775807) (hf : ∀ i, i < 64 → f i = headB g i) :
    FnTr P G 98 [.int .i64 (g : Int)] [] 0 (Gives (.sl 0 1 (.l 0) (.l 64)) [(0, .row 5 1 (.l 64) (fun e => [.int .u8 (f e.val)]))] 100) := by
  obtain ⟨F, hF⟩ : ∃ F : Nat → Nat → Int, ∀ j x, F j x = headQ g j x := ⟨_, fun _ _ => rfl⟩
  have hF0 : ∀ x, x < 64 → F 0 x = 0 := fun x hx => by rw [hF]; exact headQ_zero g x hx
  obtain ⟨B, hB⟩ : ∃ B : Nat → Int, ∀ j, B j = ((g / 256 ^ j % 256 : Nat) : Int) := ⟨_, fun _ => rfl⟩
  obtain ⟨Y, hY⟩ : ∃ Y : Nat → Nat, ∀ j, Y j = g / 256 ^ j := ⟨_, fun _ => rfl⟩
  have hFs : ∀ (j x : Nat), j < 8 → x < 64 → F (j + 1) x = if x = 63 - j then B j else if x = 7 - j then B j else F j x := fun j x hj hx => by rw [hF, hF, hB]; exact headQ_succ g j x hj hx
  have hF8 : ∀ x, x < 64 → F 8 x = f x := fun x hx => by rw [hF, headQ_all g x hx, hf x hx]
  have hb : ∀ (j : Nat), IntKind.u8.wrap (Int.tmod ((Y j : Nat) : Int) 256) = B j := fun j => by rw [hB, byteR, hY]
  have hY0 : Y 0 = g := by rw [hY]; exact Nat.div_one g
  have hYs : ∀ j, Int.tdiv ((Y j : Nat) : Int) 256 = ((Y (j + 1) : Nat) : Int) := fun j => by
    rw [show Int.tdiv ((Y j : Nat) : Int) 256 = ((Y j / 256 : Nat) : Int) from quo_nat (Y j) 256, hY, hY, Nat.pow_succ, Nat.div_div_eq_div_mul]
  have hYle : ∀ j, Y j ≤ 9223372036854775807 := fun j => by rw [hY]; exact Nat.le_trans (Nat.div_le_self _ _) hg
  obtain ⟨I, hI⟩ : ∃ I : Nat → Int, ∀ j, I j = 7 - (j : Int) := ⟨_, fun _ => rfl⟩
  have hI0 : I 0 = 7 := hI 0
  have hI2 : ∀ j, j < 8 → (I j).toNat = 7 - j := fun j hj => by rw [hI]; omega
  have hI3 : ∀ j, j < 8 → ((56 : Int) + I j).toNat = 63 - j := fun j hj => by rw [hI]; omega
  have hI4 : ∀ j, 0 ≤ I j ↔ j < 8 := fun j => by rw [hI]; omega
  have hI5 : ∀ j, I (j + 1) = I j - 1 := fun j => by rw [hI, hI]; omega
  have hI6 : ∀ j, j ≤ 8 → -1 ≤ I j ∧ I j ≤ 7 := fun j hj => by rw [hI]; omega
  clear hI
  clear hF hf hB hY
  have hT : T.Ok P := hP ▸ T_ok
  refine jjI Tryd.f98 hT ?_
  generalize hA : Ar.real = A
  generalize hK : Gives _ _ _ = K
  cbv
  refine ⟨jjO, ?_⟩
  refine LS.le hT hA 2 (fun (j : Nat) => [(4, .int .i64 ((Y j : Nat) : Int)), (5, .int .i64 (I j))]) (fun j => [(1, .row 5 1 (.l 64) (fun e => [.int .u8 (F j e.val)]))]) (fun j => j ≤ 8) (fun j => 8 - j) 0 [] rfl rfl ?_ ?_ ?_
  · (try cbv) <;> (repeat' (first | exact trivial | exact rfl | apply And.intro | exact fun _ => rfl | (intro _ hle; first | refine chunk_le hA rfl hle rfl ?_ | refine cat_le hA ?_ | refine upd_le hA ?_ | (try cbv))))
    all_goals first | exact hI0.symm | exact congrArg Int.ofNat hY0.symm | (rw [hY0]; rfl) | (refine (hF0 _ ?_).symm; subst hA; exact ltNV_real.1 (by assumption))
  · exact Nat.zero_le _
  · intro R hR j hj
    cbv
    have hI2 := hI2 j
    have hI3 := hI3 j
    have hI4 := hI4 j
    have hI5 := hI5 j
    have hI6 := hI6 j hj
    refine ⟨fun q1 => ?_, fun q1 => ?_⟩
    · have hj8 : j < 8 := by clear hR hF0 hFs hF8 hb hYs hYle; subst hA; simp [Ar.real] at q1; exact hI4.1 q1
      have hI2 := hI2 hj8
      have hI3 := hI3 hj8
      have hb := hb j
      have hYs := hYs j
      have hFs := fun x hx => hFs j x hj8 hx
      have hYle := hYle j
      have hI4' := hI4.2 hj8
      clear hF0 hF8 hI4
      have kn : A.nat (I j) = 7 - j := by clear hR hFs hb hYs; subst hA; exact hI2
      have kn2 : A.nat (A.add 56 (I j)) = 63 - j := by clear hR hFs hb hYs kn; subst hA; exact hI3
      have kv : A.conv .u8 (A.rem ((Y j : Nat) : Int) 256) = B j := by clear hR hFs kn kn2 hYs; subst hA; exact hb
      have ky : A.quo ((Y j : Nat) : Int) 256 = ((Y (j + 1) : Nat) : Int) := by clear hR hFs kn kn2 hb kv; subst hA; exact hYs
      have hup : ∀ e, ltNV A e (.l 64) → leL (leSV A 4) (updF A 1 (.s (A.nat (A.add 56 (I j)))) 0 [.int .u8 (A.conv .u8 (A.rem ((Y j : Nat) : Int) 256))] (updF A 1 (.s (A.nat (I j))) 0 [.int .u8 (A.conv .u8 (A.rem ((Y j : Nat) : Int) 256))] (fun e => [.int .u8 (F j e.val)])) e) [.int .u8 (F (j + 1) e.val)] := fun e he =>
        Ints.le hA (Ints.upd hA (A.nat (A.add 56 (I j))) rfl (Ints.upd hA (A.nat (I j)) rfl (Ints.base .u8 (F j) 64))) he (Nat.le_refl _) (by rw [kn2, kn, kv, hFs _ (by subst hA; exact ltNV_real.1 he)])
      have ki : A.inR .i64 (A.quo ((Y j : Nat) : Int) 256) := by
        clear hR hFs kn kn2 hb kv ky hup hYs; subst hA
        show inRange .i64 (Int.tdiv ((Y j : Nat) : Int) 256)
        rw [show Int.tdiv ((Y j : Nat) : Int) 256 = ((Y j / 256 : Nat) : Int) from quo_nat (Y j) 256]
        exact zi
      clear hb hFs kv kn kn2 hYs
      cbv
      have hI0' : 0 ≤ I j := hI4'
      refine ⟨?_, ?_, ?_, ?_, ?_, ?_, ?_, ⟨?_, ki⟩, ?_, hR _ _ ⟨j + 1, 2, [], rfl, rfl, ?_, hj8, (by show 8 - (j + 1) < 8 - j; omega)⟩⟩
      iterate 9 exact jjO
      clear hR ki
      (try cbv) <;> (repeat' (first | exact trivial | exact rfl | apply And.intro | exact fun _ => rfl | (intro _ hle; first | exact hup _ hle | refine chunk_le hA rfl hle rfl ?_ | refine cat_le hA ?_ | refine upd_le hA ?_ | refine int_le ?_ | skip)))
      all_goals first | exact ky | (rw [hI5]; exact jjO) | exact jjO
    · have hj8 : j = 8 := by
        have : ¬ 0 ≤ I j := by clear hR hF0 hFs hF8 hb hYs hYle; subst hA; simp [Ar.real] at q1; omega
        rw [hI4] at this; omega
      subst hj8
      clear hR hF0 hFs hb hYs hYle
      cbv
      refine Fin.le hA 0 [(1, 0)] (.sl 0 1 (.l 0) (.l 64)) ([(0, .row 5 1 (.l 64) (fun e => [.int .u8 (f e.val)]))]) 100 rfl rfl rfl ?_ ?_ jjK
      · exact jjL
      · (try cbv) <;> (repeat' (first | exact trivial | exact rfl | apply And.intro | exact fun _ => rfl | (intro _ hle; first | refine chunk_le hA rfl hle rfl ?_ | refine cat_le hA ?_ | refine upd_le hA ?_ | (try cbv))))
        all_goals (refine hF8 _ ?_; subst hA; exact ltNV_real.1 (by assumption))
theorem rhead_fn {P : Program} {G : Gl} (hP : P = Tryd.prog) {g : Nat} {f : Nat → Int} (hg : g ≤ 9223372036854775807) (hf : ∀ i, i < 64 → f i = headB g i) :
    FnTr P G 98 [.int .i64 (g : Int)] [] 0 (Gives (.ro 1 (.l 64) (fun e => [.int .u8 (f e.val)])) [] 100) := by
  have h1 := rhead_own (P := P) (G := G) hP hg hf
  generalize hA : Ar.real = A
  refine FnTr.dat hA h1 _ _ ?_
  (try cbv) <;> (repeat' (first | exact trivial | exact rfl | apply And.intro | exact fun _ => rfl | (intro _ hle; first | refine chunk_le hA rfl hle rfl ?_ | refine cat_le hA ?_ | refine upd_le hA ?_ | (try cbv))))
  all_goals exact jjO
theorem rgen_fn {P : Program} {G : Gl} (hP : P = Tryd.prog) {n sec g : Nat} {v : Nat → Int} (hn : n = 64) (hi : sec < 2) (hb : isB v) (hg : GenIs v sec g) :
    FnTr P G 93 [By n v, .int .i64 (sec : Int)] [] 0 (Gives (.int .i64 (g : Int)) [] 1000) := by
  obtain ⟨X, hX⟩ : ∃ X : Nat → Nat, ∀ j, X j = genN v j := ⟨_, fun _ => rfl⟩
  have hX0 : X 0 = 0 := hX 0
  have hXm : ∀ j, j ≤ 8 → X j ≤ X 8 := fun j hj => by rw [hX, hX]; exact genN_mono v hj
  have hXs : ∀ j, j < 8 → ((X j : Nat) : Int) * 256 + v j = ((X (j + 1) : Nat) : Int) := fun j hj => by
    have := hb j (by omega)
    rw [hX, hX]
    show _ = ((genN v j * 256 + (v j).toNat : Nat) : Int)
    omega
  have hX8 : X 8 = genN v 8 := hX 8
  clear hX
  have hG : GenOk v sec ↔ (1 ≤ X 8 ∧ X 8 ≤ 1099511627776 ∧ X 8 % 2 = sec ∧ ∀ i, i < 64 → v i = headB (X 8) i) := by rw [hX8]; exact Iff.rfl
  have hg2 : (GenOk v sec ∧ g = X 8) ∨ (¬ GenOk v sec ∧ g = 0) := by rw [hX8]; exact hg
  clear hg hX8
  have hbig : ∀ j, j ≤ 8 → 1099511627776 < X j → g = 0 := fun j hj h => by
    rcases hg2 with q | q
    · have := (hG.1 q.1).2.1
      have := hXm j hj
      omega
    · exact q.2
  have hT : T.Ok P := hP ▸ T_ok
  refine jjI Tryd.f93 hT ?_
  generalize hA : Ar.real = A
  generalize hK : Gives _ _ _ = K
  cbv
  refine LS.le hT hA 0 (fun (i : Nat) => [(5, .int .i64 ((X i : Nat) : Int)), (6, .int .i64 (i : Int))]) (fun _ => []) (fun i => i ≤ 8) (fun i => 8 - i) 0 [] rfl rfl ?_ ?_ ?_
  · (try cbv) <;> (repeat' (first | exact trivial | exact rfl | apply And.intro | exact fun _ => rfl | (intro _ hle; first | refine chunk_le hA rfl hle rfl ?_ | refine cat_le hA ?_ | refine upd_le hA ?_ | (try cbv))))
    all_goals (subst hA; rw [hX0]; rfl)
  · exact Nat.zero_le _
  · intro R hR i hi8
    cbv
    refine ⟨fun q1 => ?_, fun q1 => ?_⟩
    · have hlt : i < 8 := by clear hR hX0 hXs hXm hb hG hg2 hbig; subst hA; simp [Ar.real] at q1; omega
      have hXs := hXs i hlt
      have hv1 := hb i (by omega)
      have hbig := hbig i (by omega)
      have kn : A.nat (Int.ofNat i) = i := by clear hR hXs; subst hA; rfl
      cbv
      by_cases q2 : 1099511627776 < X i
      · have k1 : A.gt ((X i : Nat) : Int) 1099511627776 = true := by clear hR hXs; subst hA; simp [Ar.real]; omega
        have hg0 := hbig q2
        clear hR hX0 hXs hXm hb hG hg2 hbig
        first | refine testR k1 rfl ?_ | refine testL k1 rfl ?_
        cbv
        refine Fin.le hA 0 [] (.int .i64 (g : Int)) ([]) 1000 rfl rfl rfl ?_ ?_ jjK
        · (try cbv) <;> (repeat' (first | exact trivial | exact rfl | apply And.intro | exact fun _ => rfl | (intro _ hle; first | refine chunk_le hA rfl hle rfl ?_ | refine cat_le hA ?_ | refine upd_le hA ?_ | (try cbv))))
          all_goals exact jjO
        · exact jjL
      · have k1 : A.gt ((X i : Nat) : Int) 1099511627776 = false := by clear hR hXs; subst hA; simp [Ar.real]; omega
        clear hX0 hXm hb hG hg2 hbig
        have kx : A.add (A.mul ((X i : Nat) : Int) 256) (A.conv .i64 (v (A.nat (Int.ofNat i)))) = ((X (i + 1) : Nat) : Int) := by
          rw [kn]; clear hR kn k1; subst hA
          refine Eq.trans ?_ hXs
          show ((X i : Nat) : Int) * 256 + IntKind.i64.wrap (v i) = _
          rw [show IntKind.i64.wrap (v i) = v i by rw [IntKind.wrap_i64]; omega]
        have kr : A.inR .i64 (A.add (A.mul ((X i : Nat) : Int) 256) (A.conv .i64 (v (A.nat (Int.ofNat i))))) := by
          rw [kx]; clear hR kn k1 kx; subst hA
          simp only [zn] at *
          exact zi
        clear hXs kn
        first | refine testR k1 rfl ?_ | refine testL k1 rfl ?_
        cbv
        refine ⟨?_, ?_, kr, ?_, hR _ _ ⟨i + 1, 0, [], rfl, rfl, ?_, hlt, (by show 8 - (i + 1) < 8 - i; omega)⟩⟩
        iterate 3 exact jjO
        clear hR kr
        (try cbv) <;> (repeat' (first | exact trivial | exact rfl | apply And.intro | exact fun _ => rfl | (intro _ hle; first | refine chunk_le hA rfl hle rfl ?_ | refine cat_le hA ?_ | refine upd_le hA ?_ | (try cbv))))
        all_goals first | exact kx | exact jjO
    · have h8 : i = 8 := by clear hR hX0 hXs hXm hb hG hg2 hbig; subst hA; simp [Ar.real] at q1; omega
      subst h8
      clear hR hX0 hXs hXm hbig
      obtain ⟨x, hx⟩ : ∃ x, x = X 8 := ⟨_, rfl⟩
      rw [← hx] at hG hg2
      have ex : ((X 8 : Nat) : Int) = (x : Int) := by rw [hx]
      have kc : A.rem ((X 8 : Nat) : Int) 2 = ((x % 2 : Nat) : Int) := by rw [← hx]; clear hG hg2; subst hA; rfl
      by_cases g1 : x < 1
      · have g0 : g = 0 := by rcases hg2 with h | h; exact absurd (hG.1 h.1).1 (by omega); exact h.2
        have k1 : A.lt ((X 8 : Nat) : Int) 1 = true := by rw [← hx]; clear hG hg2; subst hA; simp [Ar.real]; omega
        clear hG hg2 hb
        cbv
        refine jjR hA hT 300 ?_
        cbv
        first | refine testR k1 rfl ?_ | refine testL k1 rfl ?_
        cbv
        refine jjD ?_
        cbv
        refine Fin.le hA 0 [] (.int .i64 (g : Int)) ([]) 1000 rfl rfl rfl ?_ ?_ jjK
        · (try cbv) <;> (repeat' (first | exact trivial | exact rfl | apply And.intro | exact fun _ => rfl | (intro _ hle; first | refine chunk_le hA rfl hle rfl ?_ | refine cat_le hA ?_ | refine upd_le hA ?_ | (try cbv))))
          all_goals first | (rw [g0]; rfl) | (rw [g0, hx]; rfl) | (rw [g0, hx]) | (subst hA; rw [g0]; rfl) | trace_state
        · exact jjL
      have k1 : A.lt ((X 8 : Nat) : Int) 1 = false := by rw [← hx]; clear hG hg2; subst hA; simp [Ar.real]; omega
      by_cases g2 : 1099511627776 < x
      · have g0 : g = 0 := by rcases hg2 with h | h; exact absurd (hG.1 h.1).2.1 (by omega); exact h.2
        have k2 : A.gt ((X 8 : Nat) : Int) 1099511627776 = true := by rw [← hx]; clear hG hg2; subst hA; simp [Ar.real]; omega
        clear hG hg2 hb
        cbv
        refine jjR hA hT 300 ?_
        cbv
        first | refine testR k1 rfl ?_ | refine testL k1 rfl ?_
        cbv
        first | refine testR k2 rfl ?_ | refine testL k2 rfl ?_
        cbv
        refine jjD ?_
        cbv
        refine Fin.le hA 0 [] (.int .i64 (g : Int)) ([]) 1000 rfl rfl rfl ?_ ?_ jjK
        · (try cbv) <;> (repeat' (first | exact trivial | exact rfl | apply And.intro | exact fun _ => rfl | (intro _ hle; first | refine chunk_le hA rfl hle rfl ?_ | refine cat_le hA ?_ | refine upd_le hA ?_ | (try cbv))))
          all_goals first | (rw [g0]; rfl) | (rw [g0, hx]; rfl) | (rw [g0, hx]) | (subst hA; rw [g0]; rfl) | trace_state
        · exact jjL
      have k2 : A.gt ((X 8 : Nat) : Int) 1099511627776 = false := by rw [← hx]; clear hG hg2; subst hA; simp [Ar.real]; omega
      by_cases g3 : ¬ x % 2 = sec
      · have g0 : g = 0 := by rcases hg2 with h | h; exact absurd (hG.1 h.1).2.2.1 g3; exact h.2
        have k3 : A.ne (A.rem ((X 8 : Nat) : Int) 2) (Int.ofNat sec) = true := by rw [kc]; clear hG hg2 k1 k2 kc; subst hA; simp [Ar.real]; omega
        clear hG hg2 hb
        cbv
        refine jjR hA hT 300 ?_
        cbv
        first | refine testR k1 rfl ?_ | refine testL k1 rfl ?_
        cbv
        first | refine testR k2 rfl ?_ | refine testL k2 rfl ?_
        cbv
        refine ⟨jjO, ?_⟩
        first | refine testR k3 rfl ?_ | refine testL k3 rfl ?_
        cbv
        refine jjD ?_
        cbv
        refine Fin.le hA 0 [] (.int .i64 (g : Int)) ([]) 1000 rfl rfl rfl ?_ ?_ jjK
        · (try cbv) <;> (repeat' (first | exact trivial | exact rfl | apply And.intro | exact fun _ => rfl | (intro _ hle; first | refine chunk_le hA rfl hle rfl ?_ | refine cat_le hA ?_ | refine upd_le hA ?_ | (try cbv))))
          all_goals first | (rw [g0]; rfl) | (rw [g0, hx]; rfl) | (rw [g0, hx]) | (subst hA; rw [g0]; rfl) | trace_state
        · exact jjL
      have g3 := Decidable.not_not.1 g3
      have k3 : A.ne (A.rem ((X 8 : Nat) : Int) 2) (Int.ofNat sec) = false := by rw [kc]; clear hG hg2 k1 k2 kc; subst hA; simp [Ar.real]; omega
      obtain ⟨hd, hhd⟩ : ∃ hd : Nat → Int, ∀ i, hd i = headB x i := ⟨_, fun _ => rfl⟩
      have c1 := rhead_fn (P := P) (G := G) (g := X 8) (f := hd) hP (by rw [← hx]; omega) (fun i _ => by rw [← hx]; exact hhd i)
      have bh : ∀ i, i < 64 → 0 ≤ hd i ∧ hd i < 256 := fun i _ => by rw [hhd]; have := headB_range x i; omega
      have bv : ∀ i, i < n → 0 ≤ v i ∧ v i < 256 := fun i hi => by have := hb i (by omega); omega
      have hbe := bytes_eq (n := 64) (m := n) (f := hd) (g := v) bh bv
      by_cases g4 : ∀ i, i < 64 → hd i = v i
      · have g0 : g = x := by
          rcases hg2 with h | h
          · exact h.2
          · exact absurd (hG.2 ⟨by omega, by omega, g3, fun i hi => by rw [← g4 i hi, hhd]⟩) h.1
        have k4 : A.not (A.eqL (A.bytes 64 (byteAt fun e => [.int .u8 (hd e.val)])) (A.bytes n (byteAt fun e => [.int .u8 (v e.val)]))) = false := by
          have := hbe.2 ⟨hn.symm, g4⟩
          clear hG hg2 k1 k2 k3 kc c1 hbe; subst hA
          simp only [Ar.real, Bool.not_eq_false']
          exact this
        clear hG hg2 hb hhd bh bv g4 hbe
        cbv
        refine jjR hA hT 300 ?_
        cbv
        first | refine testR k1 rfl ?_ | refine testL k1 rfl ?_
        cbv
        first | refine testR k2 rfl ?_ | refine testL k2 rfl ?_
        cbv
        refine ⟨jjO, ?_⟩
        first | refine testR k3 rfl ?_ | refine testL k3 rfl ?_
        cbv
        refine jjP hA (c1) [] ?_
        cbv
        refine ⟨fun e _ => rfl, fun e _ => rfl, ?_⟩
        refine jjD ?_
        cbv
        first | refine testR k4 rfl ?_ | refine testL k4 rfl ?_
        cbv
        refine Fin.le hA 0 [] (.int .i64 (g : Int)) ([]) 1000 rfl rfl rfl ?_ ?_ jjK
        · (try cbv) <;> (repeat' (first | exact trivial | exact rfl | apply And.intro | exact fun _ => rfl | (intro _ hle; first | refine chunk_le hA rfl hle rfl ?_ | refine cat_le hA ?_ | refine upd_le hA ?_ | (try cbv))))
          all_goals first | (rw [g0]; rfl) | (rw [g0, hx]; rfl) | (rw [g0, hx]) | (subst hA; rw [g0]; rfl) | trace_state
        · exact jjL
      · have g0 : g = 0 := by
          rcases hg2 with h | h
          · exact absurd (fun i hi => by rw [(hG.1 h.1).2.2.2 i hi, hhd]) g4
          · exact h.2
        have k4 : A.not (A.eqL (A.bytes 64 (byteAt fun e => [.int .u8 (hd e.val)])) (A.bytes n (byteAt fun e => [.int .u8 (v e.val)]))) = true := by
          have h : ¬ _ := fun h => g4 (hbe.1 h).2
          clear hG hg2 k1 k2 k3 kc c1 hbe; subst hA
          simp only [Ar.real, Bool.not_eq_true']
          exact Bool.eq_false_iff.2 h
        clear hG hg2 hb hhd bh bv g4 hbe
        cbv
        refine jjR hA hT 300 ?_
        cbv
        first | refine testR k1 rfl ?_ | refine testL k1 rfl ?_
        cbv
        first | refine testR k2 rfl ?_ | refine testL k2 rfl ?_
        cbv
        refine ⟨jjO, ?_⟩
        first | refine testR k3 rfl ?_ | refine testL k3 rfl ?_
        cbv
        refine jjP hA (c1) [] ?_
        cbv
        refine ⟨fun e _ => rfl, fun e _ => rfl, ?_⟩
        refine jjD ?_
        cbv
        first | refine testR k4 rfl ?_ | refine testL k4 rfl ?_
        cbv
        refine Fin.le hA 0 [] (.int .i64 (g : Int)) ([]) 1000 rfl rfl rfl ?_ ?_ jjK
        · (try cbv) <;> (repeat' (first | exact trivial | exact rfl | apply And.intro | exact fun _ => rfl | (intro _ hle; first | refine chunk_le hA rfl hle rfl ?_ | refine cat_le hA ?_ | refine upd_le hA ?_ | (try cbv))))
          all_goals first | (rw [g0]; rfl) | (rw [g0, hx]; rfl) | (rw [g0, hx]) | (subst hA; rw [g0]; rfl) | trace_state
        · exact jjL
section
variable {P : Program} {G : Gl} {s g0 g1 g : Nat} {S L : Nat → Nat → Int} {W : Nat → Bool} {c : Int}
theorem rnewest_fn (hP : P = Tryd.prog) (hs : 4 ≤ s) (hb0 : isB (L 0)) (hb1 : isB (L 1)) (h0 : GenIs (L 0) 0 g0) (h1 : GenIs (L 1) 1 g1) (hg : g = max g0 g1) :
    FnTr P G 72 [RD s S L W c] [] 0 (Gives (.int .i64 (g : Int)) [] 100) := by
  have a1 := rgen_fn (P := P) (G := G) (n := 64) (sec := 0) hP rfl (by omega) hb0 h0
  have a2 := rgen_fn (P := P) (G := G) (n := 64) (sec := 1) hP rfl (by omega) hb1 h1
  clear hb0 hb1 h0 h1
  have hT : T.Ok P := hP ▸ T_ok
  refine jjI Tryd.f72 hT ?_
  generalize hA : Ar.real = A
  generalize hK : Gives _ _ _ = K
  cbv
  refine jjR hA hT 1100 ?_
  cbv
  refine ⟨jjO, ?_⟩
  refine jjP hA (a1) [] ?_
  cbv
  refine ⟨jjO, ?_⟩
  refine jjP hA (a2) [] ?_
  cbv
  refine jjD ?_
  cbv
  refine ⟨fun h3 => ?_, fun h3 => ?_⟩
  · have e : g0 > g1 := by clear a1 a2; subst hA; simp [Ar.real] at h3; omega
    cbv
    refine Fin.le hA 0 [] (.int .i64 (g : Int)) ([]) 100 rfl rfl rfl ?_ ?_ jjK
    · (try cbv) <;> (repeat' (first | exact trivial | exact rfl | apply And.intro | exact fun _ => rfl | (intro _ hle; first | refine chunk_le hA rfl hle rfl ?_ | refine cat_le hA ?_ | refine upd_le hA ?_ | (try cbv))))
      all_goals exact jjO
    · exact jjL
  · have e : ¬ g0 > g1 := by clear a1 a2; subst hA; simp [Ar.real] at h3; omega
    cbv
    refine Fin.le hA 0 [] (.int .i64 (g : Int)) ([]) 100 rfl rfl rfl ?_ ?_ jjK
    · (try cbv) <;> (repeat' (first | exact trivial | exact rfl | apply And.intro | exact fun _ => rfl | (intro _ hle; first | refine chunk_le hA rfl hle rfl ?_ | refine cat_le hA ?_ | refine upd_le hA ?_ | (try cbv))))
      all_goals exact jjO
    · exact jjL
end
open Go.DskLaw (q64 secV isB Sim wipeP wipeP_off wipeP_blank wipeP_full)
section
variable {P : Program} {G : Gl} {s N first fin : Nat} {S : Nat → Int} {L L' : Int → Option (Nat → Int)} {ar : Bool} {ca ca' c c' e nn : Int} {RS RL RL' : Nat → Nat → Int} {W W' : Nat → Bool} {on : Option Nat}
theorem rwipe_off (hP : P = Tryd.prog) (hf : first ≤ fin ∧ fin ≤ s) (hc : c = 0) :
    FnTr P G 95 [RD s RS RL W c, .int .i64 (first : Int), .int .i64 (fin : Int)] [] 0 (Gives (.tup [RD s RS RL W c, .lit .i64 0, .lit .i64 6]) [] 1000) := by
  have a1 := refrun_fn (P := P) (G := G) (s := (s : Int)) (a := (first : Int)) (b := (fin : Int)) (r := true) hP ⟨fun _ => by omega, fun _ => rfl⟩
  have a2 := refoff_fn (P := P) (G := G) (s := s) (S := RS) (L := RL) (W := W) (c := c) (r := true) hP ⟨fun _ => hc, fun _ => rfl⟩
  have hT : T.Ok P := hP ▸ T_ok
  refine jjI Tryd.f95 hT ?_
  generalize hA : Ar.real = A
  generalize hK : Gives _ _ _ = K
  cbv
  refine jjT hA (a1) (.bl true) [] ?_
  cbv
  refine jjT hA (a2) (.bl true) [] ?_
  cbv
  refine Fin.le hA 0 [] (.tup [RD s RS RL W c, .lit .i64 0, .lit .i64 6]) ([]) 1000 rfl rfl rfl ?_ ?_ jjK
  iterate 2 exact jjL
theorem rwipe_fn (hP : P = Tryd.prog) (hf : first ≤ fin ∧ fin ≤ s) (h : Sim s N S L ar ca RS RL W c) (hc : c ≠ 0) (hw : wipeP (fun i => secV S L i) ar (fin - first) first 0 L ca = (on, L', ca')) (hRL : ∀ t x, RL' t x = secV S L' t x) (hW : ∀ t : Nat, W' t = (L' (t : Int)).isSome) (hc' : c' = if ar then ca' else -1)
    (he : (∃ m : Nat, on = some m ∧ nn = (m : Int) ∧ e = 0) ∨ (on = none ∧ nn = 0 ∧ e = 6)) :
    FnTr P G 95 [RD s RS RL W c, .int .i64 (first : Int), .int .i64 (fin : Int)] [] 0 (Gives (.tup [RD s RS RL' W' c', .int .i64 nn, .int .i64 e]) [] 1000) := by
  have a1 := refrun_fn (P := P) (G := G) (s := (s : Int)) (a := (first : Int)) (b := (fin : Int)) (r := true) hP ⟨fun _ => by omega, fun _ => rfl⟩
  have a2 := refoff_fn (P := P) (G := G) (s := s) (S := RS) (L := RL) (W := W) (c := c) (r := false) hP ⟨fun q => (by cases q), fun q => absurd q hc⟩
  have hs := h.hs
  have hT : T.Ok P := hP ▸ T_ok
  refine jjI Tryd.f95 hT ?_
  generalize hA : Ar.real = A
  generalize hK : Gives _ _ _ = K
  cbv
  refine jjT hA (a1) (.bl true) [] ?_
  cbv
  refine jjT hA (a2) (.bl false) [] ?_
  cbv
  refine LS.clr [19, 23] ?_
  cbv
  refine LS.le7 hT hA 2 (fun (x n : Nat) (_ : Int → Option (Nat → Int)) (_ : Int) (_ : Nat → Nat → Int) (_ : Nat → Bool) (_ : Int) => [(9, .int .i64 (n : Int)), (10, .int .i64 (x : Int))])
    (fun x n Lx cax RLx Wx cx => [(0, .cells 46 [Rw64 s RS, Rw64 s RLx, .ro 1 (.s s) (fun e => [.bs (Wx e.val)]), .int .i64 cx]), (1, .cells 46 [.nils, .nils, .nils, .lit .i64 0])])
    (fun x n Lx cax RLx Wx cx => first ≤ x ∧ x ≤ fin ∧ n ≤ x ∧ wipeP (fun i => secV S L i) ar (fin - x) x n Lx cax = (on, L', ca') ∧ Sim s N S Lx ar cax RS RLx Wx cx ∧ ∀ t : Nat, x ≤ t → Lx (t : Int) = L (t : Int))
    (fun x _ _ _ _ _ _ => fin - x) first 0 L ca RL W c [] rfl rfl ?_ ?_ ?_
  · (try cbv) <;> (repeat' (first | exact trivial | exact rfl | apply And.intro | exact fun _ => rfl | (intro _ hle; first | refine chunk_le hA rfl hle rfl ?_ | refine cat_le hA ?_ | refine upd_le hA ?_ | refine int_le ?_ | skip)))
    all_goals first | exact jjO | trace_state
  · exact ⟨Nat.le_refl _, hf.1, Nat.zero_le _, hw, h, fun _ _ => rfl⟩
  · intro R hR x n Lx cax RLx Wx cx hp
    cbv
    obtain ⟨hx1, hx2, hnx, hwx, hsx, hLx⟩ := hp
    have hcr := hsx.crange
    refine ⟨fun h1 => ?_, fun h1 => ?_⟩
    · have hlt : x < fin := by clear hR a1 a2; subst hA; simp [Ar.real] at h1; omega
      obtain ⟨B, hB⟩ : ∃ B : Nat → Bool, ∀ k, B k = true ↔ ∀ y, y < k → RLx x y = 0 := by
        classical
        exact ⟨fun k => decide (∀ y, y < k → RLx x y = 0), fun k => by simp⟩
      have hB0 : B 0 = true := (hB 0).2 fun y hy => absurd hy (Nat.not_lt_zero _)
      have kn : A.nat (Int.ofNat x) = x := by subst hA; rfl
      have hxs : x < s := by omega
      cbv
      refine LS.le hT hA 2 (fun (k : Nat) => [(11, .bs (B k)), (12, .int .i64 (k : Int))]) (fun _ => [(0, .cells 46 [Rw64 s RS, Rw64 s RLx, .ro 1 (.s s) (fun e => [.bs (Wx e.val)]), .int .i64 cx]), (1, .cells 46 [.nils, .nils, .nils, .lit .i64 0])]) (fun k => k ≤ 64) (fun k => 64 - k) 0 [] rfl rfl ?_ ?_ ?_
      · (try cbv) <;> (repeat' (first | exact trivial | exact rfl | apply And.intro | exact fun _ => rfl | (intro _ hle; first | refine chunk_le hA rfl hle rfl ?_ | refine cat_le hA ?_ | refine upd_le hA ?_ | refine int_le ?_ | skip)))
        all_goals first | exact hB0.symm | exact jjO | trace_state
      · exact Nat.zero_le _
      · intro R2 hR2 k hk
        cbv
        refine ⟨fun q1 => ?_, fun q1 => ?_⟩
        · have hk64 : k < 64 := by clear hR hR2 a1 a2; subst hA; simp [Ar.real] at q1; omega
          have kk : A.nat (Int.ofNat k) = k := by subst hA; rfl
          have hBs : B (k + 1) = (B k && decide (RLx x k = 0)) := by
            rw [Bool.eq_iff_iff, hB, Bool.and_eq_true, hB, decide_eq_true_eq]
            exact ⟨fun h => ⟨fun y hy => h y (by omega), h k (by omega)⟩, fun h y hy => by
              rcases Nat.lt_or_ge y k with q | q
              · exact h.1 y q
              · rw [show y = k by omega]; exact h.2⟩
          have kz : A.eq (RLx (A.nat (Int.ofNat x)) (A.nat (Int.ofNat k))) 0 = decide (RLx x k = 0) := by rw [kn, kk]; clear hR hR2 a1 a2; subst hA; rfl
          clear hR hsx hwx hLx hB
          cbv
          cases hBk : B k with
          | true =>
            rw [hBk, Bool.true_and] at hBs
            refine ⟨fun _ => ?_, fun h => (by cases h)⟩
            cbv
            refine ⟨?_, ?_, ?_, hR2 _ _ ⟨k + 1, 2, [], rfl, rfl, ?_, (by omega), (by show 64 - (k + 1) < 64 - k; omega)⟩⟩
            iterate 3 exact jjO
            clear hR2
            (try cbv) <;> (repeat' (first | exact trivial | exact rfl | apply And.intro | exact fun _ => rfl | (intro _ hle; first | refine chunk_le hA rfl hle rfl ?_ | refine cat_le hA ?_ | refine upd_le hA ?_ | refine int_le ?_ | skip)))
            all_goals first | (rw [hBs]; exact kz) | exact jjO | trace_state
          | false =>
            rw [hBk, Bool.false_and] at hBs
            refine ⟨fun h => (by cases h), fun _ => ?_⟩
            cbv
            refine ⟨jjO, hR2 _ _ ⟨k + 1, 2, [], rfl, rfl, ?_, (by omega), (by show 64 - (k + 1) < 64 - k; omega)⟩⟩
            clear hR2
            (try cbv) <;> (repeat' (first | exact trivial | exact rfl | apply And.intro | exact fun _ => rfl | (intro _ hle; first | refine chunk_le hA rfl hle rfl ?_ | refine cat_le hA ?_ | refine upd_le hA ?_ | refine int_le ?_ | skip)))
            all_goals first | exact hBs.symm | (rw [hBs]) | exact jjO | trace_state
        · have hk64 : k = 64 := by clear hR hR2 a1 a2; subst hA; simp [Ar.real] at q1; omega
          subst hk64
          clear hR2
          by_cases ho : cx = 0
          · have a3 := refoff_fn (P := P) (G := G) (s := s) (S := RS) (L := RLx) (W := Wx) (c := cx) (r := true) hP ⟨fun _ => ho, fun _ => rfl⟩
            obtain ⟨k0, hk0⟩ : ∃ k0, fin - x = k0 + 1 := ⟨fin - x - 1, by omega⟩
            rw [hk0, wipeP_off (hsx.off.1 ho)] at hwx
            obtain ⟨h1, h2, h3⟩ : on = none ∧ L' = Lx ∧ ca' = cax := by cases hwx; exact ⟨rfl, rfl, rfl⟩
            obtain ⟨hn0, he6⟩ : nn = 0 ∧ e = 6 := by
              rcases he with ⟨m, q, _⟩ | ⟨_, q⟩
              · rw [h1] at q; cases q
              · exact q
            have e1 : ∀ t y, y < 64 → RLx t y = RL' t y := fun t y hy => by rw [hRL, h2]; exact hsx.rl t y hy
            have e2 : ∀ t : Nat, Wx t = W' t := fun t => by rw [hW, h2]; exact hsx.w t
            have e3 : cx = c' := by rw [hc', h3]; exact hsx.hc
            clear hR hsx hwx hLx hB a1 a2 he h
            cbv
            refine jjT hA (a3) (.bl true) [] ?_
            cbv
            refine Fin.le hA 0 [] (.tup [RD s RS RL' W' c', .int .i64 nn, .int .i64 e]) ([]) 1000 rfl rfl rfl ?_ ?_ jjK
            · (try cbv) <;> (repeat' (first | exact trivial | exact rfl | apply And.intro | exact fun _ => rfl | (intro _ hle; first | refine chunk_le hA rfl hle rfl ?_ | refine cat_le hA ?_ | refine upd_le hA ?_ | refine int_le ?_ | skip)))
              all_goals first | (refine e1 _ _ ?_; subst hA; exact ltNV_real.1 (by assumption)) | exact e2 _ | exact e3 | exact hn0.symm | exact he6.symm | exact jjO | trace_state
            · exact jjL
          · have a3 := refoff_fn (P := P) (G := G) (s := s) (S := RS) (L := RLx) (W := Wx) (c := cx) (r := false) hP ⟨fun q => (by cases q), fun q => absurd q ho⟩
            have hof : ¬ (ar = true ∧ cax = 0) := fun q => ho (hsx.off.2 q)
            obtain ⟨k0, hk0⟩ : ∃ k0, fin - x = k0 + 1 := ⟨fin - x - 1, by omega⟩
            have hk1 : k0 = fin - (x + 1) := by omega
            have hV : (∀ y, y < 64 → RLx x y = 0) ↔ ∀ y, y < 64 → secV S L x y = 0 := by
              have e : ∀ y, y < 64 → RLx x y = secV S L x y := fun y hy => by
                rw [hsx.rl x y hy]
                unfold DskLaw.secV
                rw [hLx x (Nat.le_refl _)]
              exact ⟨fun h y hy => by rw [← e y hy]; exact h y hy, fun h y hy => by rw [e y hy]; exact h y hy⟩
            cases hB64 : B 64 with
            | true =>
              have hbl := hV.1 ((hB 64).1 hB64)
              rw [hk0, wipeP_blank hof hbl, hk1] at hwx
              clear hB a1 a2 he h
              cbv
              refine jjT hA (a3) (.bl false) [] ?_
              cbv
              refine ⟨fun _ => ?_, fun h => (by cases h)⟩
              cbv
              refine ⟨jjO, hR _ _ _ _ _ _ _ _ ⟨x + 1, n, Lx, cax, RLx, Wx, cx, 2, [], rfl, rfl, ?_, ⟨by omega, by omega, by omega, hwx, hsx, fun t ht => hLx t (by omega)⟩, (by show fin - (x + 1) < fin - x; omega)⟩⟩
              clear hR hsx hwx hLx
              (try cbv) <;> (repeat' (first | exact trivial | exact rfl | apply And.intro | exact fun _ => rfl | (intro _ hle; first | refine chunk_le hA rfl hle rfl ?_ | refine cat_le hA ?_ | refine upd_le hA ?_ | refine int_le ?_ | skip)))
              all_goals first | exact jjO | trace_state
            | false =>
              have hbl : ¬ ∀ y, y < 64 → secV S L x y = 0 := fun q => by
                have := (hB 64).2 (hV.2 q)
                rw [hB64] at this; cases this
              rw [hk0, wipeP_full hof hbl, hk1] at hwx
              obtain ⟨z, hz⟩ : ∃ z : Nat → Int, ∀ y, z y = 0 := ⟨fun _ => 0, fun _ => rfl⟩
              obtain ⟨Ly, hLy⟩ : ∃ Ly : Int → Option (Nat → Int), Ly = fun i => if i = (x : Int) then some (fun _ => 0) else Lx i := ⟨_, rfl⟩
              have hLy2 : ∀ k, Ly k = if k = (x : Int) then some (fun _ => 0) else Lx k := fun k => by rw [hLy]
              obtain ⟨cay, hcay⟩ : ∃ cay, cay = if ar then cax - 1 else cax := ⟨_, rfl⟩
              obtain ⟨RLy, hRLy⟩ : ∃ RLy : Nat → Nat → Int, ∀ t y, RLy t y = if t = x then 0 else RLx t y := ⟨_, fun _ _ => rfl⟩
              obtain ⟨Wy, hWy⟩ : ∃ Wy : Nat → Bool, ∀ t, Wy t = if t = x then true else Wx t := ⟨_, fun _ => rfl⟩
              obtain ⟨cy, hcy⟩ : ∃ cy, cy = if 0 < cx then cx - 1 else cx := ⟨_, rfl⟩
              rw [← hLy, ← hcay] at hwx
              have hsy : Sim s N S Ly ar cay RS RLy Wy cy := hsx.write (f := fun _ => 0) (RL' := RLy) ho hxs (fun y _ => ⟨Int.le_refl 0, (by decide : (0 : Int) ≤ 255)⟩) hLy2 hcay hRLy hWy hcy
              have hLxy : ∀ t : Nat, x + 1 ≤ t → Ly (t : Int) = L (t : Int) := fun t ht => by rw [hLy2, if_neg (by omega)]; exact hLx t (by omega)
              have a4 := refwrite_ok (P := P) (G := G) (s := s) (n := 64) (i := x) (S := RS) (L := RLx) (L' := RLy) (f := z) (W := Wx) (W' := Wy) hP hs.2 ho hcr hxs rfl (fun t y _ _ => by rw [hRLy, hz]) (fun t _ => hWy t) hcy
              clear hB a1 a2 he h hsx hLx hLy hLy2
              cbv
              refine jjT hA (a3) (.bl false) [] ?_
              cbv
              refine ⟨fun h => (by cases h), fun _ => ?_⟩
              cbv
              refine jjR hA hT 300 ?_
              cbv
              refine ⟨⟨?_, ?_, ?_, ?_⟩, ?_⟩
              iterate 4 exact jjO
              refine CD.give hA (a4) [607] jjF ⟨rfl, rfl, rfl, rfl, ?_, ?_⟩ rfl ?_
              iterate 2 ((try cbv) <;> (repeat' (first | exact trivial | exact rfl | apply And.intro | exact fun _ => rfl | (intro _ hle; first | refine chunk_le hA rfl hle rfl ?_ | refine cat_le hA ?_ | refine upd_le hA ?_ | (try cbv)))) <;> (try exact jjO) <;> (try first | exact (hz _).symm | exact hz _))
              cbv
              refine jjD ?_
              cbv
              refine ⟨?_, ?_, hR _ _ _ _ _ _ _ _ ⟨x + 1, n + 1, Ly, cay, RLy, Wy, cy, 2, [], rfl, rfl, ?_, ⟨by omega, by omega, by omega, hwx, hsy, hLxy⟩, (by show fin - (x + 1) < fin - x; omega)⟩⟩
              iterate 2 exact jjO
              clear hR hsy hwx hLxy
              (try cbv) <;> (repeat' (first | exact trivial | exact rfl | apply And.intro | exact fun _ => rfl | (intro _ hle; first | refine chunk_le hA rfl hle rfl ?_ | refine cat_le hA ?_ | refine upd_le hA ?_ | refine int_le ?_ | skip)))
              all_goals first | exact jjO | trace_state
    · have hxf : x = fin := by clear hR a1 a2; subst hA; simp [Ar.real] at h1; omega
      subst hxf
      clear hR
      rw [Nat.sub_self] at hwx
      obtain ⟨h1, h2, h3⟩ : on = some n ∧ L' = Lx ∧ ca' = cax := by cases hwx; exact ⟨rfl, rfl, rfl⟩
      obtain ⟨hn0, he6⟩ : nn = (n : Int) ∧ e = 0 := by
        rcases he with ⟨m, q, q2⟩ | ⟨q, _⟩
        · rw [h1] at q; cases q; exact q2
        · rw [h1] at q; cases q
      have e1 : ∀ t y, y < 64 → RLx t y = RL' t y := fun t y hy => by rw [hRL, h2]; exact hsx.rl t y hy
      have e2 : ∀ t : Nat, Wx t = W' t := fun t => by rw [hW, h2]; exact hsx.w t
      have e3 : cx = c' := by rw [hc', h3]; exact hsx.hc
      clear hsx hwx hLx a1 a2 he h
      cbv
      refine Fin.le hA 0 [] (.tup [RD s RS RL' W' c', .int .i64 nn, .int .i64 e]) ([]) 1000 rfl rfl rfl ?_ ?_ jjK
      · (try cbv) <;> (repeat' (first | exact trivial | exact rfl | apply And.intro | exact fun _ => rfl | (intro _ hle; first | refine chunk_le hA rfl hle rfl ?_ | refine cat_le hA ?_ | refine upd_le hA ?_ | refine int_le ?_ | skip)))
        all_goals first | (refine e1 _ _ ?_; subst hA; exact ltNV_real.1 (by assumption)) | exact e2 _ | exact e3 | exact hn0.symm | exact he6.symm | exact jjO | trace_state
      · exact jjL
end
open Go.DskLaw (q64 secV isB Sim wipeP getP needN)
set_option maxHeartbeats 4000000
abbrev RLg (s : Nat) (S L : Nat → Nat → Int) (W : Nat → Bool) (c : Int) (gen at1 bn : Nat) (b : Nat → Int) (kc : Nat) (nl : Nat → Nat) (nf : Nat → Nat → Int) (su : Nat) (dead : Bool) : SV :=
  .agg [Rw64 s S, Rw64 s L, .ro 1 (.s s) (fun e => [.bs (W e.val)]), .int .i64 c, .int .i64 (gen : Int), .int .i64 (at1 : Int), By bn b, NtS kc nl nf, .int .i64 (su : Int), .bs dead]
abbrev RLd (s : Nat) (S L : Nat → Nat → Int) (W : Nat → Bool) (c : Int) : SV :=
  .agg [Rw64 s S, Rw64 s L, .ro 1 (.s s) (fun e => [.bs (W e.val)]), .int .i64 c, .lit .i64 0, .lit .i64 0, .nils, .nils, .lit .i64 0, .bl false]
section
variable {P : Program} {G : Gl} {s h N gen fi en c0 last : Nat} {S L : Nat → Nat → Int} {W : Nat → Bool} {c : Int} {gs g0 : Nat → Nat × (Nat → Int)}
theorem rasked_small (hP : P = Tryd.prog) (hs : s < 4) : FnTr P G 69 [RD s S L W c] [] 0 (Gives (.lit .i64 1) [] 10) := by
  have hT : T.Ok P := hP ▸ T_ok
  refine jjI Tryd.f69 hT ?_
  generalize hA : Ar.real = A
  generalize hK : Gives _ _ _ = K
  cbv
  have k1 : A.lt (A.i2 s) 4 = true := by subst hA; simp [Ar.real]; omega
  first | refine testR k1 rfl ?_ | refine testL k1 rfl ?_
  cbv
  refine Fin.le hA 0 [] (.lit .i64 1) ([]) 10 rfl rfl rfl ?_ ?_ jjK
  iterate 2 exact jjL
theorem rasked_ok (hP : P = Tryd.prog) (hs : 4 ≤ s) : FnTr P G 69 [RD s S L W c] [] 0 (Gives (.lit .i64 0) [] 10) := by
  have hT : T.Ok P := hP ▸ T_ok
  refine jjI Tryd.f69 hT ?_
  generalize hA : Ar.real = A
  generalize hK : Gives _ _ _ = K
  cbv
  have k1 : A.lt (A.i2 s) 4 = false := by subst hA; simp [Ar.real]; omega
  first | refine testR k1 rfl ?_ | refine testL k1 rfl ?_
  cbv
  refine Fin.le hA 0 [] (.lit .i64 0) ([]) 10 rfl rfl rfl ?_ ?_ jjK
  iterate 2 exact jjL
theorem ropen_none (hP : P = Tryd.prog) (hs : 4 ≤ s) (hc : c ≠ 0) (hg : gen = 0)
    (cN : FnTr P G 72 [RD s S L W c] [] 0 (Gives (.int .i64 (gen : Int)) [] 100)) : FnTr P G 79 [RD s S L W c] [] 0 (Gives (.tup [RLd s S L W c, .lit .i64 4]) [] 5000) := by
  have a1 := rasked_ok (P := P) (G := G) (S := S) (L := L) (W := W) (c := c) hP hs
  have a2 := refoff_fn (P := P) (G := G) (s := s) (S := S) (L := L) (W := W) (c := c) (r := false) hP ⟨fun q => (by cases q), fun q => absurd q hc⟩
  have hT : T.Ok P := hP ▸ T_ok
  refine jjI Tryd.f79 hT ?_
  generalize hA : Ar.real = A
  generalize hK : Gives _ _ _ = K
  cbv
  have k1 : A.eq (gen : Int) 0 = true := by clear a1 a2 cN; subst hA; simp [Ar.real]; omega
  refine jjS hA (a1) [] ?_
  cbv
  refine jjT hA (a2) (.bl false) [] ?_
  cbv
  refine jjS hA (cN) [] ?_
  cbv
  first | refine testR k1 rfl ?_ | refine testL k1 rfl ?_
  cbv
  refine Fin.le hA 0 [] (.tup [RLd s S L W c, .lit .i64 4]) ([]) 5000 rfl rfl rfl ?_ ?_ jjK
  iterate 2 exact jjL
theorem ropen2_fn {n m : Nat} {f : Nat → Int} (hP : P = Tryd.prog) (hb : ∀ i, i < n → 0 ≤ f i ∧ f i ≤ 255) (hn : n ≤ 1000000000) (ho : OpenOk n f) (hm : m = n - 4) :
    FnTr P G 12 [By n f] [] 0 (Gives (.tup [By m f, .lit .i64 0]) [] 0) := by
  have h := refopen_fn (P := P) (G := G) hP (gi := cutF n f) (g := bvF n f) (m := m) (er := 0) (bvF_nat hb) (fun i _ => bvF_lt hb i) hn (.inr (.inl ⟨ho.1, (open_iff ho.1).2 ho.2, hm, rfl⟩))
  obtain ⟨c, hc⟩ : ∃ c : Nat → Int, c = cutF n f := ⟨_, rfl⟩
  have hcb : ∀ i, i < n → f i = c i := fun i hi => by rw [hc]; unfold cutF; rw [if_pos hi]
  have hcb2 : ∀ i, i < m → c i = f i := fun i hi => (hcb i (by omega)).symm
  rw [← hc] at h
  clear ho hb hc
  generalize hA : Ar.real = A
  refine FnTr.as hA h ?_ ?_ ?_ rfl
  · (try cbv) <;> (repeat' (first | exact trivial | exact rfl | apply And.intro | exact fun _ => rfl | (intro _ hle; first | refine chunk_le hA rfl hle rfl ?_ | refine cat_le hA ?_ | refine upd_le hA ?_ | (try cbv))))
    all_goals (refine hcb _ ?_; subst hA; exact ltNV_real.1 (by assumption))
  · (try cbv) <;> (repeat' (first | exact trivial | exact rfl | apply And.intro | exact fun _ => rfl | (intro _ hle; first | refine chunk_le hA rfl hle rfl ?_ | refine cat_le hA ?_ | refine upd_le hA ?_ | (try cbv))))
    all_goals (refine hcb2 _ ?_; subst hA; exact ltNV_real.1 (by assumption))
  · exact jjL
theorem ropen2_bad {n : Nat} {f : Nat → Int} (hP : P = Tryd.prog) (hb : ∀ i, i < n → 0 ≤ f i ∧ f i ≤ 255) (hn : n ≤ 1000000000) (ho : ¬ OpenOk n f) :
    ∃ er : Int, er ≠ 0 ∧ FnTr P G 12 [By n f] [] 0 (Gives (.tup [By 0 f, .int .i64 er]) [] 0) := by
  have key : ∃ er : Int, er ≠ 0 ∧ FnTr P G 12 [By n (cutF n f)] [] 0 (Gives (.tup [By 0 (cutF n f), .int .i64 er]) [] 0) := by
    by_cases h4 : n < 4
    · exact ⟨210, by decide, refopen_fn hP (gi := cutF n f) (g := bvF n f) (m := 0) (er := 210) (bvF_nat hb) (fun i _ => bvF_lt hb i) hn (.inl ⟨h4, rfl, rfl⟩)⟩
    · exact ⟨240, by decide, refopen_fn hP (gi := cutF n f) (g := bvF n f) (m := 0) (er := 240) (bvF_nat hb) (fun i _ => bvF_lt hb i) hn (.inr (.inr ⟨by omega, fun h => ho ⟨by omega, (open_iff (by omega)).1 h⟩, rfl, rfl⟩))⟩
  obtain ⟨er, he, h⟩ := key
  refine ⟨er, he, ?_⟩
  obtain ⟨c, hc⟩ : ∃ c : Nat → Int, c = cutF n f := ⟨_, rfl⟩
  have hcb : ∀ i, i < n → f i = c i := fun i hi => by rw [hc]; unfold cutF; rw [if_pos hi]
  rw [← hc] at h
  clear ho hb hc
  generalize hA : Ar.real = A
  refine FnTr.as hA h ?_ ?_ ?_ rfl
  · (try cbv) <;> (repeat' (first | exact trivial | exact rfl | apply And.intro | exact fun _ => rfl | (intro _ hle; first | refine chunk_le hA rfl hle rfl ?_ | refine cat_le hA ?_ | refine upd_le hA ?_ | (try cbv))))
    all_goals (refine hcb _ ?_; subst hA; exact ltNV_real.1 (by assumption))
  · (try cbv) <;> (repeat' (first | exact trivial | exact rfl | apply And.intro | exact fun _ => rfl | (intro _ hle; first | refine chunk_le hA rfl hle rfl ?_ | refine cat_le hA ?_ | refine upd_le hA ?_ | (try cbv))))
    all_goals (exfalso; subst hA; exact absurd (ltNV_real.1 (by assumption)) (Nat.not_lt_zero _))
  · exact jjL
abbrev RLo (s : Nat) (S L : Nat → Nat → Int) (W : Nat → Bool) (c : Int) (gen at1 bn : Nat) (b : Nat → Int) (kc : Nat) (su : Nat) : SV :=
  .agg [Rw64 s S, Rw64 s L, .ro 1 (.s s) (fun e => [.bs (W e.val)]), .int .i64 c, .int .i64 (gen : Int), .int .i64 (at1 : Int), By bn b, .sl 0 1 (.l 0) (.s kc), .int .i64 (su : Int), .bl false]
def ROut (K : SV → Hl → Nat → Prop) (s : Nat) (PS : Nat → Int) (PL : Int → Option (Nat → Int)) (ar : Bool) (ca : Int) (S L : Nat → Nat → Int) (W : Nat → Bool) (c : Int) (gen en c0 last : Nat) (gs : Nat → Nat × (Nat → Int)) : Prop :=
  (c0 = 0 ∧ K (.tup [RLd s S L W c, .lit .i64 270]) [] 5000) ∨
  (0 < c0 ∧ ∃ (m : Nat) (PL' : Int → Option (Nat → Int)) (ca' c' : Int) (L' : Nat → Nat → Int) (W' : Nat → Bool) (bn kc : Nat) (b : Nat → Int) (nl : Nat → Nat) (nf : Nat → Nat → Int),
    wipeP (fun i => secV PS PL i) ar (en - last) last 0 PL ca = (some m, PL', ca') ∧ (∀ t x, L' t x = secV PS PL' t x) ∧ (∀ t : Nat, W' t = (PL' (t : Int)).isSome) ∧ c' = (if ar then ca' else -1) ∧ kc = c0 - 1 ∧ bn = (gs 0).1 ∧ (∀ x, b x = (gs 0).2 x) ∧ (∀ i, nl i = (gs (1 + i)).1) ∧ (∀ i x, nf i x = (gs (1 + i)).2 x) ∧
    ((m = 0 ∧ K (.tup [RLo s S L' W' c' gen last bn b kc kc, .lit .i64 0]) [(0, LgR kc nl nf)] 5000) ∨
     (0 < m ∧ c' ≠ 0 ∧ (-1 ≤ c' ∧ c' ≤ 9223372036854775807) ∧ ∃ (S2 L2 : Nat → Nat → Int) (W2 : Nat → Bool) (c2 : Int), (∀ t x, t < s → x < 64 → S2 t x = L' t x) ∧ (∀ t x, t < s → x < 64 → L2 t x = L' t x) ∧ (∀ t, W2 t = false) ∧ c2 = (if 0 < c' then c' - 1 else c') ∧ K (.tup [RLo s S2 L2 W2 c2 gen last bn b kc kc, .lit .i64 0]) [(0, LgR kc nl nf)] 5000)))
theorem ropen_own {K : SV → Hl → Nat → Prop} {PS : Nat → Int} {PL : Int → Option (Nat → Int)} {ar : Bool} {ca : Int} (hP : P = Tryd.prog) (hr : Reg s h gen fi en) (hg : 0 < gen) (hc : c ≠ 0) (hsim : Sim s N PS PL ar ca S L W c) (hR0 : recP L en (en - fi + 1) fi 0 g0 = (c0, gs, last))
    (cN : FnTr P G 72 [RD s S L W c] [] 0 (Gives (.int .i64 (gen : Int)) [] 100)) (hout : ROut K s PS PL ar ca S L W c gen en c0 last gs) : FnTr P G 79 [RD s S L W c] [] 0 K := by
  have hle := hr.le
  have hs := hr.hs
  have hb : ∀ t, t < s → isB (L t) := fun t ht => hsim.rbytes t ht
  have a1 := rasked_ok (P := P) (G := G) (S := S) (L := L) (W := W) (c := c) hP hr.hs.1
  have a2 := refoff_fn (P := P) (G := G) (s := s) (S := S) (L := L) (W := W) (c := c) (r := false) hP ⟨fun q => (by cases q), fun q => absurd q hc⟩
  have a3 := rfirst_fn (P := P) (G := G) (S := S) (L := L) (W := W) (c := c) hP hr.hs hr.hh hr.hg hr.hfi
  have a4 := rhalf_fn (P := P) (G := G) (S := S) (L := L) (W := W) (c := c) hP hr.hs hr.hh
  have hgl := hr.hg
  have hfh : fi + h = en := hr.hen.symm
  have hT : T.Ok P := hP ▸ T_ok
  refine jjI Tryd.f79 hT ?_
  generalize hA : Ar.real = A
  cbv
  have k1 : A.eq (gen : Int) 0 = false := by clear a1 a2 a3 a4 cN; subst hA; simp [Ar.real]; omega
  refine jjS hA (a1) [] ?_
  cbv
  refine jjT hA (a2) (.bl false) [] ?_
  cbv
  refine jjS hA (cN) [] ?_
  cbv
  first | refine testR k1 rfl ?_ | refine testL k1 rfl ?_
  cbv
  refine jjR hA hT 100 ?_
  cbv
  refine jjP hA (a3) [] ?_
  cbv
  refine jjD ?_
  cbv
  refine jjR hA hT 100 ?_
  cbv
  refine jjP hA (a4) [] ?_
  cbv
  refine ⟨jjO, ?_⟩
  refine jjD ?_
  cbv
  refine LS.ghost 22 1 (.l 0) (fun _ => [.nils]) rfl ?_
  refine LS.clr [9, 10, 11, 12, 13, 14, 15, 16, 17, 18, 19, 20, 21, 22, 23, 24, 25, 26, 27, 28, 29, 30, 31, 32, 33, 34, 35, 36, 37, 38, 39, 40, 41, 42, 43, 44, 45, 46] ?_
  cbv
  refine LS.leX8_5 hT hA 2 (fun (x1 c1 : Nat) (g1 : Nat → Nat × (Nat → Int)) (bn : Nat) (b : Nat → Int) (kc : Nat) (nl : Nat → Nat) (nf : Nat → Nat → Int) => [(6, .ptr 2 0), (7, .int .i64 (en : Int)), (8, .int .i64 (c1 : Int))])
    (fun x1 c1 g1 bn b kc nl nf => [(0, .cells 46 [Rw64 s S, Rw64 s L, .ro 1 (.s s) (fun e => [.bs (W e.val)]), .int .i64 c]), (1, .cells 71 [.nils, .nils, .nils, .lit .i64 0, .lit .i64 0, .lit .i64 0, .nils, .nils, .lit .i64 0, .bl false]), (2, .cells 71 [Rw64 s S, Rw64 s L, .ro 1 (.s s) (fun e => [.bs (W e.val)]), .int .i64 c, .int .i64 (gen : Int), .int .i64 (x1 : Int), By bn b, .sl 3 1 (.l 0) (.s kc), .lit .i64 0, .bl false]), (3, LgR kc nl nf)])
    (fun x1 c1 g1 bn b kc nl nf => x1 ≤ en ∧ fi ≤ x1 ∧ c1 ≤ x1 ∧ ((c1 = 0 ∧ kc = 0 ∧ bn = 0 ∧ x1 = fi) ∨ (c1 = kc + 1 ∧ fi < x1 ∧ bn = (g1 0).1 ∧ (∀ y, b y = (g1 0).2 y) ∧ ∀ i, i < kc → nl i = (g1 (1 + i)).1 ∧ ∀ y, nf i y = (g1 (1 + i)).2 y)) ∧ ∃ k, en - x1 < k ∧ recP L en k x1 c1 g1 = (c0, gs, last))
    (fun x1 _ _ _ _ _ _ _ => en - x1) fi 0 g0 0 (fun _ => 0) 0 (fun _ => 0) (fun _ _ => 0) [(723, 2), (1524, 3)]
    (.exit 0) (fun (bn : Nat) (b : Nat → Int) (kc : Nat) (nl : Nat → Nat) (nf : Nat → Nat → Int) => [(6, .ptr 2 0), (7, .int .i64 (en : Int))])
    (fun bn b kc nl nf => [(0, .cells 46 [Rw64 s S, Rw64 s L, .ro 1 (.s s) (fun e => [.bs (W e.val)]), .int .i64 c]), (1, .cells 71 [.nils, .nils, .nils, .lit .i64 0, .lit .i64 0, .lit .i64 0, .nils, .nils, .lit .i64 0, .bl false]), (2, .cells 71 [Rw64 s S, Rw64 s L, .ro 1 (.s s) (fun e => [.bs (W e.val)]), .int .i64 c, .int .i64 (gen : Int), .int .i64 (last : Int), By bn b, .sl 3 1 (.l 0) (.s kc), .lit .i64 0, .bl false]), (3, LgR kc nl nf)])
    (fun bn b kc nl nf => last ≤ en ∧ c0 ≤ last ∧ ((c0 = 0 ∧ kc = 0 ∧ bn = 0 ∧ last = fi) ∨ (c0 = kc + 1 ∧ fi < last ∧ bn = (gs 0).1 ∧ (∀ y, b y = (gs 0).2 y) ∧ ∀ i, i < kc → nl i = (gs (1 + i)).1 ∧ ∀ y, nf i y = (gs (1 + i)).2 y))) rfl rfl ?_ ?_ ?_ ?_
  · (try cbv) <;> (repeat' (first | exact trivial | exact rfl | apply And.intro | exact fun _ => rfl | (intro _ hle; first | refine chunk_le hA rfl hle rfl ?_ | refine cat_le hA ?_ | refine upd_le hA ?_ | refine int_le ?_ | skip)))
    all_goals first | exact hfh | (exfalso; subst hA; exact absurd (ltNV_real.1 (by assumption)) (Nat.not_lt_zero _)) | (subst hA; simp only [zn] at *; simp only [Ar.real]; omega) | exact jjO | trace_state
  · exact ⟨hle.2.1, Nat.le_refl _, Nat.zero_le _, .inl ⟨rfl, rfl, rfl, rfl⟩, _, Nat.lt_succ_self _, hR0⟩
  · intro bn b kc nl nf hp
    cbv
    obtain ⟨hl1, hl2, hrel⟩ := hp
    rcases hout with ⟨hz, hKK⟩ | ⟨hz, m, PL', ca', c', L', W', bq0, kq, bq, nlq, nfq, hw, hL', hW', hc', hkq, hbq0, hbq, hnlq, hnfq, hres⟩
    · have hlf : last = fi := by
        rcases hrel with ⟨_, _, _, q⟩ | ⟨q, _⟩
        · exact q
        · omega
      have k2 : A.eq (Int.ofNat last) (Int.ofNat fi) = true := by clear a1 a2 a3 a4 cN; subst hA; simp [Ar.real]; omega
      clear hrel hb hsim hR0
      refine jjR hA hT 100 ?_
      cbv
      refine jjP hA (a3) [] ?_
      cbv
      refine jjD ?_
      cbv
      first | refine testR k2 rfl ?_ | refine testL k2 rfl ?_
      cbv
      refine Fin.le hA 0 [] (.tup [RLd s S L W c, .lit .i64 270]) [] 5000 rfl rfl rfl ?_ ?_ hKK
      iterate 2 exact jjL
    · obtain ⟨hck, hfl, hbn, hbb, hnl⟩ : c0 = kc + 1 ∧ fi < last ∧ bn = (gs 0).1 ∧ (∀ y, b y = (gs 0).2 y) ∧ ∀ i, i < kc → nl i = (gs (1 + i)).1 ∧ ∀ y, nf i y = (gs (1 + i)).2 y := by
        rcases hrel with ⟨q, _⟩ | q
        · omega
        · exact q
      have k2 : A.eq (Int.ofNat last) (Int.ofNat fi) = false := by clear a1 a2 a3 a4 cN; subst hA; simp [Ar.real]; omega
      obtain ⟨mi, hmi⟩ : ∃ mi : Int, mi = (m : Int) := ⟨_, rfl⟩
      have hmi2 : (0 : Int) < mi ↔ 0 < m := by clear hc' hres hw hL' hW'; omega
      have a5 := rwipe_fn (P := P) (G := G) (first := last) (fin := en) (RL' := L') (W' := W') (nn := mi) (e := 0) hP ⟨hl1, hle.2.2⟩ hsim hc hw hL' hW' hc' (.inl ⟨m, rfl, hmi, rfl⟩)
      clear hrel hb hsim hR0 hw
      refine jjR hA hT 100 ?_
      cbv
      refine jjP hA (a3) [] ?_
      cbv
      refine jjD ?_
      cbv
      first | refine testR k2 rfl ?_ | refine testL k2 rfl ?_
      cbv
      have e1 : kc = kq := by clear hc' hres; omega
      have e2 : bn = bq0 := hbn.trans hbq0.symm
      have e3 : ∀ x, b x = bq x := fun x => (hbb x).trans (hbq x).symm
      have e4 : ∀ i, i < kc → nl i = nlq i ∧ ∀ x, nf i x = nfq i x := fun i hi => ⟨(hnl i hi).1.trans (hnlq i).symm, fun x => ((hnl i hi).2 x).trans (hnfq i x).symm⟩
      have he4 : ∀ e : NV, ltNV A e (.s kc) → nl e.val = nlq e.val ∧ ∀ x, nf e.val x = nfq e.val x := fun e he => e4 _ (by subst hA; exact ltNV_real.1 he)
      clear hbb hbq hnl hnlq hnfq hbn hbq0 hkq
      refine jjT hA (a5) (.tup [RD s S L' W' c', .int .i64 mi, .lit .i64 0]) [] ?_
      cbv
      rcases hres with ⟨hm, hKK⟩ | ⟨hm, hc0, hcr, S2, L2, W2, c2, hS2, hL2, hW2, hc2, hKK⟩
      · have k3 : A.gt mi 0 = false := by
          have : ¬ (0 : Int) < mi := fun q => by have := hmi2.1 q; rw [hm] at this; exact absurd this (Nat.lt_irrefl 0)
          clear a1 a2 a3 a4 a5 cN; subst hA; simp [Ar.real]; exact Int.not_lt.1 this
        first | refine testR k3 rfl ?_ | refine testL k3 rfl ?_
        cbv
        refine Fin.le hA 0 [(3, 0)] (.tup [RLo s S L' W' c' gen last bq0 bq kq kq, .lit .i64 0]) [(0, LgR kq nlq nfq)] 5000 rfl rfl rfl ?_ ?_ hKK
        · (try cbv) <;> (repeat' (first | exact trivial | exact rfl | apply And.intro | exact fun _ => rfl | (intro _ hle; first | refine chunk_le hA rfl hle rfl ?_ | refine cat_le hA ?_ | refine upd_le hA ?_ | refine int_le ?_ | skip)))
          all_goals first | exact e1 | exact e2 | exact e3 _ | (subst hA; exact congrArg Int.ofNat e1) | (subst hA; rw [e1]; rfl) | exact jjO | trace_state
        · (try cbv) <;> (repeat' (first | exact trivial | exact rfl | apply And.intro | exact fun _ => rfl | (intro _ hle; first | refine chunk_le hA rfl hle rfl ?_ | refine cat_le hA ?_ | refine upd_le hA ?_ | refine int_le ?_ | skip)))
          all_goals first | exact e1 | exact (he4 _ (by assumption)).1 | exact (he4 _ (by assumption)).2 _ | trace_state
      · have k3 : A.gt mi 0 = true := by
          have := hmi2.2 hm
          clear a1 a2 a3 a4 a5 cN; subst hA; simp [Ar.real]; exact this
        have a6 := refflush_ok (P := P) (G := G) (s := s) (S := S) (L := L') (S' := S2) (L' := L2) (W := W') (W' := W2) (c := c') (c' := c2) hP hs.2 hc0 hcr hS2 hL2 hW2 hc2
        first | refine testR k3 rfl ?_ | refine testL k3 rfl ?_
        cbv
        refine jjS hA (a6) [] ?_
        cbv
        refine Fin.le hA 0 [(3, 0)] (.tup [RLo s S2 L2 W2 c2 gen last bq0 bq kq kq, .lit .i64 0]) [(0, LgR kq nlq nfq)] 5000 rfl rfl rfl ?_ ?_ hKK
        · (try cbv) <;> (repeat' (first | exact trivial | exact rfl | apply And.intro | exact fun _ => rfl | (intro _ hle; first | refine chunk_le hA rfl hle rfl ?_ | refine cat_le hA ?_ | refine upd_le hA ?_ | refine int_le ?_ | skip)))
          all_goals first | exact e1 | exact e2 | exact e3 _ | (subst hA; exact congrArg Int.ofNat e1) | (subst hA; rw [e1]; rfl) | exact jjO | trace_state
        · (try cbv) <;> (repeat' (first | exact trivial | exact rfl | apply And.intro | exact fun _ => rfl | (intro _ hle; first | refine chunk_le hA rfl hle rfl ?_ | refine cat_le hA ?_ | refine upd_le hA ?_ | refine int_le ?_ | skip)))
          all_goals first | exact e1 | exact (he4 _ (by assumption)).1 | exact (he4 _ (by assumption)).2 _ | trace_state
  · intro R X hR hX x1 c1 g1 bn b kc nl nf hp
    cbv
    obtain ⟨hx1, hx2, hcx, hrel, k, hk, hsc⟩ := hp
    obtain ⟨k', rfl⟩ : ∃ k', k = k' + 1 := ⟨k - 1, by omega⟩
    cases hg1 : getP L x1 en (en - x1) x1 0 (fun _ => 0) with
    | none =>
      rw [recP_none hg1] at hsc
      obtain ⟨rfl, rfl, rfl⟩ : c1 = c0 ∧ g1 = gs ∧ x1 = last := by cases hsc; exact ⟨rfl, rfl, rfl⟩
      have b1 := refget_none (P := P) (G := G) (S := S) (W := W) (c := c) (f0 := fun _ => 0) hP hs.2 ⟨hx1, hle.2.2⟩ hc (fun i hi => ⟨rfl, hb i hi⟩) hg1
      refine jjS hA (b1) [] ?_
      cbv
      refine hX _ ⟨bn, b, kc, nl, nf, 2, [(2, 2), (3, 3)], rfl, rfl, ?_, ⟨hx1, hcx, hrel⟩⟩
      clear hX hR
      (try cbv) <;> (repeat' (first | exact trivial | exact rfl | apply And.intro | exact fun _ => rfl | (intro _ hle; first | refine chunk_le hA rfl hle rfl ?_ | refine cat_le hA ?_ | refine upd_le hA ?_ | refine int_le ?_ | skip)))
      all_goals exact jjO
    | some r =>
      obtain ⟨n, f, next⟩ := r
      have hnx := DskLaw.getP_next _ hg1
      have hfb := DskLaw.getP_isB (fun i hi => hb i (by omega)) _ _ _ _ _ _ _ (fun i hi => by omega) hg1
      have b1 := refget_fn (P := P) (G := G) (S := S) (W := W) (c := c) (f0 := fun _ => 0) hP hs.2 ⟨hx1, hle.2.2⟩ hc (fun i hi => ⟨rfl, hb i hi⟩) hg1
      by_cases hok : ¬ OpenOk n f
      · rw [recP_bad hg1 hok] at hsc
        obtain ⟨rfl, rfl, rfl⟩ : c1 = c0 ∧ g1 = gs ∧ x1 = last := by cases hsc; exact ⟨rfl, rfl, rfl⟩
        obtain ⟨er1, her, b2⟩ := ropen2_bad (P := P) (G := G) hP hfb (by omega) hok
        have k2 : A.ne er1 0 = true := by clear hR hX b1 b2; subst hA; simp [Ar.real]; exact her
        refine jjS hA (b1) [] ?_
        cbv
        refine jjS hA (b2) [] ?_
        cbv
        first | refine testR k2 rfl ?_ | refine testL k2 rfl ?_
        cbv
        refine hX _ ⟨bn, b, kc, nl, nf, 2, [(2, 2), (3, 3)], rfl, rfl, ?_, ⟨hx1, hcx, hrel⟩⟩
        clear hX hR
        (try cbv) <;> (repeat' (first | exact trivial | exact rfl | apply And.intro | exact fun _ => rfl | (intro _ hle; first | refine chunk_le hA rfl hle rfl ?_ | refine cat_le hA ?_ | refine upd_le hA ?_ | refine int_le ?_ | skip)))
        all_goals exact jjO
      have hok := Classical.not_not.1 hok
      rw [recP_some hg1 hok] at hsc
      obtain ⟨n4, hn4⟩ : ∃ n4, n4 = n - 4 := ⟨_, rfl⟩
      have b2 := ropen2_fn (P := P) (G := G) hP hfb (by omega) hok hn4
      rw [← hn4] at hsc
      obtain ⟨g', hg'⟩ : ∃ g' : Nat → Nat × (Nat → Int), g' = fun i => if i < c1 then g1 i else (n4, f) := ⟨_, rfl⟩
      rw [← hg'] at hsc
      have hg0 : ∀ i, g' i = if i < c1 then g1 i else (n4, f) := fun i => by rw [hg']
      rcases hrel with ⟨hc1, hkc, hbn, hxf⟩ | ⟨hc1, hfx, hbn, hbb, hnl⟩
      · have k2 : A.eq (Int.ofNat c1) 0 = true := by clear hR hX b1 b2; subst hA; simp [Ar.real]; omega
        obtain ⟨c2, hc2⟩ : ∃ c2, c2 = c1 + 1 := ⟨_, rfl⟩
        have e0 : g' 0 = (n4, f) := by rw [hg0, if_neg (by omega)]
        refine jjS hA (b1) [] ?_
        cbv
        refine jjS hA (b2) [] ?_
        cbv
        first | refine testR k2 rfl ?_ | refine testL k2 rfl ?_
        cbv
        refine ⟨jjO, hR _ _ _ _ _ _ _ _ _ ⟨next, c2, g', n4, f, kc, nl, nf, 2, [(2, 2), (3, 3)], rfl, rfl, ?_, ⟨hnx.2.1, by omega, by omega, .inr ⟨by omega, by omega, by rw [e0], fun y => by rw [e0], fun i hi => by omega⟩, k', by omega, by rw [hc2]; exact hsc⟩, (by show en - next < en - x1; omega)⟩⟩
        clear hR hX
        (try cbv) <;> (repeat' (first | exact trivial | exact rfl | apply And.intro | exact fun _ => rfl | (intro _ hle; first | refine chunk_le hA rfl hle rfl ?_ | refine cat_le hA ?_ | refine upd_le hA ?_ | refine int_le ?_ | skip)))
        all_goals first | exact jjO | trace_state
      · have k2 : A.eq (Int.ofNat c1) 0 = false := by clear hR hX b1 b2; subst hA; simp [Ar.real]; omega
        obtain ⟨c2, hc2⟩ : ∃ c2, c2 = c1 + 1 := ⟨_, rfl⟩
        obtain ⟨nl', hnl'⟩ : ∃ nl' : Nat → Nat, ∀ j, nl' j = if j < kc then nl j else n4 := ⟨_, fun _ => rfl⟩
        obtain ⟨nf', hnf'⟩ : ∃ nf' : Nat → Nat → Int, ∀ j y, nf' j y = if j < kc then nf j y else f y := ⟨_, fun _ _ => rfl⟩
        have hkx : kc ≤ 1000000 := by omega
        have hpush : ∀ e, ltNV A e (.s (A.addN kc 1)) → leL (leSV A 4) (catG A 1 (.s kc) (fun e => [.ro 1 (.s (nl e.val)) (fun x => [.int .u8 (nf e.val x.val)])]) (fun x => chunkS A 1 [.ro 1 (.s n4) (fun x => [.int .u8 (f x.val)])] (addNV A (.l 0) x)) e) [.ro 1 (.s (nl' e.val)) (fun x => [.int .u8 (nf' e.val x.val)])] := fun e he => by
          have he : e.val < kc + 1 := by subst hA; exact ltNV_real.1 he
          exact rows_push (len := nl) (len' := nl') (g := nf) (g' := nf') (h := f) hA (by omega) (hnl' _) (fun j _ => hnf' _ j)
        have e0 : g' 0 = g1 0 := by rw [hg0, if_pos (by omega)]
        have e1 : ∀ i, i < kc + 1 → nl' i = (g' (1 + i)).1 ∧ ∀ y, nf' i y = (g' (1 + i)).2 y := fun i hi => by
          rw [hg0, hnl']
          by_cases q : i < kc
          · rw [if_pos q, if_pos (by omega)]
            exact ⟨(hnl i q).1, fun y => by rw [hnf', if_pos q]; exact (hnl i q).2 y⟩
          · rw [if_neg q, if_neg (by omega)]
            exact ⟨rfl, fun y => by rw [hnf', if_neg q]⟩
        clear hnl hnl' hnf' hg0 hg'
        refine jjS hA (b1) [] ?_
        cbv
        refine jjS hA (b2) [] ?_
        cbv
        first | refine testR k2 rfl ?_ | refine testL k2 rfl ?_
        cbv
        refine ⟨⟨?_, ?_, ?_⟩, ?_, hR _ _ _ _ _ _ _ _ _ ⟨next, c2, g', bn, b, kc + 1, nl', nf', 2, [(2, 2), (634, 3)], rfl, rfl, ?_, ⟨hnx.2.1, by omega, by omega, .inr ⟨by omega, by omega, by rw [e0]; exact hbn, fun y => by rw [e0]; exact hbb y, e1⟩, k', by omega, by rw [hc2]; exact hsc⟩, (by show en - next < en - x1; omega)⟩⟩
        iterate 4 exact jjO
        clear hR hX
        (try cbv) <;> (repeat' (first | exact trivial | exact rfl | apply And.intro | exact fun _ => rfl | (intro _ hle; first | exact hpush _ hle | refine chunk_le hA rfl hle rfl ?_ | refine cat_le hA ?_ | refine upd_le hA ?_ | refine int_le ?_ | skip)))
        all_goals first | exact jjO | (subst hA; rfl) | trace_state
end
section
variable {P : Program} {G : Gl} {s h N gen fi en c0 last : Nat} {S L : Nat → Nat → Int} {W : Nat → Bool} {c : Int} {gs g0 : Nat → Nat × (Nat → Int)} {PS : Nat → Int} {PL PL' : Int → Option (Nat → Int)} {ar : Bool} {ca ca' : Int}
theorem ropen_log (hP : P = Tryd.prog) (hr : Reg s h gen fi en) (hg : 0 < gen) (hc : c ≠ 0) (hsim : Sim s N PS PL ar ca S L W c) (hR0 : recP L en (en - fi + 1) fi 0 g0 = (c0, gs, last)) (hc0 : c0 = 0)
    (cN : FnTr P G 72 [RD s S L W c] [] 0 (Gives (.int .i64 (gen : Int)) [] 100)) : FnTr P G 79 [RD s S L W c] [] 0 (Gives (.tup [RLd s S L W c, .lit .i64 270]) [] 5000) :=
  ropen_own hP hr hg hc hsim hR0 cN (.inl ⟨hc0, ⟨rfl, rfl, rfl⟩⟩)
theorem ropen_dat {S2 L2 : Nat → Nat → Int} {W2 : Nat → Bool} {c2 : Int} {bn kc su : Nat} {b : Nat → Int} {nl : Nat → Nat} {nf : Nat → Nat → Int} (h : FnTr P G 79 [RD s S L W c] [] 0 (Gives (.tup [RLo s S2 L2 W2 c2 gen last bn b kc su, .lit .i64 0]) [(0, LgR kc nl nf)] 5000)) :
    FnTr P G 79 [RD s S L W c] [] 0 (Gives (.tup [RLg s S2 L2 W2 c2 gen last bn b kc nl nf su false, .lit .i64 0]) [] 5000) := by
  generalize hA : Ar.real = A
  refine FnTr.dat hA h _ _ ?_
  (try cbv) <;> (repeat' (first | exact trivial | exact rfl | apply And.intro | exact fun _ => rfl | (intro _ hle; first | refine chunk_le hA rfl hle rfl ?_ | refine cat_le hA ?_ | refine upd_le hA ?_ | refine int_le ?_ | skip)))
  all_goals exact jjO
theorem ropen_ok0 {L' : Nat → Nat → Int} {W' : Nat → Bool} {c' : Int} {bn kc : Nat} {b : Nat → Int} {nl : Nat → Nat} {nf : Nat → Nat → Int} (hP : P = Tryd.prog) (hr : Reg s h gen fi en) (hg : 0 < gen) (hc : c ≠ 0) (hsim : Sim s N PS PL ar ca S L W c) (hR0 : recP L en (en - fi + 1) fi 0 g0 = (c0, gs, last)) (hc0 : 0 < c0)
    (hw : wipeP (fun i => secV PS PL i) ar (en - last) last 0 PL ca = (some 0, PL', ca')) (hL' : ∀ t x, L' t x = secV PS PL' t x) (hW' : ∀ t : Nat, W' t = (PL' (t : Int)).isSome) (hc' : c' = (if ar then ca' else -1)) (hkc : kc = c0 - 1) (hbn : bn = (gs 0).1) (hb : ∀ x, b x = (gs 0).2 x) (hnl : ∀ i, nl i = (gs (1 + i)).1) (hnf : ∀ i x, nf i x = (gs (1 + i)).2 x)
    (cN : FnTr P G 72 [RD s S L W c] [] 0 (Gives (.int .i64 (gen : Int)) [] 100)) : FnTr P G 79 [RD s S L W c] [] 0 (Gives (.tup [RLg s S L' W' c' gen last bn b kc nl nf kc false, .lit .i64 0]) [] 5000) :=
  ropen_dat (ropen_own hP hr hg hc hsim hR0 cN (.inr ⟨hc0, 0, PL', ca', c', L', W', bn, kc, b, nl, nf, hw, hL', hW', hc', hkc, hbn, hb, hnl, hnf, .inl ⟨rfl, ⟨rfl, rfl, rfl⟩⟩⟩))
theorem ropen_okF {L' S2 L2 : Nat → Nat → Int} {W' W2 : Nat → Bool} {c' c2 : Int} {m bn kc : Nat} {b : Nat → Int} {nl : Nat → Nat} {nf : Nat → Nat → Int} (hP : P = Tryd.prog) (hr : Reg s h gen fi en) (hg : 0 < gen) (hc : c ≠ 0) (hsim : Sim s N PS PL ar ca S L W c) (hR0 : recP L en (en - fi + 1) fi 0 g0 = (c0, gs, last)) (hc0 : 0 < c0) (hm : 0 < m)
    (hw : wipeP (fun i => secV PS PL i) ar (en - last) last 0 PL ca = (some m, PL', ca')) (hL' : ∀ t x, L' t x = secV PS PL' t x) (hW' : ∀ t : Nat, W' t = (PL' (t : Int)).isSome) (hc' : c' = (if ar then ca' else -1)) (hkc : kc = c0 - 1) (hbn : bn = (gs 0).1) (hb : ∀ x, b x = (gs 0).2 x) (hnl : ∀ i, nl i = (gs (1 + i)).1) (hnf : ∀ i x, nf i x = (gs (1 + i)).2 x)
    (hcn : c' ≠ 0) (hcr : -1 ≤ c' ∧ c' ≤ 9223372036854775807) (hS2 : ∀ t x, t < s → x < 64 → S2 t x = L' t x) (hL2 : ∀ t x, t < s → x < 64 → L2 t x = L' t x) (hW2 : ∀ t, W2 t = false) (hc2 : c2 = (if 0 < c' then c' - 1 else c'))
    (cN : FnTr P G 72 [RD s S L W c] [] 0 (Gives (.int .i64 (gen : Int)) [] 100)) : FnTr P G 79 [RD s S L W c] [] 0 (Gives (.tup [RLg s S2 L2 W2 c2 gen last bn b kc nl nf kc false, .lit .i64 0]) [] 5000) :=
  ropen_dat (ropen_own hP hr hg hc hsim hR0 cN (.inr ⟨hc0, m, PL', ca', c', L', W', bn, kc, b, nl, nf, hw, hL', hW', hc', hkc, hbn, hb, hnl, hnf, .inr ⟨hm, hcn, hcr, S2, L2, W2, c2, hS2, hL2, hW2, hc2, ⟨rfl, rfl, rfl⟩⟩⟩))
theorem rroom_fn {at1 bn kc su : Nat} {b : Nat → Int} {nl : Nat → Nat} {nf : Nat → Nat → Int} {dead : Bool} (hP : P = Tryd.prog) (hr : Reg s h gen fi en) (ha : at1 ≤ en) :
    FnTr P G 81 [RLg s S L W c gen at1 bn b kc nl nf su dead] [] 0 (Gives (.int .i64 ((en - at1 : Nat) : Int)) [] 100) := by
  obtain ⟨rm, hrm⟩ : ∃ rm, rm = en - at1 := ⟨_, rfl⟩
  rw [← hrm]
  have hle := hr.le
  have hs := hr.hs
  have a3 := rfirst_fn (P := P) (G := G) (S := S) (L := L) (W := W) (c := c) hP hr.hs hr.hh hr.hg hr.hfi
  have a4 := rhalf_fn (P := P) (G := G) (S := S) (L := L) (W := W) (c := c) hP hr.hs hr.hh
  have hfh : fi + h = en := hr.hen.symm
  have hT : T.Ok P := hP ▸ T_ok
  refine jjI Tryd.f81 hT ?_
  generalize hA : Ar.real = A
  generalize hK : Gives _ _ _ = K
  cbv
  refine jjR hA hT 100 ?_
  cbv
  refine jjP hA (a3) [] ?_
  cbv
  refine jjP hA (a4) [] ?_
  cbv
  refine ⟨?_, ?_, ?_⟩
  iterate 2 exact jjO
  refine jjD ?_
  cbv
  refine Fin.le hA 0 [] (.int .i64 (rm : Int)) ([]) 100 rfl rfl rfl ?_ ?_ jjK
  · (try cbv) <;> (repeat' (first | exact trivial | exact rfl | apply And.intro | exact fun _ => rfl | (intro _ hle; first | refine chunk_le hA rfl hle rfl ?_ | refine cat_le hA ?_ | refine upd_le hA ?_ | (try cbv))))
    all_goals exact jjO
  · exact jjL
end
open Go.DskLaw (q64 secV isB Sim wipeP getP needN pcs)
set_option maxHeartbeats 1000000
section
variable {P : Program} {G : Gl} {s h gen fi en at1 bn kc su n m : Nat} {d d1 : Dk} {RS RL RS' RL' : Nat → Nat → Int} {W W' : Nat → Bool} {c c' : Int} {b f : Nat → Int} {nl : Nat → Nat} {nf : Nat → Nat → Int} {dead r : Bool}
theorem rseal_fn (hP : P = Tryd.prog) {hi : Nat → Int} (hb : ∀ i, i < n → 0 ≤ b i ∧ b i ≤ 255) (hn : n ≤ 1000000000) (hm : m = n + 4) (hh : ∀ i, i < m → hi i = sealF n b i) :
    FnTr P G 19 [By n b] [] 0 (Gives (By m hi) [] 1) := by
  have h := refseal_fn (P := P) (G := G) hP (gi := cutF n b) (g := bvF n b) (bvF_nat hb) hn hm hh
  obtain ⟨c, hc⟩ : ∃ c : Nat → Int, c = cutF n b := ⟨_, rfl⟩
  have hcb : ∀ i, i < n → b i = c i := fun i hi => by rw [hc]; unfold cutF; rw [if_pos hi]
  rw [← hc] at h
  generalize hA : Ar.real = A
  refine FnTr.as hA h ?_ ?_ ?_ rfl
  · (try cbv) <;> (repeat' (first | exact trivial | exact rfl | apply And.intro | exact fun _ => rfl | (intro _ hle; first | refine chunk_le hA rfl hle rfl ?_ | refine cat_le hA ?_ | refine upd_le hA ?_ | (try cbv))))
    all_goals (refine hcb _ ?_; subst hA; exact ltNV_real.1 (by assumption))
  iterate 2 exact jjL
theorem rwipe_ok (hP : P = Tryd.prog) {first fin : Nat} (hs : 1 ≤ s ∧ s ≤ 4096) (hf : first ≤ fin ∧ fin ≤ s) (ok : DkOk s d) (hi : RIs d RS RL W c) (ho : ¬ offD d) (hw : wipeD d first fin = (some m, d1)) (hi' : RIs d1 RS' RL' W' c') :
    FnTr P G 95 [RD s RS RL W c, .int .i64 (first : Int), .int .i64 (fin : Int)] [] 0 (Gives (.tup [RD s RS' RL' W' c', .int .i64 (m : Int), .lit .i64 0]) [] 1000) := by
  obtain ⟨h1, h2, h3⟩ := wipeD_parts hw
  have hS : RS' = RS := hi.sameS hi' h2
  rw [hS] at hi' ⊢
  have h := rwipe_fn (P := P) (G := G) (first := first) (fin := fin) (RL' := RL') (W' := W') (c' := c') (e := 0) (nn := (m : Int)) hP hf (hi.sim ok rfl hs) (fun e => ho (hi.off.1 e)) h1 (fun t x => by rw [hi'.rl, h2]) hi'.w (by rw [hi'.hc, h3]) (.inl ⟨m, rfl, rfl, rfl⟩)
  generalize hA : Ar.real = A
  refine FnTr.as hA h ?_ ?_ ?_ rfl
  iterate 2 exact jjL
  · exact jjL
theorem rwipe_cut (hP : P = Tryd.prog) {first fin : Nat} (hs : 1 ≤ s ∧ s ≤ 4096) (hf : first ≤ fin ∧ fin ≤ s) (ok : DkOk s d) (hi : RIs d RS RL W c) (ho : ¬ offD d) (hw : wipeD d first fin = (none, d1)) (hi' : RIs d1 RS' RL' W' c') :
    FnTr P G 95 [RD s RS RL W c, .int .i64 (first : Int), .int .i64 (fin : Int)] [] 0 (Gives (.tup [RD s RS' RL' W' c', .lit .i64 0, .lit .i64 6]) [] 1000) := by
  obtain ⟨h1, h2, h3⟩ := wipeD_parts hw
  have hS : RS' = RS := hi.sameS hi' h2
  rw [hS] at hi' ⊢
  have h := rwipe_fn (P := P) (G := G) (first := first) (fin := fin) (RL' := RL') (W' := W') (c' := c') (e := 6) (nn := 0) hP hf (hi.sim ok rfl hs) (fun e => ho (hi.off.1 e)) h1 (fun t x => by rw [hi'.rl, h2]) hi'.w (by rw [hi'.hc, h3]) (.inr ⟨rfl, rfl, rfl⟩)
  generalize hA : Ar.real = A
  refine FnTr.as hA h ?_ ?_ ?_ rfl
  iterate 2 exact jjL
  · exact jjL
theorem rdied_fn (hP : P = Tryd.prog) :
    FnTr P G 99 [RLg s RS RL W c gen at1 bn b kc nl nf su dead, RD s RS' RL' W' c'] [] 0 (Gives (RLg s RS' RL' W' c' gen at1 bn b kc nl nf su true) [] 10) := by
  have hT : T.Ok P := hP ▸ T_ok
  refine jjI Tryd.f99 hT ?_
  generalize hA : Ar.real = A
  generalize hK : Gives _ _ _ = K
  cbv
  refine Fin.le hA 0 [] (RLg s RS' RL' W' c' gen at1 bn b kc nl nf su true) ([]) 10 rfl rfl rfl ?_ ?_ jjK
  iterate 2 exact jjL
theorem rsync_dead (hP : P = Tryd.prog) (hd : dead = true) :
    FnTr P G 75 [RLg s RS RL W c gen at1 bn b kc nl nf su dead] [] 0 (Gives (.tup [RLg s RS RL W c gen at1 bn b kc nl nf su dead, .lit .i64 6]) [] 400) := by
  have hT : T.Ok P := hP ▸ T_ok
  refine jjI Tryd.f75 hT ?_
  generalize hA : Ar.real = A
  generalize hK : Gives _ _ _ = K
  cbv
  first | refine testR hd rfl ?_ | refine testL hd rfl ?_
  cbv
  refine Fin.le hA 0 [] (.tup [RLg s RS RL W c gen at1 bn b kc nl nf su dead, .lit .i64 6]) ([]) 400 rfl rfl rfl ?_ ?_ jjK
  iterate 2 exact jjL
theorem rsync_off (hP : P = Tryd.prog) (hd : dead = false) (hc : c = 0) :
    FnTr P G 75 [RLg s RS RL W c gen at1 bn b kc nl nf su dead] [] 0 (Gives (.tup [RLg s RS RL W c gen at1 bn b kc nl nf su true, .lit .i64 6]) [] 400) := by
  have a1 := refflush_off (P := P) (G := G) (s := s) (S := RS) (L := RL) (W := W) (c := c) hP hc
  have a2 := rdied_fn (P := P) (G := G) (s := s) (RS := RS) (RL := RL) (W := W) (c := c) (gen := gen) (at1 := at1) (bn := bn) (b := b) (kc := kc) (nl := nl) (nf := nf) (su := su) (dead := dead) (RS' := RS) (RL' := RL) (W' := W) (c' := c) hP
  have hT : T.Ok P := hP ▸ T_ok
  refine jjI Tryd.f75 hT ?_
  generalize hA : Ar.real = A
  generalize hK : Gives _ _ _ = K
  cbv
  first | refine testR hd rfl ?_ | refine testL hd rfl ?_
  cbv
  refine jjS hA (a1) [] ?_
  cbv
  refine jjS hA (a2) [] ?_
  cbv
  refine Fin.le hA 0 [] (.tup [RLg s RS RL W c gen at1 bn b kc nl nf su true, .lit .i64 6]) ([]) 400 rfl rfl rfl ?_ ?_ jjK
  iterate 2 exact jjL
theorem rsync_ok (hP : P = Tryd.prog) (hs : s ≤ 4096) (hd : dead = false) (ok : DkOk s d) (hi : RIs d RS RL W c) (ho : ¬ offD d) (h1 : d1 = flushD d) (hi' : RIs d1 RS' RL' W' c') :
    FnTr P G 75 [RLg s RS RL W c gen at1 bn b kc nl nf su dead] [] 0 (Gives (.tup [RLg s RS' RL' W' c' gen at1 bn b kc nl nf kc dead, .lit .i64 0]) [] 400) := by
  subst h1
  obtain ⟨e1, e2, e3, e4⟩ := hi.flush ok ho hi'
  have a1 := refflush_ok (P := P) (G := G) (s := s) (S := RS) (L := RL) (W := W) (c := c) (S' := RS') (L' := RL') (W' := W') (c' := c') hP hs (fun e => ho (hi.off.1 e)) (hi.crange ok) (fun t x _ hx => e1 t x hx) (fun t x _ hx => e2 t x hx) e3 e4
  clear e1 e2 e3 e4
  have hT : T.Ok P := hP ▸ T_ok
  refine jjI Tryd.f75 hT ?_
  generalize hA : Ar.real = A
  generalize hK : Gives _ _ _ = K
  cbv
  first | refine testR hd rfl ?_ | refine testL hd rfl ?_
  cbv
  refine jjS hA (a1) [] ?_
  cbv
  refine Fin.le hA 0 [] (.tup [RLg s RS' RL' W' c' gen at1 bn b kc nl nf kc dead, .lit .i64 0]) ([]) 400 rfl rfl rfl ?_ ?_ jjK
  · (try cbv) <;> (repeat' (first | exact trivial | exact rfl | apply And.intro | exact fun _ => rfl | (intro _ hle; first | refine chunk_le hA rfl hle rfl ?_ | refine cat_le hA ?_ | refine upd_le hA ?_ | (try cbv))))
    all_goals exact jjO
  · exact jjL
theorem rfull_fn (hP : P = Tryd.prog) (hs : 4 ≤ s ∧ s ≤ 4096) (hh : h = (s - 2) / 2) (hn : n ≤ 1000000) (hm : m = needN (n + 4)) (hr : r = true ↔ (65536 < n + 4 ∨ h < m)) :
    FnTr P G 70 [RD s RS RL W c, By n f] [] 0 (Gives (.bs r) [] 20) := by
  have a1 := rhalf_fn (P := P) (G := G) (S := RS) (L := RL) (W := W) (c := c) hP hs hh
  have a2 := refneed_fn (P := P) (G := G) hP (n + 4) (n := (n : Int) + 4) (m := m) (by omega) (by omega) (by omega) (by rw [hm]; congr 1)
  by_cases q1 : 65536 < n + 4
  · have hr : r = true := hr.2 (.inl q1)
    subst hr
    have hT : T.Ok P := hP ▸ T_ok
    refine jjI Tryd.f70 hT ?_
    generalize hA : Ar.real = A
    generalize hK : Gives _ _ _ = K
    cbv
    have k1 : A.gt (A.add (A.i2 n) 4) 65536 = true := by subst hA; simp [Ar.real]; omega
    refine jjR hA hT 20 ?_
    cbv
    refine ⟨jjO, ?_⟩
    first | refine testR k1 rfl ?_ | refine testL k1 rfl ?_
    cbv
    refine jjD ?_
    cbv
    refine Fin.le hA 0 [] (.bs true) ([]) 20 rfl rfl rfl ?_ ?_ jjK
    iterate 2 exact jjL
  · have hr : r = true ↔ h < m := hr.trans ⟨fun q => q.resolve_left q1, .inr⟩
    clear hm hh
    have hT : T.Ok P := hP ▸ T_ok
    refine jjI Tryd.f70 hT ?_
    generalize hA : Ar.real = A
    generalize hK : Gives _ _ _ = K
    cbv
    have k1 : A.gt (A.add (A.i2 n) 4) 65536 = false := by clear hr; subst hA; simp [Ar.real]; omega
    refine jjR hA hT 20 ?_
    cbv
    refine ⟨jjO, ?_⟩
    first | refine testR k1 rfl ?_ | refine testL k1 rfl ?_
    cbv
    refine ⟨jjO, ?_⟩
    refine jjP hA (a2) [] ?_
    cbv
    refine jjP hA (a1) [] ?_
    cbv
    refine jjD ?_
    cbv
    refine Fin.le hA 0 [] (.bs r) ([]) 20 rfl rfl rfl ?_ ?_ jjK
    · (try cbv) <;> (repeat' (first | exact trivial | exact rfl | apply And.intro | exact fun _ => rfl | (intro _ hle; first | refine chunk_le hA rfl hle rfl ?_ | refine cat_le hA ?_ | refine upd_le hA ?_ | (try cbv))))
      subst hA
      rw [Bool.eq_iff_iff, hr]
      simp [Ar.real]
    · exact jjL
end
set_option maxHeartbeats 4000000
section
variable {P : Program} {G : Gl} {s h gen fi en nb n at1 : Nat} {d d2 d3 d4 d' : Dk} {RS RL RS' RL' : Nat → Nat → Int} {W W' : Nat → Bool} {c c' at' e : Int} {b : Nat → Int}
theorem rlay_put (hP : P = Tryd.prog) (hr : Reg s h gen fi en) (hb : ∀ i, i < nb → 0 ≤ b i ∧ b i ≤ 255) (hn : n = nb + 4) (hn6 : n ≤ 65536) (hnh : needN n ≤ h) (ok : DkOk s d) (hi : RIs d RS RL W c) (ho : RIs d' RS' RL' W' c') (hk : putK d n < needN n) (hd : d' = putD d fi n (sealF nb b)) :
    FnTr P G 73 [RD s RS RL W c, .int .i64 (gen : Int), By nb b] [] 0 (Gives (.tup [RD s RS' RL' W' c', .lit .i64 0, .lit .i64 6]) [] 9000) := by
  obtain ⟨hs, hh, hg, hfi, hen⟩ := hr
  have hes := (Reg.le ⟨hs, hh, hg, hfi, hen⟩).2.2
  have b1 := rfirst_fn (P := P) (G := G) (S := RS) (L := RL) (W := W) (c := c) hP hs hh hg hfi
  have b2 := rhalf_fn (P := P) (G := G) (S := RS) (L := RL) (W := W) (c := c) hP hs hh
  obtain ⟨g, hgF⟩ : ∃ g : Nat → Int, g = sealF nb b := ⟨_, rfl⟩
  have hgb : ∀ i, i < n → 0 ≤ g i ∧ g i ≤ 255 := fun i _ => by rw [hgF]; exact sealF_range hb i
  have b3 := rseal_fn (P := P) (G := G) (hi := g) hP hb (by omega) hn (fun i _ => by rw [hgF])
  rw [← hgF] at hd
  have b4 := rput_part (P := P) (G := G) (first := fi) (fin := en) hP ⟨by omega, hs.2⟩ (by omega) hn6 hgb ok hi hd ho hk
  clear hb hn6 hnh ok hgb hfi hh hg hi ho
  have hT : T.Ok P := hP ▸ T_ok
  refine jjI Tryd.f73 hT ?_
  generalize hA : Ar.real = A
  generalize hK : Gives _ _ _ = K
  cbv
  refine jjS hA (b1) [] ?_
  cbv
  refine jjS hA (b2) [] ?_
  cbv
  refine ⟨jjO, ?_⟩
  refine jjR hA hT 20 ?_
  cbv
  refine jjP hA (b3) [] ?_
  cbv
  refine jjP hA (b4) [] ?_
  cbv
  refine jjD ?_
  cbv
  refine Fin.le hA 0 [] (.tup [RD s RS' RL' W' c', .lit .i64 0, .lit .i64 6]) ([]) 9000 rfl rfl rfl ?_ ?_ jjK
  · (try cbv) <;> (repeat' (first | exact trivial | exact rfl | apply And.intro | exact fun _ => rfl | (intro _ hle; first | refine chunk_le hA rfl hle rfl ?_ | refine cat_le hA ?_ | refine upd_le hA ?_ | (try cbv))))
    all_goals trace_state
  · exact jjL
theorem rlay_wipe0 (hP : P = Tryd.prog) (hr : Reg s h gen fi en) (hb : ∀ i, i < nb → 0 ≤ b i ∧ b i ≤ 255) (hn : n = nb + 4) (hn6 : n ≤ 65536) (hnh : needN n ≤ h) (ok : DkOk s d) (hi : RIs d RS RL W c) (ho : RIs d' RS' RL' W' c') (hk : putK d n = needN n) (h1 : offD (putD d fi n (sealF nb b))) (hd : d' = putD d fi n (sealF nb b)) :
    FnTr P G 73 [RD s RS RL W c, .int .i64 (gen : Int), By nb b] [] 0 (Gives (.tup [RD s RS' RL' W' c', .lit .i64 0, .lit .i64 6]) [] 9000) := by
  obtain ⟨hs, hh, hg, hfi, hen⟩ := hr
  have hes := (Reg.le ⟨hs, hh, hg, hfi, hen⟩).2.2
  have b1 := rfirst_fn (P := P) (G := G) (S := RS) (L := RL) (W := W) (c := c) hP hs hh hg hfi
  have b2 := rhalf_fn (P := P) (G := G) (S := RS) (L := RL) (W := W) (c := c) hP hs hh
  obtain ⟨g, hgF⟩ : ∃ g : Nat → Int, g = sealF nb b := ⟨_, rfl⟩
  have hgb : ∀ i, i < n → 0 ≤ g i ∧ g i ≤ 255 := fun i _ => by rw [hgF]; exact sealF_range hb i
  have b3 := rseal_fn (P := P) (G := G) (hi := g) hP hb (by omega) hn (fun i _ => by rw [hgF])
  rw [← hgF] at hd h1
  obtain ⟨a1, ha1⟩ : ∃ a1, a1 = fi + needN n := ⟨_, rfl⟩
  have b4 := rput_all (P := P) (G := G) (first := fi) (fin := en) (at1 := a1) hP ⟨by omega, hs.2⟩ (by omega) hn6 hgb ok hi hd ho hk ha1
  have b5 := rwipe_off (P := P) (G := G) (s := s) (RS := RS') (RL := RL') (W := W') (c := c') (first := a1) (fin := en) hP (by omega) (ho.off.2 (by rw [hd]; exact h1))
  clear hb hn6 hnh ok hgb hfi hh hg hi ho
  have hT : T.Ok P := hP ▸ T_ok
  refine jjI Tryd.f73 hT ?_
  generalize hA : Ar.real = A
  generalize hK : Gives _ _ _ = K
  cbv
  refine jjS hA (b1) [] ?_
  cbv
  refine jjS hA (b2) [] ?_
  cbv
  refine ⟨jjO, ?_⟩
  refine jjR hA hT 20 ?_
  cbv
  refine jjP hA (b3) [] ?_
  cbv
  refine jjP hA (b4) [] ?_
  cbv
  refine jjD ?_
  cbv
  refine jjS hA (b5) [] ?_
  cbv
  refine Fin.le hA 0 [] (.tup [RD s RS' RL' W' c', .lit .i64 0, .lit .i64 6]) ([]) 9000 rfl rfl rfl ?_ ?_ jjK
  · (try cbv) <;> (repeat' (first | exact trivial | exact rfl | apply And.intro | exact fun _ => rfl | (intro _ hle; first | refine chunk_le hA rfl hle rfl ?_ | refine cat_le hA ?_ | refine upd_le hA ?_ | (try cbv))))
    all_goals trace_state
  · exact jjL
theorem rlay_wipe (hP : P = Tryd.prog) (hr : Reg s h gen fi en) (hb : ∀ i, i < nb → 0 ≤ b i ∧ b i ≤ 255) (hn : n = nb + 4) (hn6 : n ≤ 65536) (hnh : needN n ≤ h) (ok : DkOk s d) (hi : RIs d RS RL W c) (ho : RIs d' RS' RL' W' c') (hk : putK d n = needN n) (h1 : ¬ offD (putD d fi n (sealF nb b))) (hw : wipeD (putD d fi n (sealF nb b)) (fi + needN n) en = (none, d')) :
    FnTr P G 73 [RD s RS RL W c, .int .i64 (gen : Int), By nb b] [] 0 (Gives (.tup [RD s RS' RL' W' c', .lit .i64 0, .lit .i64 6]) [] 9000) := by
  obtain ⟨hs, hh, hg, hfi, hen⟩ := hr
  have hes := (Reg.le ⟨hs, hh, hg, hfi, hen⟩).2.2
  have b1 := rfirst_fn (P := P) (G := G) (S := RS) (L := RL) (W := W) (c := c) hP hs hh hg hfi
  have b2 := rhalf_fn (P := P) (G := G) (S := RS) (L := RL) (W := W) (c := c) hP hs hh
  obtain ⟨g, hgF⟩ : ∃ g : Nat → Int, g = sealF nb b := ⟨_, rfl⟩
  have hgb : ∀ i, i < n → 0 ≤ g i ∧ g i ≤ 255 := fun i _ => by rw [hgF]; exact sealF_range hb i
  have b3 := rseal_fn (P := P) (G := G) (hi := g) hP hb (by omega) hn (fun i _ => by rw [hgF])
  rw [← hgF] at h1 hw
  have okp : DkOk s (putD d fi n g) := ok.put (by omega) hgb
  obtain ⟨RS1, RL1, W1, c1, hi1⟩ := RIs.ex (putD d fi n g)
  obtain ⟨a1, ha1⟩ : ∃ a1, a1 = fi + needN n := ⟨_, rfl⟩
  have b4 := rput_all (P := P) (G := G) (first := fi) (fin := en) (at1 := a1) hP ⟨by omega, hs.2⟩ (by omega) hn6 hgb ok hi rfl hi1 hk ha1
  have b5 := rwipe_cut (P := P) (G := G) (first := a1) (fin := en) hP ⟨by omega, hs.2⟩ (by omega) okp hi1 h1 (by rw [ha1]; exact hw) ho
  clear hb hn6 hnh ok hgb hfi hh hg hi ho hi1 okp
  have hT : T.Ok P := hP ▸ T_ok
  refine jjI Tryd.f73 hT ?_
  generalize hA : Ar.real = A
  generalize hK : Gives _ _ _ = K
  cbv
  refine jjS hA (b1) [] ?_
  cbv
  refine jjS hA (b2) [] ?_
  cbv
  refine ⟨jjO, ?_⟩
  refine jjR hA hT 20 ?_
  cbv
  refine jjP hA (b3) [] ?_
  cbv
  refine jjP hA (b4) [] ?_
  cbv
  refine jjD ?_
  cbv
  refine jjS hA (b5) [] ?_
  cbv
  refine Fin.le hA 0 [] (.tup [RD s RS' RL' W' c', .lit .i64 0, .lit .i64 6]) ([]) 9000 rfl rfl rfl ?_ ?_ jjK
  · (try cbv) <;> (repeat' (first | exact trivial | exact rfl | apply And.intro | exact fun _ => rfl | (intro _ hle; first | refine chunk_le hA rfl hle rfl ?_ | refine cat_le hA ?_ | refine upd_le hA ?_ | (try cbv))))
    all_goals trace_state
  · exact jjL
theorem rlay_flush (hP : P = Tryd.prog) (hr : Reg s h gen fi en) (hb : ∀ i, i < nb → 0 ≤ b i ∧ b i ≤ 255) (hn : n = nb + 4) (hn6 : n ≤ 65536) (hnh : needN n ≤ h) (ok : DkOk s d) (hi : RIs d RS RL W c) (ho : RIs d' RS' RL' W' c') {m : Nat} (hk : putK d n = needN n) (h1 : ¬ offD (putD d fi n (sealF nb b))) (hw : wipeD (putD d fi n (sealF nb b)) (fi + needN n) en = (some m, d2)) (h2 : offD d2) (hd : d' = d2) :
    FnTr P G 73 [RD s RS RL W c, .int .i64 (gen : Int), By nb b] [] 0 (Gives (.tup [RD s RS' RL' W' c', .lit .i64 0, .lit .i64 6]) [] 9000) := by
  obtain ⟨hs, hh, hg, hfi, hen⟩ := hr
  have hes := (Reg.le ⟨hs, hh, hg, hfi, hen⟩).2.2
  have b1 := rfirst_fn (P := P) (G := G) (S := RS) (L := RL) (W := W) (c := c) hP hs hh hg hfi
  have b2 := rhalf_fn (P := P) (G := G) (S := RS) (L := RL) (W := W) (c := c) hP hs hh
  obtain ⟨g, hgF⟩ : ∃ g : Nat → Int, g = sealF nb b := ⟨_, rfl⟩
  have hgb : ∀ i, i < n → 0 ≤ g i ∧ g i ≤ 255 := fun i _ => by rw [hgF]; exact sealF_range hb i
  have b3 := rseal_fn (P := P) (G := G) (hi := g) hP hb (by omega) hn (fun i _ => by rw [hgF])
  rw [← hgF] at h1 hw
  subst hd
  have okp : DkOk s (putD d fi n g) := ok.put (by omega) hgb
  obtain ⟨RS1, RL1, W1, c1, hi1⟩ := RIs.ex (putD d fi n g)
  obtain ⟨a1, ha1⟩ : ∃ a1, a1 = fi + needN n := ⟨_, rfl⟩
  have b4 := rput_all (P := P) (G := G) (first := fi) (fin := en) (at1 := a1) hP ⟨by omega, hs.2⟩ (by omega) hn6 hgb ok hi rfl hi1 hk ha1
  have b5 := rwipe_ok (P := P) (G := G) (first := a1) (fin := en) (m := m) hP ⟨by omega, hs.2⟩ (by omega) okp hi1 h1 (by rw [ha1]; exact hw) ho
  have b6 := refflush_off (P := P) (G := G) (s := s) (S := RS') (L := RL') (W := W') (c := c') hP (ho.off.2 h2)
  clear hb hn6 hnh ok hgb hfi hh hg hi ho hi1 okp
  have hT : T.Ok P := hP ▸ T_ok
  refine jjI Tryd.f73 hT ?_
  generalize hA : Ar.real = A
  generalize hK : Gives _ _ _ = K
  cbv
  refine jjS hA (b1) [] ?_
  cbv
  refine jjS hA (b2) [] ?_
  cbv
  refine ⟨jjO, ?_⟩
  refine jjR hA hT 20 ?_
  cbv
  refine jjP hA (b3) [] ?_
  cbv
  refine jjP hA (b4) [] ?_
  cbv
  refine jjD ?_
  cbv
  refine jjS hA (b5) [] ?_
  cbv
  refine jjS hA (b6) [] ?_
  cbv
  refine Fin.le hA 0 [] (.tup [RD s RS' RL' W' c', .lit .i64 0, .lit .i64 6]) ([]) 9000 rfl rfl rfl ?_ ?_ jjK
  · (try cbv) <;> (repeat' (first | exact trivial | exact rfl | apply And.intro | exact fun _ => rfl | (intro _ hle; first | refine chunk_le hA rfl hle rfl ?_ | refine cat_le hA ?_ | refine upd_le hA ?_ | (try cbv))))
    all_goals trace_state
  · exact jjL
theorem rlay_write (hP : P = Tryd.prog) (hr : Reg s h gen fi en) (hb : ∀ i, i < nb → 0 ≤ b i ∧ b i ≤ 255) (hn : n = nb + 4) (hn6 : n ≤ 65536) (hnh : needN n ≤ h) (ok : DkOk s d) (hi : RIs d RS RL W c) (ho : RIs d' RS' RL' W' c') {m : Nat} (hk : putK d n = needN n) (h1 : ¬ offD (putD d fi n (sealF nb b))) (hw : wipeD (putD d fi n (sealF nb b)) (fi + needN n) en = (some m, d2)) (h2 : ¬ offD d2) (h3 : offD (flushD d2)) (hd : d' = flushD d2) :
    FnTr P G 73 [RD s RS RL W c, .int .i64 (gen : Int), By nb b] [] 0 (Gives (.tup [RD s RS' RL' W' c', .lit .i64 0, .lit .i64 6]) [] 9000) := by
  obtain ⟨hs, hh, hg, hfi, hen⟩ := hr
  have hes := (Reg.le ⟨hs, hh, hg, hfi, hen⟩).2.2
  have b1 := rfirst_fn (P := P) (G := G) (S := RS) (L := RL) (W := W) (c := c) hP hs hh hg hfi
  have b2 := rhalf_fn (P := P) (G := G) (S := RS) (L := RL) (W := W) (c := c) hP hs hh
  obtain ⟨g, hgF⟩ : ∃ g : Nat → Int, g = sealF nb b := ⟨_, rfl⟩
  have hgb : ∀ i, i < n → 0 ≤ g i ∧ g i ≤ 255 := fun i _ => by rw [hgF]; exact sealF_range hb i
  have b3 := rseal_fn (P := P) (G := G) (hi := g) hP hb (by omega) hn (fun i _ => by rw [hgF])
  rw [← hgF] at h1 hw
  subst hd
  have okp : DkOk s (putD d fi n g) := ok.put (by omega) hgb
  obtain ⟨RS1, RL1, W1, c1, hi1⟩ := RIs.ex (putD d fi n g)
  obtain ⟨a1, ha1⟩ : ∃ a1, a1 = fi + needN n := ⟨_, rfl⟩
  have b4 := rput_all (P := P) (G := G) (first := fi) (fin := en) (at1 := a1) hP ⟨by omega, hs.2⟩ (by omega) hn6 hgb ok hi rfl hi1 hk ha1
  have okw : DkOk s d2 := okp.wipe (by omega) hw
  obtain ⟨RS2, RL2, W2, c2, hi2⟩ := RIs.ex d2
  have b5 := rwipe_ok (P := P) (G := G) (first := a1) (fin := en) (m := m) hP ⟨by omega, hs.2⟩ (by omega) okp hi1 h1 (by rw [ha1]; exact hw) hi2
  obtain ⟨e1, e2, e3, e4⟩ := hi2.flush okw h2 ho
  have b6 := refflush_ok (P := P) (G := G) (s := s) (S := RS2) (L := RL2) (W := W2) (c := c2) (S' := RS') (L' := RL') (W' := W') (c' := c') hP hs.2 (fun e => h2 (hi2.off.1 e)) (hi2.crange okw) (fun t x _ hx => e1 t x hx) (fun t x _ hx => e2 t x hx) e3 e4
  obtain ⟨hv, hhv⟩ : ∃ hv : Nat → Int, hv = headB gen := ⟨_, rfl⟩
  have b7 := rhead_fn (P := P) (G := G) (g := gen) (f := hv) hP (by omega) (fun i _ => by rw [hhv])
  obtain ⟨r, hr2⟩ : ∃ r, r = gen % 2 := ⟨_, rfl⟩
  have er : Int.tmod (gen : Int) 2 = (r : Int) := by rw [hr2]; rfl
  have b8 := refwrite_off (P := P) (G := G) (s := s) (n := 64) (S := RS') (L := RL') (f := hv) (W := W') (c := c') (i := (r : Int)) hP (ho.off.2 h3)
  clear hb hn6 hnh ok hgb hfi hh hg hi ho hi1 okp okw hi2 e1 e2 e3 e4
  have hT : T.Ok P := hP ▸ T_ok
  refine jjI Tryd.f73 hT ?_
  generalize hA : Ar.real = A
  generalize hK : Gives _ _ _ = K
  cbv
  refine jjS hA (b1) [] ?_
  cbv
  refine jjS hA (b2) [] ?_
  cbv
  refine ⟨jjO, ?_⟩
  refine jjR hA hT 20 ?_
  cbv
  refine jjP hA (b3) [] ?_
  cbv
  refine jjP hA (b4) [] ?_
  cbv
  refine jjD ?_
  cbv
  refine jjS hA (b5) [] ?_
  cbv
  refine jjS hA (b6) [] ?_
  cbv
  have kr : A.rem (Int.ofNat gen) 2 = (r : Int) := by subst hA; exact er
  refine jjR hA hT 250 ?_
  cbv
  refine ⟨jjO, ?_⟩
  refine jjP hA (b7) [] ?_
  cbv
  refine CD.pass hA (b8) [] [] rfl ⟨rfl, rfl, rfl, rfl, ?_, ?_⟩ rfl (.inl rfl) ?_
  iterate 2 ((try cbv) <;> (repeat' (first | exact trivial | exact rfl | apply And.intro | exact fun _ => rfl | (intro _ hle; first | refine chunk_le hA rfl hle rfl ?_ | refine cat_le hA ?_ | refine upd_le hA ?_ | (try cbv)))) <;> (try exact jjO) <;> (try first | exact kr))
  cbv
  refine jjD ?_
  cbv
  refine Fin.le hA 0 [] (.tup [RD s RS' RL' W' c', .lit .i64 0, .lit .i64 6]) ([]) 9000 rfl rfl rfl ?_ ?_ jjK
  · (try cbv) <;> (repeat' (first | exact trivial | exact rfl | apply And.intro | exact fun _ => rfl | (intro _ hle; first | refine chunk_le hA rfl hle rfl ?_ | refine cat_le hA ?_ | refine upd_le hA ?_ | (try cbv))))
    all_goals trace_state
  · exact jjL
theorem rlay_again (hP : P = Tryd.prog) (hr : Reg s h gen fi en) (hb : ∀ i, i < nb → 0 ≤ b i ∧ b i ≤ 255) (hn : n = nb + 4) (hn6 : n ≤ 65536) (hnh : needN n ≤ h) (ok : DkOk s d) (hi : RIs d RS RL W c) (ho : RIs d' RS' RL' W' c') {a1 : Nat} (ha1 : a1 = fi + needN n) {m : Nat} (hk : putK d n = needN n) (h1 : ¬ offD (putD d fi n (sealF nb b))) (hw : wipeD (putD d fi n (sealF nb b)) (fi + needN n) en = (some m, d2)) (h2 : ¬ offD d2) (h3 : ¬ offD (flushD d2)) (h4 : offD (writeD (flushD d2) (gen % 2) (headB gen))) (hd : d' = writeD (flushD d2) (gen % 2) (headB gen)) :
    FnTr P G 73 [RD s RS RL W c, .int .i64 (gen : Int), By nb b] [] 0 (Gives (.tup [RD s RS' RL' W' c', .int .i64 (a1 : Int), .lit .i64 6]) [] 9000) := by
  obtain ⟨hs, hh, hg, hfi, hen⟩ := hr
  have hes := (Reg.le ⟨hs, hh, hg, hfi, hen⟩).2.2
  have b1 := rfirst_fn (P := P) (G := G) (S := RS) (L := RL) (W := W) (c := c) hP hs hh hg hfi
  have b2 := rhalf_fn (P := P) (G := G) (S := RS) (L := RL) (W := W) (c := c) hP hs hh
  obtain ⟨g, hgF⟩ : ∃ g : Nat → Int, g = sealF nb b := ⟨_, rfl⟩
  have hgb : ∀ i, i < n → 0 ≤ g i ∧ g i ≤ 255 := fun i _ => by rw [hgF]; exact sealF_range hb i
  have b3 := rseal_fn (P := P) (G := G) (hi := g) hP hb (by omega) hn (fun i _ => by rw [hgF])
  rw [← hgF] at h1 hw
  subst hd
  have okp : DkOk s (putD d fi n g) := ok.put (by omega) hgb
  obtain ⟨RS1, RL1, W1, c1, hi1⟩ := RIs.ex (putD d fi n g)
  have b4 := rput_all (P := P) (G := G) (first := fi) (fin := en) (at1 := a1) hP ⟨by omega, hs.2⟩ (by omega) hn6 hgb ok hi rfl hi1 hk ha1
  have okw : DkOk s d2 := okp.wipe (by omega) hw
  obtain ⟨RS2, RL2, W2, c2, hi2⟩ := RIs.ex d2
  have b5 := rwipe_ok (P := P) (G := G) (first := a1) (fin := en) (m := m) hP ⟨by omega, hs.2⟩ (by omega) okp hi1 h1 (by rw [ha1]; exact hw) hi2
  have okf := okw.flush h2
  obtain ⟨RS3, RL3, W3, c3, hi3⟩ := RIs.ex (flushD d2)
  obtain ⟨e1, e2, e3, e4⟩ := hi2.flush okw h2 hi3
  have b6 := refflush_ok (P := P) (G := G) (s := s) (S := RS2) (L := RL2) (W := W2) (c := c2) (S' := RS3) (L' := RL3) (W' := W3) (c' := c3) hP hs.2 (fun e => h2 (hi2.off.1 e)) (hi2.crange okw) (fun t x _ hx => e1 t x hx) (fun t x _ hx => e2 t x hx) e3 e4
  obtain ⟨hv, hhv⟩ : ∃ hv : Nat → Int, hv = headB gen := ⟨_, rfl⟩
  have b7 := rhead_fn (P := P) (G := G) (g := gen) (f := hv) hP (by omega) (fun i _ => by rw [hhv])
  obtain ⟨r, hr2⟩ : ∃ r, r = gen % 2 := ⟨_, rfl⟩
  have er : Int.tmod (gen : Int) 2 = (r : Int) := by rw [hr2]; rfl
  have hwb : ∀ x, x < 64 → 0 ≤ headB gen x ∧ headB gen x ≤ 255 := fun x _ => headB_range gen x
  have okx := okf.write h3 (i := gen % 2) (by omega) hwb
  obtain ⟨f1, f2, f3, f4⟩ := hi3.write okf h3 ho
  subst f1
  have b8 := refwrite_ok (P := P) (G := G) (s := s) (n := 64) (i := r) (S := RS') (L := RL3) (L' := RL') (f := hv) (W := W3) (W' := W') hP hs.2 (fun e => h3 (hi3.off.1 e)) (hi3.crange okf) (by omega) rfl (fun t x _ _ => by rw [f2, hr2, hhv]) (fun t _ => by rw [f3, hr2]) f4
  have b9 := refflush_off (P := P) (G := G) (s := s) (S := RS') (L := RL') (W := W') (c := c') hP (ho.off.2 h4)
  clear hb hn6 hnh ok hgb hfi hh hg hi ho hi1 okp okw hi2 e1 e2 e3 e4 okf hi3 f2 f3 f4 okx hwb
  have hT : T.Ok P := hP ▸ T_ok
  refine jjI Tryd.f73 hT ?_
  generalize hA : Ar.real = A
  generalize hK : Gives _ _ _ = K
  cbv
  refine jjS hA (b1) [] ?_
  cbv
  refine jjS hA (b2) [] ?_
  cbv
  refine ⟨jjO, ?_⟩
  refine jjR hA hT 20 ?_
  cbv
  refine jjP hA (b3) [] ?_
  cbv
  refine jjP hA (b4) [] ?_
  cbv
  refine jjD ?_
  cbv
  refine jjS hA (b5) [] ?_
  cbv
  refine jjS hA (b6) [] ?_
  cbv
  have kr : A.rem (Int.ofNat gen) 2 = (r : Int) := by subst hA; exact er
  refine jjR hA hT 250 ?_
  cbv
  refine ⟨jjO, ?_⟩
  refine jjP hA (b7) [] ?_
  cbv
  refine CD.pass hA (b8) [] [] rfl ⟨rfl, rfl, rfl, rfl, ?_, ?_⟩ rfl (.inl rfl) ?_
  iterate 2 ((try cbv) <;> (repeat' (first | exact trivial | exact rfl | apply And.intro | exact fun _ => rfl | (intro _ hle; first | refine chunk_le hA rfl hle rfl ?_ | refine cat_le hA ?_ | refine upd_le hA ?_ | (try cbv)))) <;> (try exact jjO) <;> (try first | exact kr))
  cbv
  refine jjD ?_
  cbv
  refine jjS hA (b9) [] ?_
  cbv
  refine Fin.le hA 0 [] (.tup [RD s RS' RL' W' c', .int .i64 (a1 : Int), .lit .i64 6]) ([]) 9000 rfl rfl rfl ?_ ?_ jjK
  · (try cbv) <;> (repeat' (first | exact trivial | exact rfl | apply And.intro | exact fun _ => rfl | (intro _ hle; first | refine chunk_le hA rfl hle rfl ?_ | refine cat_le hA ?_ | refine upd_le hA ?_ | (try cbv))))
    all_goals trace_state
  · exact jjL
theorem rlay_ok (hP : P = Tryd.prog) (hr : Reg s h gen fi en) (hb : ∀ i, i < nb → 0 ≤ b i ∧ b i ≤ 255) (hn : n = nb + 4) (hn6 : n ≤ 65536) (hnh : needN n ≤ h) (ok : DkOk s d) (hi : RIs d RS RL W c) (ho : RIs d' RS' RL' W' c') {a1 : Nat} (ha1 : a1 = fi + needN n) {m : Nat} (hk : putK d n = needN n) (h1 : ¬ offD (putD d fi n (sealF nb b))) (hw : wipeD (putD d fi n (sealF nb b)) (fi + needN n) en = (some m, d2)) (h2 : ¬ offD d2) (h3 : ¬ offD (flushD d2)) (h4 : ¬ offD (writeD (flushD d2) (gen % 2) (headB gen))) (hd : d' = flushD (writeD (flushD d2) (gen % 2) (headB gen))) :
    FnTr P G 73 [RD s RS RL W c, .int .i64 (gen : Int), By nb b] [] 0 (Gives (.tup [RD s RS' RL' W' c', .int .i64 (a1 : Int), .lit .i64 0]) [] 9000) := by
  obtain ⟨hs, hh, hg, hfi, hen⟩ := hr
  have hes := (Reg.le ⟨hs, hh, hg, hfi, hen⟩).2.2
  have b1 := rfirst_fn (P := P) (G := G) (S := RS) (L := RL) (W := W) (c := c) hP hs hh hg hfi
  have b2 := rhalf_fn (P := P) (G := G) (S := RS) (L := RL) (W := W) (c := c) hP hs hh
  obtain ⟨g, hgF⟩ : ∃ g : Nat → Int, g = sealF nb b := ⟨_, rfl⟩
  have hgb : ∀ i, i < n → 0 ≤ g i ∧ g i ≤ 255 := fun i _ => by rw [hgF]; exact sealF_range hb i
  have b3 := rseal_fn (P := P) (G := G) (hi := g) hP hb (by omega) hn (fun i _ => by rw [hgF])
  rw [← hgF] at h1 hw
  subst hd
  have okp : DkOk s (putD d fi n g) := ok.put (by omega) hgb
  obtain ⟨RS1, RL1, W1, c1, hi1⟩ := RIs.ex (putD d fi n g)
  have b4 := rput_all (P := P) (G := G) (first := fi) (fin := en) (at1 := a1) hP ⟨by omega, hs.2⟩ (by omega) hn6 hgb ok hi rfl hi1 hk ha1
  have okw : DkOk s d2 := okp.wipe (by omega) hw
  obtain ⟨RS2, RL2, W2, c2, hi2⟩ := RIs.ex d2
  have b5 := rwipe_ok (P := P) (G := G) (first := a1) (fin := en) (m := m) hP ⟨by omega, hs.2⟩ (by omega) okp hi1 h1 (by rw [ha1]; exact hw) hi2
  have okf := okw.flush h2
  obtain ⟨RS3, RL3, W3, c3, hi3⟩ := RIs.ex (flushD d2)
  obtain ⟨e1, e2, e3, e4⟩ := hi2.flush okw h2 hi3
  have b6 := refflush_ok (P := P) (G := G) (s := s) (S := RS2) (L := RL2) (W := W2) (c := c2) (S' := RS3) (L' := RL3) (W' := W3) (c' := c3) hP hs.2 (fun e => h2 (hi2.off.1 e)) (hi2.crange okw) (fun t x _ hx => e1 t x hx) (fun t x _ hx => e2 t x hx) e3 e4
  obtain ⟨hv, hhv⟩ : ∃ hv : Nat → Int, hv = headB gen := ⟨_, rfl⟩
  have b7 := rhead_fn (P := P) (G := G) (g := gen) (f := hv) hP (by omega) (fun i _ => by rw [hhv])
  obtain ⟨r, hr2⟩ : ∃ r, r = gen % 2 := ⟨_, rfl⟩
  have er : Int.tmod (gen : Int) 2 = (r : Int) := by rw [hr2]; rfl
  have hwb : ∀ x, x < 64 → 0 ≤ headB gen x ∧ headB gen x ≤ 255 := fun x _ => headB_range gen x
  have okx := okf.write h3 (i := gen % 2) (by omega) hwb
  obtain ⟨RS4, RL4, W4, c4, hi4⟩ := RIs.ex (writeD (flushD d2) (gen % 2) (headB gen))
  obtain ⟨f1, f2, f3, f4⟩ := hi3.write okf h3 hi4
  subst f1
  have b8 := refwrite_ok (P := P) (G := G) (s := s) (n := 64) (i := r) (S := RS4) (L := RL3) (L' := RL4) (f := hv) (W := W3) (W' := W4) hP hs.2 (fun e => h3 (hi3.off.1 e)) (hi3.crange okf) (by omega) rfl (fun t x _ _ => by rw [f2, hr2, hhv]) (fun t _ => by rw [f3, hr2]) f4
  obtain ⟨q1, q2, q3, q4⟩ := hi4.flush okx h4 ho
  have b9 := refflush_ok (P := P) (G := G) (s := s) (S := RS4) (L := RL4) (W := W4) (c := c4) (S' := RS') (L' := RL') (W' := W') (c' := c') hP hs.2 (fun e => h4 (hi4.off.1 e)) (hi4.crange okx) (fun t x _ hx => q1 t x hx) (fun t x _ hx => q2 t x hx) q3 q4
  clear hb hn6 hnh ok hgb hfi hh hg hi ho hi1 okp okw hi2 e1 e2 e3 e4 okf hi3 f2 f3 f4 okx hwb hi4 q1 q2 q3 q4
  have hT : T.Ok P := hP ▸ T_ok
  refine jjI Tryd.f73 hT ?_
  generalize hA : Ar.real = A
  generalize hK : Gives _ _ _ = K
  cbv
  refine jjS hA (b1) [] ?_
  cbv
  refine jjS hA (b2) [] ?_
  cbv
  refine ⟨jjO, ?_⟩
  refine jjR hA hT 20 ?_
  cbv
  refine jjP hA (b3) [] ?_
  cbv
  refine jjP hA (b4) [] ?_
  cbv
  refine jjD ?_
  cbv
  refine jjS hA (b5) [] ?_
  cbv
  refine jjS hA (b6) [] ?_
  cbv
  have kr : A.rem (Int.ofNat gen) 2 = (r : Int) := by subst hA; exact er
  refine jjR hA hT 250 ?_
  cbv
  refine ⟨jjO, ?_⟩
  refine jjP hA (b7) [] ?_
  cbv
  refine CD.pass hA (b8) [] [] rfl ⟨rfl, rfl, rfl, rfl, ?_, ?_⟩ rfl (.inl rfl) ?_
  iterate 2 ((try cbv) <;> (repeat' (first | exact trivial | exact rfl | apply And.intro | exact fun _ => rfl | (intro _ hle; first | refine chunk_le hA rfl hle rfl ?_ | refine cat_le hA ?_ | refine upd_le hA ?_ | (try cbv)))) <;> (try exact jjO) <;> (try first | exact kr))
  cbv
  refine jjD ?_
  cbv
  refine jjS hA (b9) [] ?_
  cbv
  refine Fin.le hA 0 [] (.tup [RD s RS' RL' W' c', .int .i64 (a1 : Int), .lit .i64 0]) ([]) 9000 rfl rfl rfl ?_ ?_ jjK
  · (try cbv) <;> (repeat' (first | exact trivial | exact rfl | apply And.intro | exact fun _ => rfl | (intro _ hle; first | refine chunk_le hA rfl hle rfl ?_ | refine cat_le hA ?_ | refine upd_le hA ?_ | (try cbv))))
    all_goals trace_state
  · exact jjL
theorem rlay_fn {a1 : Nat} (hP : P = Tryd.prog) (hr : Reg s h gen fi en) (hb : ∀ i, i < nb → 0 ≤ b i ∧ b i ≤ 255) (hn : n = nb + 4) (hn6 : n ≤ 65536) (hnh : needN n ≤ h) (ok : DkOk s d) (hi : RIs d RS RL W c) (ho : RIs d' RS' RL' W' c') (ha1 : a1 = fi + needN n) (hl : LayIs d gen fi en n (sealF nb b) d' at' e) :
    (e = 6 ∧ ∃ a2 : Int, FnTr P G 73 [RD s RS RL W c, .int .i64 (gen : Int), By nb b] [] 0 (Gives (.tup [RD s RS' RL' W' c', .int .i64 a2, .lit .i64 6]) [] 9000)) ∨
    (e = 0 ∧ at' = (a1 : Int) ∧ FnTr P G 73 [RD s RS RL W c, .int .i64 (gen : Int), By nb b] [] 0 (Gives (.tup [RD s RS' RL' W' c', .int .i64 (a1 : Int), .lit .i64 0]) [] 9000)) := by
  have z : ∀ {C : SV → SV}, FnTr P G 73 [RD s RS RL W c, .int .i64 (gen : Int), By nb b] [] 0 (Gives (.tup [RD s RS' RL' W' c', .lit .i64 0, .lit .i64 6]) [] 9000) → FnTr P G 73 [RD s RS RL W c, .int .i64 (gen : Int), By nb b] [] 0 (Gives (.tup [RD s RS' RL' W' c', .int .i64 0, .lit .i64 6]) [] 9000) := fun h => by
    generalize hA : Ar.real = A
    refine FnTr.as hA h ?_ ?_ ?_ rfl
    iterate 2 exact jjL
    · exact jjL
  cases hl with
  | put hk => exact .inl ⟨rfl, 0, z (C := id) (rlay_put hP hr hb hn hn6 hnh ok hi ho hk rfl)⟩
  | wipe0 hk h1 => exact .inl ⟨rfl, 0, z (C := id) (rlay_wipe0 hP hr hb hn hn6 hnh ok hi ho hk h1 rfl)⟩
  | wipe hk h1 hw => exact .inl ⟨rfl, 0, z (C := id) (rlay_wipe hP hr hb hn hn6 hnh ok hi ho hk h1 hw)⟩
  | flush hk h1 hw h2 => exact .inl ⟨rfl, 0, z (C := id) (rlay_flush hP hr hb hn hn6 hnh ok hi ho hk h1 hw h2 rfl)⟩
  | write hk h1 hw h2 h3 => exact .inl ⟨rfl, 0, z (C := id) (rlay_write hP hr hb hn hn6 hnh ok hi ho hk h1 hw h2 h3 rfl)⟩
  | again hk h1 hw h2 h3 h4 => exact .inl ⟨rfl, _, rlay_again hP hr hb hn hn6 hnh ok hi ho ha1 hk h1 hw h2 h3 h4 rfl⟩
  | ok hk h1 hw h2 h3 h4 => exact .inr ⟨rfl, by rw [ha1], rlay_ok hP hr hb hn hn6 hnh ok hi ho ha1 hk h1 hw h2 h3 h4 rfl⟩
end
set_option maxHeartbeats 1000000
section
variable {P : Program} {G : Gl} {s h gen fi en at1 at2 bn kc k2 su n m nn : Nat} {d d1 : Dk} {RS RL RS' RL' : Nat → Nat → Int} {W W' : Nat → Bool} {c c' : Int} {b f : Nat → Int} {nl ml : Nat → Nat} {nf mf : Nat → Nat → Int} {dead r : Bool}
theorem rfits_no (hP : P = Tryd.prog) {x : Int} (hn : nn = x.toNat) (hf : 65532 < nn) :
    FnTr P G 80 [RLg s RS RL W c gen at1 bn b kc nl nf su dead, .int .i64 x] [] 0 (Gives (.bs false) [] 10) := by
  have hT : T.Ok P := hP ▸ T_ok
  refine jjI Tryd.f80 hT ?_
  generalize hA : Ar.real = A
  generalize hK : Gives _ _ _ = K
  cbv
  have k1 : A.lt x 0 = false := by subst hA; simp [Ar.real]; omega
  have k2 : A.le x 65532 = false := by subst hA; simp [Ar.real]; omega
  first | refine testR k1 rfl ?_ | refine testL k1 rfl ?_
  cbv
  refine jjR hA hT 200 ?_
  cbv
  first | refine testR k2 rfl ?_ | refine testL k2 rfl ?_
  cbv
  refine jjD ?_
  cbv
  refine Fin.le hA 0 [] (.bs false) ([]) 10 rfl rfl rfl ?_ ?_ jjK
  iterate 2 exact jjL
theorem rfits_fn (hP : P = Tryd.prog) (hr : Reg s h gen fi en) (ha : at1 ≤ en) {x : Int} (hn : nn = x.toNat) (hf : nn ≤ 65532) (hm : m = needN (nn + 4)) (hrr : r = true ↔ m ≤ en - at1) :
    FnTr P G 80 [RLg s RS RL W c gen at1 bn b kc nl nf su dead, .int .i64 x] [] 0 (Gives (.bs r) [] 10) := by
  have a1 := rroom_fn (P := P) (G := G) (s := s) (S := RS) (L := RL) (W := W) (c := c) (at1 := at1) (bn := bn) (b := b) (kc := kc) (nl := nl) (nf := nf) (su := su) (dead := dead) hP hr ha
  have a2 := refneed_fn (P := P) (G := G) hP (nn + 4) (n := (nn : Int) + 4) (m := m) (by omega) (by omega) (by omega) (by rw [hm]; congr 1)
  obtain ⟨q, hq⟩ : ∃ q, q = en - at1 := ⟨_, rfl⟩
  rw [← hq] at a1 hrr
  clear hr hq hm
  by_cases h0 : x < 0
  · have hnn : nn = 0 := by omega
    subst hnn
    have hT : T.Ok P := hP ▸ T_ok
    refine jjI Tryd.f80 hT ?_
    generalize hA : Ar.real = A
    generalize hK : Gives _ _ _ = K
    cbv
    have k1 : A.lt x 0 = true := by clear a1 a2 hrr; subst hA; simp [Ar.real]; omega
    first | refine testR k1 rfl ?_ | refine testL k1 rfl ?_
    cbv
    refine jjR hA hT 200 ?_
    cbv
    have e4 : ((0 : Nat) : Int) + 4 = 4 := rfl
    rw [e4] at a2
    refine jjP hA (a2) [] ?_
    cbv
    refine jjP hA (a1) [] ?_
    cbv
    refine jjD ?_
    cbv
    refine Fin.le hA 0 [] (.bs r) ([]) 10 rfl rfl rfl ?_ ?_ jjK
    · (try cbv) <;> (repeat' (first | exact trivial | exact rfl | apply And.intro | exact fun _ => rfl | (intro _ hle; first | refine chunk_le hA rfl hle rfl ?_ | refine cat_le hA ?_ | refine upd_le hA ?_ | (try cbv))))
      subst hA
      rw [Bool.eq_iff_iff, hrr]
      simp [Ar.real]
    · exact jjL
  · have hx : x = (nn : Int) := by omega
    subst hx
    have hT : T.Ok P := hP ▸ T_ok
    refine jjI Tryd.f80 hT ?_
    generalize hA : Ar.real = A
    generalize hK : Gives _ _ _ = K
    cbv
    have k1 : A.lt (nn : Int) 0 = false := by clear a1 a2 hrr; subst hA; simp [Ar.real]
    have k2 : A.le (nn : Int) 65532 = true := by clear a1 a2 hrr; subst hA; simp [Ar.real]; omega
    first | refine testR k1 rfl ?_ | refine testL k1 rfl ?_
    cbv
    refine jjR hA hT 200 ?_
    cbv
    first | refine testR k2 rfl ?_ | refine testL k2 rfl ?_
    cbv
    refine ⟨jjO, ?_⟩
    refine jjP hA (a2) [] ?_
    cbv
    refine jjP hA (a1) [] ?_
    cbv
    refine jjD ?_
    cbv
    refine Fin.le hA 0 [] (.bs r) ([]) 10 rfl rfl rfl ?_ ?_ jjK
    · (try cbv) <;> (repeat' (first | exact trivial | exact rfl | apply And.intro | exact fun _ => rfl | (intro _ hle; first | refine chunk_le hA rfl hle rfl ?_ | refine cat_le hA ?_ | refine upd_le hA ?_ | (try cbv))))
      subst hA
      rw [Bool.eq_iff_iff, hrr]
      simp [Ar.real]
    · exact jjL
theorem rappend_dead (hP : P = Tryd.prog) (hd : dead = true) :
    FnTr P G 74 [RLg s RS RL W c gen at1 bn b kc nl nf su dead, By n f] [] 0 (Gives (.tup [RLg s RS RL W c gen at1 bn b kc nl nf su dead, .lit .i64 6]) [] 2000) := by
  have hT : T.Ok P := hP ▸ T_ok
  refine jjI Tryd.f74 hT ?_
  generalize hA : Ar.real = A
  generalize hK : Gives _ _ _ = K
  cbv
  first | refine testR hd rfl ?_ | refine testL hd rfl ?_
  cbv
  refine Fin.le hA 0 [] (.tup [RLg s RS RL W c gen at1 bn b kc nl nf su dead, .lit .i64 6]) ([]) 2000 rfl rfl rfl ?_ ?_ jjK
  iterate 2 exact jjL
theorem rappend_full (hP : P = Tryd.prog) (hd : dead = false) (cF : FnTr P G 80 [RLg s RS RL W c gen at1 bn b kc nl nf su dead, .int .i64 (n : Int)] [] 0 (Gives (.bs false) [] 10)) :
    FnTr P G 74 [RLg s RS RL W c gen at1 bn b kc nl nf su dead, By n f] [] 0 (Gives (.tup [RLg s RS RL W c gen at1 bn b kc nl nf su dead, .lit .i64 2]) [] 2000) := by
  have hT : T.Ok P := hP ▸ T_ok
  refine jjI Tryd.f74 hT ?_
  generalize hA : Ar.real = A
  generalize hK : Gives _ _ _ = K
  cbv
  first | refine testR hd rfl ?_ | refine testL hd rfl ?_
  cbv
  refine jjT hA (cF) (.bl false) [] ?_
  cbv
  refine Fin.le hA 0 [] (.tup [RLg s RS RL W c gen at1 bn b kc nl nf su dead, .lit .i64 2]) ([]) 2000 rfl rfl rfl ?_ ?_ jjK
  iterate 2 exact jjL
theorem rappend_part (hP : P = Tryd.prog) (hd : dead = false) (hr : Reg s h gen fi en) (hb : ∀ i, i < n → 0 ≤ f i ∧ f i ≤ 255) (hn6 : n + 4 ≤ 65536) (hm : m = n + 4) {g : Nat → Int} (hgg : ∀ i, i < m → g i = sealF n f i) (ok : DkOk s d) (hi : RIs d RS RL W c) (hfit : at1 + needN m ≤ en) (hk : putK d m < needN m) (h1 : d1 = putD d at1 m g) (ho : RIs d1 RS' RL' W' c')
    (cF : FnTr P G 80 [RLg s RS RL W c gen at1 bn b kc nl nf su dead, .int .i64 (n : Int)] [] 0 (Gives (.bs true) [] 10)) :
    FnTr P G 74 [RLg s RS RL W c gen at1 bn b kc nl nf su dead, By n f] [] 0 (Gives (.tup [RLg s RS' RL' W' c' gen at1 bn b kc nl nf su true, .lit .i64 6]) [] 2000) := by
  have hes := hr.le.2.2
  have b1 := rfirst_fn (P := P) (G := G) (S := RS) (L := RL) (W := W) (c := c) hP hr.hs hr.hh hr.hg hr.hfi
  have b2 := rhalf_fn (P := P) (G := G) (S := RS) (L := RL) (W := W) (c := c) hP hr.hs hr.hh
  have b3 := rseal_fn (P := P) (G := G) (hi := g) hP hb (by omega) hm hgg
  have b4 := rput_part (P := P) (G := G) (first := at1) (fin := en) hP ⟨by have := hr.hs.1; omega, hr.hs.2⟩ ⟨hfit, hes⟩ (by omega) (fun i hi => by rw [hgg i hi]; exact sealF_range hb i) ok hi h1 ho hk
  have b5 := rdied_fn (P := P) (G := G) (s := s) (RS := RS) (RL := RL) (W := W) (c := c) (gen := gen) (at1 := at1) (bn := bn) (b := b) (kc := kc) (nl := nl) (nf := nf) (su := su) (dead := dead) (RS' := RS') (RL' := RL') (W' := W') (c' := c') hP
  have hen := hr.hen
  have hs2 := hr.hs
  clear hr hb hgg ok hi hk h1 ho
  have hT : T.Ok P := hP ▸ T_ok
  refine jjI Tryd.f74 hT ?_
  generalize hA : Ar.real = A
  generalize hK : Gives _ _ _ = K
  cbv
  first | refine testR hd rfl ?_ | refine testL hd rfl ?_
  cbv
  refine jjT hA (cF) (.bl true) [] ?_
  cbv
  refine jjR hA hT 30 ?_
  cbv
  refine jjP hA (b1) [] ?_
  cbv
  refine jjP hA (b2) [] ?_
  cbv
  refine ⟨jjO, ?_⟩
  refine jjP hA (b3) [] ?_
  cbv
  refine jjP hA (b4) [] ?_
  cbv
  refine jjD ?_
  cbv
  refine jjS hA (b5) [] ?_
  cbv
  refine Fin.le hA 0 [] (.tup [RLg s RS' RL' W' c' gen at1 bn b kc nl nf su true, .lit .i64 6]) ([]) 2000 rfl rfl rfl ?_ ?_ jjK
  iterate 2 exact jjL
theorem rappend_own (hP : P = Tryd.prog) (hd : dead = false) (hr : Reg s h gen fi en) (hb : ∀ i, i < n → 0 ≤ f i ∧ f i ≤ 255) (hn6 : n + 4 ≤ 65536) (hm : m = n + 4) {g : Nat → Int} (hgg : ∀ i, i < m → g i = sealF n f i) (ok : DkOk s d) (hi : RIs d RS RL W c) (hfit : at1 + needN m ≤ en) (hk : putK d m = needN m) (h1 : d1 = putD d at1 m g) (ho : RIs d1 RS' RL' W' c')
    (ha : at2 = at1 + needN m) (hkc : kc ≤ 1000000) (hk2 : k2 = kc + 1) (hl : ∀ i, ml i = if i < kc then nl i else n) (hf : ∀ i x, mf i x = if i < kc then nf i x else f x)
    (cF : FnTr P G 80 [RLg s RS RL W c gen at1 bn b kc nl nf su dead, .int .i64 (n : Int)] [] 0 (Gives (.bs true) [] 10)) :
    FnTr P G 74 [RLg s RS RL W c gen at1 bn b kc nl nf su dead, By n f] [] 0 (Gives (.tup [RLo s RS' RL' W' c' gen at2 bn b k2 su, .lit .i64 0]) [(0, LgR k2 ml mf)] 2000) := by
  have hes := hr.le.2.2
  have b1 := rfirst_fn (P := P) (G := G) (S := RS) (L := RL) (W := W) (c := c) hP hr.hs hr.hh hr.hg hr.hfi
  have b2 := rhalf_fn (P := P) (G := G) (S := RS) (L := RL) (W := W) (c := c) hP hr.hs hr.hh
  have b3 := rseal_fn (P := P) (G := G) (hi := g) hP hb (by omega) hm hgg
  have b4 := rput_all (P := P) (G := G) (first := at1) (fin := en) (at1 := at2) hP ⟨by have := hr.hs.1; omega, hr.hs.2⟩ ⟨hfit, hes⟩ (by omega) (fun i hi => by rw [hgg i hi]; exact sealF_range hb i) ok hi h1 ho hk ha
  have hen := hr.hen
  have hs2 := hr.hs
  have hpush : ∀ {A : Ar}, Ar.real = A → ∀ e, ltNV A e (.s (A.addN kc 1)) → leL (leSV A 4) (catG A 1 (.s kc) (fun e => [.ro 1 (.s (nl e.val)) (fun x => [.int .u8 (nf e.val x.val)])]) (fun x => chunkS A 1 [.ro 1 (.s n) (fun x => [.int .u8 (f x.val)])] (addNV A (.l 0) x)) e) [.ro 1 (.s (ml e.val)) (fun x => [.int .u8 (mf e.val x.val)])] := fun {A} hA e he => by
    have he : e.val < kc + 1 := by subst hA; exact ltNV_real.1 he
    exact rows_push (len := nl) (len' := ml) (g := nf) (g' := mf) (h := f) hA (by omega) (hl _) (fun j _ => hf _ j)
  clear hr hb hgg ok hi hk h1 ho hl hf
  have hT : T.Ok P := hP ▸ T_ok
  refine jjI Tryd.f74 hT ?_
  generalize hA : Ar.real = A
  generalize hK : Gives _ _ _ = K
  cbv
  have hpush := hpush hA
  first | refine testR hd rfl ?_ | refine testL hd rfl ?_
  cbv
  refine jjT hA (cF) (.bl true) [] ?_
  cbv
  refine jjR hA hT 30 ?_
  cbv
  refine jjP hA (b1) [] ?_
  cbv
  refine jjP hA (b2) [] ?_
  cbv
  refine ⟨jjO, ?_⟩
  refine jjP hA (b3) [] ?_
  cbv
  refine jjP hA (b4) [] ?_
  cbv
  refine jjD ?_
  cbv
  refine ⟨⟨?_, ?_⟩, ⟨?_, ?_, ?_⟩, ?_⟩
  iterate 5 exact jjO
  refine Fin.le hA 0 [(756, 0)] (.tup [RLo s RS' RL' W' c' gen at2 bn b k2 su, .lit .i64 0]) ([(0, LgR k2 ml mf)]) 2000 rfl rfl rfl ?_ ?_ jjK
  · (try cbv) <;> (repeat' (first | exact trivial | exact rfl | apply And.intro | exact fun _ => rfl | (intro _ hle; first | refine chunk_le hA rfl hle rfl ?_ | refine cat_le hA ?_ | refine upd_le hA ?_ | (try cbv))))
    all_goals first | exact hd | (subst hk2; subst hA; rfl) | trace_state
  · clear b1 b2 b3 b4 cF
    (try cbv) <;> (repeat' (first | exact trivial | exact rfl | apply And.intro | exact fun _ => rfl | (intro _ hle; first | exact hpush _ hle | refine chunk_le hA rfl hle rfl ?_ | refine cat_le hA ?_ | refine upd_le hA ?_ | refine int_le ?_ | skip)))
    all_goals (subst hk2; subst hA; rfl)
theorem rappend_ok (hP : P = Tryd.prog) (hd : dead = false) (hr : Reg s h gen fi en) (hb : ∀ i, i < n → 0 ≤ f i ∧ f i ≤ 255) (hn6 : n + 4 ≤ 65536) (hm : m = n + 4) {g : Nat → Int} (hgg : ∀ i, i < m → g i = sealF n f i) (ok : DkOk s d) (hi : RIs d RS RL W c) (hfit : at1 + needN m ≤ en) (hk : putK d m = needN m) (h1 : d1 = putD d at1 m g) (ho : RIs d1 RS' RL' W' c')
    (ha : at2 = at1 + needN m) (hkc : kc ≤ 1000000) (hk2 : k2 = kc + 1) (hl : ∀ i, ml i = if i < kc then nl i else n) (hf : ∀ i x, mf i x = if i < kc then nf i x else f x)
    (cF : FnTr P G 80 [RLg s RS RL W c gen at1 bn b kc nl nf su dead, .int .i64 (n : Int)] [] 0 (Gives (.bs true) [] 10)) :
    FnTr P G 74 [RLg s RS RL W c gen at1 bn b kc nl nf su dead, By n f] [] 0 (Gives (.tup [RLg s RS' RL' W' c' gen at2 bn b k2 ml mf su false, .lit .i64 0]) [] 2000) := by
  have h := rappend_own (P := P) (G := G) hP hd hr hb hn6 hm hgg ok hi hfit hk h1 ho ha hkc hk2 hl hf cF
  generalize hA : Ar.real = A
  refine FnTr.dat hA h _ _ ?_
  (try cbv) <;> (repeat' (first | exact trivial | exact rfl | apply And.intro | exact fun _ => rfl | (intro _ hle; first | refine chunk_le hA rfl hle rfl ?_ | refine cat_le hA ?_ | refine upd_le hA ?_ | refine int_le ?_ | skip)))
  all_goals exact jjO
end
section
variable {P : Program} {G : Gl} {s h gen g1 fi en at1 a1 bn kc su n nb : Nat} {d d1 : Dk} {RS RL RS' RL' : Nat → Nat → Int} {W W' : Nat → Bool} {c c' a2 : Int} {b f : Nat → Int} {nl ml : Nat → Nat} {nf mf : Nat → Nat → Int} {dead : Bool}
theorem rbegin_small (hP : P = Tryd.prog) (hs : s < 4) :
    FnTr P G 42 [RD s RS RL W c, By nb b] [] 0 (Gives (.tup [RLd s RS RL W c, .lit .i64 1]) [] 20000) := by
  have c1 := rasked_small (P := P) (G := G) (S := RS) (L := RL) (W := W) (c := c) hP hs
  have hT : T.Ok P := hP ▸ T_ok
  refine jjI Tryd.f42 hT ?_
  generalize hA : Ar.real = A
  generalize hK : Gives _ _ _ = K
  cbv
  refine jjS hA (c1) [] ?_
  cbv
  refine Fin.le hA 0 [] (.tup [RLd s RS RL W c, .lit .i64 1]) ([]) 20000 rfl rfl rfl ?_ ?_ jjK
  iterate 2 exact jjL
theorem rbegin_full (hP : P = Tryd.prog) (hs : 4 ≤ s ∧ s ≤ 4096) (hh : h = (s - 2) / 2) (hn : nb ≤ 1000000) (hf : 65536 < nb + 4 ∨ h < needN (nb + 4)) :
    FnTr P G 42 [RD s RS RL W c, By nb b] [] 0 (Gives (.tup [RLd s RS RL W c, .lit .i64 2]) [] 20000) := by
  have c1 := rasked_ok (P := P) (G := G) (S := RS) (L := RL) (W := W) (c := c) hP hs.1
  have c2 := rfull_fn (P := P) (G := G) (RS := RS) (RL := RL) (W := W) (c := c) (f := b) (r := true) hP hs hh hn rfl ⟨fun _ => hf, fun _ => rfl⟩
  clear hf
  have hT : T.Ok P := hP ▸ T_ok
  refine jjI Tryd.f42 hT ?_
  generalize hA : Ar.real = A
  generalize hK : Gives _ _ _ = K
  cbv
  refine jjS hA (c1) [] ?_
  cbv
  refine jjT hA (c2) (.bl true) [] ?_
  cbv
  refine Fin.le hA 0 [] (.tup [RLd s RS RL W c, .lit .i64 2]) ([]) 20000 rfl rfl rfl ?_ ?_ jjK
  iterate 2 exact jjL
theorem rbegin_long (hP : P = Tryd.prog) (hs : 4 ≤ s ∧ s ≤ 4096) (hh : h = (s - 2) / 2) (hn : nb ≤ 1000000) (hf : ¬ (65536 < nb + 4 ∨ h < needN (nb + 4))) (hc : c ≠ 0)
    (cN : FnTr P G 72 [RD s RS RL W c] [] 0 (Gives (.int .i64 (gen : Int)) [] 100)) (hg : gen = 1099511627776) :
    FnTr P G 42 [RD s RS RL W c, By nb b] [] 0 (Gives (.tup [RLd s RS RL W c, .lit .i64 3]) [] 20000) := by
  have c1 := rasked_ok (P := P) (G := G) (S := RS) (L := RL) (W := W) (c := c) hP hs.1
  have c2 := rfull_fn (P := P) (G := G) (RS := RS) (RL := RL) (W := W) (c := c) (f := b) (r := false) hP hs hh hn rfl ⟨fun h => (by cases h), fun h => absurd h hf⟩
  have c3 := refoff_fn (P := P) (G := G) (s := s) (S := RS) (L := RL) (W := W) (c := c) (r := false) hP ⟨fun q => (by cases q), fun q => absurd q hc⟩
  clear hf
  have hT : T.Ok P := hP ▸ T_ok
  refine jjI Tryd.f42 hT ?_
  generalize hA : Ar.real = A
  generalize hK : Gives _ _ _ = K
  cbv
  have k1 : A.gt (A.add (gen : Int) 1) 1099511627776 = true := by clear c1 c2 c3 cN; subst hA; simp [Ar.real]; omega
  refine jjS hA (c1) [] ?_
  cbv
  refine jjT hA (c2) (.bl false) [] ?_
  cbv
  refine jjT hA (c3) (.bl false) [] ?_
  cbv
  refine jjS hA (cN) [] ?_
  cbv
  refine ⟨jjO, ?_⟩
  first | refine testR k1 rfl ?_ | refine testL k1 rfl ?_
  cbv
  refine Fin.le hA 0 [] (.tup [RLd s RS RL W c, .lit .i64 3]) ([]) 20000 rfl rfl rfl ?_ ?_ jjK
  iterate 2 exact jjL
theorem rbegin_err (hP : P = Tryd.prog) (hs : 4 ≤ s ∧ s ≤ 4096) (hh : h = (s - 2) / 2) (hn : nb ≤ 1000000) (hf : ¬ (65536 < nb + 4 ∨ h < needN (nb + 4))) (hc : c ≠ 0)
    (cN : FnTr P G 72 [RD s RS RL W c] [] 0 (Gives (.int .i64 (gen : Int)) [] 100)) (hg : gen < 1099511627776) (hg1 : g1 = gen + 1)
    (cL : FnTr P G 73 [RD s RS RL W c, .int .i64 (g1 : Int), By nb b] [] 0 (Gives (.tup [RD s RS' RL' W' c', .int .i64 a2, .lit .i64 6]) [] 9000)) :
    FnTr P G 42 [RD s RS RL W c, By nb b] [] 0 (Gives (.tup [RLd s RS' RL' W' c', .lit .i64 6]) [] 20000) := by
  have c1 := rasked_ok (P := P) (G := G) (S := RS) (L := RL) (W := W) (c := c) hP hs.1
  have c2 := rfull_fn (P := P) (G := G) (RS := RS) (RL := RL) (W := W) (c := c) (f := b) (r := false) hP hs hh hn rfl ⟨fun h => (by cases h), fun h => absurd h hf⟩
  have c3 := refoff_fn (P := P) (G := G) (s := s) (S := RS) (L := RL) (W := W) (c := c) (r := false) hP ⟨fun q => (by cases q), fun q => absurd q hc⟩
  clear hf
  have hT : T.Ok P := hP ▸ T_ok
  refine jjI Tryd.f42 hT ?_
  generalize hA : Ar.real = A
  generalize hK : Gives _ _ _ = K
  cbv
  have k1 : A.gt (A.add (gen : Int) 1) 1099511627776 = false := by clear c1 c2 c3 cN cL; subst hA; simp [Ar.real]; omega
  have k2 : A.add (gen : Int) 1 = (g1 : Int) := by clear c1 c2 c3 cN cL; subst hA; simp [Ar.real]; omega
  refine jjS hA (c1) [] ?_
  cbv
  refine jjT hA (c2) (.bl false) [] ?_
  cbv
  refine jjT hA (c3) (.bl false) [] ?_
  cbv
  refine jjS hA (cN) [] ?_
  cbv
  refine ⟨jjO, ?_⟩
  first | refine testR k1 rfl ?_ | refine testL k1 rfl ?_
  cbv
  refine CS.le hA cL [] rfl rfl rfl ?_ ?_ ?_
  · (try cbv) <;> (repeat' (first | exact trivial | exact rfl | apply And.intro | exact fun _ => rfl | (intro _ hle; first | refine chunk_le hA rfl hle rfl ?_ | refine cat_le hA ?_ | refine upd_le hA ?_ | (try cbv))))
    all_goals exact k2
  · exact jjL
  cbv
  refine Fin.le hA 0 [] (.tup [RLd s RS' RL' W' c', .lit .i64 6]) ([]) 20000 rfl rfl rfl ?_ ?_ jjK
  iterate 2 exact jjL
theorem rbegin_ok (hP : P = Tryd.prog) (hs : 4 ≤ s ∧ s ≤ 4096) (hh : h = (s - 2) / 2) (hn : nb ≤ 1000000) (hf : ¬ (65536 < nb + 4 ∨ h < needN (nb + 4))) (hc : c ≠ 0)
    (cN : FnTr P G 72 [RD s RS RL W c] [] 0 (Gives (.int .i64 (gen : Int)) [] 100)) (hg : gen < 1099511627776) (hg1 : g1 = gen + 1)
    (cL : FnTr P G 73 [RD s RS RL W c, .int .i64 (g1 : Int), By nb b] [] 0 (Gives (.tup [RD s RS' RL' W' c', .int .i64 (a1 : Int), .lit .i64 0]) [] 9000)) :
    FnTr P G 42 [RD s RS RL W c, By nb b] [] 0 (Gives (.tup [RLg s RS' RL' W' c' g1 a1 nb b 0 nl nf 0 false, .lit .i64 0]) [] 20000) := by
  have c1 := rasked_ok (P := P) (G := G) (S := RS) (L := RL) (W := W) (c := c) hP hs.1
  have c2 := rfull_fn (P := P) (G := G) (RS := RS) (RL := RL) (W := W) (c := c) (f := b) (r := false) hP hs hh hn rfl ⟨fun h => (by cases h), fun h => absurd h hf⟩
  have c3 := refoff_fn (P := P) (G := G) (s := s) (S := RS) (L := RL) (W := W) (c := c) (r := false) hP ⟨fun q => (by cases q), fun q => absurd q hc⟩
  clear hf
  have hT : T.Ok P := hP ▸ T_ok
  refine jjI Tryd.f42 hT ?_
  generalize hA : Ar.real = A
  generalize hK : Gives _ _ _ = K
  cbv
  have k1 : A.gt (A.add (gen : Int) 1) 1099511627776 = false := by clear c1 c2 c3 cN cL; subst hA; simp [Ar.real]; omega
  have k2 : A.add (gen : Int) 1 = (g1 : Int) := by clear c1 c2 c3 cN cL; subst hA; simp [Ar.real]; omega
  refine jjS hA (c1) [] ?_
  cbv
  refine jjT hA (c2) (.bl false) [] ?_
  cbv
  refine jjT hA (c3) (.bl false) [] ?_
  cbv
  refine jjS hA (cN) [] ?_
  cbv
  refine ⟨jjO, ?_⟩
  first | refine testR k1 rfl ?_ | refine testL k1 rfl ?_
  cbv
  refine CS.le hA cL [] rfl rfl rfl ?_ ?_ ?_
  · (try cbv) <;> (repeat' (first | exact trivial | exact rfl | apply And.intro | exact fun _ => rfl | (intro _ hle; first | refine chunk_le hA rfl hle rfl ?_ | refine cat_le hA ?_ | refine upd_le hA ?_ | (try cbv))))
    all_goals exact k2
  · exact jjL
  cbv
  refine Fin.le hA 0 [] (.tup [RLg s RS' RL' W' c' g1 a1 nb b 0 nl nf 0 false, .lit .i64 0]) ([]) 20000 rfl rfl rfl ?_ ?_ jjK
  · (try cbv) <;> (repeat' (first | exact trivial | exact rfl | apply And.intro | exact fun _ => rfl | (intro _ hle; first | refine chunk_le hA rfl hle rfl ?_ | refine cat_le hA ?_ | refine upd_le hA ?_ | (try cbv))))
    all_goals first | exact k2 | (exfalso; subst hA; exact absurd (ltNV_real.1 (by assumption)) (Nat.not_lt_zero _)) | trace_state
  · exact jjL
theorem rswitch_dead (hP : P = Tryd.prog) (hd : dead = true) :
    FnTr P G 76 [RLg s RS RL W c gen at1 bn b kc nl nf su dead, By n f] [] 0 (Gives (.tup [RLg s RS RL W c gen at1 bn b kc nl nf su dead, .lit .i64 6]) [] 20000) := by
  have hT : T.Ok P := hP ▸ T_ok
  refine jjI Tryd.f76 hT ?_
  generalize hA : Ar.real = A
  generalize hK : Gives _ _ _ = K
  cbv
  first | refine testR hd rfl ?_ | refine testL hd rfl ?_
  cbv
  refine Fin.le hA 0 [] (.tup [RLg s RS RL W c gen at1 bn b kc nl nf su dead, .lit .i64 6]) ([]) 20000 rfl rfl rfl ?_ ?_ jjK
  iterate 2 exact jjL
theorem rswitch_full (hP : P = Tryd.prog) (hd : dead = false) (hs : 4 ≤ s ∧ s ≤ 4096) (hh : h = (s - 2) / 2) (hn : n ≤ 1000000) (hf : 65536 < n + 4 ∨ h < needN (n + 4)) :
    FnTr P G 76 [RLg s RS RL W c gen at1 bn b kc nl nf su dead, By n f] [] 0 (Gives (.tup [RLg s RS RL W c gen at1 bn b kc nl nf su dead, .lit .i64 2]) [] 20000) := by
  have c2 := rfull_fn (P := P) (G := G) (RS := RS) (RL := RL) (W := W) (c := c) (f := f) (r := true) hP hs hh hn rfl ⟨fun _ => hf, fun _ => rfl⟩
  clear hf
  have hT : T.Ok P := hP ▸ T_ok
  refine jjI Tryd.f76 hT ?_
  generalize hA : Ar.real = A
  generalize hK : Gives _ _ _ = K
  cbv
  first | refine testR hd rfl ?_ | refine testL hd rfl ?_
  cbv
  refine jjT hA (c2) (.bl true) [] ?_
  cbv
  refine Fin.le hA 0 [] (.tup [RLg s RS RL W c gen at1 bn b kc nl nf su dead, .lit .i64 2]) ([]) 20000 rfl rfl rfl ?_ ?_ jjK
  iterate 2 exact jjL
theorem rswitch_long (hP : P = Tryd.prog) (hd : dead = false) (hs : 4 ≤ s ∧ s ≤ 4096) (hh : h = (s - 2) / 2) (hn : n ≤ 1000000) (hf : ¬ (65536 < n + 4 ∨ h < needN (n + 4))) (hg : gen = 1099511627776) :
    FnTr P G 76 [RLg s RS RL W c gen at1 bn b kc nl nf su dead, By n f] [] 0 (Gives (.tup [RLg s RS RL W c gen at1 bn b kc nl nf su dead, .lit .i64 3]) [] 20000) := by
  have c2 := rfull_fn (P := P) (G := G) (RS := RS) (RL := RL) (W := W) (c := c) (f := f) (r := false) hP hs hh hn rfl ⟨fun h => (by cases h), fun h => absurd h hf⟩
  clear hf
  have hT : T.Ok P := hP ▸ T_ok
  refine jjI Tryd.f76 hT ?_
  generalize hA : Ar.real = A
  generalize hK : Gives _ _ _ = K
  cbv
  have k1 : A.gt (A.add (gen : Int) 1) 1099511627776 = true := by clear c2; subst hA; simp [Ar.real]; omega
  first | refine testR hd rfl ?_ | refine testL hd rfl ?_
  cbv
  refine jjT hA (c2) (.bl false) [] ?_
  cbv
  refine ⟨jjO, ?_⟩
  first | refine testR k1 rfl ?_ | refine testL k1 rfl ?_
  cbv
  refine Fin.le hA 0 [] (.tup [RLg s RS RL W c gen at1 bn b kc nl nf su dead, .lit .i64 3]) ([]) 20000 rfl rfl rfl ?_ ?_ jjK
  iterate 2 exact jjL
theorem rswitch_err (hP : P = Tryd.prog) (hd : dead = false) (hs : 4 ≤ s ∧ s ≤ 4096) (hh : h = (s - 2) / 2) (hn : n ≤ 1000000) (hf : ¬ (65536 < n + 4 ∨ h < needN (n + 4))) (hg : gen < 1099511627776) (hg1 : g1 = gen + 1)
    (cL : FnTr P G 73 [RD s RS RL W c, .int .i64 (g1 : Int), By n f] [] 0 (Gives (.tup [RD s RS' RL' W' c', .int .i64 a2, .lit .i64 6]) [] 9000)) :
    FnTr P G 76 [RLg s RS RL W c gen at1 bn b kc nl nf su dead, By n f] [] 0 (Gives (.tup [RLg s RS' RL' W' c' gen at1 bn b kc nl nf su true, .lit .i64 6]) [] 20000) := by
  have c2 := rfull_fn (P := P) (G := G) (RS := RS) (RL := RL) (W := W) (c := c) (f := f) (r := false) hP hs hh hn rfl ⟨fun h => (by cases h), fun h => absurd h hf⟩
  have c5 := rdied_fn (P := P) (G := G) (s := s) (RS := RS) (RL := RL) (W := W) (c := c) (gen := gen) (at1 := at1) (bn := bn) (b := b) (kc := kc) (nl := nl) (nf := nf) (su := su) (dead := dead) (RS' := RS') (RL' := RL') (W' := W') (c' := c') hP
  clear hf
  have hT : T.Ok P := hP ▸ T_ok
  refine jjI Tryd.f76 hT ?_
  generalize hA : Ar.real = A
  generalize hK : Gives _ _ _ = K
  cbv
  have k1 : A.gt (A.add (gen : Int) 1) 1099511627776 = false := by clear c2 c5 cL; subst hA; simp [Ar.real]; omega
  have k2 : A.add (gen : Int) 1 = (g1 : Int) := by clear c2 c5 cL; subst hA; simp [Ar.real]; omega
  first | refine testR hd rfl ?_ | refine testL hd rfl ?_
  cbv
  refine jjT hA (c2) (.bl false) [] ?_
  cbv
  refine ⟨jjO, ?_⟩
  first | refine testR k1 rfl ?_ | refine testL k1 rfl ?_
  cbv
  refine ⟨jjO, ?_⟩
  refine CS.le hA cL [] rfl rfl rfl ?_ ?_ ?_
  · (try cbv) <;> (repeat' (first | exact trivial | exact rfl | apply And.intro | exact fun _ => rfl | (intro _ hle; first | refine chunk_le hA rfl hle rfl ?_ | refine cat_le hA ?_ | refine upd_le hA ?_ | (try cbv))))
    all_goals exact k2
  · exact jjL
  cbv
  refine jjS hA (c5) [] ?_
  cbv
  refine Fin.le hA 0 [] (.tup [RLg s RS' RL' W' c' gen at1 bn b kc nl nf su true, .lit .i64 6]) ([]) 20000 rfl rfl rfl ?_ ?_ jjK
  iterate 2 exact jjL
theorem rswitch_ok (hP : P = Tryd.prog) (hd : dead = false) (hs : 4 ≤ s ∧ s ≤ 4096) (hh : h = (s - 2) / 2) (hn : n ≤ 1000000) (hf : ¬ (65536 < n + 4 ∨ h < needN (n + 4))) (hg : gen < 1099511627776) (hg1 : g1 = gen + 1)
    (cL : FnTr P G 73 [RD s RS RL W c, .int .i64 (g1 : Int), By n f] [] 0 (Gives (.tup [RD s RS' RL' W' c', .int .i64 (a1 : Int), .lit .i64 0]) [] 9000)) :
    FnTr P G 76 [RLg s RS RL W c gen at1 bn b kc nl nf su dead, By n f] [] 0 (Gives (.tup [RLg s RS' RL' W' c' g1 a1 n f 0 ml mf 0 false, .lit .i64 0]) [] 20000) := by
  have c2 := rfull_fn (P := P) (G := G) (RS := RS) (RL := RL) (W := W) (c := c) (f := f) (r := false) hP hs hh hn rfl ⟨fun h => (by cases h), fun h => absurd h hf⟩
  clear hf
  have hT : T.Ok P := hP ▸ T_ok
  refine jjI Tryd.f76 hT ?_
  generalize hA : Ar.real = A
  generalize hK : Gives _ _ _ = K
  cbv
  have k1 : A.gt (A.add (gen : Int) 1) 1099511627776 = false := by clear c2 cL; subst hA; simp [Ar.real]; omega
  have k2 : A.add (gen : Int) 1 = (g1 : Int) := by clear c2 cL; subst hA; simp [Ar.real]; omega
  first | refine testR hd rfl ?_ | refine testL hd rfl ?_
  cbv
  refine jjT hA (c2) (.bl false) [] ?_
  cbv
  refine ⟨jjO, ?_⟩
  first | refine testR k1 rfl ?_ | refine testL k1 rfl ?_
  cbv
  refine ⟨jjO, ?_⟩
  refine CS.le hA cL [] rfl rfl rfl ?_ ?_ ?_
  · (try cbv) <;> (repeat' (first | exact trivial | exact rfl | apply And.intro | exact fun _ => rfl | (intro _ hle; first | refine chunk_le hA rfl hle rfl ?_ | refine cat_le hA ?_ | refine upd_le hA ?_ | (try cbv))))
    all_goals exact k2
  · exact jjL
  cbv
  refine ⟨jjO, ?_⟩
  refine Fin.le hA 0 [] (.tup [RLg s RS' RL' W' c' g1 a1 n f 0 ml mf 0 false, .lit .i64 0]) ([]) 20000 rfl rfl rfl ?_ ?_ jjK
  · (try cbv) <;> (repeat' (first | exact trivial | exact rfl | apply And.intro | exact fun _ => rfl | (intro _ hle; first | refine chunk_le hA rfl hle rfl ?_ | refine cat_le hA ?_ | refine upd_le hA ?_ | (try cbv))))
    all_goals first | exact k2 | (exfalso; subst hA; exact absurd (ltNV_real.1 (by assumption)) (Nat.not_lt_zero _)) | trace_state
  · exact jjL
end
end Go.Proofs.YtnjjgipblimbfaaDoor.Dsk
