/-
  Disks: the sectors on which something waits.
-/
import Derived.Test.YtnjjgipblimbfaaDskF21
set_option linter.unusedVariables false
set_option linter.unusedSimpArgs false
namespace Go.Proofs.Ytnjjgipblimbfaa.Dsk
open Go.Eng
open Go.DskLaw (SeenIs EnumIs SrtTo Mov left_mem left_less)
set_option maxRecDepth 100000
set_option maxHeartbeats 4000000
set_option linter.unusedVariables false

theorem pdq_fn {P : Program} {G : Gl} (hP : P = Try.prog) {n : Nat} {f g : Nat → Int} {L : Int → Option (Nat → Int)} (hn : n ≤ 12) (hf : EnumIs L n f) (hg : ∀ f', EnumIs L n f' → SrtTo f' n → ∀ i, i < n → f' i = g i) :
    FnTr P G 70 [.sl 0 1 (.l 0) (.s n), .lit .i64 0, .int .i64 (n : Int), .any] [(0, .row 3 1 (.s n) (fun e => [.int .i64 (f e.val)]))] 1 (Gives (.tup []) [(0, .row 3 1 (.s n) (fun e => [.int .i64 (g e.val)]))] 1) := by
  have c1 := isort_fn (P := P) (G := G) hP (by omega) hf hg
  have hT : T.Ok P := hP ▸ T_ok
  refine FnTr.intro (fn := Try.f70) (c := bodyOf Try.f70) (by rw [hP]; rfl) rfl rfl hT ?_
  generalize hA : Ar.real = A
  generalize hK : Gives _ _ _ = K
  cbv
  refine LS.rounds hA 1 hT ?_
  cbv
  have k1 : A.le (A.sub (Int.ofNat n) 0) 12 = true := by subst hA; simp [Ar.real]; omega
  have k2 : A.inR .i64 (A.sub (Int.ofNat n) 0) := by subst hA; exact inR64 (by simp only [Ar.real, Int.ofNat_eq_natCast]; omega) (by simp only [Ar.real, Int.ofNat_eq_natCast]; omega)
  refine ⟨k2, ?_⟩
  first | refine testR k1 rfl ?_ | refine testL k1 rfl ?_
  cbv
  refine CS.le hA c1 [(0, 0)] rfl rfl rfl ?_ ?_ ?_
  · (try cbv) <;> (repeat' (first | exact trivial | exact rfl | apply And.intro | exact fun _ => rfl | (intro _ hle; first | refine chunk_le hA rfl hle rfl ?_ | refine cat_le hA ?_ | refine upd_le hA ?_ | (try cbv))))
  · (try cbv) <;> (repeat' (first | exact trivial | exact rfl | apply And.intro | exact fun _ => rfl | (intro _ hle; first | refine chunk_le hA rfl hle rfl ?_ | refine cat_le hA ?_ | refine upd_le hA ?_ | (try cbv))))
  cbv
  refine Fin.le hA 1 [] (.tup []) ([(0, .row 3 1 (.s n) (fun e => [.int .i64 (g e.val)]))]) 1 rfl rfl rfl ?_ ?_ (by rw [← hK]; exact ⟨rfl, rfl, rfl⟩)
  · (try cbv) <;> (repeat' (first | exact trivial | exact rfl | apply And.intro | exact fun _ => rfl | (intro _ hle; first | refine chunk_le hA rfl hle rfl ?_ | refine cat_le hA ?_ | refine upd_le hA ?_ | (try cbv))))
  · (try cbv) <;> (repeat' (first | exact trivial | exact rfl | apply And.intro | exact fun _ => rfl | (intro _ hle; first | refine chunk_le hA rfl hle rfl ?_ | refine cat_le hA ?_ | refine upd_le hA ?_ | (try cbv))))
theorem sort_fn {P : Program} {G : Gl} (hP : P = Try.prog) {n : Nat} {f g : Nat → Int} {L : Int → Option (Nat → Int)} (hn : n ≤ 12) (hf : EnumIs L n f) (hg : ∀ f', EnumIs L n f' → SrtTo f' n → ∀ i, i < n → f' i = g i) :
    FnTr P G 65 [.sl 0 1 (.l 0) (.s n)] [(0, .row 3 1 (.s n) (fun e => [.int .i64 (f e.val)]))] 1 (Gives (.tup []) [(0, .row 3 1 (.s n) (fun e => [.int .i64 (g e.val)]))] 1) := by
  have c1 := pdq_fn (P := P) (G := G) hP hn hf hg
  have c2 := len_bits (P := P) (G := G) (x := (n : Int)) hP (by omega)
  have hT : T.Ok P := hP ▸ T_ok
  refine FnTr.intro (fn := Try.f65) (c := bodyOf Try.f65) (by rw [hP]; rfl) rfl rfl hT ?_
  generalize hA : Ar.real = A
  generalize hK : Gives _ _ _ = K
  cbv
  have k1 : A.conv .u64 (A.i2 n) = (n : Int) := by subst hA; show IntKind.u64.wrap (n : Int) = (n : Int); unfold IntKind.wrap; simp [IntKind.bits, IntKind.signed]; (try omega)
  refine CS.le hA c2 [] rfl rfl rfl ?_ ?_ ?_
  · (try cbv) <;> (repeat' (first | exact trivial | exact rfl | apply And.intro | exact fun _ => rfl | (intro _ hle; first | refine chunk_le hA rfl hle rfl ?_ | refine cat_le hA ?_ | refine upd_le hA ?_ | (try cbv))))
    exact k1
  · (try cbv) <;> (repeat' (first | exact trivial | exact rfl | apply And.intro | exact fun _ => rfl | (intro _ hle; first | refine chunk_le hA rfl hle rfl ?_ | refine cat_le hA ?_ | refine upd_le hA ?_ | (try cbv))))
  cbv
  refine CS.le hA c1 [(0, 0)] rfl rfl rfl ?_ ?_ ?_
  · (try cbv) <;> (repeat' (first | exact trivial | exact rfl | apply And.intro | exact fun _ => rfl | (intro _ hle; first | refine chunk_le hA rfl hle rfl ?_ | refine cat_le hA ?_ | refine upd_le hA ?_ | (try cbv))))
    all_goals (subst hA; (try simp only [natCast_eq] at *); (try (simp only [Ar.real, NV.val, Int.ofNat_eq_natCast, Int.toNat_natCast])); first | done | omega | decide | exact inR64 (by omega) (by omega) | (refine ⟨?_, ?_⟩ <;> first | omega | decide | exact inR64 (by omega) (by omega)))
  · (try cbv) <;> (repeat' (first | exact trivial | exact rfl | apply And.intro | exact fun _ => rfl | (intro _ hle; first | refine chunk_le hA rfl hle rfl ?_ | refine cat_le hA ?_ | refine upd_le hA ?_ | (try cbv))))
  cbv
  refine Fin.le hA 1 [] (.tup []) ([(0, .row 3 1 (.s n) (fun e => [.int .i64 (g e.val)]))]) 1 rfl rfl rfl ?_ ?_ (by rw [← hK]; exact ⟨rfl, rfl, rfl⟩)
  · (try cbv) <;> (repeat' (first | exact trivial | exact rfl | apply And.intro | exact fun _ => rfl | (intro _ hle; first | refine chunk_le hA rfl hle rfl ?_ | refine cat_le hA ?_ | refine upd_le hA ?_ | (try cbv))))
  · (try cbv) <;> (repeat' (first | exact trivial | exact rfl | apply And.intro | exact fun _ => rfl | (intro _ hle; first | refine chunk_le hA rfl hle rfl ?_ | refine cat_le hA ?_ | refine upd_le hA ?_ | (try cbv))))
theorem keys_fn {P : Program} {G : Gl} (hP : P = Try.prog) {L : Int → Option (Nat → Int)} :
    FnTr P G 55 [.mp 0] [(0, .wm 64 L)] 1 (Gives (.fn 66 [.ptr 1 0]) [(1, .cells 74 [.mp 0]), (0, .wm 64 L)] 4) := by
  have hT : T.Ok P := hP ▸ T_ok
  refine FnTr.intro (fn := Try.f55) (c := bodyOf Try.f55) (by rw [hP]; rfl) rfl rfl hT ?_
  generalize hA : Ar.real = A
  generalize hK : Gives _ _ _ = K
  cbv
  refine OS.did (makeFunc_did rfl) ?_
  cbv
  refine Fin.le hA 1 [(1, 1)] (.fn 66 [.ptr 1 0]) ([(1, .cells 74 [.mp 0]), (0, .wm 64 L)]) 4 rfl rfl rfl ?_ ?_ (by rw [← hK]; exact ⟨rfl, rfl, rfl⟩)
  · (try cbv) <;> (repeat' (first | exact trivial | exact rfl | apply And.intro | exact fun _ => rfl | (intro _ hle; first | refine chunk_le hA rfl hle rfl ?_ | refine cat_le hA ?_ | refine upd_le hA ?_ | (try cbv))))
  · (try cbv) <;> (repeat' (first | exact trivial | exact rfl | apply And.intro | exact fun _ => rfl | (intro _ hle; first | refine chunk_le hA rfl hle rfl ?_ | refine cat_le hA ?_ | refine upd_le hA ?_ | (try cbv))))
theorem push_int {A : Ar} (hA : Ar.real = A) {n d : Nat} {f f' : Nat → Int} {k : Int} (h : ∀ i, i < n + 1 → f' i = if i < n then f i else k) {e N : NV} (he : ltNV A e N) (hN : N.val = A.addN n 1) :
    leL (leSV A (d + 1)) (catG A 1 (.s n) (fun e => [.int .i64 (f e.val)]) (fun x => chunkS A 1 [.int .i64 k] (addNV A (.l 0) x)) e) [.int .i64 (f' e.val)] := by
  have hl := Ints.lits hA (cs := [.int .i64 k]) (kd := .i64) (ns := [k]) rfl
  refine Ints.le hA (F := catG A 1 (.s n) (fun e => [.int .i64 (f e.val)]) (fun x => chunkS A 1 [.int .i64 k] (addNV A (.l 0) x))) (Ints.cat hA (F := fun e => [.int .i64 (f e.val)]) (G := fun x => chunkS A 1 [.int .i64 k] (addNV A (.l 0) x)) (f := f) (n := n) (m := 1) (.s n) rfl (fun k => ⟨_, rfl, rfl⟩) (g := fun i => [k].getD i 0) (fun k hk => hl (.s k) hk) (fun k => ⟨_, _, rfl, rfl⟩) ⟨n, rfl⟩) he (by rw [hN]; subst hA; exact Nat.le_refl _) ?_
  have he : e.val < n + 1 := by have := ltNV_real.1 (hA ▸ he); rw [hN] at this; subst hA; exact this
  rw [h _ he]
  by_cases q : e.val < n
  · rw [if_pos q, if_pos q]
  · rw [if_neg q, if_neg q, show e.val - n = 0 by omega]; rfl
theorem appseq_fn {P : Program} {G : Gl} (hP : P = Try.prog) {s : Nat} {L : Int → Option (Nat → Int)} (hs : s ≤ 4096) (hk : ∀ k g, L k = some g → 0 ≤ k ∧ k < (s : Int)) :
    FnTr P G 69 [.nils, .fn 66 [.ptr 1 0]] [(0, .wm 64 L), (1, .cells 74 [.mp 0])] 2 (fun r H n => ∃ x : Nat × (Nat → Int), EnumIs L x.1 x.2 ∧ Gives (.sl 2 1 (.l 0) (.s x.1)) [(0, .wm 64 L), (2, .row 3 1 (.s x.1) (fun e => [.int .i64 (x.2 e.val)])), (1, .cells 74 [.mp 0])] 60 r H n) := by
  have hT : T.Ok P := hP ▸ T_ok
  have hM : MapTy P _ 64 := hP ▸ map_ty
  refine FnTr.intro (fn := Try.f69) (c := bodyOf Try.f69) (by rw [hP]; rfl) rfl rfl hT ?_
  generalize hA : Ar.real = A
  generalize hK : (fun (r : SV) (H : Hl) (n : Nat) => ∃ x : Nat × (Nat → Int), EnumIs L x.1 x.2 ∧ Gives (.sl 2 1 (.l 0) (.s x.1)) [(0, .wm 64 L), (2, .row 3 1 (.s x.1) (fun e => [.int .i64 (x.2 e.val)])), (1, .cells 74 [.mp 0])] 60 r H n) = K
  cbv
  refine FS.run hA (fn := Try.f66) (body := bodyOf Try.f66) (by rw [hP]; rfl) rfl rfl rfl hT rfl ?_
  intro l
  cbv
  refine OS.range (sz := 64) hM rfl rfl rfl ?_
  intro mb es c hmap
  cbv
  refine LS.ghost 3 1 (.l 0) (fun _ => [.int .i64 0]) rfl ?_
  refine LS.leU hT hA 9 (fun _ => []) [] (fun (Z : Array Nat × Nat × (Nat → Int)) => [(7, .obj (.mapIter (some mb) c Z.1 c)), (2, .cells 61 [.sl 8 1 (.l 0) (.s Z.2.1)]), (8, .row 3 1 (.s Z.2.1) (fun e => [.int .i64 (Z.2.2 e.val)]))]) (fun Z => SeenIs es Z.1 Z.2.1 Z.2.2) (fun Z => (leftOf es Z.1).size) (#[], 0, fun _ => 0) [] rfl rfl ?_ ?_ ?_
  · (try cbv) <;> (repeat' (first | exact trivial | exact rfl | apply And.intro | exact fun _ => rfl | (intro _ hle; first | refine chunk_le hA rfl hle rfl ?_ | refine cat_le hA ?_ | refine upd_le hA ?_ | refine int_le ?_ | skip)))
    all_goals first | (exfalso; subst hA; exact absurd (ltNV_real.1 hle) (Nat.not_lt_zero _)) | trace_state
  · exact SeenIs.start
  · intro R hR Z hZ
    obtain ⟨seen, n, f⟩ := Z
    have hZ : SeenIs es seen n f := hZ
    have hns : n ≤ s := hZ.le hmap hk
    cbv
    refine OS.next (sz := 64) (i := 0) hmap rfl rfl rfl rfl (fun h0 => ?_) (fun e he seen' hse => ?_)
    · have hen := hZ.fin hmap h0
      clear hR hZ
      cbv
      refine Fin.leN hA 2 [(8, 2)] (.sl 2 1 (.l 0) (.s n)) [(2, .row 3 1 (.s n) (fun e => [.int .i64 (f e.val)])), (0, .num mb (.map es c)), (1, .cells 74 [.mp 0])] _ 60 rfl rfl rfl ?_ ?_ (.cons (i := 0) rfl (blk_num hmap) (.cons (i := 2) rfl (Blkle.refl _) (.cons (i := 1) rfl (Blkle.refl _) .nil))) (by rw [← hK]; exact ⟨(n, f), hen, rfl, rfl, rfl⟩)
      · (try cbv) <;> (repeat' (first | exact trivial | exact rfl | apply And.intro | exact fun _ => rfl | (intro _ hle; first | refine chunk_le hA rfl hle rfl ?_ | refine cat_le hA ?_ | refine upd_le hA ?_ | (try cbv))))
      · (try cbv) <;> (repeat' (first | exact trivial | exact rfl | apply And.intro | exact fun _ => rfl | (intro _ hle; first | refine chunk_le hA rfl hle rfl ?_ | refine cat_le hA ?_ | refine upd_le hA ?_ | (try cbv))))
    · obtain ⟨hes, hnew⟩ := left_mem he
      obtain ⟨k, g, hke, hLk, hval⟩ := hmap.ent e hes
      obtain ⟨f', hf'⟩ : ∃ f' : Nat → Int, ∀ i, f' i = if i < n then f i else k := ⟨_, fun _ => rfl⟩
      have hZ' : SeenIs es (seen.push e.born) (n + 1) f' := hZ.step hmap hes hnew hke (fun i hi => by rw [hf', if_pos hi]) (by rw [hf', if_neg (by omega)])
      have hls : (leftOf es seen').size < (leftOf es seen).size := by rw [hse]; exact left_less he
      rw [← hse] at hZ'
      cbv
      refine OS.did (entry_did (i := 0) hmap hse rfl rfl rfl rfl hes hke hval) ?_
      cbv
      refine OS.yield hA (i := 5) hT rfl rfl rfl rfl rfl rfl ?_
      cbv
      have hup : ∀ e, ltNV A e (.s (A.addN n 1)) → leL (leSV A 4) (catG A 1 (.s n) (fun e => [.int .i64 (f e.val)]) (fun x => chunkS A 1 [.int .i64 k] (addNV A (.l 0) x)) e) [.int .i64 (f' e.val)] := fun e he => push_int hA (fun i _ => hf' i) he rfl
      have hns2 : n ≤ s := hZ.le hmap hk
      clear hns
      refine ⟨⟨(by (subst hA; (try simp only [natCast_eq] at *); (try (simp only [Ar.real, NV.val, Int.ofNat_eq_natCast, Int.toNat_natCast])); first | done | omega | decide | exact inR64 (by omega) (by omega) | (refine ⟨?_, ?_⟩ <;> first | omega | decide | exact inR64 (by omega) (by omega)))), (by subst hA; exact Nat.le_refl _), (by subst hA; show (n + 1) * 8 ≤ 140737488355328; omega)⟩, hR _ _ ⟨(seen', n + 1, f'), 9, [(19, 8)], rfl, rfl, ?_, hZ', hls⟩⟩
      clear hR
      (try cbv) <;> (repeat' (first | exact trivial | exact rfl | apply And.intro | exact fun _ => rfl | (intro _ hle; first | exact hup _ hle | refine chunk_le hA rfl hle rfl ?_ | refine cat_le hA ?_ | refine upd_le hA ?_ | refine int_le ?_ | skip)))
      all_goals (subst hA; (try simp only [natCast_eq] at *); (try (simp only [Ar.real, NV.val, Int.ofNat_eq_natCast, Int.toNat_natCast])); first | done | omega | decide | exact inR64 (by omega) (by omega) | (refine ⟨?_, ?_⟩ <;> first | omega | decide | exact inR64 (by omega) (by omega)))
theorem collect_fn {P : Program} {G : Gl} (hP : P = Try.prog) {s : Nat} {L : Int → Option (Nat → Int)} (hs : s ≤ 4096) (hk : ∀ k g, L k = some g → 0 ≤ k ∧ k < (s : Int)) :
    FnTr P G 64 [.fn 66 [.ptr 1 0]] [(0, .wm 64 L), (1, .cells 74 [.mp 0])] 2 (fun r H n => ∃ x : Nat × (Nat → Int), EnumIs L x.1 x.2 ∧ Gives (.sl 2 1 (.l 0) (.s x.1)) [(0, .wm 64 L), (2, .row 3 1 (.s x.1) (fun e => [.int .i64 (x.2 e.val)])), (1, .cells 74 [.mp 0])] 70 r H n) := by
  have hT : T.Ok P := hP ▸ T_ok
  have c1 := appseq_fn (P := P) (G := G) hP hs hk
  refine FnTr.intro (fn := Try.f64) (c := bodyOf Try.f64) (by rw [hP]; rfl) rfl rfl hT ?_
  generalize hA : Ar.real = A
  generalize hK : (fun (r : SV) (H : Hl) (n : Nat) => ∃ x : Nat × (Nat → Int), EnumIs L x.1 x.2 ∧ Gives (.sl 2 1 (.l 0) (.s x.1)) [(0, .wm 64 L), (2, .row 3 1 (.s x.1) (fun e => [.int .i64 (x.2 e.val)])), (1, .cells 74 [.mp 0])] 70 r H n) = K
  cbv
  refine CS.leE hA c1 [(0, 0), (1, 1)] rfl rfl rfl ?_ ?_ (fun x hx => ?_)
  · (try cbv) <;> (repeat' (first | exact trivial | exact rfl | apply And.intro | exact fun _ => rfl | (intro _ hle; first | refine chunk_le hA rfl hle rfl ?_ | refine cat_le hA ?_ | refine upd_le hA ?_ | (try cbv))))
  · (try cbv) <;> (repeat' (first | exact trivial | exact rfl | apply And.intro | exact fun _ => rfl | (intro _ hle; first | refine chunk_le hA rfl hle rfl ?_ | refine cat_le hA ?_ | refine upd_le hA ?_ | (try cbv))))
  obtain ⟨n, f⟩ := x
  cbv
  refine Fin.le hA 2 [(6, 2)] (.sl 2 1 (.l 0) (.s n)) [(0, .wm 64 L), (2, .row 3 1 (.s n) (fun e => [.int .i64 (f e.val)])), (1, .cells 74 [.mp 0])] 70 rfl rfl rfl ?_ ?_ (by rw [← hK]; exact ⟨(n, f), hx, rfl, rfl, rfl⟩)
  · (try cbv) <;> (repeat' (first | exact trivial | exact rfl | apply And.intro | exact fun _ => rfl | (intro _ hle; first | refine chunk_le hA rfl hle rfl ?_ | refine cat_le hA ?_ | refine upd_le hA ?_ | (try cbv))))
  · (try cbv) <;> (repeat' (first | exact trivial | exact rfl | apply And.intro | exact fun _ => rfl | (intro _ hle; first | refine chunk_le hA rfl hle rfl ?_ | refine cat_le hA ?_ | refine upd_le hA ?_ | (try cbv))))
theorem sorted_fn {P : Program} {G : Gl} (hP : P = Try.prog) {s n : Nat} {g : Nat → Int} {L : Int → Option (Nat → Int)} (hs : s ≤ 4096) (hn : n ≤ 12) (hk : ∀ k g, L k = some g → 0 ≤ k ∧ k < (s : Int)) (hg : ∀ m f', EnumIs L m f' → m = n ∧ (SrtTo f' m → ∀ i, i < n → f' i = g i)) :
    FnTr P G 54 [.fn 66 [.ptr 1 0]] [(0, .wm 64 L), (1, .cells 74 [.mp 0])] 2 (Gives (.sl 2 1 (.l 0) (.s n)) [(0, .wm 64 L), (2, .row 3 1 (.s n) (fun e => [.int .i64 (g e.val)])), (1, .cells 74 [.mp 0])] 80) := by
  have c1 := collect_fn (P := P) (G := G) hP hs hk
  have c2 : ∀ f', EnumIs L n f' → FnTr P G 65 [.sl 0 1 (.l 0) (.s n)] [(0, .row 3 1 (.s n) (fun e => [.int .i64 (f' e.val)]))] 1 (Gives (.tup []) [(0, .row 3 1 (.s n) (fun e => [.int .i64 (g e.val)]))] 1) := fun f' hf =>
    sort_fn hP hn hf (fun f'' h1 h2 => (hg n f'' h1).2 h2)
  have hT : T.Ok P := hP ▸ T_ok
  refine FnTr.intro (fn := Try.f54) (c := bodyOf Try.f54) (by rw [hP]; rfl) rfl rfl hT ?_
  generalize hA : Ar.real = A
  generalize hK : Gives _ _ _ = K
  cbv
  refine CS.leE hA c1 [(0, 0), (1, 1)] rfl rfl rfl ?_ ?_ (fun x hx => ?_)
  · (try cbv) <;> (repeat' (first | exact trivial | exact rfl | apply And.intro | exact fun _ => rfl | (intro _ hle; first | refine chunk_le hA rfl hle rfl ?_ | refine cat_le hA ?_ | refine upd_le hA ?_ | (try cbv))))
  · (try cbv) <;> (repeat' (first | exact trivial | exact rfl | apply And.intro | exact fun _ => rfl | (intro _ hle; first | refine chunk_le hA rfl hle rfl ?_ | refine cat_le hA ?_ | refine upd_le hA ?_ | (try cbv))))
  obtain ⟨m, f⟩ := x
  obtain rfl : m = n := (hg m f hx).1
  have a2 := c2 f hx
  cbv
  refine CS.le hA a2 [(6, 0)] rfl rfl rfl ?_ ?_ ?_
  · (try cbv) <;> (repeat' (first | exact trivial | exact rfl | apply And.intro | exact fun _ => rfl | (intro _ hle; first | refine chunk_le hA rfl hle rfl ?_ | refine cat_le hA ?_ | refine upd_le hA ?_ | (try cbv))))
  · (try cbv) <;> (repeat' (first | exact trivial | exact rfl | apply And.intro | exact fun _ => rfl | (intro _ hle; first | refine chunk_le hA rfl hle rfl ?_ | refine cat_le hA ?_ | refine upd_le hA ?_ | (try cbv))))
  cbv
  refine Fin.le hA 2 [(6, 2)] (.sl 2 1 (.l 0) (.s m)) ([(0, .wm 64 L), (2, .row 3 1 (.s m) (fun e => [.int .i64 (g e.val)])), (1, .cells 74 [.mp 0])]) 80 rfl rfl rfl ?_ ?_ (by rw [← hK]; exact ⟨rfl, rfl, rfl⟩)
  · (try cbv) <;> (repeat' (first | exact trivial | exact rfl | apply And.intro | exact fun _ => rfl | (intro _ hle; first | refine chunk_le hA rfl hle rfl ?_ | refine cat_le hA ?_ | refine upd_le hA ?_ | (try cbv))))
  · (try cbv) <;> (repeat' (first | exact trivial | exact rfl | apply And.intro | exact fun _ => rfl | (intro _ hle; first | refine chunk_le hA rfl hle rfl ?_ | refine cat_le hA ?_ | refine upd_le hA ?_ | (try cbv))))
theorem waits_own {P : Program} {G : Gl} (hP : P = Try.prog) {N s n : Nat} {S g : Nat → Int} {L : Int → Option (Nat → Int)} {ar : Bool} {ca : Int} (hs : s ≤ 4096) (hn : n ≤ 12) (hk : ∀ k g, L k = some g → 0 ≤ k ∧ k < (s : Int)) (hg : ∀ m f', EnumIs L m f' → m = n ∧ (SrtTo f' m → ∀ i, i < n → f' i = g i)) :
    FnTr P G 30 [.ptr 0 0] (DH N S L ar ca) 3 (Gives (.sl 3 1 (.l 0) (.s n)) ((3, .row 3 1 (.s n) (fun e => [.int .i64 (g e.val)])) :: DH N S L ar ca) 100) := by
  have c1 := keys_fn (P := P) (G := G) (L := L) hP
  have c2 := sorted_fn (P := P) (G := G) hP hs hn hk hg
  have hT : T.Ok P := hP ▸ T_ok
  refine FnTr.intro (fn := Try.f30) (c := bodyOf Try.f30) (by rw [hP]; rfl) rfl rfl hT ?_
  generalize hA : Ar.real = A
  generalize hK : Gives _ _ _ = K
  cbv
  refine CS.le hA c1 [(2, 0)] rfl rfl rfl ?_ ?_ ?_
  · (try cbv) <;> (repeat' (first | exact trivial | exact rfl | apply And.intro | exact fun _ => rfl | (intro _ hle; first | refine chunk_le hA rfl hle rfl ?_ | refine cat_le hA ?_ | refine upd_le hA ?_ | (try cbv))))
  · (try cbv) <;> (repeat' (first | exact trivial | exact rfl | apply And.intro | exact fun _ => rfl | (intro _ hle; first | refine chunk_le hA rfl hle rfl ?_ | refine cat_le hA ?_ | refine upd_le hA ?_ | (try cbv))))
  cbv
  refine CS.le hA c2 [(2, 0), (11, 1)] rfl rfl rfl ?_ ?_ ?_
  · (try cbv) <;> (repeat' (first | exact trivial | exact rfl | apply And.intro | exact fun _ => rfl | (intro _ hle; first | refine chunk_le hA rfl hle rfl ?_ | refine cat_le hA ?_ | refine upd_le hA ?_ | (try cbv))))
  · (try cbv) <;> (repeat' (first | exact trivial | exact rfl | apply And.intro | exact fun _ => rfl | (intro _ hle; first | refine chunk_le hA rfl hle rfl ?_ | refine cat_le hA ?_ | refine upd_le hA ?_ | (try cbv))))
  cbv
  refine Fin.le hA 3 [(16, 3)] (.sl 3 1 (.l 0) (.s n)) ((3, .row 3 1 (.s n) (fun e => [.int .i64 (g e.val)])) :: DH N S L ar ca) 100 rfl rfl rfl ?_ ?_ (by rw [← hK]; exact ⟨rfl, rfl, rfl⟩)
  · (try cbv) <;> (repeat' (first | exact trivial | exact rfl | apply And.intro | exact fun _ => rfl | (intro _ hle; first | refine chunk_le hA rfl hle rfl ?_ | refine cat_le hA ?_ | refine upd_le hA ?_ | (try cbv))))
  · (try cbv) <;> (repeat' (first | exact trivial | exact rfl | apply And.intro | exact fun _ => rfl | (intro _ hle; first | refine chunk_le hA rfl hle rfl ?_ | refine cat_le hA ?_ | refine upd_le hA ?_ | (try cbv))))
abbrev IntsR (n : Nat) (g : Nat → Int) : SV := .ro 1 (.s n) (fun e => [.int .i64 (g e.val)])
/-- The sectors that wait, as data. -/
theorem waits_fn {P : Program} {G : Gl} (hP : P = Try.prog) {N s n : Nat} {S g : Nat → Int} {L : Int → Option (Nat → Int)} {ar : Bool} {ca : Int} (hs : s ≤ 12) (hk : ∀ k g, L k = some g → 0 ≤ k ∧ k < (s : Int)) (hg : EnumIs L n g ∧ SrtTo g n) :
    FnTr P G 30 [.ptr 0 0] (DH N S L ar ca) 3 (Gives (IntsR n g) (DH N S L ar ca) 100) := by
  have hn : n ≤ 12 := by have := hg.1.le hk; omega
  have h1 := waits_own (P := P) (G := G) (N := N) (S := S) (ar := ar) (ca := ca) (n := n) (g := g) (s := s) hP (by omega) hn hk (fun m f' hf => by
    -- any row of all keys is as long
    have e1 : m ≤ n := DskLaw.pigeon_enum hf hg.1
    have e2 : n ≤ m := DskLaw.pigeon_enum hg.1 hf
    obtain rfl : m = n := by omega
    exact ⟨rfl, fun h => (DskLaw.enum_unique hf h hg.1 hg.2).2⟩)
  generalize hA : Ar.real = A
  refine FnTr.dat hA h1 _ _ ?_
  (try cbv) <;> (repeat' (first | exact trivial | exact rfl | apply And.intro | exact fun _ => rfl | (intro _ hle; first | refine chunk_le hA rfl hle rfl ?_ | refine cat_le hA ?_ | refine upd_le hA ?_ | refine int_le ?_ | skip)))
  all_goals (subst hA; (try simp only [natCast_eq] at *); (try (simp only [Ar.real, NV.val, Int.ofNat_eq_natCast, Int.toNat_natCast])); first | done | omega | decide | exact inR64 (by omega) (by omega) | (refine ⟨?_, ?_⟩ <;> first | omega | decide | exact inR64 (by omega) (by omega)))
/-- Nothing waits. -/
theorem waits_none {P : Program} {G : Gl} (hP : P = Try.prog) {N : Nat} {S : Nat → Int} {L : Int → Option (Nat → Int)} {ar : Bool} {ca : Int} (hL : ∀ k, L k = none) :
    FnTr P G 30 [.ptr 0 0] (DH N S L ar ca) 3 (Gives (IntsR 0 (fun _ => 0)) (DH N S L ar ca) 100) :=
  waits_fn (s := 0) hP (by omega) (fun k g h => (by rw [hL] at h; cases h)) ⟨⟨fun i hi => (by omega), fun k g h => (by rw [hL] at h; cases h), fun i j hi => (by omega)⟩, fun u v h1 h2 => by omega⟩

theorem refwaits_own {P : Program} {G : Gl} (hP : P = Try.prog) {s : Nat} {S L : Nat → Nat → Int} {W : Nat → Bool} {c : Int} {n : Nat} {g : Nat → Int} (hs : s ≤ 4096) (hn : n = (DskLaw.wP W s).1) (hg : ∀ i, g i = (DskLaw.wP W s).2 i) :
    FnTr P G 31 [RD s S L W c] [] 0 (Gives (.sl 1 1 (.l 0) (.s n)) [(1, .row 3 1 (.s n) (fun e => [.int .i64 (g e.val)]))] 100) := by
  obtain ⟨ni, hni⟩ : ∃ ni : Nat → Nat, ∀ i, ni i = (DskLaw.wP W i).1 := ⟨_, fun _ => rfl⟩
  obtain ⟨gi, hgi⟩ : ∃ gi : Nat → Nat → Int, ∀ i x, gi i x = (DskLaw.wP W i).2 x := ⟨_, fun _ _ => rfl⟩
  have n0 : ni 0 = 0 := by rw [hni]; rfl
  have nle : ∀ i, ni i ≤ i := fun i => by rw [hni]; exact (DskLaw.wP_is i).2.2.2
  have nT : ∀ i, W i = true → ni (i + 1) = ni i + 1 ∧ ∀ x, gi (i + 1) x = if x < ni i then gi i x else (i : Int) := fun i h => by
    rw [hni, hni]
    have e : DskLaw.wP W (i + 1) = ((DskLaw.wP W i).1 + 1, fun x => if x < (DskLaw.wP W i).1 then (DskLaw.wP W i).2 x else (i : Int)) := by
      show (if W i = true then _ else _) = _; rw [if_pos h]
    rw [e]
    exact ⟨rfl, fun x => by rw [hgi, hgi, e]⟩
  have nF : ∀ i, W i = false → ni (i + 1) = ni i ∧ ∀ x, gi (i + 1) x = gi i x := fun i h => by
    have e : DskLaw.wP W (i + 1) = DskLaw.wP W i := by
      show (if W i = true then _ else _) = _; rw [if_neg (by rw [h]; decide)]
    rw [hni, hni, e]
    exact ⟨rfl, fun x => by rw [hgi, hgi, e]⟩
  have nE : ni s = n := by rw [hni, hn]
  have gE : ∀ x, gi s x = g x := fun x => by rw [hgi, hg]
  clear hni hgi hn hg
  have hT : T.Ok P := hP ▸ T_ok
  refine FnTr.intro (fn := Try.f31) (c := bodyOf Try.f31) (by rw [hP]; rfl) rfl rfl hT ?_
  generalize hA : Ar.real = A
  generalize hK : Gives _ _ _ = K
  cbv
  refine LS.ghost 3 1 (.l 0) (fun _ => [.int .i64 0]) rfl ?_
  refine LS.le hT hA 1 (fun (i : Nat) => [(3, .sl 1 1 (.l 0) (.s (ni i))), (4, .int .i64 (i : Int))]) (fun i => [(1, .row 3 1 (.s (ni i)) (fun e => [.int .i64 (gi i e.val)])), (0, .cells 44 [Rw64 s S, Rw64 s L, .ro 1 (.s s) (fun e => [.bs (W e.val)]), .int .i64 c])]) (fun i => i ≤ s) (fun i => s - i) 0 [(4, 1)] rfl rfl ?_ ?_ ?_
  · (try cbv) <;> (repeat' (first | exact trivial | exact rfl | apply And.intro | exact fun _ => rfl | (intro _ hle; first | refine chunk_le hA rfl hle rfl ?_ | refine cat_le hA ?_ | refine upd_le hA ?_ | refine int_le ?_ | skip)))
    all_goals first | exact n0.symm | exact n0 | (exfalso; subst hA; exact absurd (ltNV_real.1 hle) (Nat.not_lt_zero _)) | (subst hA; (try simp only [natCast_eq] at *); (try (simp only [Ar.real, NV.val, Int.ofNat_eq_natCast, Int.toNat_natCast])); first | done | omega | decide | exact inR64 (by omega) (by omega) | (refine ⟨?_, ?_⟩ <;> first | omega | decide | exact inR64 (by omega) (by omega)))
  · exact Nat.zero_le _
  · intro R hR i hi
    cbv
    refine ⟨fun q1 => ?_, fun q1 => ?_⟩
    · have him : i < s := by clear hR nT nF nle; subst hA; simp [Ar.real] at q1; omega
      have kn : A.nat (Int.ofNat i) = i := by clear hR; subst hA; rfl
      have hle1 := nle i
      cases hw : W i with
      | true =>
        obtain ⟨h1, h2⟩ := nT i hw
        clear nT nF nle
        have k1 : W (A.nat (Int.ofNat i)) = true := by rw [kn, hw]
        cbv
        have hup : ∀ e, ltNV A e (.s (A.addN (ni i) 1)) → leL (leSV A 4) (catG A 1 (.s (ni i)) (fun e => [.int .i64 (gi i e.val)]) (fun x => chunkS A 1 [.int .i64 (Int.ofNat i)] (addNV A (.l 0) x)) e) [.int .i64 (gi (i + 1) e.val)] := fun e he => push_int hA (fun x _ => h2 x) he rfl
        refine ⟨(by (subst hA; (try simp only [natCast_eq] at *); (try (simp only [Ar.real, NV.val, Int.ofNat_eq_natCast, Int.toNat_natCast])); first | done | omega | decide | exact inR64 (by omega) (by omega) | (refine ⟨?_, ?_⟩ <;> first | omega | decide | exact inR64 (by omega) (by omega)))), ?_⟩
        first | refine testR k1 rfl ?_ | refine testL k1 rfl ?_
        cbv
        refine ⟨⟨(by (subst hA; (try simp only [natCast_eq] at *); (try (simp only [Ar.real, NV.val, Int.ofNat_eq_natCast, Int.toNat_natCast])); first | done | omega | decide | exact inR64 (by omega) (by omega) | (refine ⟨?_, ?_⟩ <;> first | omega | decide | exact inR64 (by omega) (by omega)))), (by (subst hA; (try simp only [natCast_eq] at *); (try (simp only [Ar.real, NV.val, Int.ofNat_eq_natCast, Int.toNat_natCast])); first | done | omega | decide | exact inR64 (by omega) (by omega) | (refine ⟨?_, ?_⟩ <;> first | omega | decide | exact inR64 (by omega) (by omega)))), (by (subst hA; (try simp only [natCast_eq] at *); (try (simp only [Ar.real, NV.val, Int.ofNat_eq_natCast, Int.toNat_natCast])); first | done | omega | decide | exact inR64 (by omega) (by omega) | (refine ⟨?_, ?_⟩ <;> first | omega | decide | exact inR64 (by omega) (by omega))))⟩, (by (subst hA; (try simp only [natCast_eq] at *); (try (simp only [Ar.real, NV.val, Int.ofNat_eq_natCast, Int.toNat_natCast])); first | done | omega | decide | exact inR64 (by omega) (by omega) | (refine ⟨?_, ?_⟩ <;> first | omega | decide | exact inR64 (by omega) (by omega)))), hR _ _ ⟨i + 1, 1, [(15, 1)], rfl, rfl, ?_, him, (by show s - (i + 1) < s - i; omega)⟩⟩
        clear hR
        (try cbv) <;> (repeat' (first | exact trivial | exact rfl | apply And.intro | exact fun _ => rfl | (intro _ hle; first | exact hup _ hle | refine chunk_le hA rfl hle rfl ?_ | refine cat_le hA ?_ | refine upd_le hA ?_ | refine int_le ?_ | skip)))
        all_goals first | (subst hA; exact h1.symm) | (subst hA; (try simp only [natCast_eq] at *); (try (simp only [Ar.real, NV.val, Int.ofNat_eq_natCast, Int.toNat_natCast])); first | done | omega | decide | exact inR64 (by omega) (by omega) | (refine ⟨?_, ?_⟩ <;> first | omega | decide | exact inR64 (by omega) (by omega)))
      | false =>
        obtain ⟨h1, h2⟩ := nF i hw
        clear nT nF nle
        have k1 : W (A.nat (Int.ofNat i)) = false := by rw [kn, hw]
        cbv
        refine ⟨(by (subst hA; (try simp only [natCast_eq] at *); (try (simp only [Ar.real, NV.val, Int.ofNat_eq_natCast, Int.toNat_natCast])); first | done | omega | decide | exact inR64 (by omega) (by omega) | (refine ⟨?_, ?_⟩ <;> first | omega | decide | exact inR64 (by omega) (by omega)))), ?_⟩
        first | refine testR k1 rfl ?_ | refine testL k1 rfl ?_
        cbv
        refine ⟨(by (subst hA; (try simp only [natCast_eq] at *); (try (simp only [Ar.real, NV.val, Int.ofNat_eq_natCast, Int.toNat_natCast])); first | done | omega | decide | exact inR64 (by omega) (by omega) | (refine ⟨?_, ?_⟩ <;> first | omega | decide | exact inR64 (by omega) (by omega)))), hR _ _ ⟨i + 1, 1, [(1, 1)], rfl, rfl, ?_, him, (by show s - (i + 1) < s - i; omega)⟩⟩
        clear hR
        (try cbv) <;> (repeat' (first | exact trivial | exact rfl | apply And.intro | exact fun _ => rfl | (intro _ hle; first | refine chunk_le hA rfl hle rfl ?_ | refine cat_le hA ?_ | refine upd_le hA ?_ | refine int_le ?_ | skip)))
        all_goals first | exact h1.symm | exact (h2 _).symm | (subst hA; (try simp only [natCast_eq] at *); (try (simp only [Ar.real, NV.val, Int.ofNat_eq_natCast, Int.toNat_natCast])); first | done | omega | decide | exact inR64 (by omega) (by omega) | (refine ⟨?_, ?_⟩ <;> first | omega | decide | exact inR64 (by omega) (by omega)))
    · have him : i = s := by clear hR nT nF nle; subst hA; simp [Ar.real] at q1; omega
      subst him
      clear hR nT nF nle
      cbv
      refine Fin.le hA 1 [(1, 1)] (.sl 1 1 (.l 0) (.s n)) [(1, .row 3 1 (.s n) (fun e => [.int .i64 (g e.val)]))] 100 rfl rfl rfl ?_ ?_ (by rw [← hK]; exact ⟨rfl, rfl, rfl⟩)
      · (try cbv) <;> (repeat' (first | exact trivial | exact rfl | apply And.intro | exact fun _ => rfl | (intro _ hle; first | refine chunk_le hA rfl hle rfl ?_ | refine cat_le hA ?_ | refine upd_le hA ?_ | (try cbv))))
        all_goals exact nE
      · (try cbv) <;> (repeat' (first | exact trivial | exact rfl | apply And.intro | exact fun _ => rfl | (intro _ hle; first | refine chunk_le hA rfl hle rfl ?_ | refine cat_le hA ?_ | refine upd_le hA ?_ | (try cbv))))
        all_goals first | exact nE | exact gE _
theorem refwaits_fn {P : Program} {G : Gl} (hP : P = Try.prog) {s : Nat} {S L : Nat → Nat → Int} {W : Nat → Bool} {c : Int} {n : Nat} {g : Nat → Int} (hs : s ≤ 4096) (hn : n = (DskLaw.wP W s).1) (hg : ∀ i, g i = (DskLaw.wP W s).2 i) :
    FnTr P G 31 [RD s S L W c] [] 0 (Gives (IntsR n g) [] 100) := by
  have h1 := refwaits_own (P := P) (G := G) (S := S) (L := L) (c := c) hP hs hn hg
  generalize hA : Ar.real = A
  refine FnTr.dat hA h1 _ _ ?_
  (try cbv) <;> (repeat' (first | exact trivial | exact rfl | apply And.intro | exact fun _ => rfl | (intro _ hle; first | refine chunk_le hA rfl hle rfl ?_ | refine cat_le hA ?_ | refine upd_le hA ?_ | refine int_le ?_ | skip)))
  all_goals (subst hA; (try simp only [natCast_eq] at *); (try (simp only [Ar.real, NV.val, Int.ofNat_eq_natCast, Int.toNat_natCast])); first | done | omega | decide | exact inR64 (by omega) (by omega) | (refine ⟨?_, ?_⟩ <;> first | omega | decide | exact inR64 (by omega) (by omega)))
end Go.Proofs.Ytnjjgipblimbfaa.Dsk
