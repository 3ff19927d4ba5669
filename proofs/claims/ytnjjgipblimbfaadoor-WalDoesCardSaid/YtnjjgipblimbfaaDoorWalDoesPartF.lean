/-
  A verified symbolic executor over the code of the model, and what it shows of this program: part 6 of 6 (LawWalDoes).
-/
import Derived.Test.YtnjjgipblimbfaaDoorWalDoesPartE
set_option linter.unusedVariables false
set_option linter.unusedSimpArgs false
namespace Go.Proofs.YtnjjgipblimbfaaDoor.Dsk
open Go.Eng
open Go.DskLaw (q64 secV isB needN pcs wipeP)
open Go.WalLaw
open Go.CrcLaw (four)
set_option maxRecDepth 100000
set_option maxHeartbeats 1000000
abbrev LgN (q : SV) (N : Nat) (d : Dk) (gen at' bn : Nat) (b : Nat → Int) (su : Nat) (dead : Bool) : Hl :=
  (3, .cells 94 [.ptr 0 0, .int .i64 (gen : Int), .int .i64 (at' : Int), By bn b, q, .int .i64 (su : Int), .bs dead]) :: DHd N d
abbrev LgRc (cn bb cp : Nat) (nl : Nat → Nat) (nf : Nat → Nat → Int) : Blk := .rowc 22 1 (.s cn) bb cp (fun e => [.ro 1 (.s (nl e.val)) (fun x => [.int .u8 (nf e.val x.val)])])
section
variable {P : Program} {fr : Nat → Int} {N s h gen fi en at1 at2 nb c su cn n m k v c2 bb cp : Nat} {b f : Nat → Int} {d d1 : Dk} {dead : Bool} {nl ml : Nat → Nat} {nf mf : Nat → Nat → Int} {vv : Value}
theorem aliven {G : Gl} (hP : P = Tryd.prog) (hd : dead = false) :
    FnTr P G 59 [.ptr 3 0] (LgN .nils N d gen at1 nb b su dead) 4 (Gives (.lit .i64 0) (LgN .nils N d gen at1 nb b su dead) 5) := by
  have hT : T.Ok P := hP ▸ T_ok
  refine jjI Tryd.f59 hT ?_
  generalize hA : Ar.real = A
  generalize hK : Gives _ _ _ = K
  cbv
  first | refine testR hd rfl ?_ | refine testL hd rfl ?_
  cbv
  refine Fin.le hA 4 [] (.lit .i64 0) (LgN .nils N d gen at1 nb b su dead) 5 rfl rfl rfl ?_ ?_ jjK
  iterate 2 exact jjL
theorem roomn {G : Gl} (hP : P = Tryd.prog) (hN : N = 64 * s) (hr : Reg s h gen fi en) (ha : at1 ≤ en) :
    FnTr P G 51 [.ptr 3 0] (LgN .nils N d gen at1 nb b su dead) 4 (Gives (.int .i64 ((en - at1 : Nat) : Int)) (LgN .nils N d gen at1 nb b su dead) 100) := by
  have c1 := end_fn (P := P) (G := G) (S := d.S) (L := d.L) (ar := d.ar) (ca := d.ca) hP hN hr.hs hr.hh hr.hg hr.hfi hr.hen
  have hle := hr.le
  have hs := hr.hs
  obtain ⟨x, hx⟩ : ∃ x, x = en - at1 := ⟨_, rfl⟩
  rw [← hx]
  clear hr hN
  have hT : T.Ok P := hP ▸ T_ok
  refine jjI Tryd.f51 hT ?_
  generalize hA : Ar.real = A
  generalize hK : Gives _ _ _ = K
  cbv
  refine jjR hA hT 12 ?_
  cbv
  refine jjP hA (c1) [(0, 0), (1, 1), (2, 2)] ?_
  cbv
  refine ⟨jjO, ?_⟩
  refine jjD ?_
  cbv
  refine Fin.le hA 4 [] (.int .i64 (x : Int)) (LgN .nils N d gen at1 nb b su dead) 100 rfl rfl rfl ?_ ?_ jjK
  · (try cbv) <;> (repeat' (first | exact trivial | exact rfl | apply And.intro | exact fun _ => rfl | (intro _ hle; first | refine chunk_le hA rfl hle rfl ?_ | refine cat_le hA ?_ | refine upd_le hA ?_ | (try cbv))))
    exact jjO
  · exact jjL
theorem fitsn {G : Gl} (hP : P = Tryd.prog) (hN : N = 64 * s) (hr : Reg s h gen fi en) (ha : at1 ≤ en) {n : Int} {nn m : Nat} {r : Bool} (hn : nn = n.toNat) (hf : nn ≤ 65532) (hm : m = needN (nn + 4)) (hrr : r = true ↔ m ≤ en - at1) :
    FnTr P G 53 [.ptr 3 0, .int .i64 n] (LgN .nils N d gen at1 nb b su dead) 4 (Gives (.bs r) (LgN .nils N d gen at1 nb b su dead) 200) := by
  have c1 := roomn (P := P) (G := G) (nb := nb) (b := b) (su := su) (d := d) (dead := dead) hP hN hr ha
  have c2 := need_fn (P := P) (G := G) (n := (nn : Int) + 4) (m := m) hP (by omega) (by rw [hm]; congr 1)
  obtain ⟨x, hx⟩ : ∃ x, x = en - at1 := ⟨_, rfl⟩
  rw [← hx] at c1 hrr
  clear hr hN hx hm
  have hT : T.Ok P := hP ▸ T_ok
  refine jjI Tryd.f53 hT ?_
  generalize hA : Ar.real = A
  generalize hK : Gives _ _ _ = K
  cbv
  have k1 : A.le (A.max n 0) 65532 = true := by clear c1 c2 hrr; subst hA; simp only [Ar.real]; split <;> simp <;> omega
  have k2 : A.add (A.max n 0) 4 = (nn : Int) + 4 := by clear c1 c2 hrr; subst hA; simp only [Ar.real]; split <;> omega
  first | refine testR k1 rfl ?_ | refine testL k1 rfl ?_
  cbv
  refine ⟨by (show A.inR .i64 (A.add (A.max n 0) 4)); rw [k2]; clear c1 c2 hrr; exact jjO, ?_⟩
  refine CS.le hA c2 [] rfl rfl rfl ?_ ?_ ?_
  · (try cbv) <;> (repeat' (first | exact trivial | exact rfl | apply And.intro | exact fun _ => rfl | (intro _ hle; first | refine chunk_le hA rfl hle rfl ?_ | refine cat_le hA ?_ | refine upd_le hA ?_ | (try cbv))))
    all_goals exact k2
  · exact jjL
  cbv
  refine jjS hA (c1) [(0, 0), (1, 1), (2, 2), (3, 3)] ?_
  cbv
  refine Fin.le hA 4 [] (.bs r) (LgN .nils N d gen at1 nb b su dead) 200 rfl rfl rfl ?_ ?_ jjK
  · (try cbv) <;> (repeat' (first | exact trivial | exact rfl | apply And.intro | exact fun _ => rfl | (intro _ hle; first | refine chunk_le hA rfl hle rfl ?_ | refine cat_le hA ?_ | refine upd_le hA ?_ | (try cbv))))
    subst hA
    rw [Bool.eq_iff_iff, hrr]
    simp [Ar.real]
  · exact jjL
theorem alivec {G : Gl} (hP : P = Tryd.prog) (hd : dead = false) :
    FnTr P G 59 [.ptr 3 0] (LgN (.con vv) N d gen at1 nb b su dead) 4 (Gives (.lit .i64 0) (LgN (.con vv) N d gen at1 nb b su dead) 5) := by
  have hT : T.Ok P := hP ▸ T_ok
  refine jjI Tryd.f59 hT ?_
  generalize hA : Ar.real = A
  generalize hK : Gives _ _ _ = K
  cbv
  first | refine testR hd rfl ?_ | refine testL hd rfl ?_
  cbv
  refine Fin.le hA 4 [] (.lit .i64 0) (LgN (.con vv) N d gen at1 nb b su dead) 5 rfl rfl rfl ?_ ?_ jjK
  iterate 2 exact jjL
theorem roomc {G : Gl} (hP : P = Tryd.prog) (hN : N = 64 * s) (hr : Reg s h gen fi en) (ha : at1 ≤ en) :
    FnTr P G 51 [.ptr 3 0] (LgN (.con vv) N d gen at1 nb b su dead) 4 (Gives (.int .i64 ((en - at1 : Nat) : Int)) (LgN (.con vv) N d gen at1 nb b su dead) 100) := by
  have c1 := end_fn (P := P) (G := G) (S := d.S) (L := d.L) (ar := d.ar) (ca := d.ca) hP hN hr.hs hr.hh hr.hg hr.hfi hr.hen
  have hle := hr.le
  have hs := hr.hs
  obtain ⟨x, hx⟩ : ∃ x, x = en - at1 := ⟨_, rfl⟩
  rw [← hx]
  clear hr hN
  have hT : T.Ok P := hP ▸ T_ok
  refine jjI Tryd.f51 hT ?_
  generalize hA : Ar.real = A
  generalize hK : Gives _ _ _ = K
  cbv
  refine jjR hA hT 12 ?_
  cbv
  refine jjP hA (c1) [(0, 0), (1, 1), (2, 2)] ?_
  cbv
  refine ⟨jjO, ?_⟩
  refine jjD ?_
  cbv
  refine Fin.le hA 4 [] (.int .i64 (x : Int)) (LgN (.con vv) N d gen at1 nb b su dead) 100 rfl rfl rfl ?_ ?_ jjK
  · (try cbv) <;> (repeat' (first | exact trivial | exact rfl | apply And.intro | exact fun _ => rfl | (intro _ hle; first | refine chunk_le hA rfl hle rfl ?_ | refine cat_le hA ?_ | refine upd_le hA ?_ | (try cbv))))
    exact jjO
  · exact jjL
theorem fitsc {G : Gl} (hP : P = Tryd.prog) (hN : N = 64 * s) (hr : Reg s h gen fi en) (ha : at1 ≤ en) {n : Int} {nn m : Nat} {r : Bool} (hn : nn = n.toNat) (hf : nn ≤ 65532) (hm : m = needN (nn + 4)) (hrr : r = true ↔ m ≤ en - at1) :
    FnTr P G 53 [.ptr 3 0, .int .i64 n] (LgN (.con vv) N d gen at1 nb b su dead) 4 (Gives (.bs r) (LgN (.con vv) N d gen at1 nb b su dead) 200) := by
  have c1 := roomc (P := P) (G := G) (nb := nb) (b := b) (su := su) (d := d) (dead := dead) (vv := vv) hP hN hr ha
  have c2 := need_fn (P := P) (G := G) (n := (nn : Int) + 4) (m := m) hP (by omega) (by rw [hm]; congr 1)
  obtain ⟨x, hx⟩ : ∃ x, x = en - at1 := ⟨_, rfl⟩
  rw [← hx] at c1 hrr
  clear hr hN hx hm
  have hT : T.Ok P := hP ▸ T_ok
  refine jjI Tryd.f53 hT ?_
  generalize hA : Ar.real = A
  generalize hK : Gives _ _ _ = K
  cbv
  have k1 : A.le (A.max n 0) 65532 = true := by clear c1 c2 hrr; subst hA; simp only [Ar.real]; split <;> simp <;> omega
  have k2 : A.add (A.max n 0) 4 = (nn : Int) + 4 := by clear c1 c2 hrr; subst hA; simp only [Ar.real]; split <;> omega
  first | refine testR k1 rfl ?_ | refine testL k1 rfl ?_
  cbv
  refine ⟨by (show A.inR .i64 (A.add (A.max n 0) 4)); rw [k2]; clear c1 c2 hrr; exact jjO, ?_⟩
  refine CS.le hA c2 [] rfl rfl rfl ?_ ?_ ?_
  · (try cbv) <;> (repeat' (first | exact trivial | exact rfl | apply And.intro | exact fun _ => rfl | (intro _ hle; first | refine chunk_le hA rfl hle rfl ?_ | refine cat_le hA ?_ | refine upd_le hA ?_ | (try cbv))))
    all_goals exact k2
  · exact jjL
  cbv
  refine jjS hA (c1) [(0, 0), (1, 1), (2, 2), (3, 3)] ?_
  cbv
  refine Fin.le hA 4 [] (.bs r) (LgN (.con vv) N d gen at1 nb b su dead) 200 rfl rfl rfl ?_ ?_ jjK
  · (try cbv) <;> (repeat' (first | exact trivial | exact rfl | apply And.intro | exact fun _ => rfl | (intro _ hle; first | refine chunk_le hA rfl hle rfl ?_ | refine cat_le hA ?_ | refine upd_le hA ?_ | (try cbv))))
    subst hA
    rw [Bool.eq_iff_iff, hrr]
    simp [Ar.real]
  · exact jjL
theorem append_nil (hP : P = Tryd.prog) (hfr : ∀ i, fr i = ((four i).toNat : Int)) (hd : dead = false) (hN : N = 64 * s) (hr : Reg s h gen fi en) (hb : ∀ i, i < n → 0 ≤ f i ∧ f i ≤ 255) (hn6 : n + 4 ≤ 65536) (hm : m = n + 4) {g : Nat → Int} (hgg : ∀ i, i < m → g i = sealF n f i) (ok : DkOk s d) (hfit : at1 + needN m ≤ en) (hk : putK d m = needN m) (h1 : d1 = putD d at1 m g) (ha : at2 = at1 + needN m) (hc2 : c2 = 1) (hl : ∀ i, ml i = n) (hf : ∀ i x, mf i x = f x) :
    FnTr P (Gf fr) 26 [.ptr 3 0, By n f] (LgN .nils N d gen at1 nb b su dead) 4 (Gives (.lit .i64 0) (LgQ 5 N d1 gen at2 nb b (.s 0) c2 su dead c2 ml mf) 3000) := by
  have cF := fitsn (P := P) (G := Gf fr) (N := N) (gen := gen) (at1 := at1) (d := d) (nb := nb) (b := b) (su := su) (dead := dead) (n := (n : Int)) (nn := n) (m := needN m) (r := true) hP hN hr (by omega) (by omega) (by omega) (by rw [hm]) ⟨fun _ => by omega, fun _ => rfl⟩
  have c1 := aliven (P := P) (G := Gf fr) (N := N) (gen := gen) (at1 := at1) (nb := nb) (b := b) (su := su) (d := d) hP hd
  have e2 := end_fn (P := P) (G := Gf fr) (S := d.S) (L := d.L) (ar := d.ar) (ca := d.ca) hP hN hr.hs hr.hh hr.hg hr.hfi hr.hen
  have c3 := seal2_fn (P := P) hP hfr hb (by omega) hm hgg
  have c4 := put_all (P := P) (G := Gf fr) (f := g) (at' := (at2 : Int)) hP hN hr.hs.2 ok ⟨hfit, hr.le.2.2⟩ (by omega) hk h1 (by rw [ha])
  have c5 := _root_.Go.Proofs.YtnjjgipblimbfaaDoor.clone_fn (P := P) (G := Gf fr) (n := n) (f := f) hP (by omega)
  have hp : ∀ {A : Ar}, Ar.real = A → ∀ e, ltNV A e (.l 1) → leL (leSV A 4) (chunkS A 1 [.ro 1 (.s n) (fun x => [.int .u8 (f x.val)])] (addNV A (.l 0) e)) [.ro 1 (.s (ml e.val)) (fun x => [.int .u8 (mf e.val x.val)])] := fun {A} hA e he => by
    have he : e.val < 1 := by subst hA; exact ltNV_real.1 he
    subst hA
    rw [show addNV Ar.real (.l 0) e = e from rfl, chunk_one rfl (show e.val = 0 by omega)]
    refine ⟨⟨?_, fun x hx => ⟨?_, trivial⟩⟩, trivial⟩
    · show n = ml e.val
      rw [hl]
    · show f x.val = mf e.val x.val
      rw [hf]
  clear hfr hr hb hm hgg ok hfit hk h1 hN hl hf
  have hT : T.Ok P := hP ▸ T_ok
  refine jjI Tryd.f26 hT ?_
  generalize hA : Ar.real = A
  generalize hK : Gives _ _ _ = K
  cbv
  have hp := hp hA
  refine jjS hA (c1) [(0, 0), (1, 1), (2, 2), (3, 3)] ?_
  cbv
  refine CS.leR hA cF (.bl true) [(0, 0), (1, 1), (2, 2), (3, 3)] rfl rfl rfl ?_ ?_ ?_ ?_
  · (try cbv) <;> (repeat' (first | exact trivial | exact rfl | apply And.intro | exact fun _ => rfl | (intro _ hle; first | refine chunk_le hA rfl hle rfl ?_ | refine cat_le hA ?_ | refine upd_le hA ?_ | (try cbv))))
    all_goals (subst hA; rfl)
  iterate 2 exact jjL
  cbv
  refine jjR hA hT 30 ?_
  cbv
  refine jjP hA (e2) [(0, 0), (1, 1), (2, 2)] ?_
  cbv
  refine jjP hA (c3) [] ?_
  cbv
  refine jjP hA (c4) [(0, 0), (1, 1), (2, 2)] ?_
  cbv
  refine jjD ?_
  cbv
  refine jjR hA hT 30 ?_
  cbv
  refine jjP hA (c5) [] ?_
  cbv
  refine ⟨⟨?_, ?_⟩, ?_⟩
  iterate 2 exact jjO
  refine jjD ?_
  cbv
  refine Fin.le hA 5 [(1215, 5)] (.lit .i64 0) (LgQ 5 N d1 gen at2 nb b (.s 0) c2 su dead c2 ml mf) 3000 rfl rfl rfl ?_ ?_ jjK
  · exact jjL
  · clear c1 e2 c3 c4 c5 cF
    (try cbv) <;> (repeat' (first | exact trivial | exact rfl | apply And.intro | exact fun _ => rfl | (intro _ hle; first | exact hp _ hle | refine chunk_le hA rfl hle rfl ?_ | refine cat_le hA ?_ | refine upd_le hA ?_ | refine int_le ?_ | skip)))
    all_goals first | exact hc2.symm | trace_state
theorem append_fit (hP : P = Tryd.prog) (hfr : ∀ i, fr i = ((four i).toNat : Int)) (hd : dead = false) (hN : N = 64 * s) (hr : Reg s h gen fi en) (hb : ∀ i, i < n → 0 ≤ f i ∧ f i ≤ 255) (hn6 : n + 4 ≤ 65536) (hm : m = n + 4) {g : Nat → Int} (hgg : ∀ i, i < m → g i = sealF n f i) (ok : DkOk s d) (hfit : at1 + needN m ≤ en) (hk : putK d m = needN m) (h1 : d1 = putD d at1 m g) (ha : at2 = at1 + needN m) (hcl : c ≤ 1000000) (hvl : v ≤ 1) (hc2 : c2 = c + 1) (hcn : cn = v + c) (hv : vv = Value.slice (some ⟨bb, v * 1, none⟩) c (cp - v)) (hvc : v < cp) (hcap : cn + 1 ≤ cp) {q : Nat} (hq : q = v + c2) (hl : ∀ i, ml i = if i < cn then nl i else n) (hf : ∀ i x, mf i x = if i < cn then nf i x else f x) :
    FnTr P (Gf fr) 26 [.ptr 3 0, By n f] ((4, LgRc cn bb cp nl nf) :: LgN (.con vv) N d gen at1 nb b su dead) 5 (Gives (.lit .i64 0) (LgQ 5 N d1 gen at2 nb b (.s v) c2 su dead q ml mf) 3000) := by
  have cF := fitsc (P := P) (G := Gf fr) (N := N) (gen := gen) (at1 := at1) (d := d) (nb := nb) (b := b) (su := su) (dead := dead) (vv := vv) (n := (n : Int)) (nn := n) (m := needN m) (r := true) hP hN hr (by omega) (by omega) (by omega) (by rw [hm]) ⟨fun _ => by omega, fun _ => rfl⟩
  have c1 := alivec (P := P) (G := Gf fr) (N := N) (gen := gen) (at1 := at1) (nb := nb) (b := b) (su := su) (d := d) (vv := vv) hP hd
  have e2 := end_fn (P := P) (G := Gf fr) (S := d.S) (L := d.L) (ar := d.ar) (ca := d.ca) hP hN hr.hs hr.hh hr.hg hr.hfi hr.hen
  have c3 := seal2_fn (P := P) hP hfr hb (by omega) hm hgg
  have c4 := put_all (P := P) (G := Gf fr) (f := g) (at' := (at2 : Int)) hP hN hr.hs.2 ok ⟨hfit, hr.le.2.2⟩ (by omega) hk h1 (by rw [ha])
  have c5 := _root_.Go.Proofs.YtnjjgipblimbfaaDoor.clone_fn (P := P) (G := Gf fr) (n := n) (f := f) hP (by omega)
  have hp : ∀ {A : Ar}, Ar.real = A → ∀ e, ltNV A e (.s (A.addN cn 1)) → leL (leSV A 4) (catG A 1 (.s cn) (fun e => [.ro 1 (.s (nl e.val)) (fun x => [.int .u8 (nf e.val x.val)])]) (fun x => chunkS A 1 [.ro 1 (.s n) (fun x => [.int .u8 (f x.val)])] (addNV A (.l 0) x)) e) [.ro 1 (.s (ml e.val)) (fun x => [.int .u8 (mf e.val x.val)])] := fun {A} hA e he => by
    have he : e.val < cn + 1 := by subst hA; exact ltNV_real.1 he
    exact rows_push (len := nl) (len' := ml) (g := nf) (g' := mf) (h := f) hA (by omega) (hl _) (fun j _ => hf _ _)
  clear hfr hr hb hm hgg ok hfit hk h1 hN hl hf
  have hT : T.Ok P := hP ▸ T_ok
  refine jjI Tryd.f26 hT ?_
  generalize hA : Ar.real = A
  generalize hK : Gives _ _ _ = K
  cbv
  have hp := hp hA
  refine jjS hA (c1) [(0, 0), (1, 1), (2, 2), (3, 3)] ?_
  cbv
  refine CS.leR hA cF (.bl true) [(0, 0), (1, 1), (2, 2), (3, 3)] rfl rfl rfl ?_ ?_ ?_ ?_
  · (try cbv) <;> (repeat' (first | exact trivial | exact rfl | apply And.intro | exact fun _ => rfl | (intro _ hle; first | refine chunk_le hA rfl hle rfl ?_ | refine cat_le hA ?_ | refine upd_le hA ?_ | (try cbv))))
    all_goals (subst hA; rfl)
  iterate 2 exact jjL
  cbv
  refine jjR hA hT 30 ?_
  cbv
  refine jjP hA (e2) [(0, 0), (1, 1), (2, 2)] ?_
  cbv
  refine jjP hA (c3) [] ?_
  cbv
  refine jjP hA (c4) [(0, 0), (1, 1), (2, 2)] ?_
  cbv
  refine jjD ?_
  cbv
  refine jjR hA hT 30 ?_
  cbv
  refine jjP hA (c5) [] ?_
  cbv
  refine OD.did [4, 1186] rfl (appendFits_did hA hT (i := 4) (of := v) (len := .s c) (k := .s cn) (m := .l 1) rfl rfl rfl rfl rfl rfl rfl rfl hv hcn.symm hvc rfl jjO hcap) rfl ?_
  cbv
  refine jjD ?_
  cbv
  refine Fin.le hA 5 [(1216, 5)] (.lit .i64 0) (LgQ 5 N d1 gen at2 nb b (.s v) c2 su dead q ml mf) 3000 rfl rfl rfl ?_ ?_ jjK
  · exact jjL
  · clear c1 e2 c3 c4 c5 cF
    (try cbv) <;> (repeat' (first | exact trivial | exact rfl | apply And.intro | exact fun _ => rfl | (intro _ hle; first | exact hp _ hle | refine chunk_le hA rfl hle rfl ?_ | refine cat_le hA ?_ | refine upd_le hA ?_ | refine int_le ?_ | skip)))
    all_goals first | exact hc2.symm | (subst hA; show c + 1 = _; omega) | (subst hA; show cn + 1 = _; omega)
theorem append_grow (hP : P = Tryd.prog) (hfr : ∀ i, fr i = ((four i).toNat : Int)) (hd : dead = false) (hN : N = 64 * s) (hr : Reg s h gen fi en) (hb : ∀ i, i < n → 0 ≤ f i ∧ f i ≤ 255) (hn6 : n + 4 ≤ 65536) (hm : m = n + 4) {g : Nat → Int} (hgg : ∀ i, i < m → g i = sealF n f i) (ok : DkOk s d) (hfit : at1 + needN m ≤ en) (hk : putK d m = needN m) (h1 : d1 = putD d at1 m g) (ha : at2 = at1 + needN m) (hcl : c ≤ 1000000) (hvl : v ≤ 1) (hc2 : c2 = c + 1) (hcn : cn = v + c) (hv : vv = Value.slice (some ⟨bb, v * 1, none⟩) c (cp - v)) (hvc : v < cp) (hcap : cp < cn + 1) (hl : ∀ i, ml i = if i < c then nl (v + i) else n) (hf : ∀ i x, mf i x = if i < c then nf (v + i) x else f x) :
    FnTr P (Gf fr) 26 [.ptr 3 0, By n f] ((4, LgRc cn bb cp nl nf) :: LgN (.con vv) N d gen at1 nb b su dead) 5 (Gives (.lit .i64 0) (LgQ 5 N d1 gen at2 nb b (.s 0) c2 su dead c2 ml mf) 3000) := by
  have cF := fitsc (P := P) (G := Gf fr) (N := N) (gen := gen) (at1 := at1) (d := d) (nb := nb) (b := b) (su := su) (dead := dead) (vv := vv) (n := (n : Int)) (nn := n) (m := needN m) (r := true) hP hN hr (by omega) (by omega) (by omega) (by rw [hm]) ⟨fun _ => by omega, fun _ => rfl⟩
  have c1 := alivec (P := P) (G := Gf fr) (N := N) (gen := gen) (at1 := at1) (nb := nb) (b := b) (su := su) (d := d) (vv := vv) hP hd
  have e2 := end_fn (P := P) (G := Gf fr) (S := d.S) (L := d.L) (ar := d.ar) (ca := d.ca) hP hN hr.hs hr.hh hr.hg hr.hfi hr.hen
  have c3 := seal2_fn (P := P) hP hfr hb (by omega) hm hgg
  have c4 := put_all (P := P) (G := Gf fr) (f := g) (at' := (at2 : Int)) hP hN hr.hs.2 ok ⟨hfit, hr.le.2.2⟩ (by omega) hk h1 (by rw [ha])
  have c5 := _root_.Go.Proofs.YtnjjgipblimbfaaDoor.clone_fn (P := P) (G := Gf fr) (n := n) (f := f) hP (by omega)
  have hp : ∀ {A : Ar}, Ar.real = A → ∀ e, ltNV A e (.s (A.addN c 1)) → leL (leSV A 4) (catG A 1 (.s c) (fun e => [.ro 1 (.s (nl (addNV A (.s v) e).val)) (fun x => [.int .u8 (nf (addNV A (.s v) e).val x.val)])]) (fun x => chunkS A 1 [.ro 1 (.s n) (fun x => [.int .u8 (f x.val)])] (addNV A (.l 0) x)) e) [.ro 1 (.s (ml e.val)) (fun x => [.int .u8 (mf e.val x.val)])] := fun {A} hA e he => by
    have he : e.val < c + 1 := by subst hA; exact ltNV_real.1 he
    rw [show (fun e : NV => [SV.ro 1 (.s (nl (addNV A (.s v) e).val)) (fun x => [.int .u8 (nf (addNV A (.s v) e).val x.val)])]) = (fun e : NV => [SV.ro 1 (.s (nl (v + e.val))) (fun x => [.int .u8 (nf (v + e.val) x.val)])]) by funext e; subst hA; rw [addNV_val]; rfl]
    exact rows_push (len := fun i => nl (v + i)) (len' := ml) (g := fun i => nf (v + i)) (g' := mf) (h := f) hA (by omega) (hl _) (fun j _ => hf _ _)
  clear hfr hr hb hm hgg ok hfit hk h1 hN hl hf
  have hT : T.Ok P := hP ▸ T_ok
  refine jjI Tryd.f26 hT ?_
  generalize hA : Ar.real = A
  generalize hK : Gives _ _ _ = K
  cbv
  have hp := hp hA
  refine jjS hA (c1) [(0, 0), (1, 1), (2, 2), (3, 3)] ?_
  cbv
  refine CS.leR hA cF (.bl true) [(0, 0), (1, 1), (2, 2), (3, 3)] rfl rfl rfl ?_ ?_ ?_ ?_
  · (try cbv) <;> (repeat' (first | exact trivial | exact rfl | apply And.intro | exact fun _ => rfl | (intro _ hle; first | refine chunk_le hA rfl hle rfl ?_ | refine cat_le hA ?_ | refine upd_le hA ?_ | (try cbv))))
    all_goals (subst hA; rfl)
  iterate 2 exact jjL
  cbv
  refine jjR hA hT 30 ?_
  cbv
  refine jjP hA (e2) [(0, 0), (1, 1), (2, 2)] ?_
  cbv
  refine jjP hA (c3) [] ?_
  cbv
  refine jjP hA (c4) [(0, 0), (1, 1), (2, 2)] ?_
  cbv
  refine jjD ?_
  cbv
  refine jjR hA hT 30 ?_
  cbv
  refine jjP hA (c5) [] ?_
  cbv
  refine OD.did [4, 1186] rfl (appendGrows_did hA hT (i := 4) (of := v) (len := .s c) (k := .s cn) (m := .l 1) rfl rfl rfl rfl rfl rfl rfl rfl hv hcn.symm hvc rfl jjO hcap (by show (c + 1) * 24 ≤ 140737488355328; omega)) rfl ?_
  cbv
  refine jjD ?_
  cbv
  refine Fin.le hA 5 [(1216, 5)] (.lit .i64 0) (LgQ 5 N d1 gen at2 nb b (.s 0) c2 su dead c2 ml mf) 3000 rfl rfl rfl ?_ ?_ jjK
  · exact jjL
  · clear c1 e2 c3 c4 c5 cF
    (try cbv) <;> (repeat' (first | exact trivial | exact rfl | apply And.intro | exact fun _ => rfl | (intro _ hle; first | exact hp _ hle | refine chunk_le hA rfl hle rfl ?_ | refine cat_le hA ?_ | refine upd_le hA ?_ | refine int_le ?_ | skip)))
    all_goals first | exact hc2.symm | (subst hA; show c + 1 = _; omega) | (subst hA; show cn + 1 = _; omega)
end
theorem alive_nil {P : Program} {G : Gl} (hP : P = Tryd.prog) : FnTr P G 59 [.nilp] [] 0 (Gives (.lit .i64 7) [] 0) := by
  have hT : T.Ok P := hP ▸ T_ok
  refine jjI Tryd.f59 hT ?_
  generalize hA : Ar.real = A
  generalize hK : Gives _ _ _ = K
  cbv
  refine Fin.le hA 0 [] (.lit .i64 7) ([]) 0 rfl rfl rfl ?_ ?_ jjK
  iterate 2 exact jjL
theorem sync_nil {P : Program} {G : Gl} (hP : P = Tryd.prog) : FnTr P G 28 [.nilp] [] 0 (Gives (.lit .i64 7) [] 0) := by
  have c1 := alive_nil (P := P) (G := G) hP
  have hT : T.Ok P := hP ▸ T_ok
  refine jjI Tryd.f28 hT ?_
  generalize hA : Ar.real = A
  generalize hK : Gives _ _ _ = K
  cbv
  refine jjS hA (c1) [] ?_
  cbv
  refine Fin.le hA 0 [] (.lit .i64 7) ([]) 0 rfl rfl rfl ?_ ?_ jjK
  iterate 2 exact jjL
end Go.Proofs.YtnjjgipblimbfaaDoor.Dsk
namespace Go.WalLaw
open Go.DskLaw
section
variable {d d' : Dk} {s g fi en su w c n : Nat} {nl nl' : Nat → Nat} {nf nf' : Nat → Nat → Int} {ks kb f : Nat → Int}
theorem LogI.frame (h : LogI d fi en su w c nl nf) (hS : ∀ t x, fi ≤ t → t < en → x < 64 → d'.S (64 * t + x) = d.S (64 * t + x)) (hL : ∀ t : Nat, fi ≤ t → t < en → d'.L (t : Int) = d.L (t : Int)) : LogI d' fi en su w c nl nf where
  hsu := h.hsu
  hw := h.hw
  hen := h.hen
  hlen := h.hlen
  recs := fun i hi j hj x hx => by
    have h1 := stN_in (fi := fi) (nl := nl) (c := c) (show i < c by have := h.hsu; omega) hj
    have h2 := h.hen
    rw [hS _ x h1.1 (by omega) hx]
    exact h.recs i hi j hj x hx
  blank := fun t h1 h2 x hx => by
    have h3 : fi ≤ stN fi nl su := stN_mono (fi := fi) (nl := nl) (i := 0) (by omega)
    rw [hS _ x (by omega) h2 hx]
    exact h.blank t h1 h2 x hx
  lin := fun i hi j hj h1 h2 => by
    have h3 := stN_in (fi := fi) (nl := nl) hi hj
    have h4 := h.hen
    rw [hL _ h3.1 (by omega)]
    exact h.lin i hi j hj h1 h2
  lout := fun t h1 h2 h3 => by rw [hL t h1 h2]; exact h.lout t h1 h2 h3
theorem HdI.frame (h : HdI d g) (hS : ∀ t x, t < 2 → x < 64 → d'.S (64 * t + x) = d.S (64 * t + x)) (h0 : d'.L 0 = none) (h1 : d'.L 1 = none) : HdI d' g where
  cur := fun x hx => by rw [hS _ x (by omega) hx]; exact h.cur x hx
  old := fun x hx => by rw [hS _ x (by omega) hx]; exact h.old x hx
  l0 := h0
  l1 := h1
theorem HdI.flush (h : HdI d g) : HdI (flushD d) g :=
  h.frame (fun t x ht hx => by
    rw [flushD_S d t x hx]
    rcases (show t = 0 ∨ t = 1 by omega) with rfl | rfl
    · exact secV_none' h.l0 x
    · exact secV_none' h.l1 x) rfl rfl
theorem HdI.gens (h : HdI d g) (hg : g ≤ 1099511627776) : ∃ g0 g1, GenIs (secV d.S d.L 0) 0 g0 ∧ GenIs (secV d.S d.L 1) 1 g1 ∧ g = max g0 g1 := by
  have e0 : ∀ x, secV d.S d.L 0 x = d.S (64 * 0 + x) := fun x => secV_none' h.l0 x
  have e1 : ∀ x, secV d.S d.L 1 x = d.S (64 * 1 + x) := fun x => secV_none' h.l1 x
  rcases Nat.mod_two_eq_zero_or_one g with q | q
  · have hc := h.cur
    have ho := h.old
    rw [q] at hc
    rw [show (g + 1) % 2 = 1 by omega] at ho
    exact ⟨g, g - 1, genIs_headB hg (fun x hx => by rw [e0, hc x hx]) (.inl q), genIs_headB (by omega) (fun x hx => by rw [e1, ho x hx]) (by omega), by omega⟩
  · have hc := h.cur
    have ho := h.old
    rw [q] at hc
    rw [show (g + 1) % 2 = 0 by omega] at ho
    exact ⟨g - 1, g, genIs_headB (by omega) (fun x hx => by rw [e0, ho x hx]) (by omega), genIs_headB hg (fun x hx => by rw [e1, hc x hx]) (.inl q), by omega⟩
theorem LogI.flush (h : LogI d fi en su (stN fi nl c) c nl nf) : LogI (flushD d) fi en c (stN fi nl c) c nl nf where
  hsu := by have := h.hsu; omega
  hw := ⟨Nat.le_refl _, Nat.le_refl _⟩
  hen := h.hen
  hlen := h.hlen
  recs := fun i hi j hj x hx => by
    have h1 := stN_in (fi := fi) (nl := nl) hi hj
    have h2 := h.hen
    rw [flushD_S d _ x hx]
    by_cases q : stN fi nl su ≤ stN fi nl i + j
    · obtain ⟨g, e1, e2⟩ := h.lin i hi j hj q h1.2
      rw [secV_some' e1, e2 x hx]
    · rw [secV_none' (h.lout _ h1.1 (by omega) (.inl (by omega)))]
      have h3 : i < su := by
        rcases Nat.lt_or_ge i su with r | r
        · exact r
        · have : stN fi nl su ≤ stN fi nl i := stN_mono r
          omega
      exact h.recs i h3 j hj x hx
  blank := fun t h1 h2 x hx => by
    have h3 : stN fi nl su ≤ stN fi nl c := stN_mono h.hsu.2
    have h4 : fi ≤ stN fi nl su := stN_mono (fi := fi) (nl := nl) (i := 0) (by omega)
    rw [flushD_S d _ x hx, secV_none' (h.lout t (by omega) h2 (.inr h1))]
    exact h.blank t (by omega) h2 x hx
  lin := fun i hi j hj h1 h2 => by omega
  lout := fun t _ _ _ => rfl
theorem putD_at (d : Dk) (first n : Nat) (f : Nat → Int) (t : Nat) : (putD d first n f).L (t : Int) = if first ≤ t ∧ t < first + putK d n then some (pcs n f (t - first)) else d.L (t : Int) := by
  show (if (first : Int) ≤ (t : Int) ∧ (t : Int) < (first : Int) + putK d n then some (pcs n f ((t : Int) - first).toNat) else d.L (t : Int)) = _
  by_cases q : first ≤ t ∧ t < first + putK d n
  · rw [if_pos (by omega), if_pos q, show ((t : Int) - (first : Int)).toNat = t - first by omega]
  · rw [if_neg (by omega), if_neg q]
theorem LogI.put (h : LogI d fi en su (stN fi nl c) c nl nf) (hn : n + 4 ≤ 65536) (hfit : stN fi nl c + needN (n + 4) ≤ en) (h1 : ∀ i, i < c → nl' i = nl i) (h2 : ∀ i, i < c → nf' i = nf i) (h3 : nl' c = n) (h4 : nf' c = f) :
    LogI (putD d (stN fi nl c) (n + 4) (sealF n f)) fi en su (stN fi nl c + putK d (n + 4)) (c + 1) nl' nf' := by
  have hk := putK_le d (n + 4)
  have es : ∀ i, i ≤ c → stN fi nl' i = stN fi nl i := stN_congr h1
  have ec : stN fi nl' (c + 1) = stN fi nl c + needN (n + 4) := by rw [stN_succ, es c (by omega), h3]
  have hsu := h.hsu
  have esu : stN fi nl' su = stN fi nl su := es su hsu.2
  have eb : ∀ i, i < c → ∀ j x, recB nl' nf' i j x = recB nl nf i j x := fun i hi j x => by unfold recB; rw [h1 i hi, h2 i hi]
  have hsc : stN fi nl su ≤ stN fi nl c := stN_mono hsu.2
  have hfs : fi ≤ stN fi nl su := stN_mono (fi := fi) (nl := nl) (i := 0) (by omega)
  refine ⟨by omega, by rw [esu, ec]; omega, by rw [ec]; exact hfit, fun i hi => ?_, fun i hi j hj x hx => ?_, fun t a b x hx => ?_, fun i hi j hj a b => ?_, fun t a b q => ?_⟩
  · by_cases q : i < c
    · rw [h1 i q]; exact h.hlen i q
    · rw [show i = c by omega, h3]; exact hn
  · rw [es i (by omega), eb i (by omega)]
    rw [h1 i (by omega)] at hj
    exact h.recs i hi j hj x hx
  · rw [esu] at a
    exact h.blank t a b x hx
  · rw [esu] at a
    by_cases q : i < c
    · rw [es i (by omega)] at a b ⊢
      rw [h1 i q] at hj
      have h5 := stN_in (fi := fi) (nl := nl) q hj
      rw [putD_at, if_neg (by omega)]
      obtain ⟨g, e1, e2⟩ := h.lin i q j hj a h5.2
      exact ⟨g, e1, fun x hx => by rw [e2 x hx, eb i q]⟩
    · obtain rfl : i = c := by omega
      rw [es i (by omega)] at a b ⊢
      rw [putD_at, if_pos (by omega)]
      refine ⟨_, rfl, fun x hx => ?_⟩
      unfold recB
      rw [h3, h4, show stN fi nl i + j - stN fi nl i = j by omega]
  · rw [esu] at q
    rw [putD_at, if_neg (by omega)]
    exact h.lout t a b (by omega)
theorem LogI.crash0 (h : LogI d fi en su w c nl nf) (hd : HdI d g) (hg : g ≤ 1099511627776) : ImgD (crashD d ks kb 0) g fi en su nl nf := by
  have e : (crashD d ks kb 0).S = d.S := rfl
  have hsu := h.hsu
  refine ⟨?_, ⟨by omega, Nat.le_trans (stN_mono hsu.2) h.hen⟩, fun i hi => h.hlen i (by omega), by rw [e]; exact h.recs, ⟨0, fun j hj => by omega, fun hq => by rw [e]; exact h.blank _ (Nat.le_refl _) hq 63 (by omega)⟩, fun k g e => by cases e⟩
  rw [e]
  obtain ⟨g0, g1, e0, e1, e⟩ := hd.gens hg
  exact ⟨g0, g1, genIs_congr (fun x hx => secV_none' hd.l0 x) e0, genIs_congr (fun x hx => secV_none' hd.l1 x) e1, e⟩
structure Fr (d d' : Dk) (a b : Nat) : Prop where
  S : d'.S = d.S
  ar : d'.ar = d.ar
  L : ∀ t : Int, t < (a : Int) ∨ (b : Int) ≤ t → d'.L t = d.L t
theorem Fr.put {a b : Nat} (hb : a + needN n ≤ b) : Fr d (putD d a n f) a b where
  S := rfl
  ar := rfl
  L := fun t ht => by
    have := putK_le d n
    show (if (a : Int) ≤ t ∧ t < (a : Int) + putK d n then some (pcs n f (t - a).toNat) else d.L t) = _
    rw [if_neg (by omega)]
theorem Fr.wipe {d2 : Dk} {a b a1 : Nat} {on : Option Nat} (h : Fr d d' a b) (h1 : a ≤ a1) (hw : wipeD d' a1 b = (on, d2)) : Fr d d2 a b where
  S := (wipeD_S hw).1.trans h.S
  ar := (wipeD_S hw).2.trans h.ar
  L := fun t ht => by
    rcases wipeD_fr hw t with e | ⟨e1, e2, _⟩
    · rw [e]; exact h.L t ht
    · omega
theorem Fr.head {a b : Nat} (hF : Fr d d' a b) (h : HdI d g) (ha : 2 ≤ a) : HdI d' g :=
  h.frame (fun t x _ _ => by rw [hF.S]) (by rw [hF.L 0 (by omega)]; exact h.l0) (by rw [hF.L 1 (by omega)]; exact h.l1)
theorem base_put {d1 d2 : Dk} {a b m nb : Nat} (hn : nb + 4 ≤ 65536) (hfit : a + needN (nb + 4) ≤ b) (hk : putK d (nb + 4) = needN (nb + 4)) (hd1 : d1 = putD d a (nb + 4) (sealF nb f)) (hw : wipeD d1 (a + needN (nb + 4)) b = (some m, d2)) (h3 : nl 0 = nb) (h4 : nf 0 = f) :
    LogI (flushD d2) a b 1 (stN a nl 1) 1 nl nf where
  hsu := by omega
  hw := ⟨Nat.le_refl _, Nat.le_refl _⟩
  hen := by rw [stN_succ, h3]; exact hfit
  hlen := fun i hi => by rw [show i = 0 by omega, h3]; exact hn
  recs := fun i hi j hj x hx => by
    obtain rfl : i = 0 := by omega
    rw [h3] at hj
    rw [flushD_S d2 _ x hx]
    have e : d2.L ((stN a nl 0 + j : Nat) : Int) = some (pcs (nb + 4) (sealF nb f) j) := by
      have e0 : stN a nl 0 = a := rfl
      rw [e0]
      rcases wipeD_fr hw ((a + j : Nat) : Int) with q | ⟨q, _, _⟩
      · rw [q, hd1, putD_at, if_pos (by omega), show a + j - a = j by omega]
      · omega
    rw [secV_some' e]
    unfold recB
    rw [h3, h4]
  blank := fun t h1 h2 x hx => by
    rw [flushD_S d2 _ x hx]
    rw [stN_succ, h3] at h1
    exact wipeD_done hw t h1 h2 x hx
  lin := fun i hi j hj h1 h2 => by omega
  lout := fun t _ _ _ => rfl
inductive LaidAs (d : Dk) (g a b nb : Nat) (f : Nat → Int) : Dk → Int → Int → Prop
  | early {d' : Dk} : Fr d d' a b → LaidAs d g a b nb f d' 0 6
  | flushed {d2 : Dk} : Fr d d2 a b → LaidAs d g a b nb f (flushD d2) 0 6
  | torn {d2 d3 : Dk} : Fr d d2 a b → d3 = flushD d2 → (∀ nl nf, nl 0 = nb → nf 0 = f → LogI d3 a b 1 (stN a nl 1) 1 nl nf) → LaidAs d g a b nb f (writeD d3 (g % 2) (headB g)) 0 6
  | done {d2 d3 : Dk} : Fr d d2 a b → d3 = flushD d2 → (∀ nl nf, nl 0 = nb → nf 0 = f → LogI d3 a b 1 (stN a nl 1) 1 nl nf) → LaidAs d g a b nb f (flushD (writeD d3 (g % 2) (headB g))) ((a + needN (nb + 4) : Nat) : Int) 0
theorem LayIs.laid {at' e : Int} {nb b a : Nat} (h : LayIs d g a b (nb + 4) (sealF nb f) d' at' e) (hn : nb + 4 ≤ 65536) (hfit : a + needN (nb + 4) ≤ b) : LaidAs d g a b nb f d' at' e := by
  have hF : Fr d (putD d a (nb + 4) (sealF nb f)) a b := Fr.put hfit
  cases h with
  | put hk => exact .early hF
  | wipe0 hk o1 => exact .early hF
  | wipe hk o1 hw => exact .early (hF.wipe (by omega) hw)
  | flush hk o1 hw o2 => exact .early (hF.wipe (by omega) hw)
  | write hk o1 hw o2 o3 => exact .flushed (hF.wipe (by omega) hw)
  | again hk o1 hw o2 o3 o4 => exact .torn (hF.wipe (by omega) hw) rfl (fun nl nf h3 h4 => base_put hn hfit hk rfl hw h3 h4)
  | ok hk o1 hw o2 o3 o4 => exact .done (hF.wipe (by omega) hw) rfl (fun nl nf h3 h4 => base_put hn hfit hk rfl hw h3 h4)
theorem LayIs.run {at' e : Int} {nb b a : Nat} (h : LayIs d g a b (nb + 4) (sealF nb f) d' at' e) (har : d.ar = false) : e = 0 := by
  have e0 : ∀ x : Dk, x.ar = false → ¬ offD x := fun x hx ho => by have := ho.1; rw [hx] at this; cases this
  cases h with
  | put hk =>
    have : putK d (nb + 4) = needN (nb + 4) := by unfold putK; rw [har]; rfl
    omega
  | wipe0 hk o1 => exact absurd o1 (e0 _ har)
  | wipe hk o1 hw =>
    obtain ⟨m, d3, h3⟩ := wipeD_run (d := putD d a (nb + 4) (sealF nb f)) (a := a + needN (nb + 4)) (b := b) har
    rw [hw] at h3
    cases h3
  | flush hk o1 hw o2 => exact absurd o2 (e0 _ ((wipeD_S hw).2.trans har))
  | write hk o1 hw o2 o3 => exact absurd o3 (e0 _ ((wipeD_S hw).2.trans har))
  | again hk o1 hw o2 o3 o4 => exact absurd o4 (e0 _ ((wipeD_S hw).2.trans har))
  | ok hk o1 hw o2 o3 o4 => rfl
theorem head_new {d3 : Dk} (hd : HdI d3 g) : HdI (flushD (writeD d3 ((g + 1) % 2) (headB (g + 1)))) (g + 1) where
  cur := fun x hx => by
    rw [flushD_S _ _ x hx, secV_some' (g := headB (g + 1)) (by show (if (((g + 1) % 2 : Nat) : Int) = (((g + 1) % 2 : Nat) : Int) then some (headB (g + 1)) else _) = _; rw [if_pos rfl])]
  old := fun x hx => by
    rw [flushD_S _ _ x hx]
    have e : (writeD d3 ((g + 1) % 2) (headB (g + 1))).L (((g + 1 + 1) % 2 : Nat) : Int) = none := by
      show (if (((g + 1 + 1) % 2 : Nat) : Int) = (((g + 1) % 2 : Nat) : Int) then some (headB (g + 1)) else d3.L _) = none
      rw [if_neg (by omega)]
      rcases Nat.mod_two_eq_zero_or_one g with q | q
      · rw [show (g + 1 + 1) % 2 = 0 by omega]; exact hd.l0
      · rw [show (g + 1 + 1) % 2 = 1 by omega]; exact hd.l1
    rw [secV_none' e]
    show d3.S _ = headB (g + 1 - 1) x
    rw [show (g + 1 + 1) % 2 = g % 2 by omega, show g + 1 - 1 = g by omega]
    exact hd.cur x hx
  l0 := rfl
  l1 := rfl
theorem LogI.headed {d3 : Dk} {h : Nat} {hb : Nat → Int} (hl : LogI d3 fi en su w c nl nf) (hf : 2 ≤ fi) (hh : h < 2) : LogI (writeD d3 h hb) fi en su w c nl nf :=
  hl.frame (fun _ _ _ _ _ => rfl) (fun t h1 h2 => by
    show (if (t : Int) = (h : Int) then some hb else d3.L (t : Int)) = _
    rw [if_neg (by omega)])
theorem LaidAs.fin {at' e : Int} {nb b a : Nat} (h : LaidAs d g a b nb f d' at' e) (he : e = 0) : at' = ((a + needN (nb + 4) : Nat) : Int) ∧ ∃ d2 d3, Fr d d2 a b ∧ d3 = flushD d2 ∧ (∀ nl nf, nl 0 = nb → nf 0 = f → LogI d3 a b 1 (stN a nl 1) 1 nl nf) ∧ d' = flushD (writeD d3 (g % 2) (headB g)) := by
  cases h with
  | early _ => exact absurd he (by decide)
  | flushed _ => exact absurd he (by decide)
  | torn _ _ _ => exact absurd he (by decide)
  | done h1 h2 h3 => exact ⟨rfl, _, _, h1, h2, h3, rfl⟩
theorem LaidAs.cut {at' e : Int} {nb b a : Nat} (h : LaidAs d g a b nb f d' at' e) (he : e = 6) : Fr d d' a b ∨ (∃ d2, Fr d d2 a b ∧ d' = flushD d2) ∨ ∃ d2 d3, Fr d d2 a b ∧ d3 = flushD d2 ∧ (∀ nl nf, nl 0 = nb → nf 0 = f → LogI d3 a b 1 (stN a nl 1) 1 nl nf) ∧ d' = writeD d3 (g % 2) (headB g) := by
  cases h with
  | early h => exact .inl h
  | flushed h => exact .inr (.inl ⟨_, h, rfl⟩)
  | torn h1 h2 h3 => exact .inr (.inr ⟨_, _, h1, h2, h3, rfl⟩)
  | done _ _ _ => exact absurd he (by decide)
theorem wipeP_none {V : Nat → Nat → Int} {ar : Bool} : ∀ (k x n : Nat) (L : Int → Option (Nat → Int)) (ca : Int), (wipeP V ar k x n L ca).1 = none → ar = true ∧ (wipeP V ar k x n L ca).2.2 = 0 := by
  intro k
  induction k with
  | zero => intro x n L ca h; cases h
  | succ k ih =>
    intro x n L ca h
    by_cases ho : ar = true ∧ ca = 0
    · rw [wipeP_off ho]; exact ho
    · by_cases hb : ∀ i, i < 64 → V x i = 0
      · rw [wipeP_blank ho hb] at h ⊢; exact ih _ _ _ _ h
      · rw [wipeP_full ho hb] at h ⊢; exact ih _ _ _ _ h
theorem wipeD_none {d2 : Dk} {a b : Nat} (hw : wipeD d a b = (none, d2)) : offD d2 := by
  obtain ⟨e1, e2⟩ := Prod.mk.inj hw
  subst e2
  exact wipeP_none (V := fun i => secV d.S d.L i) (b - a) a 0 d.L d.ca e1
theorem putD_off (hk : putK d n < needN n) (hca : 0 ≤ d.ca) : offD (putD d w n f) := by
  unfold putK at hk
  cases har : d.ar with
  | false => rw [har] at hk; exact absurd hk (by simp)
  | true =>
    rw [har] at hk
    refine ⟨har, ?_⟩
    show (if d.ar = true then d.ca - (putK d n : Nat) else d.ca) = 0
    rw [if_pos har]
    unfold putK
    rw [if_pos har]
    rw [if_pos rfl] at hk
    omega
theorem LayIs.off {at' e : Int} {b a : Nat} (h : LayIs d g a b n f d' at' e) (he : e = 6) (hca : 0 ≤ d.ca) : offD d' := by
  cases h with
  | put hk => exact putD_off hk hca
  | wipe0 hk o1 => exact o1
  | wipe hk o1 hw => exact wipeD_none hw
  | flush hk o1 hw o2 => exact o2
  | write hk o1 hw o2 o3 => exact o3
  | again hk o1 hw o2 o3 o4 => exact o4
  | ok hk o1 hw o2 o3 o4 => exact absurd he (by decide)
theorem LayIs.okd {at' e : Int} {b a : Nat} (h : LayIs d g a b n f d' at' e) (ok : DkOk s d) (hfit : a + needN n ≤ b ∧ b ≤ s) (hf : ∀ i, i < n → 0 ≤ f i ∧ f i ≤ 255) (h2 : 2 ≤ s) : DkOk s d' := by
  have okp : DkOk s (putD d a n f) := ok.put (by omega) hf
  have hi2 : g % 2 < s := by omega
  cases h with
  | put hk => exact okp
  | wipe0 hk o1 => exact okp
  | wipe hk o1 hw => exact okp.wipe hfit hw
  | flush hk o1 hw o2 => exact okp.wipe hfit hw
  | write hk o1 hw o2 o3 => exact (okp.wipe hfit hw).flush o2
  | again hk o1 hw o2 o3 o4 => exact ((okp.wipe hfit hw).flush o2).write o3 hi2 (fun x _ => headB_range g x)
  | ok hk o1 hw o2 o3 o4 => exact (((okp.wipe hfit hw).flush o2).write o3 hi2 (fun x _ => headB_range g x)).flush o4
theorem LayIs.ard {at' e : Int} {b a : Nat} (h : LayIs d g a b n f d' at' e) : d'.ar = d.ar := by
  cases h with
  | put hk => rfl
  | wipe0 hk o1 => rfl
  | wipe hk o1 hw => exact (wipeD_S hw).2
  | flush hk o1 hw o2 => exact (wipeD_S hw).2
  | write hk o1 hw o2 o3 => exact (wipeD_S hw).2
  | again hk o1 hw o2 o3 o4 => exact (wipeD_S hw).2
  | ok hk o1 hw o2 o3 o4 => exact (wipeD_S hw).2
end
end Go.WalLaw
namespace Go.Proofs.YtnjjgipblimbfaaDoor.Dsk
open Go.Eng
open Go.DskLaw (q64 secV isB needN pcs getP)
open Go.WalLaw
open Go.CrcLaw (four)
set_option maxRecDepth 100000
set_option maxHeartbeats 1000000
section
variable {P : Program} {fr : Nat → Int} {N s h g fi en K su c n : Nat} {d d1 : Dk} {nl ml : Nat → Nat} {nf mf : Nat → Nat → Int} {ks kb f : Nat → Int}
theorem newest_at {G : Gl} (hP : P = Tryd.prog) (hN : N = 64 * s) (hs : 4 ≤ s ∧ s ≤ 4096) (ok : DkOk s d) (ho : ¬ offD d) {g0 g1 : Nat} (h0 : GenIs (secV d.S d.L 0) 0 g0) (h1 : GenIs (secV d.S d.L 1) 1 g1) (hg : g = max g0 g1) :
    FnTr P G 56 [.ptr 0 0] (DHd N d) 3 (Gives (.tup [.int .i64 (g : Int), .lit .i64 0]) (DHd N d) 3) :=
  newest_fn (V := fun i => secV d.S d.L i) hP ho hN hs (fun i hi => ⟨rfl, ok.bytes i (by omega)⟩) h0 h1 hg
theorem records_at (hP : P = Tryd.prog) (hfr : ∀ i, fr i = ((four i).toNat : Int)) (hN : N = 64 * s) (hr : Reg s h g fi en) (ok : DkOk s d) (ho : ¬ offD d) {c0 last : Nat} {g0 gs : Nat → Nat × (Nat → Int)} (hR0 : recP (fun t => secV d.S d.L t) en (en - fi + 1) fi 0 g0 = (c0, gs, last)) :
    FnTr P (Gf fr) 67 [.ptr 0 0, .int .i64 (g : Int)] (DHd N d) 3 (Gives (.tup [.sl 3 1 (.l 0) (.s c0), .int .i64 (last : Int)]) ((3, LgR c0 (fun i => (gs i).1) (fun i => (gs i).2)) :: DHd N d) 4) :=
  records_own hP hfr hN hr ho (V := fun t => secV d.S d.L t) (fun i hi => ⟨rfl, ok.bytes i hi⟩) hR0
abbrev OpH (N : Nat) (d : Dk) (g last K : Nat) (gs : Nat → Nat × (Nat → Int)) : Hl := LgH N d g last (gs 0).1 (gs 0).2 (.s 1) (K - 1) (K - 1) false K (fun i => (gs i).1) (fun i => (gs i).2)
theorem open_read (hP : P = Tryd.prog) (hfr : ∀ i, fr i = ((four i).toNat : Int)) (hN : N = 64 * s) (hr : Reg s h g fi en) (hg : 0 < g) (ok : DkOk s d) (ho : ¬ offD d) {g0 g1 last : Nat} (h0 : GenIs (secV d.S d.L 0) 0 g0) (h1 : GenIs (secV d.S d.L 1) 1 g1) (hgg : g = max g0 g1) (hK : 1 ≤ K) (hl : last ≤ en) (hK6 : K ≤ 1000000) {g0' gs : Nat → Nat × (Nat → Int)} (hR0 : recP (fun t => secV d.S d.L t) en (en - fi + 1) fi 0 g0' = (K, gs, last)) :
    ∃ on d1, wipeD d last en = (on, d1) ∧ DkOk s d1 ∧
      ((on = none ∧ FnTr P (Gf fr) 32 [.ptr 0 0] (DHd N d) 3 (Gives (.tup [.nilp, .lit .i64 6]) (DHd N d1) 3)) ∨
      (∃ m, on = some m ∧ 0 < m ∧ offD d1 ∧ FnTr P (Gf fr) 32 [.ptr 0 0] (DHd N d) 3 (Gives (.tup [.nilp, .lit .i64 6]) (DHd N d1) 3)) ∨
      (∃ m d2, on = some m ∧ DkOk s d2 ∧ (m = 0 ∧ d2 = d1 ∨ 0 < m ∧ ¬ offD d1 ∧ d2 = flushD d1) ∧ FnTr P (Gf fr) 32 [.ptr 0 0] (DHd N d) 3 (Gives (.tup [.ptr 3 0, .lit .i64 0]) (OpH N d2 g last K gs) 100))) := by
  have cN := newest_at (P := P) (G := Gf fr) hP hN hr.hs ok ho h0 h1 hgg
  have cR := records_at hP hfr hN hr ok ho hR0
  obtain ⟨⟨on, d1⟩, hw⟩ : ∃ r, wipeD d last en = r := ⟨_, rfl⟩
  have ok1 := ok.wipe ⟨hl, hr.le.2.2⟩ hw
  obtain ⟨cc, hcc⟩ : ∃ cc, K = cc + 1 := ⟨K - 1, by omega⟩
  have hcc2 : cc = K - 1 := by omega
  refine ⟨on, d1, hw, ok1, ?_⟩
  cases on with
  | none => exact .inl ⟨rfl, open_part hP hN hr hg (by omega) ok ho hl hw cN cR⟩
  | some m =>
    rcases Nat.eq_zero_or_pos m with hm | hm
    · refine .inr (.inr ⟨m, d1, rfl, ok1, .inl ⟨hm, rfl⟩, ?_⟩)
      have := open_ok0 hP hN hr hg hcc hK6 ok ho hl hm hw cN cR
      rw [hcc2] at this
      exact this
    · by_cases o1 : offD d1
      · exact .inr (.inl ⟨m, rfl, hm, o1, open_offF hP hN hr hg hcc hK6 ok ho hl hm ok1 o1 hw cN cR⟩)
      · refine .inr (.inr ⟨m, flushD d1, rfl, ok1.flush o1, .inr ⟨hm, o1, rfl⟩, ?_⟩)
        have := open_okF hP hN hr hg hcc hK6 ok ho hl hm ok1 o1 rfl hw cN cR
        rw [hcc2] at this
        exact this
theorem img_small (hr : Reg s h g fi en) (hi : ImgD d g fi en K nl nf) : K ≤ 4096 := by
  have h1 := hi.hK.2
  have h2 : fi + K ≤ stN fi nl K := DskLaw.le_atN fi (fun i => nl i + 4) K
  have h3 := hr.le
  have h4 := hr.hs
  omega
theorem open_img (hP : P = Tryd.prog) (hfr : ∀ i, fr i = ((four i).toNat : Int)) (hN : N = 64 * s) (hr : Reg s h g fi en) (hg : 0 < g) (ok : DkOk s d) (hL : ∀ k, d.L k = none) (hi : ImgD d g fi en K nl nf) :
    ∃ d2, DkOk s d2 ∧ ImgD d2 g fi en K nl nf ∧ ((d.ar = true ∧ FnTr P (Gf fr) 32 [.ptr 0 0] (DHd N d) 3 (Gives (.tup [.nilp, .lit .i64 6]) (DHd N d2) 3)) ∨
      ∃ gs last, Same K gs nl nf ∧ last = stN fi nl K ∧ (d.ar = false → d2.ar = false) ∧ FnTr P (Gf fr) 32 [.ptr 0 0] (DHd N d) 3 (Gives (.tup [.ptr 3 0, .lit .i64 0]) (OpH N d2 g last K gs) 100)) := by
  by_cases ho : offD d
  · exact ⟨d, ok, hi, .inl ⟨ho.1, open_off hP hN hr.hs ho⟩⟩
  obtain ⟨g0, g1, h0, h1, hgg⟩ := hi.gens hL
  obtain ⟨gs, hR0, hsame⟩ := hi.read hL (fun _ => (0, fun _ => 0))
  have hsm := img_small hr hi
  obtain ⟨on, d1, hw, ok1, hc⟩ := open_read hP hfr hN hr hg ok ho h0 h1 hgg hi.hK.1 hi.hK.2 (by omega) hR0
  have i1 := hi.wipe hw
  have har := (wipeD_S hw).2
  rcases hc with ⟨e, cc⟩ | ⟨m, e, hm, o1, cc⟩ | ⟨m, d2, e, ok2, hd, cc⟩
  · refine ⟨d1, ok1, i1, .inl ⟨?_, cc⟩⟩
    cases e1 : d.ar with
    | true => rfl
    | false =>
      obtain ⟨m', d', h'⟩ := wipeD_run (a := stN fi nl K) (b := en) e1
      rw [hw, e] at h'
      cases h'
  · exact ⟨d1, ok1, i1, .inl ⟨by rw [← har]; exact o1.1, cc⟩⟩
  · rcases hd with ⟨_, e2⟩ | ⟨_, o1, e2⟩
    · exact ⟨d2, ok2, by rw [e2]; exact i1, .inr ⟨gs, _, hsame, rfl, fun q => by rw [e2, har]; exact q, cc⟩⟩
    · exact ⟨d2, ok2, by rw [e2]; exact i1.flush hr.le.1, .inr ⟨gs, _, hsame, rfl, fun q => by rw [e2]; show d1.ar = false; rw [har]; exact q, cc⟩⟩
theorem open_run (hP : P = Tryd.prog) (hfr : ∀ i, fr i = ((four i).toNat : Int)) (hN : N = 64 * s) (hr : Reg s h g fi en) (hg : 0 < g) (ok : DkOk s d) (hL : ∀ k, d.L k = none) (hi : ImgD d g fi en K nl nf) (har : d.ar = false) :
    ∃ d2 gs last, DkOk s d2 ∧ ImgD d2 g fi en K nl nf ∧ Same K gs nl nf ∧ last = stN fi nl K ∧ d2.ar = false ∧ FnTr P (Gf fr) 32 [.ptr 0 0] (DHd N d) 3 (Gives (.tup [.ptr 3 0, .lit .i64 0]) (OpH N d2 g last K gs) 100) := by
  obtain ⟨d2, ok2, i2, h⟩ := open_img hP hfr hN hr hg ok hL hi
  rcases h with ⟨e, _⟩ | ⟨gs, last, h1, h2, h3, h4⟩
  · rw [har] at e; cases e
  · exact ⟨d2, gs, last, ok2, i2, h1, h2, h3 har, h4⟩
def cons0 {α : Type} (a : α) (f : Nat → α) : Nat → α
  | 0 => a
  | i + 1 => f i
structure LgSt (s h : Nat) (d : Dk) (g fi en su c bn : Nat) (b : Nat → Int) (ml : Nat → Nat) (mf : Nat → Nat → Int) : Prop where
  reg : Reg s h g fi en
  gle : 1 ≤ g ∧ g ≤ 1099511627776
  ok : DkOk s d
  log : LogI d fi en (su + 1) (stN fi (cons0 bn ml) (c + 1)) (c + 1) (cons0 bn ml) (cons0 b mf)
  hd : HdI d g
abbrev atL (fi bn : Nat) (ml : Nat → Nat) (c : Nat) : Nat := stN fi (cons0 bn ml) (c + 1)
theorem cons0_at {α : Type} {a : α} {f : Nat → α} (i : Nat) : cons0 a f (i + 1) = f i := rfl
theorem LgSt.atle {bn : Nat} {b : Nat → Int} (st : LgSt s h d g fi en su c bn b ml mf) : atL fi bn ml c ≤ en := st.log.hen
theorem LgSt.small {bn : Nat} {b : Nat → Int} (st : LgSt s h d g fi en su c bn b ml mf) : su ≤ c ∧ c ≤ 4096 := by
  have h1 := st.log.hen
  have h2 : fi + (c + 1) ≤ stN fi (cons0 bn ml) (c + 1) := DskLaw.le_atN fi (fun i => cons0 bn ml i + 4) (c + 1)
  have h3 := st.reg.le
  have h4 := st.reg.hs
  have h5 := st.log.hsu
  omega
theorem begin_st {bn : Nat} {b : Nat → Int} (hP : P = Tryd.prog) (hfr : ∀ i, fr i = ((four i).toNat : Int)) (hN : N = 64 * s) (hr : Reg s h 1 fi en) (hb : ∀ i, i < bn → 0 ≤ b i ∧ b i ≤ 255) (hn : bn + 4 ≤ 65536) (hnh : needN (bn + 4) ≤ h) (hS : ∀ x, d.S x = 0) (hL : ∀ k, d.L k = none) (har : d.ar = false) (hca : d.ca = 0) (ml : Nat → Nat) (mf : Nat → Nat → Int) :
    ∃ d1, d1.ar = false ∧ (∀ k, d1.L k = none) ∧ LgSt s h d1 1 fi en 0 0 bn b ml mf ∧ FnTr P (Gf fr) 23 [.ptr 0 0, By bn b] (DHd N d) 3 (Gives (.tup [.ptr 3 0, .lit .i64 0]) (LgH N d1 1 (atL fi bn ml 0) bn b (.l 0) 0 0 false 0 ml mf) 9000) := by
  have ok : DkOk s d := ⟨by rw [hca]; decide, fun k g e => (by rw [hL] at e; cases e), fun x _ => (by rw [hS]; decide), fun k g e => (by rw [hL] at e; cases e)⟩
  have h0 : HdI d 0 := ⟨fun x _ => (by rw [hS, headB_zero]), fun x _ => (by rw [hS]; exact (headB_zero x).symm), hL 0, hL 1⟩
  have hle := hr.le
  have hs := hr.hs
  have hen := hr.hen
  have ho : ¬ offD d := fun q => by have := q.1; rw [har] at this; cases this
  obtain ⟨d1, at', e, hl⟩ := layIs_ex d 1 fi en (bn + 4) (sealF bn b)
  have he : e = 0 := hl.run har
  obtain ⟨hat, d2, d3, hF, h3, hlog, hd1⟩ := (hl.laid hn (by omega)).fin he
  obtain ⟨g0, g1, e0, e1, eg⟩ := h0.gens (by omega)
  have cN := newest_at (P := P) (G := Gf fr) hP hN hs ok ho e0 e1 eg
  rcases lay_fn hP hfr hN hr hb rfl hn hnh ok hl with ⟨e6, _⟩ | ⟨_, _, cL⟩
  · omega
  have hd3 : HdI d3 0 := by rw [h3]; exact (hF.head h0 hle.1).flush
  refine ⟨d1, hl.ard.trans har, fun k => by rw [hd1]; rfl, ⟨hr, by omega, hl.okd ok ⟨by omega, hle.2.2⟩ (fun i _ => sealF_range hb i) (by omega), ?_, ?_⟩, ?_⟩
  · have hq := hlog (cons0 bn ml) (cons0 b mf) rfl rfl
    rw [hd1]
    exact (hq.headed hle.1 (by omega)).flush
  · rw [hd1]; exact head_new hd3
  · exact begin_ok hP hN hs hr.hh (by omega) (by omega) cN (by omega) rfl cL ml mf
theorem append_st {bn : Nat} {b : Nat → Int} {ml' : Nat → Nat} {mf' : Nat → Nat → Int} (hP : P = Tryd.prog) (hfr : ∀ i, fr i = ((four i).toNat : Int)) (hN : N = 64 * s) (st : LgSt s h d g fi en su c bn b ml mf) (hb : ∀ i, i < n → 0 ≤ f i ∧ f i ≤ 255) (hn : n + 4 ≤ 65536) (hml : ∀ i, ml' i = if i < c then ml i else n) (hmf : ∀ i x, mf' i x = if i < c then mf i x else f x) :
    (en < atL fi bn ml c + needN (n + 4) ∧ FnTr P (Gf fr) 26 [.ptr 3 0, By n f] (LgH N d g (atL fi bn ml c) bn b (.l 0) c su false c ml mf) 5 (Gives (.lit .i64 2) (LgH N d g (atL fi bn ml c) bn b (.l 0) c su false c ml mf) 3000)) ∨
    (∃ d1 w, DkOk s d1 ∧ offD d1 ∧ LogI d1 fi en (su + 1) w (c + 1 + 1) (cons0 bn ml') (cons0 b mf') ∧ HdI d1 g ∧ d.ar = true ∧ FnTr P (Gf fr) 26 [.ptr 3 0, By n f] (LgH N d g (atL fi bn ml c) bn b (.l 0) c su false c ml mf) 5 (Gives (.lit .i64 6) (LgH N d1 g (atL fi bn ml c) bn b (.l 0) c su true c ml mf) 3000)) ∨
    (∃ d1, d1.ar = d.ar ∧ atL fi bn ml c + needN (n + 4) ≤ en ∧ atL fi bn ml' (c + 1) = atL fi bn ml c + needN (n + 4) ∧ LgSt s h d1 g fi en su (c + 1) bn b ml' mf' ∧ FnTr P (Gf fr) 26 [.ptr 3 0, By n f] (LgH N d g (atL fi bn ml c) bn b (.l 0) c su false c ml mf) 5 (Gives (.lit .i64 0) (LgQ 5 N d1 g (atL fi bn ml' (c + 1)) bn b (.l 0) (c + 1) su false (c + 1) ml' mf') 3000)) := by
  have hat := st.atle
  have hle := st.reg.le
  have hsm := st.small
  have cf : ∀ r : Bool, (r = true ↔ needN (n + 4) ≤ en - atL fi bn ml c) → FnTr P (Gf fr) 53 [.ptr 3 0, .int .i64 (n : Int)] (LgH N d g (atL fi bn ml c) bn b (.l 0) c su false c ml mf) 5 (Gives (.bs r) (LgH N d g (atL fi bn ml c) bn b (.l 0) c su false c ml mf) 200) := fun r hr =>
    fits_fn (nn := n) hP hN st.reg hat (by omega) (by omega) rfl hr
  by_cases hfit : needN (n + 4) ≤ en - atL fi bn ml c
  · have ok := st.ok
    have e1 : ∀ i, i < c + 1 → cons0 bn ml' i = cons0 bn ml i := fun i hi => by
      cases i with
      | zero => rfl
      | succ i => rw [cons0_at, cons0_at, hml, if_pos (by omega)]
    have e2 : ∀ i, i < c + 1 → cons0 b mf' i = cons0 b mf i := fun i hi => by
      cases i with
      | zero => rfl
      | succ i => rw [cons0_at, cons0_at]; funext x; rw [hmf, if_pos (by omega)]
    have e3 : cons0 bn ml' (c + 1) = n := by rw [cons0_at, hml, if_neg (by omega)]
    have e4 : cons0 b mf' (c + 1) = f := by rw [cons0_at]; funext x; rw [hmf, if_neg (by omega)]
    have hput := LogI.put (nl' := cons0 bn ml') (nf' := cons0 b mf') st.log hn (by show atL fi bn ml c + _ ≤ _; omega) e1 e2 e3 e4
    obtain ⟨d1, hd1⟩ : ∃ d1, d1 = putD d (atL fi bn ml c) (n + 4) (sealF n f) := ⟨_, rfl⟩
    have hput : LogI d1 fi en (su + 1) (atL fi bn ml c + putK d (n + 4)) (c + 1 + 1) (cons0 bn ml') (cons0 b mf') := by rw [hd1]; exact hput
    have okp : DkOk s d1 := by rw [hd1]; exact ok.put (by omega) (fun i _ => sealF_range hb i)
    have hh : HdI d1 g := by rw [hd1]; exact (Fr.put (d := d) (f := sealF n f) (b := en) (by omega)).head st.hd (by
      have : fi ≤ atL fi bn ml c := stN_mono (fi := fi) (nl := cons0 bn ml) (i := 0) (by omega)
      omega)
    have cF := cf true ⟨fun _ => hfit, fun _ => rfl⟩
    rcases Nat.lt_or_ge (putK d (n + 4)) (needN (n + 4)) with hk | hk
    · refine .inr (.inl ⟨d1, _, okp, by rw [hd1]; exact putD_off hk ok.hca.1, hput, hh, ?_, ?_⟩)
      · cases e : d.ar with
        | true => rfl
        | false => unfold putK at hk; rw [e] at hk; simp at hk
      · exact append_part (nl := ml) (nf := mf) (mf := fun _ => sealF n f) hP hfr rfl hN st.reg hb hn rfl (fun i _ => rfl) ok (by omega) hk hd1 cF
    · have hk : putK d (n + 4) = needN (n + 4) := Nat.le_antisymm (putK_le _ _) hk
      have ea : atL fi bn ml' (c + 1) = atL fi bn ml c + needN (n + 4) := by
        show stN fi (cons0 bn ml') (c + 1 + 1) = _
        rw [stN_succ, e3, stN_congr e1 _ (Nat.le_refl _)]
      refine .inr (.inr ⟨d1, by rw [hd1]; rfl, by omega, ea, ⟨st.reg, st.gle, okp, ?_, hh⟩, ?_⟩)
      · rw [hk, ← ea] at hput; exact hput
      · exact append_ok (nl := ml) (nf := mf) (ml := ml') (mf := mf') (n := n) (m := n + 4) hP hfr rfl hN st.reg hb hn rfl (fun i _ => rfl) (fun i _ => rfl) ok (by omega) hk hd1 ea (by omega) rfl hml hmf cF
  · exact .inl ⟨by omega, append_full hP rfl (cf false ⟨fun h => (by cases h), fun h => absurd h hfit⟩)⟩
theorem append_run {bn : Nat} {b : Nat → Int} {ml' : Nat → Nat} {mf' : Nat → Nat → Int} (hP : P = Tryd.prog) (hfr : ∀ i, fr i = ((four i).toNat : Int)) (hN : N = 64 * s) (st : LgSt s h d g fi en su c bn b ml mf) (hb : ∀ i, i < n → 0 ≤ f i ∧ f i ≤ 255) (hn : n + 4 ≤ 65536) (hml : ∀ i, ml' i = if i < c then ml i else n) (hmf : ∀ i x, mf' i x = if i < c then mf i x else f x) (har : d.ar = false) (hfit : atL fi bn ml c + needN (n + 4) ≤ en) :
    ∃ d1, d1.ar = false ∧ atL fi bn ml' (c + 1) = atL fi bn ml c + needN (n + 4) ∧ LgSt s h d1 g fi en su (c + 1) bn b ml' mf' ∧ FnTr P (Gf fr) 26 [.ptr 3 0, By n f] (LgH N d g (atL fi bn ml c) bn b (.l 0) c su false c ml mf) 5 (Gives (.lit .i64 0) (LgQ 5 N d1 g (atL fi bn ml' (c + 1)) bn b (.l 0) (c + 1) su false (c + 1) ml' mf') 3000) := by
  rcases append_st hP hfr hN st hb hn hml hmf with ⟨q, _⟩ | ⟨_, _, _, _, _, _, q, _⟩ | ⟨d1, e1, _, e2, e3, e4⟩
  · omega
  · rw [har] at q; cases q
  · exact ⟨d1, e1.trans har, e2, e3, e4⟩
theorem sync_st {bn : Nat} {b : Nat → Int} {G : Gl} (hP : P = Tryd.prog) (hN : N = 64 * s) (st : LgSt s h d g fi en su c bn b ml mf) (ho : ¬ offD d) :
    ∃ d1, d1.ar = d.ar ∧ (∀ k, d1.L k = none) ∧ LgSt s h d1 g fi en c c bn b ml mf ∧ FnTr P G 28 [.ptr 3 0] (LgH N d g (atL fi bn ml c) bn b (.l 0) c su false c ml mf) 5 (Gives (.lit .i64 0) (LgH N d1 g (atL fi bn ml c) bn b (.l 0) c c false c ml mf) 100) :=
  ⟨flushD d, rfl, fun _ => rfl, ⟨st.reg, st.gle, st.ok.flush ho, st.log.flush, st.hd.flush⟩, sync_ok hP rfl hN ⟨by have := st.reg.hs; omega, st.reg.hs.2⟩ st.ok ho rfl⟩
end
set_option maxHeartbeats 4000000
theorem lit_byte (l : List Int) (h : ∀ x ∈ l, 0 ≤ x ∧ x ≤ 255) (i : Nat) : 0 ≤ l.getD i 0 ∧ l.getD i 0 ≤ 255 := by
  rcases Nat.lt_or_ge i l.length with q | q
  · rw [List.getD_eq_getElem?_getD, List.getElem?_eq_getElem q]; exact h _ (List.getElem_mem q)
  · rw [List.getD_eq_getElem?_getD, List.getElem?_eq_none q]; decide
theorem lives27_facts {P : Program} (hP : P = Tryd.prog) {fr : Nat → Int} (hfr : ∀ i, fr i = ((four i).toNat : Int)) {z bb b1 b2 b3 : Nat → Int} {L0 : Int → Option (Nat → Int)} (hz : ∀ x, z x = 0) (hL : ∀ k, L0 k = none) (rb : ∀ i, 0 ≤ bb i ∧ bb i ≤ 255) (r1 : ∀ i, 0 ≤ b1 i ∧ b1 i ≤ 255) (r2 : ∀ i, 0 ≤ b2 i ∧ b2 i ≤ 255) (r3 : ∀ i, 0 ≤ b3 i ∧ b3 i ≤ 255) :
    ∃ (d1 d2 d3 d4 d5 d6 d7 d8 : Dk) (m0 m1 m2 m3 : Nat → Nat) (n0 n1 n2 n3 : Nat → Nat → Int) (gl nl : Nat → Nat) (gf nf : Nat → Nat → Int) (w0 : Nat) (wf : Nat → Int),
      FnTr P (Gf fr) 32 [.ptr 0 0] (DHd 640 ⟨z, L0, false, 0⟩) 3 (Gives (.tup [.nilp, .lit .i64 4]) (DHd 640 ⟨z, L0, false, 0⟩) 3) ∧
      FnTr P (Gf fr) 23 [.ptr 0 0, By 4 bb] (DHd 640 ⟨z, L0, false, 0⟩) 3 (Gives (.tup [.ptr 3 0, .lit .i64 0]) (LgH 640 d1 1 7 4 bb (.l 0) 0 0 false 0 m0 n0) 9000) ∧
      FnTr P (Gf fr) 26 [.ptr 3 0, By 3 b1] (LgH 640 d1 1 7 4 bb (.l 0) 0 0 false 0 m0 n0) 5 (Gives (.lit .i64 0) (LgQ 5 640 d2 1 8 4 bb (.l 0) 1 0 false 1 m1 n1) 3000) ∧
      FnTr P (Gf fr) 26 [.ptr 3 0, By 0 z] (LgH 640 d2 1 8 4 bb (.l 0) 1 0 false 1 m1 n1) 5 (Gives (.lit .i64 0) (LgQ 5 640 d3 1 9 4 bb (.l 0) 2 0 false 2 m2 n2) 3000) ∧
      FnTr P (Gf fr) 28 [.ptr 3 0] (LgH 640 d3 1 9 4 bb (.l 0) 2 0 false 2 m2 n2) 5 (Gives (.lit .i64 0) (LgH 640 d4 1 9 4 bb (.l 0) 2 2 false 2 m2 n2) 100) ∧
      FnTr P (Gf fr) 26 [.ptr 3 0, By 4 b2] (LgH 640 d4 1 9 4 bb (.l 0) 2 2 false 2 m2 n2) 5 (Gives (.lit .i64 0) (LgQ 5 640 d5 1 10 4 bb (.l 0) 3 2 false 3 m3 n3) 3000) ∧
      FnTr P (Gf fr) 40 [.ptr 0 0, .ro 2 (.s 0) (fun e => [.int .i64 (z e.val), .int .i64 (z e.val)])] (DHd 640 d5) 3 (Gives (.tup []) (DHd 640 d6) 3) ∧
      FnTr P (Gf fr) 32 [.ptr 0 0] (DHd 640 d6) 3 (Gives (.tup [.ptr 3 0, .lit .i64 0]) (LgH 640 d7 1 9 w0 wf (.s 1) 2 2 false 3 gl gf) 100) ∧
      FnTr P (Gf fr) 35 [.ptr 3 0] (LgH 640 d7 1 9 w0 wf (.s 1) 2 2 false 3 gl gf) 5 (Gives (NtS 2 nl nf) (LgH 640 d7 1 9 w0 wf (.s 1) 2 2 false 3 gl gf) 6) ∧
      (nl 0 = 3 ∧ nl 1 = 0 ∧ ∀ x, x < 3 → nf 0 x = b1 x) ∧
      FnTr P (Gf fr) 26 [.ptr 3 0, By 59 z] (LgH 640 d7 1 9 w0 wf (.s 1) 2 2 false 3 gl gf) 5 (Gives (.lit .i64 2) (LgH 640 d7 1 9 w0 wf (.s 1) 2 2 false 3 gl gf) 3000) ∧
      FnTr P (Gf fr) 38 [.ptr 3 0, By 3 b3] (LgH 640 d7 1 9 w0 wf (.s 1) 2 2 false 3 gl gf) 5 (Gives (.lit .i64 0) (LgQ 5 640 d8 2 3 3 b3 (.l 0) 0 0 false 0 m0 n0) 5000) := by
  obtain ⟨m0, hm0⟩ : ∃ m0 : Nat → Nat, m0 = fun _ => 0 := ⟨_, rfl⟩
  obtain ⟨n0, hn0⟩ : ∃ n0 : Nat → Nat → Int, n0 = fun _ _ => 0 := ⟨_, rfl⟩
  obtain ⟨m1, hm1⟩ : ∃ m1 : Nat → Nat, ∀ i, m1 i = if i < 0 then m0 i else 3 := ⟨_, fun _ => rfl⟩
  obtain ⟨n1, hn1⟩ : ∃ n1 : Nat → Nat → Int, ∀ i x, n1 i x = if i < 0 then n0 i x else b1 x := ⟨_, fun _ _ => rfl⟩
  obtain ⟨m2, hm2⟩ : ∃ m2 : Nat → Nat, ∀ i, m2 i = if i < 1 then m1 i else 0 := ⟨_, fun _ => rfl⟩
  obtain ⟨n2, hn2⟩ : ∃ n2 : Nat → Nat → Int, ∀ i x, n2 i x = if i < 1 then n1 i x else z x := ⟨_, fun _ _ => rfl⟩
  obtain ⟨m3, hm3⟩ : ∃ m3 : Nat → Nat, ∀ i, m3 i = if i < 2 then m2 i else 4 := ⟨_, fun _ => rfl⟩
  obtain ⟨n3, hn3⟩ : ∃ n3 : Nat → Nat → Int, ∀ i x, n3 i x = if i < 2 then n2 i x else b2 x := ⟨_, fun _ _ => rfl⟩
  have rz : ∀ i, 0 ≤ z i ∧ z i ≤ 255 := fun i => by rw [hz]; decide
  have reg1 : Reg 10 4 1 6 10 := ⟨by omega, rfl, by omega, rfl, rfl⟩
  have reg2 : Reg 10 4 2 2 6 := ⟨by omega, rfl, by omega, rfl, rfl⟩
  have ok0 : DkOk 10 ⟨z, L0, false, 0⟩ := ⟨(by show (0 : Int) ≤ 0 ∧ (0 : Int) ≤ _; decide), fun k g e => (by have e : L0 k = some g := e; rw [hL] at e; cases e), fun x _ => rz x, fun k g e => (by have e : L0 k = some g := e; rw [hL] at e; cases e)⟩
  have off0 : ∀ d : Dk, d.ar = false → ¬ offD d := fun d h q => by have := q.1; rw [h] at this; cases this
  have hd0 : HdI ⟨z, L0, false, 0⟩ 0 := ⟨fun x _ => (by show z _ = _; rw [hz, headB_zero]), fun x _ => (by show z _ = _; rw [hz]; exact (headB_zero x).symm), hL 0, hL 1⟩
  obtain ⟨g0, g1, e0, e1, eg⟩ := hd0.gens (by omega)
  have cO := open_none (P := P) (G := Gf fr) (N := 640) (s := 10) hP rfl (by omega) rfl (newest_at hP rfl (by omega) ok0 (off0 _ rfl) e0 e1 eg)
  obtain ⟨d1, ar1, _, st1, cB⟩ := begin_st hP hfr (N := 640) (d := ⟨z, L0, false, 0⟩) rfl reg1 (bn := 4) (b := bb) (fun i _ => rb i) (by omega) (by decide) hz hL rfl rfl m0 n0
  have a1 : atL 6 4 m0 0 = 7 := by show 6 + needN 8 = 7; decide
  obtain ⟨d2, ar2, a2, st2, cA⟩ := append_run hP hfr (N := 640) rfl st1 (fun i _ => r1 i) (by omega) hm1 hn1 ar1 (by rw [a1]; decide)
  have a2 : atL 6 4 m1 1 = 8 := a2.trans (by rw [a1]; decide)
  obtain ⟨d3, ar3, a3, st3, cA2⟩ := append_run hP hfr (N := 640) rfl st2 (n := 0) (f := z) (fun i _ => rz i) (by omega) hm2 hn2 ar2 (by rw [a2]; decide)
  have a3 : atL 6 4 m2 2 = 9 := a3.trans (by rw [a2]; decide)
  obtain ⟨d4, ar4, _, st4, cS⟩ := sync_st (P := P) (G := Gf fr) (N := 640) hP rfl st3 (off0 _ ar3)
  obtain ⟨d5, ar5, a5, st5, cA3⟩ := append_run hP hfr (N := 640) rfl st4 (n := 4) (f := b2) (fun i _ => r2 i) (by omega) hm3 hn3 (ar4.trans ar3) (by rw [a3]; decide)
  have a5 : atL 6 4 m3 3 = 10 := a5.trans (by rw [a3]; decide)
  have ok6 : DkOk 10 (crashD d5 z z 0) := st5.ok.crash
  have i6 : ImgD (crashD d5 z z 0) 1 6 10 3 (cons0 4 m3) (cons0 bb n3) := st5.log.crash0 st5.hd (by omega)
  have cC := crash_fn (P := P) (G := Gf fr) (N := 640) (s := 10) (n := 0) (S := d5.S) (L := d5.L) (S' := (crashD d5 z z 0).S) (L' := (crashD d5 z z 0).L) (ar := d5.ar) (ca := d5.ca) (ks := z) (kb := z) hP rfl (by omega) (by omega) st5.ok.key (fun x _ => rfl) (fun _ => rfl)
  obtain ⟨d7, gs, last, ok7, i7, same7, hlast, ar7, cO7⟩ := open_run hP hfr (N := 640) rfl reg1 (by omega) ok6 (fun _ => rfl) i6 rfl
  have hm30 : m3 0 = 3 := by rw [hm3, if_pos (by omega), hm2, if_pos (by omega), hm1, if_neg (by omega)]
  have hm31 : m3 1 = 0 := by rw [hm3, if_pos (by omega), hm2, if_neg (by omega)]
  have el : last = 9 := by
    rw [hlast]
    show stN 6 (cons0 4 m3) 2 + needN (cons0 4 m3 2 + 4) = 9
    show 6 + needN 8 + needN (m3 0 + 4) + needN (m3 1 + 4) = 9
    rw [hm30, hm31]
    decide
  rw [el] at cO7
  obtain ⟨nl, hnl⟩ : ∃ nl : Nat → Nat, ∀ i, nl i = (gs (1 + i)).1 := ⟨_, fun _ => rfl⟩
  obtain ⟨nf, hnf⟩ : ∃ nf : Nat → Nat → Int, ∀ i x, nf i x = (gs (1 + i)).2 x := ⟨_, fun _ _ => rfl⟩
  have s1 := same7 1 (by omega)
  have s2 := same7 2 (by omega)
  have s10 : (gs 1).1 = 3 := s1.1.trans hm30
  have s20 : (gs 2).1 = 0 := s2.1.trans hm31
  have cN := notes_fn (P := P) (G := Gf fr) (N := 640) (gen := 1) (at1 := 9) (nb := (gs 0).1) (b := (gs 0).2) (su := 2) (d := d7) (dead := false) (o := .s 1) (c := 2) (cn := 3) (nl := fun i => (gs i).1) (nf := fun i => (gs i).2) (ml := nl) (mf := nf) hP (.inr ⟨1, rfl⟩) rfl (by omega) (fun i hi => ⟨hnl i, by
    rw [hnl]
    rcases (show i = 0 ∨ i = 1 by omega) with rfl | rfl
    · rw [s10]; omega
    · rw [s20]; omega⟩) (fun i _ x => hnf i x)
  have cF := append_full (P := P) (G := Gf fr) (f := z) (n := 59) hP rfl (fits_fn (P := P) (G := Gf fr) (N := 640) (d := d7) (gen := 1) (at1 := 9) (nb := (gs 0).1) (b := (gs 0).2) (o := .s 1) (c := 2) (su := 2) (dead := false) (cn := 3) (nl := fun i => (gs i).1) (nf := fun i => (gs i).2) (n := (59 : Nat)) (nn := 59) (m := 2) (r := false) hP rfl reg1 (by omega) rfl (by omega) (by decide) ⟨fun h => (by cases h), fun h => absurd h (by decide)⟩)
  obtain ⟨d8, at', e, hl⟩ := layIs_ex d7 2 2 6 7 (sealF 3 b3)
  have he : e = 0 := hl.run (nb := 3) ar7
  rcases lay_fn (N := 640) hP hfr rfl reg2 (nb := 3) (fun i _ => r3 i) rfl (by omega) (by decide) ok7 hl with ⟨e6, _⟩ | ⟨_, _, cL⟩
  · omega
  rw [show 2 + needN (3 + 4) = 3 by decide] at cL
  have cW := switch_ok (P := P) (N := 640) (s := 10) (h := 4) (gen := 1) (at1 := 9) (nb := (gs 0).1) (b := (gs 0).2) (o := .s 1) (c := 2) (su := 2) (cn := 3) (dead := false) (nl := fun i => (gs i).1) (nf := fun i => (gs i).2) (at2 := 3) (ml := m0) (mf := n0) hP rfl rfl (by omega) rfl (by omega) (by decide) (by omega) rfl cL
  rw [a1] at cB cA
  rw [a2] at cA cA2
  rw [a3] at cA2 cS cA3
  rw [a5] at cA3
  exact ⟨d1, d2, d3, d4, d5, _, d7, d8, m0, m1, m2, m3, n0, n1, n2, n3, _, nl, _, nf, _, _, cO, cB, cA, cA2, cS, cA3, cC, cO7, cN, ⟨by rw [hnl]; exact s10, by rw [hnl]; exact s20, fun x hx => by
    rw [hnf, s1.2 x (by rw [hm30.symm] at hx; exact hx)]
    show n3 0 x = _
    rw [hn3, if_pos (by omega), hn2, if_pos (by omega), hn1, if_neg (by omega)]⟩, cF, cW⟩
theorem three_bytes {n : Nat} {f : Nat → Int} {a b c : Nat} (hn : n = 3) (h0 : f 0 = (a : Int)) (h1 : f 1 = (b : Int)) (h2 : f 2 = (c : Int)) : Ar.real.eqL (Ar.real.bytes n f) [UInt8.ofNat a, UInt8.ofNat b, UInt8.ofNat c] = true := by
  subst hn
  show ([UInt8.ofNat (f 0).toNat, UInt8.ofNat (f 1).toNat, UInt8.ofNat (f 2).toNat] == [UInt8.ofNat a, UInt8.ofNat b, UInt8.ofNat c]) = true
  rw [h0, h1, h2]
  exact beq_self_eq_true _
theorem lives27_fn {P : Program} (hP : P = Tryd.prog) {fr : Nat → Int} (hfr : ∀ i, fr i = ((four i).toNat : Int)) : FnTr P (Gf fr) 21 [] [] 0 (Gives (.bl true) [] 1000) := by
  obtain ⟨z, hz⟩ : ∃ z : Nat → Int, ∀ x, z x = 0 := ⟨fun _ => 0, fun _ => rfl⟩
  obtain ⟨L0, hL0⟩ : ∃ L0 : Int → Option (Nat → Int), ∀ k, L0 k = none := ⟨fun _ => none, fun _ => rfl⟩
  obtain ⟨bb, hbb⟩ : ∃ bb : Nat → Int, ∀ i, bb i = ([98, 97, 115, 101] : List Int).getD i 0 := ⟨_, fun _ => rfl⟩
  obtain ⟨b1, hb1⟩ : ∃ b1 : Nat → Int, ∀ i, b1 i = ([111, 110, 101] : List Int).getD i 0 := ⟨_, fun _ => rfl⟩
  obtain ⟨b2, hb2⟩ : ∃ b2 : Nat → Int, ∀ i, b2 i = ([108, 111, 115, 116] : List Int).getD i 0 := ⟨_, fun _ => rfl⟩
  obtain ⟨b3, hb3⟩ : ∃ b3 : Nat → Int, ∀ i, b3 i = ([110, 101, 119] : List Int).getD i 0 := ⟨_, fun _ => rfl⟩
  obtain ⟨d1, d2, d3, d4, d5, d6, d7, d8, m0, m1, m2, m3, n0, n1, n2, n3, gl, nl, gf, nf, w0, wf, cO, cB, cA, cA2, cS, cA3, cC, cO7, cN, hN, cF, cW⟩ := lives27_facts (P := P) hP hfr (z := z) (bb := bb) (b1 := b1) (b2 := b2) (b3 := b3) hz hL0 (fun i => (by rw [hbb]; exact lit_byte _ (by decide) i)) (fun i => (by rw [hb1]; exact lit_byte _ (by decide) i)) (fun i => (by rw [hb2]; exact lit_byte _ (by decide) i)) (fun i => (by rw [hb3]; exact lit_byte _ (by decide) i))
  have c1 := new_ok (P := P) (G := Gf fr) (n := 10) (s := 10) (N := 640) (S := z) (L := L0) hP rfl (by omega) rfl hz hL0
  have reg2 : Reg 10 4 2 2 6 := ⟨by omega, rfl, by omega, rfl, rfl⟩
  have e1 := base_fn (P := P) (G := Gf fr) (N := 640) (gen := 2) (at1 := 3) (nb := 3) (b := b3) (o := .l 0) (c := 0) (su := 0) (cn := 0) (d := d8) (dead := false) (nl := m0) (nf := n0) hP (by omega)
  have e2 := notes_fn (P := P) (G := Gf fr) (N := 640) (gen := 2) (at1 := 3) (nb := 3) (b := b3) (o := .l 0) (c := 0) (su := 0) (cn := 0) (d := d8) (dead := false) (nl := m0) (nf := n0) (ml := m0) (mf := n0) hP (.inl rfl) rfl (by omega) (fun i hi => by omega) (fun i hi => by omega)
  have e3 := generation_fn (P := P) (G := Gf fr) (N := 640) (gen := 2) (at1 := 3) (nb := 3) (b := b3) (o := .l 0) (c := 0) (su := 0) (cn := 0) (d := d8) (dead := false) (nl := m0) (nf := n0) hP
  have e4 := room_fn (P := P) (G := Gf fr) (N := 640) (gen := 2) (at1 := 3) (nb := 3) (b := b3) (o := .l 0) (c := 0) (su := 0) (cn := 0) (d := d8) (dead := false) (nl := m0) (nf := n0) hP rfl reg2 (by omega)
  have e5 := sureof_fn (P := P) (G := Gf fr) (N := 640) (gen := 2) (at1 := 3) (nb := 3) (b := b3) (o := .l 0) (c := 0) (su := 0) (cn := 0) (d := d8) (dead := false) (nl := m0) (nf := n0) hP
  have e6 := fits_fn (P := P) (G := Gf fr) (N := 640) (gen := 2) (at1 := 3) (nb := 3) (b := b3) (o := .l 0) (c := 0) (su := 0) (cn := 0) (d := d8) (dead := false) (nl := m0) (nf := n0) (n := 58) (nn := 58) (m := 1) (r := true) hP rfl reg2 (by omega) rfl (by omega) (by decide) ⟨fun _ => by decide, fun _ => rfl⟩
  have e7 := sync_nil (P := P) (G := Gf fr) hP
  have hT : T.Ok P := hP ▸ T_ok
  refine jjI Tryd.f21 hT ?_
  generalize hA : Ar.real = A
  generalize hK : Gives _ _ _ = K
  cbv
  refine jjS hA (c1) [] ?_
  cbv
  refine jjS hA (cO) [(1, 0), (2, 1), (3, 2)] ?_
  cbv
  refine CS.frzA hA jjF ?_
  cbv
  refine CS.le hA (cB) [(1, 0), (2, 1), (3, 2)] rfl rfl rfl ?_ ?_ ?_
  iterate 2 ((try cbv) <;> (repeat' (first | exact trivial | exact rfl | apply And.intro | exact fun _ => rfl | (intro _ hle; first | refine chunk_le hA rfl hle rfl ?_ | refine cat_le hA ?_ | refine upd_le hA ?_ | (try cbv)))) <;> (try exact jjO) <;> (try first | exact (hbb _)))
  cbv
  refine CS.frzA hA jjF ?_
  cbv
  refine CS.le hA (cA) [(1, 0), (2, 1), (3, 2), (30, 3), (31, 4)] rfl rfl rfl ?_ ?_ ?_
  iterate 2 ((try cbv) <;> (repeat' (first | exact trivial | exact rfl | apply And.intro | exact fun _ => rfl | (intro _ hle; first | refine chunk_le hA rfl hle rfl ?_ | refine cat_le hA ?_ | refine upd_le hA ?_ | (try cbv)))) <;> (try exact jjO) <;> (try first | exact (hb1 _)))
  cbv
  refine jjS hA (cA2) [(1, 0), (2, 1), (3, 2), (30, 3), (9046, 4)] ?_
  cbv
  refine jjS hA (cS) [(1, 0), (2, 1), (3, 2), (30, 3), (12047, 4)] ?_
  cbv
  refine CS.frzA hA jjF ?_
  cbv
  refine CS.le hA (cA3) [(1, 0), (2, 1), (3, 2), (30, 3), (12047, 4)] rfl rfl rfl ?_ ?_ ?_
  iterate 2 ((try cbv) <;> (repeat' (first | exact trivial | exact rfl | apply And.intro | exact fun _ => rfl | (intro _ hle; first | refine chunk_le hA rfl hle rfl ?_ | refine cat_le hA ?_ | refine upd_le hA ?_ | (try cbv)))) <;> (try exact jjO) <;> (try first | exact (hb2 _)))
  cbv
  refine jjS hA (cC) [(1, 0), (2, 1), (3, 2)] ?_
  cbv
  refine jjS hA (cO7) [(1, 0), (2, 1), (3, 2)] ?_
  cbv
  refine CS.ren 30 [(18158, 30), (18159, 31)] rfl rfl ?_
  cbv
  refine jjT hA (cN) (.ro 1 (.l 2) (fun e => [.ro 1 (.s (nl e.val)) (fun x => [.int .u8 (nf e.val x.val)])])) [(1, 0), (2, 1), (3, 2), (30, 3), (31, 4)] ?_
  cbv
  refine ⟨⟨?_, ?_, ?_, ?_⟩, ?_⟩
  iterate 4 exact jjO
  refine CS.frzA hA jjF ?_
  cbv
  refine CS.le hA (cF) [(1, 0), (2, 1), (3, 2), (30, 3), (31, 4)] rfl rfl rfl ?_ ?_ ?_
  iterate 2 ((try cbv) <;> (repeat' (first | exact trivial | exact rfl | apply And.intro | exact fun _ => rfl | (intro _ hle; first | refine chunk_le hA rfl hle rfl ?_ | refine cat_le hA ?_ | refine upd_le hA ?_ | (try cbv)))) <;> (try exact jjO) <;> (try first | exact (hz _).symm))
  cbv
  refine CS.frzA hA jjF ?_
  cbv
  refine CS.le hA (cW) [(1, 0), (2, 1), (3, 2), (30, 3), (31, 4)] rfl rfl rfl ?_ ?_ ?_
  iterate 2 ((try cbv) <;> (repeat' (first | exact trivial | exact rfl | apply And.intro | exact fun _ => rfl | (intro _ hle; first | refine chunk_le hA rfl hle rfl ?_ | refine cat_le hA ?_ | refine upd_le hA ?_ | (try cbv)))) <;> (try exact jjO) <;> (try first | exact (hb3 _)))
  cbv
  refine ⟨fun e _ => rfl, ?_⟩
  have k1 : A.eqL (A.bytes (nl (NV.l 0).val) (byteAt fun x => [SV.int IntKind.u8 (nf (NV.l 0).val x.val)])) [111, 110, 101] = true := by
    subst hA
    exact three_bytes (a := 111) (b := 110) (c := 101) hN.1 (by show nf 0 0 = _; rw [hN.2.2 0 (by omega), hb1]; rfl) (by show nf 0 1 = _; rw [hN.2.2 1 (by omega), hb1]; rfl) (by show nf 0 2 = _; rw [hN.2.2 2 (by omega), hb1]; rfl)
  have k2 : A.eq (A.i2 (nl (NV.l 1).val)) 0 = true := by subst hA; show decide (((nl 1 : Nat) : Int) = 0) = true; rw [hN.2.1]; rfl
  first | refine testR k1 rfl ?_ | refine testL k1 rfl ?_
  cbv
  first | refine testR k2 rfl ?_ | refine testL k2 rfl ?_
  cbv
  refine CS.ren 30 [(30, 30), (3050, 31)] rfl rfl ?_
  cbv
  refine jjS hA (e1) [(1, 0), (2, 1), (3, 2), (30, 3), (31, 4)] ?_
  cbv
  have k3 : A.eqL (A.bytes 3 (byteAt fun e => [SV.int IntKind.u8 (b3 e.val)])) [110, 101, 119] = true := by
    subst hA
    exact three_bytes (a := 110) (b := 101) (c := 119) rfl (by show b3 0 = _; rw [hb3]; rfl) (by show b3 1 = _; rw [hb3]; rfl) (by show b3 2 = _; rw [hb3]; rfl)
  refine ⟨fun e _ => rfl, ?_⟩
  first | refine testR k3 rfl ?_ | refine testL k3 rfl ?_
  cbv
  refine jjT hA (e2) (.ro 1 (.l 0) (fun e => [.any])) [(1, 0), (2, 1), (3, 2), (30, 3), (31, 4)] ?_
  cbv
  refine jjT hA (e3) (.lit .i64 2) [(1, 0), (2, 1), (3, 2), (30, 3), (31, 4)] ?_
  cbv
  refine jjT hA (e4) (.lit .i64 3) [(1, 0), (2, 1), (3, 2), (30, 3), (31, 4)] ?_
  cbv
  refine jjT hA (e5) (.lit .i64 0) [(1, 0), (2, 1), (3, 2), (30, 3), (31, 4)] ?_
  cbv
  refine jjT hA (e6) (.bl true) [(1, 0), (2, 1), (3, 2), (30, 3), (31, 4)] ?_
  cbv
  refine jjT hA (e7) (.lit .i64 7) [] ?_
  cbv
  refine Fin.le hA 0 [] (.bl true) ([]) 1000 rfl rfl rfl ?_ ?_ jjK
  iterate 2 exact jjL
structure OpW where
  d : Int
  a : Int
  bn : Nat
  b : Nat → Int
  kn : Nat
  ks : Nat → Int
  kb : Nat → Int
abbrev opW (o : OpW) : List SV := [.int .i64 o.d, .int .i64 o.a, .ro 1 (.s o.bn) (fun x => [.int .u8 (o.b x.val)]), .ro 2 (.s o.kn) (fun x => [.int .i64 (o.ks x.val), .int .i64 (o.kb x.val)])]
abbrev OpsW (n : Nat) (l : Nat → OpW) : SV := .ro 4 (.s n) (fun e => opW (l e.val))
def LightW (n : Nat) (l : Nat → OpW) : Prop := n ≤ 40 ∧ ∀ i, i < n → (l i).bn ≤ 400 ∧ (l i).kn ≤ 60
theorem lightW_ex (n : Nat) (l : Nat → OpW) : ∃ r : Bool, r = true ↔ LightW n l := by
  by_cases h : LightW n l
  · exact ⟨true, fun _ => h, fun _ => rfl⟩
  · exact ⟨false, fun e => (by cases e), fun e => absurd e h⟩
theorem light27_fn {P : Program} {G : Gl} (hP : P = Tryd.prog) {n : Nat} {l : Nat → OpW} {r : Bool} (hn : n ≤ 9223372036854775807) (hl : ∀ i, i < n → (l i).bn ≤ 9223372036854775807 ∧ (l i).kn ≤ 9223372036854775807) (hr : r = true ↔ LightW n l) :
    FnTr P G 36 [OpsW n l] [] 0 (Gives (.bs r) [] 0) := by
  obtain ⟨bn, hbn⟩ : ∃ bn : Nat → Nat, ∀ i, bn i = (l i).bn := ⟨_, fun _ => rfl⟩
  obtain ⟨kn, hkn⟩ : ∃ kn : Nat → Nat, ∀ i, kn i = (l i).kn := ⟨_, fun _ => rfl⟩
  have hr1 : (¬ ∃ i, i < n ∧ (400 < bn i ∨ 60 < kn i)) → n ≤ 40 → r = true := fun h1 h2 => hr.2 ⟨h2, fun i hi => by
    rw [← hbn, ← hkn]
    refine ⟨?_, ?_⟩
    · exact Decidable.byContradiction fun h => h1 ⟨i, hi, .inl (by omega)⟩
    · exact Decidable.byContradiction fun h => h1 ⟨i, hi, .inr (by omega)⟩⟩
  have hr2 : ∀ i, i < n → (400 < bn i ∨ 60 < kn i) → r = false := fun i hi h => by
    cases r with
    | false => rfl
    | true =>
      have := (hr.1 rfl).2 i hi
      rw [← hbn, ← hkn] at this; omega
  have hr3 : 40 < n → r = false := fun h => by
    cases r with
    | false => rfl
    | true => have := (hr.1 rfl).1; omega
  clear hr
  have hT : T.Ok P := hP ▸ T_ok
  refine jjI Tryd.f36 hT ?_
  generalize hA : Ar.real = A
  generalize hK : Gives _ _ _ = K
  cbv
  refine LS.le hT hA 0 (fun (i : Nat) => [(3, .int .i64 (i : Int))]) (fun _ => []) (fun i => i ≤ n ∧ ∀ j, j < i → bn j ≤ 400 ∧ kn j ≤ 60) (fun i => n - i) 0 [] rfl rfl ?_ ?_ ?_
  · exact jjL
  · exact ⟨Nat.zero_le _, fun j hj => by omega⟩
  · intro R hR i hp
    cbv
    obtain ⟨h1, h2⟩ := hp
    refine ⟨fun h3 => ?_, fun h3 => ?_⟩
    · have hi : i < n := by clear hR hr1 hr2 hr3; subst hA; simp [Ar.real] at h3; omega
      have kn1 : A.nat (Int.ofNat i) = i := by clear hR; subst hA; rfl
      cbv
      refine ⟨jjO, ?_⟩
      by_cases q1 : 400 < bn i
      · have k1 : A.gt (A.i2 ((l (A.nat (Int.ofNat i))).bn)) 400 = true := by rw [kn1, ← hbn]; clear hR; subst hA; simp [Ar.real]; omega
        have hrf := hr2 i hi (.inl q1)
        clear hR hr1 hr2 hr3
        first | refine testR k1 rfl ?_ | refine testL k1 rfl ?_
        cbv
        refine Fin.le hA 0 [] (.bs r) ([]) 0 rfl rfl rfl ?_ ?_ jjK
        · (try cbv) <;> (repeat' (first | exact trivial | exact rfl | apply And.intro | exact fun _ => rfl | (intro _ hle; first | refine chunk_le hA rfl hle rfl ?_ | refine cat_le hA ?_ | refine upd_le hA ?_ | (try cbv))))
          exact hrf.symm
        · exact jjL
      · have k1 : A.gt (A.i2 ((l (A.nat (Int.ofNat i))).bn)) 400 = false := by rw [kn1, ← hbn]; clear hR; subst hA; simp [Ar.real]; omega
        by_cases q2 : 60 < kn i
        · have k2 : A.gt (A.i2 ((l (A.nat (Int.ofNat i))).kn)) 60 = true := by rw [kn1, ← hkn]; clear hR; subst hA; simp [Ar.real]; omega
          have hrf := hr2 i hi (.inr q2)
          clear hR hr1 hr2 hr3
          first | refine testR k1 rfl ?_ | refine testL k1 rfl ?_
          cbv
          refine ⟨jjO, ?_⟩
          first | refine testR k2 rfl ?_ | refine testL k2 rfl ?_
          cbv
          refine Fin.le hA 0 [] (.bs r) ([]) 0 rfl rfl rfl ?_ ?_ jjK
          · (try cbv) <;> (repeat' (first | exact trivial | exact rfl | apply And.intro | exact fun _ => rfl | (intro _ hle; first | refine chunk_le hA rfl hle rfl ?_ | refine cat_le hA ?_ | refine upd_le hA ?_ | (try cbv))))
            exact hrf.symm
          · exact jjL
        · have k2 : A.gt (A.i2 ((l (A.nat (Int.ofNat i))).kn)) 60 = false := by rw [kn1, ← hkn]; clear hR; subst hA; simp [Ar.real]; omega
          first | refine testR k1 rfl ?_ | refine testL k1 rfl ?_
          cbv
          refine ⟨jjO, ?_⟩
          first | refine testR k2 rfl ?_ | refine testL k2 rfl ?_
          cbv
          refine ⟨jjO, hR _ _ ⟨i + 1, 0, [], rfl, rfl, ?_, ⟨hi, fun j hj => ?_⟩, (by show n - (i + 1) < n - i; omega)⟩⟩
          · clear hR
            (try cbv) <;> (repeat' (first | exact trivial | exact rfl | apply And.intro | exact fun _ => rfl | (intro _ hle; first | refine chunk_le hA rfl hle rfl ?_ | refine cat_le hA ?_ | refine upd_le hA ?_ | (try cbv))))
            exact jjO
          · rcases Nat.lt_or_ge j i with e | e
            · exact h2 j e
            · rw [show j = i by omega]; omega
    · have hi : i = n := by clear hR hr1 hr2 hr3; subst hA; simp [Ar.real] at h3; omega
      subst hi
      clear hR
      have hno : ¬ ∃ j, j < i ∧ (400 < bn j ∨ 60 < kn j) := fun ⟨j, a, b⟩ => by have := h2 j a; omega
      by_cases q : i ≤ 40
      · have hrt := hr1 hno q
        clear hr1 hr2 hr3
        cbv
        refine Fin.le hA 0 [] (.bs r) ([]) 0 rfl rfl rfl ?_ ?_ jjK
        · (try cbv) <;> (repeat' (first | exact trivial | exact rfl | apply And.intro | exact fun _ => rfl | (intro _ hle; first | refine chunk_le hA rfl hle rfl ?_ | refine cat_le hA ?_ | refine upd_le hA ?_ | (try cbv))))
          subst hA; rw [hrt]; simp [Ar.real]; omega
        · exact jjL
      · have hrf := hr3 (by omega)
        clear hr1 hr2 hr3
        cbv
        refine Fin.le hA 0 [] (.bs r) ([]) 0 rfl rfl rfl ?_ ?_ jjK
        · (try cbv) <;> (repeat' (first | exact trivial | exact rfl | apply And.intro | exact fun _ => rfl | (intro _ hle; first | refine chunk_le hA rfl hle rfl ?_ | refine cat_le hA ?_ | refine upd_le hA ?_ | (try cbv))))
          subst hA; rw [hrf]; simp [Ar.real]; omega
        · exact jjL
open Go.DskLaw (q64 secV isB needN pcs wipeP)
theorem FnTr.num {P : Program} {G : Gl} {f : Nat} {args : List SV} {H H' : Hl} {k n' : Nat} {kd : IntKind} {x : Int} (h : FnTr P G f args H k (Gives (.lit kd x) H' n')) : FnTr P G f args H k (Gives (.int kd x) H' n') where
  ent := h.ent
  out := fun cx I β w cargs a b c d e => (h.out cx I β w cargs a b c d e).mono fun e w' ⟨v, r, H', n', I', β', h1, h2, h3, h4⟩ => by
    obtain ⟨rfl, rfl, rfl⟩ := h2
    refine ⟨v, _, _, _, I', β', h1, ⟨rfl, rfl, rfl⟩, h3, ?_⟩
    cases h4
    exact .int _ _
section
variable {P : Program} {G : Gl} {s N gen at1 nb gen2 at2 nb2 bn bn2 kc kc2 bb cp c c2 su su2 cn cn2 n kn : Nat} {d d1 d2 : Dk} {R1 : Nat → Nat → Int} {W1 : Nat → Bool} {RS RL RS' RL' : Nat → Nat → Int} {W W' : Nat → Bool} {cc cc' act num er : Int} {b b2 bd bd2 f ks kb : Nat → Int} {nl nl2 gl gl2 : Nat → Nat} {nf nf2 gf gf2 : Nat → Nat → Int} {dead dead2 : Bool} {o o2 : NV} {vv : Value}
abbrev LgM (p q N : Nat) (d : Dk) (gen at' bn : Nat) (b : Nat → Int) (o : NV) (c su : Nat) (dead : Bool) (cn : Nat) (nl : Nat → Nat) (nf : Nat → Nat → Int) : Hl :=
  (p, .cells 94 [.ptr 0 0, .int .i64 (gen : Int), .int .i64 (at' : Int), By bn b, .sl q 1 o (.s c), .int .i64 (su : Int), .bs dead]) :: (q, LgR cn nl nf) :: DHd N d
abbrev OpS (act num : Int) (n : Nat) (f : Nat → Int) (kn : Nat) (ks kb : Nat → Int) : SV := .agg [.int .i64 act, .int .i64 num, By n f, .ro 2 (.s kn) (fun x => [.int .i64 (ks x.val), .int .i64 (kb x.val)])]
theorem do_note (hP : P = Tryd.prog) (ha : act = 0)
    (cR : FnTr P G 74 [RLg s RS RL W cc gen at1 bn bd kc nl nf su dead, By n f] [] 0 (Gives (.tup [RLg s RS' RL' W' cc' gen2 at2 bn2 bd2 kc2 nl2 nf2 su2 dead2, .int .i64 er]) [] 2000))
    (cA : FnTr P G 26 [.ptr 3 0, By n f] (LgH N d gen at1 nb b o c su dead cn gl gf) 5 (Gives (.int .i64 er) (LgH N d1 gen2 at2 nb2 b2 o2 c2 su2 dead2 cn2 gl2 gf2) 3000)) :
    FnTr P G 43 [.ptr 0 0, .ptr 3 0, RLg s RS RL W cc gen at1 bn bd kc nl nf su dead, OpS act num n f kn ks kb] (LgH N d gen at1 nb b o c su dead cn gl gf) 5 (Gives (.tup [.ptr 3 0, RLg s RS' RL' W' cc' gen2 at2 bn2 bd2 kc2 nl2 nf2 su2 dead2, .bl true]) (LgH N d1 gen2 at2 nb2 b2 o2 c2 su2 dead2 cn2 gl2 gf2) 10) := by
  have hT : T.Ok P := hP ▸ T_ok
  refine jjI Tryd.f43 hT ?_
  generalize hA : Ar.real = A
  generalize hK : Gives _ _ _ = K
  cbv
  have k1 : A.eq act 0 = true := by clear cR cA; subst hA; simpa [Ar.real] using ha
  have k2 : A.eq er er = true := by clear cR cA; subst hA; simp [Ar.real]
  first | refine testR k1 rfl ?_ | refine testL k1 rfl ?_
  cbv
  refine jjS hA (cR) [] ?_
  cbv
  refine jjR hA hT 3100 ?_
  cbv
  refine jjP hA (cA) [(0, 0), (1, 1), (2, 2), (3, 3), (4, 4)] ?_
  cbv
  refine jjD ?_
  cbv
  refine Fin.le hA 5 [] (.tup [.ptr 3 0, RLg s RS' RL' W' cc' gen2 at2 bn2 bd2 kc2 nl2 nf2 su2 dead2, .bl true]) (LgH N d1 gen2 at2 nb2 b2 o2 c2 su2 dead2 cn2 gl2 gf2) 10 rfl rfl rfl ?_ ?_ jjK
  · (try cbv) <;> (repeat' (first | exact trivial | exact rfl | apply And.intro | exact fun _ => rfl | (intro _ hle; first | refine chunk_le hA rfl hle rfl ?_ | refine cat_le hA ?_ | refine upd_le hA ?_ | (try cbv))))
    all_goals first | exact k2 | trace_state
  · exact jjL
theorem do_noteN (hP : P = Tryd.prog) (ha : act = 0)
    (cR : FnTr P G 74 [RLg s RS RL W cc gen at1 bn bd kc nl nf su dead, By n f] [] 0 (Gives (.tup [RLg s RS' RL' W' cc' gen2 at2 bn2 bd2 kc2 nl2 nf2 su2 dead2, .int .i64 er]) [] 2000))
    (cA : FnTr P G 26 [.ptr 3 0, By n f] (LgN .nils N d gen at1 nb b su dead) 4 (Gives (.int .i64 er) (LgQ 5 N d1 gen2 at2 nb2 b2 o2 c2 su2 dead2 cn2 gl2 gf2) 3000)) :
    FnTr P G 43 [.ptr 0 0, .ptr 3 0, RLg s RS RL W cc gen at1 bn bd kc nl nf su dead, OpS act num n f kn ks kb] (LgN .nils N d gen at1 nb b su dead) 4 (Gives (.tup [.ptr 3 0, RLg s RS' RL' W' cc' gen2 at2 bn2 bd2 kc2 nl2 nf2 su2 dead2, .bl true]) (LgQ 5 N d1 gen2 at2 nb2 b2 o2 c2 su2 dead2 cn2 gl2 gf2) 10) := by
  have hT : T.Ok P := hP ▸ T_ok
  refine jjI Tryd.f43 hT ?_
  generalize hA : Ar.real = A
  generalize hK : Gives _ _ _ = K
  cbv
  have k1 : A.eq act 0 = true := by clear cR cA; subst hA; simpa [Ar.real] using ha
  have k2 : A.eq er er = true := by clear cR cA; subst hA; simp [Ar.real]
  first | refine testR k1 rfl ?_ | refine testL k1 rfl ?_
  cbv
  refine jjS hA (cR) [] ?_
  cbv
  refine jjR hA hT 3100 ?_
  cbv
  refine jjP hA (cA) [(0, 0), (1, 1), (2, 2), (3, 3)] ?_
  cbv
  refine jjD ?_
  cbv
  refine Fin.le hA 5 [(17527, 5)] (.tup [.ptr 3 0, RLg s RS' RL' W' cc' gen2 at2 bn2 bd2 kc2 nl2 nf2 su2 dead2, .bl true]) (LgQ 5 N d1 gen2 at2 nb2 b2 o2 c2 su2 dead2 cn2 gl2 gf2) 10 rfl rfl rfl ?_ ?_ jjK
  · (try cbv) <;> (repeat' (first | exact trivial | exact rfl | apply And.intro | exact fun _ => rfl | (intro _ hle; first | refine chunk_le hA rfl hle rfl ?_ | refine cat_le hA ?_ | refine upd_le hA ?_ | (try cbv))))
    all_goals first | exact k2 | trace_state
  · exact jjL
theorem do_noteC (hP : P = Tryd.prog) (ha : act = 0)
    (cR : FnTr P G 74 [RLg s RS RL W cc gen at1 bn bd kc nl nf su dead, By n f] [] 0 (Gives (.tup [RLg s RS' RL' W' cc' gen2 at2 bn2 bd2 kc2 nl2 nf2 su2 dead2, .int .i64 er]) [] 2000))
    (cA : FnTr P G 26 [.ptr 3 0, By n f] ((4, LgRc cn bb cp gl gf) :: LgN (.con vv) N d gen at1 nb b su dead) 5 (Gives (.int .i64 er) (LgQ 5 N d1 gen2 at2 nb2 b2 o2 c2 su2 dead2 cn2 gl2 gf2) 3000)) :
    FnTr P G 43 [.ptr 0 0, .ptr 3 0, RLg s RS RL W cc gen at1 bn bd kc nl nf su dead, OpS act num n f kn ks kb] ((4, LgRc cn bb cp gl gf) :: LgN (.con vv) N d gen at1 nb b su dead) 5 (Gives (.tup [.ptr 3 0, RLg s RS' RL' W' cc' gen2 at2 bn2 bd2 kc2 nl2 nf2 su2 dead2, .bl true]) (LgQ 5 N d1 gen2 at2 nb2 b2 o2 c2 su2 dead2 cn2 gl2 gf2) 10) := by
  have hT : T.Ok P := hP ▸ T_ok
  refine jjI Tryd.f43 hT ?_
  generalize hA : Ar.real = A
  generalize hK : Gives _ _ _ = K
  cbv
  have k1 : A.eq act 0 = true := by clear cR cA; subst hA; simpa [Ar.real] using ha
  have k2 : A.eq er er = true := by clear cR cA; subst hA; simp [Ar.real]
  first | refine testR k1 rfl ?_ | refine testL k1 rfl ?_
  cbv
  refine jjS hA (cR) [] ?_
  cbv
  refine jjR hA hT 3100 ?_
  cbv
  refine jjP hA (cA) [(0, 0), (1, 1), (2, 2), (3, 3), (4, 4)] ?_
  cbv
  refine jjD ?_
  cbv
  refine Fin.le hA 5 [(17528, 5)] (.tup [.ptr 3 0, RLg s RS' RL' W' cc' gen2 at2 bn2 bd2 kc2 nl2 nf2 su2 dead2, .bl true]) (LgQ 5 N d1 gen2 at2 nb2 b2 o2 c2 su2 dead2 cn2 gl2 gf2) 10 rfl rfl rfl ?_ ?_ jjK
  · (try cbv) <;> (repeat' (first | exact trivial | exact rfl | apply And.intro | exact fun _ => rfl | (intro _ hle; first | refine chunk_le hA rfl hle rfl ?_ | refine cat_le hA ?_ | refine upd_le hA ?_ | (try cbv))))
    all_goals first | exact k2 | trace_state
  · exact jjL
theorem do_sync (hP : P = Tryd.prog) (ha : act = 1)
    (cR : FnTr P G 75 [RLg s RS RL W cc gen at1 bn bd kc nl nf su dead] [] 0 (Gives (.tup [RLg s RS' RL' W' cc' gen2 at2 bn2 bd2 kc2 nl2 nf2 su2 dead2, .int .i64 er]) [] 400))
    (cA : FnTr P G 28 [.ptr 3 0] (LgH N d gen at1 nb b o c su dead cn gl gf) 5 (Gives (.int .i64 er) (LgH N d1 gen2 at2 nb2 b2 o2 c2 su2 dead2 cn2 gl2 gf2) 100)) :
    FnTr P G 43 [.ptr 0 0, .ptr 3 0, RLg s RS RL W cc gen at1 bn bd kc nl nf su dead, OpS act num n f kn ks kb] (LgH N d gen at1 nb b o c su dead cn gl gf) 5 (Gives (.tup [.ptr 3 0, RLg s RS' RL' W' cc' gen2 at2 bn2 bd2 kc2 nl2 nf2 su2 dead2, .bl true]) (LgH N d1 gen2 at2 nb2 b2 o2 c2 su2 dead2 cn2 gl2 gf2) 10) := by
  have hT : T.Ok P := hP ▸ T_ok
  refine jjI Tryd.f43 hT ?_
  generalize hA : Ar.real = A
  generalize hK : Gives _ _ _ = K
  cbv
  have z0 : A.eq act 0 = false := by clear cR cA; subst hA; simp [Ar.real]; omega
  have k1 : A.eq act 1 = true := by clear cR cA; subst hA; simpa [Ar.real] using ha
  have k2 : A.eq er er = true := by clear cR cA; subst hA; simp [Ar.real]
  first | refine testR z0 rfl ?_ | refine testL z0 rfl ?_
  cbv
  first | refine testR k1 rfl ?_ | refine testL k1 rfl ?_
  cbv
  refine jjS hA (cR) [] ?_
  cbv
  refine jjR hA hT 200 ?_
  cbv
  refine jjP hA (cA) [(0, 0), (1, 1), (2, 2), (3, 3), (4, 4)] ?_
  cbv
  refine jjD ?_
  cbv
  refine Fin.le hA 5 [] (.tup [.ptr 3 0, RLg s RS' RL' W' cc' gen2 at2 bn2 bd2 kc2 nl2 nf2 su2 dead2, .bl true]) (LgH N d1 gen2 at2 nb2 b2 o2 c2 su2 dead2 cn2 gl2 gf2) 10 rfl rfl rfl ?_ ?_ jjK
  · (try cbv) <;> (repeat' (first | exact trivial | exact rfl | apply And.intro | exact fun _ => rfl | (intro _ hle; first | refine chunk_le hA rfl hle rfl ?_ | refine cat_le hA ?_ | refine upd_le hA ?_ | (try cbv))))
    all_goals first | exact k2 | trace_state
  · exact jjL
theorem do_switch3 (hP : P = Tryd.prog) (ha : act = 2)
    (cR : FnTr P G 76 [RLg s RS RL W cc gen at1 bn bd kc nl nf su dead, By n f] [] 0 (Gives (.tup [RLg s RS' RL' W' cc' gen2 at2 bn2 bd2 kc2 nl2 nf2 su2 dead2, .int .i64 er]) [] 20000))
    (cA : FnTr P G 38 [.ptr 3 0, By n f] (LgH N d gen at1 nb b o c su dead cn gl gf) 5 (Gives (.int .i64 er) (LgH N d1 gen2 at2 nb2 b2 o2 c2 su2 dead2 cn2 gl2 gf2) 3000)) :
    FnTr P G 43 [.ptr 0 0, .ptr 3 0, RLg s RS RL W cc gen at1 bn bd kc nl nf su dead, OpS act num n f kn ks kb] (LgH N d gen at1 nb b o c su dead cn gl gf) 5 (Gives (.tup [.ptr 3 0, RLg s RS' RL' W' cc' gen2 at2 bn2 bd2 kc2 nl2 nf2 su2 dead2, .bl true]) (LgH N d1 gen2 at2 nb2 b2 o2 c2 su2 dead2 cn2 gl2 gf2) 10) := by
  have hT : T.Ok P := hP ▸ T_ok
  refine jjI Tryd.f43 hT ?_
  generalize hA : Ar.real = A
  generalize hK : Gives _ _ _ = K
  cbv
  have z0 : A.eq act 0 = false := by clear cR cA; subst hA; simp [Ar.real]; omega
  have z1 : A.eq act 1 = false := by clear cR cA; subst hA; simp [Ar.real]; omega
  have k1 : A.eq act 2 = true := by clear cR cA; subst hA; simpa [Ar.real] using ha
  have k2 : A.eq er er = true := by clear cR cA; subst hA; simp [Ar.real]
  first | refine testR z0 rfl ?_ | refine testL z0 rfl ?_
  cbv
  first | refine testR z1 rfl ?_ | refine testL z1 rfl ?_
  cbv
  first | refine testR k1 rfl ?_ | refine testL k1 rfl ?_
  cbv
  refine jjS hA (cR) [] ?_
  cbv
  refine jjR hA hT 3100 ?_
  cbv
  refine jjP hA (cA) [(0, 0), (1, 1), (2, 2), (3, 3), (4, 4)] ?_
  cbv
  refine jjD ?_
  cbv
  refine Fin.le hA 5 [] (.tup [.ptr 3 0, RLg s RS' RL' W' cc' gen2 at2 bn2 bd2 kc2 nl2 nf2 su2 dead2, .bl true]) (LgH N d1 gen2 at2 nb2 b2 o2 c2 su2 dead2 cn2 gl2 gf2) 10 rfl rfl rfl ?_ ?_ jjK
  · (try cbv) <;> (repeat' (first | exact trivial | exact rfl | apply And.intro | exact fun _ => rfl | (intro _ hle; first | refine chunk_le hA rfl hle rfl ?_ | refine cat_le hA ?_ | refine upd_le hA ?_ | (try cbv))))
    all_goals first | exact k2 | trace_state
  · exact jjL
theorem do_switch (hP : P = Tryd.prog) (ha : act = 2)
    (cR : FnTr P G 76 [RLg s RS RL W cc gen at1 bn bd kc nl nf su dead, By n f] [] 0 (Gives (.tup [RLg s RS' RL' W' cc' gen2 at2 bn2 bd2 kc2 nl2 nf2 su2 dead2, .int .i64 er]) [] 20000))
    (cA : FnTr P G 38 [.ptr 3 0, By n f] (LgH N d gen at1 nb b o c su dead cn gl gf) 5 (Gives (.int .i64 er) (LgH N d1 gen2 at2 nb2 b2 o2 c2 su2 dead2 cn2 gl2 gf2) 5000)) :
    FnTr P G 43 [.ptr 0 0, .ptr 3 0, RLg s RS RL W cc gen at1 bn bd kc nl nf su dead, OpS act num n f kn ks kb] (LgH N d gen at1 nb b o c su dead cn gl gf) 5 (Gives (.tup [.ptr 3 0, RLg s RS' RL' W' cc' gen2 at2 bn2 bd2 kc2 nl2 nf2 su2 dead2, .bl true]) (LgH N d1 gen2 at2 nb2 b2 o2 c2 su2 dead2 cn2 gl2 gf2) 10) := by
  have hT : T.Ok P := hP ▸ T_ok
  refine jjI Tryd.f43 hT ?_
  generalize hA : Ar.real = A
  generalize hK : Gives _ _ _ = K
  cbv
  have z0 : A.eq act 0 = false := by clear cR cA; subst hA; simp [Ar.real]; omega
  have z1 : A.eq act 1 = false := by clear cR cA; subst hA; simp [Ar.real]; omega
  have k1 : A.eq act 2 = true := by clear cR cA; subst hA; simpa [Ar.real] using ha
  have k2 : A.eq er er = true := by clear cR cA; subst hA; simp [Ar.real]
  first | refine testR z0 rfl ?_ | refine testL z0 rfl ?_
  cbv
  first | refine testR z1 rfl ?_ | refine testL z1 rfl ?_
  cbv
  first | refine testR k1 rfl ?_ | refine testL k1 rfl ?_
  cbv
  refine jjS hA (cR) [] ?_
  cbv
  refine jjR hA hT 5100 ?_
  cbv
  refine jjP hA (cA) [(0, 0), (1, 1), (2, 2), (3, 3), (4, 4)] ?_
  cbv
  refine jjD ?_
  cbv
  refine Fin.le hA 5 [] (.tup [.ptr 3 0, RLg s RS' RL' W' cc' gen2 at2 bn2 bd2 kc2 nl2 nf2 su2 dead2, .bl true]) (LgH N d1 gen2 at2 nb2 b2 o2 c2 su2 dead2 cn2 gl2 gf2) 10 rfl rfl rfl ?_ ?_ jjK
  · (try cbv) <;> (repeat' (first | exact trivial | exact rfl | apply And.intro | exact fun _ => rfl | (intro _ hle; first | refine chunk_le hA rfl hle rfl ?_ | refine cat_le hA ?_ | refine upd_le hA ?_ | (try cbv))))
    all_goals first | exact k2 | trace_state
  · exact jjL
theorem do_switchQ (hP : P = Tryd.prog) (ha : act = 2)
    (cR : FnTr P G 76 [RLg s RS RL W cc gen at1 bn bd kc nl nf su dead, By n f] [] 0 (Gives (.tup [RLg s RS' RL' W' cc' gen2 at2 bn2 bd2 kc2 nl2 nf2 su2 dead2, .int .i64 er]) [] 20000))
    (cA : FnTr P G 38 [.ptr 3 0, By n f] (LgH N d gen at1 nb b o c su dead cn gl gf) 5 (Gives (.int .i64 er) (LgQ 5 N d1 gen2 at2 nb2 b2 o2 c2 su2 dead2 cn2 gl2 gf2) 5000)) :
    FnTr P G 43 [.ptr 0 0, .ptr 3 0, RLg s RS RL W cc gen at1 bn bd kc nl nf su dead, OpS act num n f kn ks kb] (LgH N d gen at1 nb b o c su dead cn gl gf) 5 (Gives (.tup [.ptr 3 0, RLg s RS' RL' W' cc' gen2 at2 bn2 bd2 kc2 nl2 nf2 su2 dead2, .bl true]) (LgQ 5 N d1 gen2 at2 nb2 b2 o2 c2 su2 dead2 cn2 gl2 gf2) 10) := by
  have hT : T.Ok P := hP ▸ T_ok
  refine jjI Tryd.f43 hT ?_
  generalize hA : Ar.real = A
  generalize hK : Gives _ _ _ = K
  cbv
  have z0 : A.eq act 0 = false := by clear cR cA; subst hA; simp [Ar.real]; omega
  have z1 : A.eq act 1 = false := by clear cR cA; subst hA; simp [Ar.real]; omega
  have k1 : A.eq act 2 = true := by clear cR cA; subst hA; simpa [Ar.real] using ha
  have k2 : A.eq er er = true := by clear cR cA; subst hA; simp [Ar.real]
  first | refine testR z0 rfl ?_ | refine testL z0 rfl ?_
  cbv
  first | refine testR z1 rfl ?_ | refine testL z1 rfl ?_
  cbv
  first | refine testR k1 rfl ?_ | refine testL k1 rfl ?_
  cbv
  refine jjS hA (cR) [] ?_
  cbv
  refine jjR hA hT 5100 ?_
  cbv
  refine jjP hA (cA) [(0, 0), (1, 1), (2, 2), (3, 3), (4, 4)] ?_
  cbv
  refine jjD ?_
  cbv
  refine Fin.le hA 5 [(45532, 5)] (.tup [.ptr 3 0, RLg s RS' RL' W' cc' gen2 at2 bn2 bd2 kc2 nl2 nf2 su2 dead2, .bl true]) (LgQ 5 N d1 gen2 at2 nb2 b2 o2 c2 su2 dead2 cn2 gl2 gf2) 10 rfl rfl rfl ?_ ?_ jjK
  · (try cbv) <;> (repeat' (first | exact trivial | exact rfl | apply And.intro | exact fun _ => rfl | (intro _ hle; first | refine chunk_le hA rfl hle rfl ?_ | refine cat_le hA ?_ | refine upd_le hA ?_ | (try cbv))))
    all_goals first | exact k2 | trace_state
  · exact jjL
theorem do_stop (hP : P = Tryd.prog) (ha : act = 3)
    (cR : FnTr P G 77 [RD s RS RL W cc, .int .i64 num] [] 0 (Gives (RD s RS RL W cc') [] 20))
    (cA : FnTr P G 37 [.ptr 0 0, .int .i64 num] (DHd N d) 3 (Gives (.tup []) (DHd N d1) 3)) :
    FnTr P G 43 [.ptr 0 0, .ptr 3 0, RLg s RS RL W cc gen at1 bn bd kc nl nf su dead, OpS act num n f kn ks kb] (LgH N d gen at1 nb b o c su dead cn gl gf) 5 (Gives (.tup [.ptr 3 0, RLg s RS RL W cc' gen at1 bn bd kc nl nf su dead, .bl true]) (LgH N d1 gen at1 nb b o c su dead cn gl gf) 10) := by
  have hT : T.Ok P := hP ▸ T_ok
  refine jjI Tryd.f43 hT ?_
  generalize hA : Ar.real = A
  generalize hK : Gives _ _ _ = K
  cbv
  have z0 : A.eq act 0 = false := by clear cR cA; subst hA; simp [Ar.real]; omega
  have z1 : A.eq act 1 = false := by clear cR cA; subst hA; simp [Ar.real]; omega
  have z2 : A.eq act 2 = false := by clear cR cA; subst hA; simp [Ar.real]; omega
  have k1 : A.eq act 3 = true := by clear cR cA; subst hA; simpa [Ar.real] using ha
  first | refine testR z0 rfl ?_ | refine testL z0 rfl ?_
  cbv
  first | refine testR z1 rfl ?_ | refine testL z1 rfl ?_
  cbv
  first | refine testR z2 rfl ?_ | refine testL z2 rfl ?_
  cbv
  first | refine testR k1 rfl ?_ | refine testL k1 rfl ?_
  cbv
  refine jjS hA (cA) [(0, 0), (1, 1), (2, 2)] ?_
  cbv
  refine jjS hA (cR) [] ?_
  cbv
  refine jjR hA hT 100 ?_
  cbv
  refine jjD ?_
  cbv
  refine Fin.le hA 5 [] (.tup [.ptr 3 0, RLg s RS RL W cc' gen at1 bn bd kc nl nf su dead, .bl true]) (LgH N d1 gen at1 nb b o c su dead cn gl gf) 10 rfl rfl rfl ?_ ?_ jjK
  iterate 2 exact jjL
theorem do_fits (hP : P = Tryd.prog) {r : Bool} (ha : act < 0 ∨ 5 < act)
    (cR : FnTr P G 80 [RLg s RS RL W cc gen at1 bn bd kc nl nf su dead, .int .i64 num] [] 0 (Gives (.bs r) [] 10))
    (cA : FnTr P G 53 [.ptr 3 0, .int .i64 num] (LgH N d gen at1 nb b o c su dead cn gl gf) 5 (Gives (.bs r) (LgH N d gen at1 nb b o c su dead cn gl gf) 200)) :
    FnTr P G 43 [.ptr 0 0, .ptr 3 0, RLg s RS RL W cc gen at1 bn bd kc nl nf su dead, OpS act num n f kn ks kb] (LgH N d gen at1 nb b o c su dead cn gl gf) 5 (Gives (.tup [.ptr 3 0, RLg s RS RL W cc gen at1 bn bd kc nl nf su dead, .bl true]) (LgH N d gen at1 nb b o c su dead cn gl gf) 10) := by
  have hT : T.Ok P := hP ▸ T_ok
  refine jjI Tryd.f43 hT ?_
  generalize hA : Ar.real = A
  generalize hK : Gives _ _ _ = K
  cbv
  have z0 : A.eq act 0 = false := by clear cR cA; subst hA; simp [Ar.real]; omega
  have z1 : A.eq act 1 = false := by clear cR cA; subst hA; simp [Ar.real]; omega
  have z2 : A.eq act 2 = false := by clear cR cA; subst hA; simp [Ar.real]; omega
  have z3 : A.eq act 3 = false := by clear cR cA; subst hA; simp [Ar.real]; omega
  have z4 : A.eq act 4 = false := by clear cR cA; subst hA; simp [Ar.real]; omega
  have z5 : A.eq act 5 = false := by clear cR cA; subst hA; simp [Ar.real]; omega
  first | refine testR z0 rfl ?_ | refine testL z0 rfl ?_
  cbv
  first | refine testR z1 rfl ?_ | refine testL z1 rfl ?_
  cbv
  first | refine testR z2 rfl ?_ | refine testL z2 rfl ?_
  cbv
  first | refine testR z3 rfl ?_ | refine testL z3 rfl ?_
  cbv
  first | refine testR z4 rfl ?_ | refine testL z4 rfl ?_
  cbv
  first | refine testR z5 rfl ?_ | refine testL z5 rfl ?_
  cbv
  refine jjR hA hT 300 ?_
  cbv
  refine jjP hA (cA) [(0, 0), (1, 1), (2, 2), (3, 3), (4, 4)] ?_
  cbv
  refine jjP hA (cR) [] ?_
  cbv
  refine jjD ?_
  cbv
  refine Fin.le hA 5 [] (.tup [.ptr 3 0, RLg s RS RL W cc gen at1 bn bd kc nl nf su dead, .bl true]) (LgH N d gen at1 nb b o c su dead cn gl gf) 10 rfl rfl rfl ?_ ?_ jjK
  · (try cbv) <;> (repeat' (first | exact trivial | exact rfl | apply And.intro | exact fun _ => rfl | (intro _ hle; first | refine chunk_le hA rfl hle rfl ?_ | refine cat_le hA ?_ | refine upd_le hA ?_ | (try cbv))))
    all_goals first | (subst hA; simp [Ar.real]; done) | (subst hA; cases r <;> rfl) | trace_state
  · exact jjL
theorem do_open (hP : P = Tryd.prog) (ha : act = 4)
    (cR : FnTr P G 78 [RD s RS RL W cc, .ro 2 (.s kn) (fun x => [.int .i64 (ks x.val), .int .i64 (kb x.val)])] [] 0 (Gives (RD s R1 R1 W1 (-1)) [] 400))
    (cA : FnTr P G 40 [.ptr 0 0, .ro 2 (.s kn) (fun x => [.int .i64 (ks x.val), .int .i64 (kb x.val)])] (DHd N d) 3 (Gives (.tup []) (DHd N d1) 3))
    (cO : FnTr P G 79 [RD s R1 R1 W1 (-1)] [] 0 (Gives (.tup [RLg s RS' RL' W' cc' gen2 at2 bn2 bd2 kc2 nl2 nf2 su2 dead2, .lit .i64 0]) [] 5000))
    (cP : FnTr P G 32 [.ptr 0 0] (DHd N d1) 3 (Gives (.tup [.ptr 3 0, .lit .i64 0]) (LgH N d2 gen2 at2 nb2 b2 o2 c2 su2 dead2 cn2 gl2 gf2) 100)) :
    FnTr P G 43 [.ptr 0 0, .ptr 3 0, RLg s RS RL W cc gen at1 bn bd kc nl nf su dead, OpS act num n f kn ks kb] (LgH N d gen at1 nb b o c su dead cn gl gf) 5 (Gives (.tup [.ptr 5 0, RLg s RS' RL' W' cc' gen2 at2 bn2 bd2 kc2 nl2 nf2 su2 dead2, .bl true]) (LgM 5 6 N d2 gen2 at2 nb2 b2 o2 c2 su2 dead2 cn2 gl2 gf2) 10) := by
  have hT : T.Ok P := hP ▸ T_ok
  refine jjI Tryd.f43 hT ?_
  generalize hA : Ar.real = A
  generalize hK : Gives _ _ _ = K
  cbv
  have z0 : A.eq act 0 = false := by clear cR cA cO cP; subst hA; simp [Ar.real]; omega
  have z1 : A.eq act 1 = false := by clear cR cA cO cP; subst hA; simp [Ar.real]; omega
  have z2 : A.eq act 2 = false := by clear cR cA cO cP; subst hA; simp [Ar.real]; omega
  have z3 : A.eq act 3 = false := by clear cR cA cO cP; subst hA; simp [Ar.real]; omega
  have k1 : A.eq act 4 = true := by clear cR cA cO cP; subst hA; simpa [Ar.real] using ha
  first | refine testR z0 rfl ?_ | refine testL z0 rfl ?_
  cbv
  first | refine testR z1 rfl ?_ | refine testL z1 rfl ?_
  cbv
  first | refine testR z2 rfl ?_ | refine testL z2 rfl ?_
  cbv
  first | refine testR z3 rfl ?_ | refine testL z3 rfl ?_
  cbv
  first | refine testR k1 rfl ?_ | refine testL k1 rfl ?_
  cbv
  first | refine testR k1 rfl ?_ | refine testL k1 rfl ?_
  cbv
  refine jjS hA (cA) [(0, 0), (1, 1), (2, 2)] ?_
  cbv
  refine jjS hA (cR) [] ?_
  cbv
  first | refine testR k1 rfl ?_ | refine testL k1 rfl ?_
  cbv
  refine jjS hA (cO) [] ?_
  cbv
  refine jjS hA (cP) [(0, 0), (1, 1), (2, 2)] ?_
  cbv
  refine jjR hA hT 100 ?_
  cbv
  refine jjD ?_
  cbv
  refine Fin.le hA 5 [(5448, 5), (5449, 6)] (.tup [.ptr 5 0, RLg s RS' RL' W' cc' gen2 at2 bn2 bd2 kc2 nl2 nf2 su2 dead2, .bl true]) (LgM 5 6 N d2 gen2 at2 nb2 b2 o2 c2 su2 dead2 cn2 gl2 gf2) 10 rfl rfl rfl ?_ ?_ jjK
  · (try cbv) <;> (repeat' (first | exact trivial | exact rfl | apply And.intro | exact fun _ => rfl | (intro _ hle; first | refine chunk_le hA rfl hle rfl ?_ | refine cat_le hA ?_ | refine upd_le hA ?_ | (try cbv))))
    all_goals trace_state
  · exact jjL
theorem do_open4 (hP : P = Tryd.prog) (ha : act = 4)
    (cR : FnTr P G 78 [RD s RS RL W cc, .ro 2 (.s kn) (fun x => [.int .i64 (ks x.val), .int .i64 (kb x.val)])] [] 0 (Gives (RD s R1 R1 W1 (-1)) [] 400))
    (cA : FnTr P G 40 [.ptr 0 0, .ro 2 (.s kn) (fun x => [.int .i64 (ks x.val), .int .i64 (kb x.val)])] (DHd N d) 3 (Gives (.tup []) (DHd N d1) 3))
    (cO : FnTr P G 79 [RD s R1 R1 W1 (-1)] [] 0 (Gives (.tup [RLd s RS' RL' W' cc', .lit .i64 4]) [] 5000))
    (cP : FnTr P G 32 [.ptr 0 0] (DHd N d1) 3 (Gives (.tup [.nilp, .lit .i64 4]) (DHd N d2) 3)) :
    FnTr P G 43 [.ptr 0 0, .ptr 3 0, RLg s RS RL W cc gen at1 bn bd kc nl nf su dead, OpS act num n f kn ks kb] (LgH N d gen at1 nb b o c su dead cn gl gf) 5 (Gives (.tup [.nilp, RLd s RS' RL' W' cc', .bl true]) (DHd N d2) 10) := by
  have hT : T.Ok P := hP ▸ T_ok
  refine jjI Tryd.f43 hT ?_
  generalize hA : Ar.real = A
  generalize hK : Gives _ _ _ = K
  cbv
  have z0 : A.eq act 0 = false := by clear cR cA cO cP; subst hA; simp [Ar.real]; omega
  have z1 : A.eq act 1 = false := by clear cR cA cO cP; subst hA; simp [Ar.real]; omega
  have z2 : A.eq act 2 = false := by clear cR cA cO cP; subst hA; simp [Ar.real]; omega
  have z3 : A.eq act 3 = false := by clear cR cA cO cP; subst hA; simp [Ar.real]; omega
  have k1 : A.eq act 4 = true := by clear cR cA cO cP; subst hA; simpa [Ar.real] using ha
  first | refine testR z0 rfl ?_ | refine testL z0 rfl ?_
  cbv
  first | refine testR z1 rfl ?_ | refine testL z1 rfl ?_
  cbv
  first | refine testR z2 rfl ?_ | refine testL z2 rfl ?_
  cbv
  first | refine testR z3 rfl ?_ | refine testL z3 rfl ?_
  cbv
  first | refine testR k1 rfl ?_ | refine testL k1 rfl ?_
  cbv
  first | refine testR k1 rfl ?_ | refine testL k1 rfl ?_
  cbv
  refine jjS hA (cA) [(0, 0), (1, 1), (2, 2)] ?_
  cbv
  refine jjS hA (cR) [] ?_
  cbv
  first | refine testR k1 rfl ?_ | refine testL k1 rfl ?_
  cbv
  refine jjS hA (cO) [] ?_
  cbv
  refine jjS hA (cP) [(0, 0), (1, 1), (2, 2)] ?_
  cbv
  refine jjR hA hT 100 ?_
  cbv
  refine jjD ?_
  cbv
  refine Fin.le hA 5 [] (.tup [.nilp, RLd s RS' RL' W' cc', .bl true]) (DHd N d2) 10 rfl rfl rfl ?_ ?_ jjK
  · (try cbv) <;> (repeat' (first | exact trivial | exact rfl | apply And.intro | exact fun _ => rfl | (intro _ hle; first | refine chunk_le hA rfl hle rfl ?_ | refine cat_le hA ?_ | refine upd_le hA ?_ | (try cbv))))
    all_goals trace_state
  · exact jjL
theorem do_open270 (hP : P = Tryd.prog) (ha : act = 4)
    (cR : FnTr P G 78 [RD s RS RL W cc, .ro 2 (.s kn) (fun x => [.int .i64 (ks x.val), .int .i64 (kb x.val)])] [] 0 (Gives (RD s R1 R1 W1 (-1)) [] 400))
    (cA : FnTr P G 40 [.ptr 0 0, .ro 2 (.s kn) (fun x => [.int .i64 (ks x.val), .int .i64 (kb x.val)])] (DHd N d) 3 (Gives (.tup []) (DHd N d1) 3))
    (cO : FnTr P G 79 [RD s R1 R1 W1 (-1)] [] 0 (Gives (.tup [RLd s RS' RL' W' cc', .lit .i64 270]) [] 5000))
    (cP : FnTr P G 32 [.ptr 0 0] (DHd N d1) 3 (Gives (.tup [.nilp, .lit .i64 270]) (DHd N d2) 3)) :
    FnTr P G 43 [.ptr 0 0, .ptr 3 0, RLg s RS RL W cc gen at1 bn bd kc nl nf su dead, OpS act num n f kn ks kb] (LgH N d gen at1 nb b o c su dead cn gl gf) 5 (Gives (.tup [.nilp, RLd s RS' RL' W' cc', .bl true]) (DHd N d2) 10) := by
  have hT : T.Ok P := hP ▸ T_ok
  refine jjI Tryd.f43 hT ?_
  generalize hA : Ar.real = A
  generalize hK : Gives _ _ _ = K
  cbv
  have z0 : A.eq act 0 = false := by clear cR cA cO cP; subst hA; simp [Ar.real]; omega
  have z1 : A.eq act 1 = false := by clear cR cA cO cP; subst hA; simp [Ar.real]; omega
  have z2 : A.eq act 2 = false := by clear cR cA cO cP; subst hA; simp [Ar.real]; omega
  have z3 : A.eq act 3 = false := by clear cR cA cO cP; subst hA; simp [Ar.real]; omega
  have k1 : A.eq act 4 = true := by clear cR cA cO cP; subst hA; simpa [Ar.real] using ha
  first | refine testR z0 rfl ?_ | refine testL z0 rfl ?_
  cbv
  first | refine testR z1 rfl ?_ | refine testL z1 rfl ?_
  cbv
  first | refine testR z2 rfl ?_ | refine testL z2 rfl ?_
  cbv
  first | refine testR z3 rfl ?_ | refine testL z3 rfl ?_
  cbv
  first | refine testR k1 rfl ?_ | refine testL k1 rfl ?_
  cbv
  first | refine testR k1 rfl ?_ | refine testL k1 rfl ?_
  cbv
  refine jjS hA (cA) [(0, 0), (1, 1), (2, 2)] ?_
  cbv
  refine jjS hA (cR) [] ?_
  cbv
  first | refine testR k1 rfl ?_ | refine testL k1 rfl ?_
  cbv
  refine jjS hA (cO) [] ?_
  cbv
  refine jjS hA (cP) [(0, 0), (1, 1), (2, 2)] ?_
  cbv
  refine jjR hA hT 100 ?_
  cbv
  refine jjD ?_
  cbv
  refine Fin.le hA 5 [] (.tup [.nilp, RLd s RS' RL' W' cc', .bl true]) (DHd N d2) 10 rfl rfl rfl ?_ ?_ jjK
  · (try cbv) <;> (repeat' (first | exact trivial | exact rfl | apply And.intro | exact fun _ => rfl | (intro _ hle; first | refine chunk_le hA rfl hle rfl ?_ | refine cat_le hA ?_ | refine upd_le hA ?_ | (try cbv))))
    all_goals trace_state
  · exact jjL
theorem do_begin (hP : P = Tryd.prog) (ha : act = 5)
    (cR : FnTr P G 78 [RD s RS RL W cc, .ro 2 (.s kn) (fun x => [.int .i64 (ks x.val), .int .i64 (kb x.val)])] [] 0 (Gives (RD s R1 R1 W1 (-1)) [] 400))
    (cA : FnTr P G 40 [.ptr 0 0, .ro 2 (.s kn) (fun x => [.int .i64 (ks x.val), .int .i64 (kb x.val)])] (DHd N d) 3 (Gives (.tup []) (DHd N d1) 3))
    (cO : FnTr P G 42 [RD s R1 R1 W1 (-1), By n f] [] 0 (Gives (.tup [RLg s RS' RL' W' cc' gen2 at2 bn2 bd2 kc2 nl2 nf2 su2 dead2, .lit .i64 0]) [] 20000))
    (cP : FnTr P G 23 [.ptr 0 0, By n f] (DHd N d1) 3 (Gives (.tup [.ptr 3 0, .lit .i64 0]) (LgH N d2 gen2 at2 nb2 b2 o2 c2 su2 dead2 cn2 gl2 gf2) 9000)) :
    FnTr P G 43 [.ptr 0 0, .ptr 3 0, RLg s RS RL W cc gen at1 bn bd kc nl nf su dead, OpS act num n f kn ks kb] (LgH N d gen at1 nb b o c su dead cn gl gf) 5 (Gives (.tup [.ptr 5 0, RLg s RS' RL' W' cc' gen2 at2 bn2 bd2 kc2 nl2 nf2 su2 dead2, .bl true]) (LgM 5 6 N d2 gen2 at2 nb2 b2 o2 c2 su2 dead2 cn2 gl2 gf2) 10) := by
  have hT : T.Ok P := hP ▸ T_ok
  refine jjI Tryd.f43 hT ?_
  generalize hA : Ar.real = A
  generalize hK : Gives _ _ _ = K
  cbv
  have z0 : A.eq act 0 = false := by clear cR cA cO cP; subst hA; simp [Ar.real]; omega
  have z1 : A.eq act 1 = false := by clear cR cA cO cP; subst hA; simp [Ar.real]; omega
  have z2 : A.eq act 2 = false := by clear cR cA cO cP; subst hA; simp [Ar.real]; omega
  have z3 : A.eq act 3 = false := by clear cR cA cO cP; subst hA; simp [Ar.real]; omega
  have z4 : A.eq act 4 = false := by clear cR cA cO cP; subst hA; simp [Ar.real]; omega
  have k1 : A.eq act 5 = true := by clear cR cA cO cP; subst hA; simpa [Ar.real] using ha
  first | refine testR z0 rfl ?_ | refine testL z0 rfl ?_
  cbv
  first | refine testR z1 rfl ?_ | refine testL z1 rfl ?_
  cbv
  first | refine testR z2 rfl ?_ | refine testL z2 rfl ?_
  cbv
  first | refine testR z3 rfl ?_ | refine testL z3 rfl ?_
  cbv
  first | refine testR z4 rfl ?_ | refine testL z4 rfl ?_
  cbv
  first | refine testR k1 rfl ?_ | refine testL k1 rfl ?_
  cbv
  refine jjS hA (cA) [(0, 0), (1, 1), (2, 2)] ?_
  cbv
  refine jjS hA (cR) [] ?_
  cbv
  first | refine testR z4 rfl ?_ | refine testL z4 rfl ?_
  cbv
  refine jjS hA (cO) [] ?_
  cbv
  refine jjS hA (cP) [(0, 0), (1, 1), (2, 2)] ?_
  cbv
  refine jjR hA hT 100 ?_
  cbv
  refine jjD ?_
  cbv
  refine Fin.le hA 5 [(20454, 5), (20455, 6)] (.tup [.ptr 5 0, RLg s RS' RL' W' cc' gen2 at2 bn2 bd2 kc2 nl2 nf2 su2 dead2, .bl true]) (LgM 5 6 N d2 gen2 at2 nb2 b2 o2 c2 su2 dead2 cn2 gl2 gf2) 10 rfl rfl rfl ?_ ?_ jjK
  · (try cbv) <;> (repeat' (first | exact trivial | exact rfl | apply And.intro | exact fun _ => rfl | (intro _ hle; first | refine chunk_le hA rfl hle rfl ?_ | refine cat_le hA ?_ | refine upd_le hA ?_ | (try cbv))))
    all_goals trace_state
  · exact jjL
theorem do_begin2 (hP : P = Tryd.prog) (ha : act = 5)
    (cR : FnTr P G 78 [RD s RS RL W cc, .ro 2 (.s kn) (fun x => [.int .i64 (ks x.val), .int .i64 (kb x.val)])] [] 0 (Gives (RD s R1 R1 W1 (-1)) [] 400))
    (cA : FnTr P G 40 [.ptr 0 0, .ro 2 (.s kn) (fun x => [.int .i64 (ks x.val), .int .i64 (kb x.val)])] (DHd N d) 3 (Gives (.tup []) (DHd N d1) 3))
    (cO : FnTr P G 42 [RD s R1 R1 W1 (-1), By n f] [] 0 (Gives (.tup [RLd s RS' RL' W' cc', .lit .i64 2]) [] 20000))
    (cP : FnTr P G 23 [.ptr 0 0, By n f] (DHd N d1) 3 (Gives (.tup [.nilp, .lit .i64 2]) (DHd N d2) 5000)) :
    FnTr P G 43 [.ptr 0 0, .ptr 3 0, RLg s RS RL W cc gen at1 bn bd kc nl nf su dead, OpS act num n f kn ks kb] (LgH N d gen at1 nb b o c su dead cn gl gf) 5 (Gives (.tup [.nilp, RLd s RS' RL' W' cc', .bl true]) (DHd N d2) 10) := by
  have hT : T.Ok P := hP ▸ T_ok
  refine jjI Tryd.f43 hT ?_
  generalize hA : Ar.real = A
  generalize hK : Gives _ _ _ = K
  cbv
  have z0 : A.eq act 0 = false := by clear cR cA cO cP; subst hA; simp [Ar.real]; omega
  have z1 : A.eq act 1 = false := by clear cR cA cO cP; subst hA; simp [Ar.real]; omega
  have z2 : A.eq act 2 = false := by clear cR cA cO cP; subst hA; simp [Ar.real]; omega
  have z3 : A.eq act 3 = false := by clear cR cA cO cP; subst hA; simp [Ar.real]; omega
  have z4 : A.eq act 4 = false := by clear cR cA cO cP; subst hA; simp [Ar.real]; omega
  have k1 : A.eq act 5 = true := by clear cR cA cO cP; subst hA; simpa [Ar.real] using ha
  first | refine testR z0 rfl ?_ | refine testL z0 rfl ?_
  cbv
  first | refine testR z1 rfl ?_ | refine testL z1 rfl ?_
  cbv
  first | refine testR z2 rfl ?_ | refine testL z2 rfl ?_
  cbv
  first | refine testR z3 rfl ?_ | refine testL z3 rfl ?_
  cbv
  first | refine testR z4 rfl ?_ | refine testL z4 rfl ?_
  cbv
  first | refine testR k1 rfl ?_ | refine testL k1 rfl ?_
  cbv
  refine jjS hA (cA) [(0, 0), (1, 1), (2, 2)] ?_
  cbv
  refine jjS hA (cR) [] ?_
  cbv
  first | refine testR z4 rfl ?_ | refine testL z4 rfl ?_
  cbv
  refine jjS hA (cO) [] ?_
  cbv
  refine jjS hA (cP) [(0, 0), (1, 1), (2, 2)] ?_
  cbv
  refine jjR hA hT 100 ?_
  cbv
  refine jjD ?_
  cbv
  refine Fin.le hA 5 [] (.tup [.nilp, RLd s RS' RL' W' cc', .bl true]) (DHd N d2) 10 rfl rfl rfl ?_ ?_ jjK
  · (try cbv) <;> (repeat' (first | exact trivial | exact rfl | apply And.intro | exact fun _ => rfl | (intro _ hle; first | refine chunk_le hA rfl hle rfl ?_ | refine cat_le hA ?_ | refine upd_le hA ?_ | (try cbv))))
    all_goals trace_state
  · exact jjL
theorem do_begin3 (hP : P = Tryd.prog) (ha : act = 5)
    (cR : FnTr P G 78 [RD s RS RL W cc, .ro 2 (.s kn) (fun x => [.int .i64 (ks x.val), .int .i64 (kb x.val)])] [] 0 (Gives (RD s R1 R1 W1 (-1)) [] 400))
    (cA : FnTr P G 40 [.ptr 0 0, .ro 2 (.s kn) (fun x => [.int .i64 (ks x.val), .int .i64 (kb x.val)])] (DHd N d) 3 (Gives (.tup []) (DHd N d1) 3))
    (cO : FnTr P G 42 [RD s R1 R1 W1 (-1), By n f] [] 0 (Gives (.tup [RLd s RS' RL' W' cc', .lit .i64 3]) [] 20000))
    (cP : FnTr P G 23 [.ptr 0 0, By n f] (DHd N d1) 3 (Gives (.tup [.nilp, .lit .i64 3]) (DHd N d2) 5000)) :
    FnTr P G 43 [.ptr 0 0, .ptr 3 0, RLg s RS RL W cc gen at1 bn bd kc nl nf su dead, OpS act num n f kn ks kb] (LgH N d gen at1 nb b o c su dead cn gl gf) 5 (Gives (.tup [.nilp, RLd s RS' RL' W' cc', .bl true]) (DHd N d2) 10) := by
  have hT : T.Ok P := hP ▸ T_ok
  refine jjI Tryd.f43 hT ?_
  generalize hA : Ar.real = A
  generalize hK : Gives _ _ _ = K
  cbv
  have z0 : A.eq act 0 = false := by clear cR cA cO cP; subst hA; simp [Ar.real]; omega
  have z1 : A.eq act 1 = false := by clear cR cA cO cP; subst hA; simp [Ar.real]; omega
  have z2 : A.eq act 2 = false := by clear cR cA cO cP; subst hA; simp [Ar.real]; omega
  have z3 : A.eq act 3 = false := by clear cR cA cO cP; subst hA; simp [Ar.real]; omega
  have z4 : A.eq act 4 = false := by clear cR cA cO cP; subst hA; simp [Ar.real]; omega
  have k1 : A.eq act 5 = true := by clear cR cA cO cP; subst hA; simpa [Ar.real] using ha
  first | refine testR z0 rfl ?_ | refine testL z0 rfl ?_
  cbv
  first | refine testR z1 rfl ?_ | refine testL z1 rfl ?_
  cbv
  first | refine testR z2 rfl ?_ | refine testL z2 rfl ?_
  cbv
  first | refine testR z3 rfl ?_ | refine testL z3 rfl ?_
  cbv
  first | refine testR z4 rfl ?_ | refine testL z4 rfl ?_
  cbv
  first | refine testR k1 rfl ?_ | refine testL k1 rfl ?_
  cbv
  refine jjS hA (cA) [(0, 0), (1, 1), (2, 2)] ?_
  cbv
  refine jjS hA (cR) [] ?_
  cbv
  first | refine testR z4 rfl ?_ | refine testL z4 rfl ?_
  cbv
  refine jjS hA (cO) [] ?_
  cbv
  refine jjS hA (cP) [(0, 0), (1, 1), (2, 2)] ?_
  cbv
  refine jjR hA hT 100 ?_
  cbv
  refine jjD ?_
  cbv
  refine Fin.le hA 5 [] (.tup [.nilp, RLd s RS' RL' W' cc', .bl true]) (DHd N d2) 10 rfl rfl rfl ?_ ?_ jjK
  · (try cbv) <;> (repeat' (first | exact trivial | exact rfl | apply And.intro | exact fun _ => rfl | (intro _ hle; first | refine chunk_le hA rfl hle rfl ?_ | refine cat_le hA ?_ | refine upd_le hA ?_ | (try cbv))))
    all_goals trace_state
  · exact jjL
theorem do_begin6 (hP : P = Tryd.prog) (ha : act = 5)
    (cR : FnTr P G 78 [RD s RS RL W cc, .ro 2 (.s kn) (fun x => [.int .i64 (ks x.val), .int .i64 (kb x.val)])] [] 0 (Gives (RD s R1 R1 W1 (-1)) [] 400))
    (cA : FnTr P G 40 [.ptr 0 0, .ro 2 (.s kn) (fun x => [.int .i64 (ks x.val), .int .i64 (kb x.val)])] (DHd N d) 3 (Gives (.tup []) (DHd N d1) 3))
    (cO : FnTr P G 42 [RD s R1 R1 W1 (-1), By n f] [] 0 (Gives (.tup [RLd s RS' RL' W' cc', .lit .i64 6]) [] 20000))
    (cP : FnTr P G 23 [.ptr 0 0, By n f] (DHd N d1) 3 (Gives (.tup [.nilp, .lit .i64 6]) (DHd N d2) 9000)) :
    FnTr P G 43 [.ptr 0 0, .ptr 3 0, RLg s RS RL W cc gen at1 bn bd kc nl nf su dead, OpS act num n f kn ks kb] (LgH N d gen at1 nb b o c su dead cn gl gf) 5 (Gives (.tup [.nilp, RLd s RS' RL' W' cc', .bl true]) (DHd N d2) 10) := by
  have hT : T.Ok P := hP ▸ T_ok
  refine jjI Tryd.f43 hT ?_
  generalize hA : Ar.real = A
  generalize hK : Gives _ _ _ = K
  cbv
  have z0 : A.eq act 0 = false := by clear cR cA cO cP; subst hA; simp [Ar.real]; omega
  have z1 : A.eq act 1 = false := by clear cR cA cO cP; subst hA; simp [Ar.real]; omega
  have z2 : A.eq act 2 = false := by clear cR cA cO cP; subst hA; simp [Ar.real]; omega
  have z3 : A.eq act 3 = false := by clear cR cA cO cP; subst hA; simp [Ar.real]; omega
  have z4 : A.eq act 4 = false := by clear cR cA cO cP; subst hA; simp [Ar.real]; omega
  have k1 : A.eq act 5 = true := by clear cR cA cO cP; subst hA; simpa [Ar.real] using ha
  first | refine testR z0 rfl ?_ | refine testL z0 rfl ?_
  cbv
  first | refine testR z1 rfl ?_ | refine testL z1 rfl ?_
  cbv
  first | refine testR z2 rfl ?_ | refine testL z2 rfl ?_
  cbv
  first | refine testR z3 rfl ?_ | refine testL z3 rfl ?_
  cbv
  first | refine testR z4 rfl ?_ | refine testL z4 rfl ?_
  cbv
  first | refine testR k1 rfl ?_ | refine testL k1 rfl ?_
  cbv
  refine jjS hA (cA) [(0, 0), (1, 1), (2, 2)] ?_
  cbv
  refine jjS hA (cR) [] ?_
  cbv
  first | refine testR z4 rfl ?_ | refine testL z4 rfl ?_
  cbv
  refine jjS hA (cO) [] ?_
  cbv
  refine jjS hA (cP) [(0, 0), (1, 1), (2, 2)] ?_
  cbv
  refine jjR hA hT 100 ?_
  cbv
  refine jjD ?_
  cbv
  refine Fin.le hA 5 [] (.tup [.nilp, RLd s RS' RL' W' cc', .bl true]) (DHd N d2) 10 rfl rfl rfl ?_ ?_ jjK
  · (try cbv) <;> (repeat' (first | exact trivial | exact rfl | apply And.intro | exact fun _ => rfl | (intro _ hle; first | refine chunk_le hA rfl hle rfl ?_ | refine cat_le hA ?_ | refine upd_le hA ?_ | (try cbv))))
    all_goals trace_state
  · exact jjL
end
open Go.DskLaw (q64 secV isB Sim wipeP getP needN)
section
variable {P : Program} {G : Gl} {s h N gen fi en c0 last : Nat} {S L : Nat → Nat → Int} {W : Nat → Bool} {c : Int} {gs g0 : Nat → Nat × (Nat → Int)} {PS : Nat → Int} {PL PL' : Int → Option (Nat → Int)} {ar : Bool} {ca ca' : Int}
theorem same28_fn {d : Dk} {at1 nb bn kc su cn : Nat} {b b' : Nat → Int} {o : NV} {dead : Bool} {gl nl ml : Nat → Nat} {gf nf mf : Nat → Nat → Int} (hP : P = Tryd.prog) (hN : N = 64 * s) (hr : Reg s h gen fi en) (ha : at1 ≤ en) (hnb : nb ≤ 1000000) (hbn : nb = bn) (hbr : ∀ x, x < nb → 0 ≤ b x ∧ b x < 256) (hbb : ∀ x, x < nb → b x = b' x) (ho : o = .l 0 ∨ ∃ k, o = .s k) (hcn : cn = o.val + kc) (hkc : kc ≤ 1000000)
    (hml : ∀ i, i < kc → ml i = gl (o.val + i) ∧ ml i ≤ 1000000) (hmf : ∀ i, i < kc → ∀ x, mf i x = gf (o.val + i) x) (hnl : ∀ i, i < kc → ml i = nl i ∧ ∀ x, x < ml i → mf i x = nf i x ∧ 0 ≤ mf i x ∧ mf i x < 256) :
    FnTr P G 44 [.ptr 3 0, RLg s S L W c gen at1 bn b' kc nl nf su dead] (LgH N d gen at1 nb b o kc su dead cn gl gf) 5 (Gives (.bl true) (LgH N d gen at1 nb b o kc su dead cn gl gf) 10) := by
  have e1 := base_fn (P := P) (G := G) (N := N) (gen := gen) (at1 := at1) (nb := nb) (b := b) (o := o) (c := kc) (su := su) (cn := cn) (d := d) (dead := dead) (nl := gl) (nf := gf) hP hnb
  have e2 := same_fn (P := P) (G := G) (n := nb) (m := bn) (f := b) (g := b') (res := true) hP hbr (fun x hx => by rw [← hbb x (by omega)]; exact hbr x (by omega)) ⟨fun _ => ⟨hbn, hbb⟩, fun _ => rfl⟩
  have e3 := notes_fn (P := P) (G := G) (N := N) (gen := gen) (at1 := at1) (nb := nb) (b := b) (o := o) (c := kc) (su := su) (cn := cn) (d := d) (dead := dead) (nl := gl) (nf := gf) (ml := ml) (mf := mf) hP ho hcn hkc hml hmf
  have e4 := sameall_fn (P := P) (G := G) (n := kc) (m := kc) (lf := ml) (lg := nl) (f := mf) (g := nf) hP rfl hkc hnl
  have e5 := sureof_fn (P := P) (G := G) (N := N) (gen := gen) (at1 := at1) (nb := nb) (b := b) (o := o) (c := kc) (su := su) (cn := cn) (d := d) (dead := dead) (nl := gl) (nf := gf) hP
  have e6 := generation_fn (P := P) (G := G) (N := N) (gen := gen) (at1 := at1) (nb := nb) (b := b) (o := o) (c := kc) (su := su) (cn := cn) (d := d) (dead := dead) (nl := gl) (nf := gf) hP
  have e7 := room_fn (P := P) (G := G) (N := N) (gen := gen) (at1 := at1) (nb := nb) (b := b) (o := o) (c := kc) (su := su) (cn := cn) (d := d) (dead := dead) (nl := gl) (nf := gf) hP hN hr ha
  have e8 := rroom_fn (P := P) (G := G) (S := S) (L := L) (W := W) (c := c) (at1 := at1) (bn := bn) (b := b') (kc := kc) (nl := nl) (nf := nf) (su := su) (dead := dead) hP hr ha
  clear hbr hbb hml hmf hnl
  obtain ⟨rm, hrm⟩ : ∃ rm, rm = en - at1 := ⟨_, rfl⟩
  rw [← hrm] at e7 e8
  have hT : T.Ok P := hP ▸ T_ok
  refine jjI Tryd.f44 hT ?_
  generalize hA : Ar.real = A
  generalize hK : Gives _ _ _ = K
  cbv
  have q1 : A.eq (Int.ofNat su) (Int.ofNat su) = true := by clear e1 e2 e3 e4 e5 e6 e7 e8; subst hA; simp [Ar.real]
  have q2 : A.eq (Int.ofNat gen) (Int.ofNat gen) = true := by clear e1 e2 e3 e4 e5 e6 e7 e8; subst hA; simp [Ar.real]
  have q3 : A.eq (Int.ofNat rm) (Int.ofNat rm) = true := by clear e1 e2 e3 e4 e5 e6 e7 e8; subst hA; simp [Ar.real]
  refine jjR hA hT 300 ?_
  cbv
  refine jjP hA (e1) [(0, 0), (1, 1), (2, 2), (3, 3), (4, 4)] ?_
  cbv
  refine jjP hA (e2) [] ?_
  cbv
  refine ⟨fun _ => ?_, fun h => (by cases h)⟩
  cbv
  refine jjP hA (e3) [(0, 0), (1, 1), (2, 2), (3, 3), (4, 4)] ?_
  cbv
  refine jjP hA (e4) [] ?_
  cbv
  refine jjP hA (e5) [(0, 0), (1, 1), (2, 2), (3, 3), (4, 4)] ?_
  cbv
  first | refine testR q1 rfl ?_ | refine testL q1 rfl ?_
  cbv
  refine jjP hA (e6) [(0, 0), (1, 1), (2, 2), (3, 3), (4, 4)] ?_
  cbv
  first | refine testR q2 rfl ?_ | refine testL q2 rfl ?_
  cbv
  refine jjP hA (e7) [(0, 0), (1, 1), (2, 2), (3, 3), (4, 4)] ?_
  cbv
  refine jjP hA (e8) [] ?_
  cbv
  refine jjD ?_
  cbv
  refine Fin.le hA 5 [] (.bl true) (LgH N d gen at1 nb b o kc su dead cn gl gf) 10 rfl rfl rfl ?_ ?_ jjK
  · (try cbv) <;> (repeat' (first | exact trivial | exact rfl | apply And.intro | exact fun _ => rfl | (intro _ hle; first | refine chunk_le hA rfl hle rfl ?_ | refine cat_le hA ?_ | refine upd_le hA ?_ | (try cbv))))
    all_goals first | exact q3 | exact jjO
  · exact jjL
end
end Go.Proofs.YtnjjgipblimbfaaDoor.Dsk
namespace Go.WalLaw
open Go.DskLaw
theorem usedP_le62 {v : Nat → Int} {m : Nat} {on : Bool} (h : usedP v = some (m, on)) : m ≤ 62 := by
  by_cases hp : padOk v
  · by_cases h1 : v 63 = 1
    · by_cases h2 : (v 62).toNat = 62
      · rw [usedP_on hp h1 h2] at h; cases h; exact Nat.le_refl _
      · rw [usedP_none2 hp h1 h2] at h; cases h
    · by_cases h2 : v 63 = 2
      · rw [usedP_end hp h1 h2] at h
        cases h
        have := hp.1
        omega
      · rw [usedP_none3 hp h1 h2] at h; cases h
  · rw [usedP_none1 hp] at h; cases h
theorem recP_le {V : Nat → Nat → Int} {en : Nat} : ∀ (k : Nat) {x c c' last : Nat} {g gs : Nat → Nat × (Nat → Int)}, recP V en k x c g = (c', gs, last) → x ≤ last ∧ c ≤ c' ∧ (x ≤ en → last ≤ en) ∧ (c' = c → last = x) := by
  intro k
  induction k with
  | zero => intro x c c' last g gs h; cases h; exact ⟨Nat.le_refl _, Nat.le_refl _, id, fun _ => rfl⟩
  | succ k ih =>
    intro x c c' last g gs h
    cases hg : getP V x en (en - x) x 0 (fun _ => 0) with
    | none => rw [recP_none hg] at h; cases h; exact ⟨Nat.le_refl _, Nat.le_refl _, id, fun _ => rfl⟩
    | some r =>
      obtain ⟨n, f, next⟩ := r
      have hnx := getP_next _ hg
      by_cases ho : OpenOk n f
      · rw [recP_some hg ho] at h
        have := ih h
        exact ⟨by omega, by omega, fun _ => this.2.2.1 hnx.2.1, fun q => by omega⟩
      · rw [recP_bad hg ho] at h; cases h; exact ⟨Nat.le_refl _, Nat.le_refl _, id, fun _ => rfl⟩
theorem recP_count {V : Nat → Nat → Int} {en : Nat} : ∀ (k : Nat) {x c c' last : Nat} {g gs : Nat → Nat × (Nat → Int)}, recP V en k x c g = (c', gs, last) → c' + x ≤ c + last := by
  intro k
  induction k with
  | zero => intro x c c' last g gs h; cases h; exact Nat.le_refl _
  | succ k ih =>
    intro x c c' last g gs h
    cases hg : getP V x en (en - x) x 0 (fun _ => 0) with
    | none => rw [recP_none hg] at h; cases h; exact Nat.le_refl _
    | some r =>
      obtain ⟨n, f, next⟩ := r
      have hnx := getP_next _ hg
      by_cases ho : OpenOk n f
      · rw [recP_some hg ho] at h
        have := ih h
        omega
      · rw [recP_bad hg ho] at h; cases h; exact Nat.le_refl _
theorem getP_bytes {V : Nat → Nat → Int} {first fin : Nat} (hV : ∀ i, i < fin → isB (V i)) : ∀ (k x n : Nat) (f : Nat → Int) (n' : Nat) (f' : Nat → Int) (next : Nat), (∀ i, i < n → 0 ≤ f i ∧ f i ≤ 255) → getP V first fin k x n f = some (n', f', next) → ∀ i, i < n' → 0 ≤ f' i ∧ f' i ≤ 255 := by
  intro k
  induction k with
  | zero => intro x n f n' f' next _ h; cases h
  | succ k ih =>
    intro x n f n' f' next hf h
    unfold getP at h
    split at h
    · cases h
    · rename_i hx
      split at h
      · cases h
      · rename_i m on hu
        have hm := usedP_le62 hu
        have key : ∀ i, i < n + m → 0 ≤ (fun i => if i < n then f i else V x (i - n)) i ∧ (fun i => if i < n then f i else V x (i - n)) i ≤ 255 := fun i hi => by
          by_cases q : i < n
          · simp only [q, if_true]; exact hf i q
          · simp only [q, if_false]; exact hV x (by omega) _ (by omega)
        split at h
        · cases h
        · split at h
          · cases h
          · split at h
            · exact ih _ _ _ _ _ _ key h
            · cases h; exact key
theorem recP_isB {V : Nat → Nat → Int} {en : Nat} (hV : ∀ i, i < en → isB (V i)) : ∀ (k : Nat) {x c c' last : Nat} {g gs : Nat → Nat × (Nat → Int)}, recP V en k x c g = (c', gs, last) → (∀ j, j < c → (g j).1 ≤ 65536 ∧ ∀ y, y < (g j).1 → 0 ≤ (g j).2 y ∧ (g j).2 y ≤ 255) → ∀ j, j < c' → (gs j).1 ≤ 65536 ∧ ∀ y, y < (gs j).1 → 0 ≤ (gs j).2 y ∧ (gs j).2 y ≤ 255 := by
  intro k
  induction k with
  | zero => intro x c c' last g gs h hg; cases h; exact hg
  | succ k ih =>
    intro x c c' last g gs h hg
    cases hgp : getP V x en (en - x) x 0 (fun _ => 0) with
    | none => rw [recP_none hgp] at h; cases h; exact hg
    | some r =>
      obtain ⟨n, f, next⟩ := r
      have hnx := getP_next _ hgp
      have hb := getP_bytes hV _ _ _ _ _ _ _ (fun i hi => by omega) hgp
      by_cases ho : OpenOk n f
      · rw [recP_some hgp ho] at h
        refine ih h fun j hj => ?_
        by_cases q : j < c
        · simp only [if_pos q]; exact hg j q
        · simp only [if_neg q]
          exact ⟨by omega, fun y hy => hb y (by omega)⟩
      · rw [recP_bad hgp ho] at h; cases h; exact hg
theorem wipeP_many {V : Nat → Nat → Int} {ar : Bool} : ∀ (k x n : Nat) (L : Int → Option (Nat → Int)) (ca : Int) (m : Nat), (wipeP V ar k x n L ca).1 = some m → n ≤ m ∧ (m = n → (wipeP V ar k x n L ca).2.1 = L) := by
  intro k
  induction k with
  | zero => intro x n L ca m h; cases h; exact ⟨Nat.le_refl _, fun _ => rfl⟩
  | succ k ih =>
    intro x n L ca m h
    by_cases ho : ar = true ∧ ca = 0
    · rw [wipeP_off ho] at h; cases h
    · by_cases hb : ∀ i, i < 64 → V x i = 0
      · rw [wipeP_blank ho hb] at h ⊢; exact ih _ _ _ _ _ h
      · rw [wipeP_full ho hb] at h ⊢
        have := ih _ _ _ _ _ h
        exact ⟨by omega, fun q => by omega⟩
end Go.WalLaw
namespace Go.Proofs.YtnjjgipblimbfaaDoor.Dsk
open Go.Eng
open Go.DskLaw (q64 secV isB needN pcs getP Sim wipeP)
open Go.WalLaw
open Go.CrcLaw (four)
set_option maxRecDepth 100000
set_option maxHeartbeats 1000000
structure WIs (s h : Nat) (d : Dk) (gen fi en at1 nb : Nat) (b bd : Nat → Int) (v c cn : Nat) (gl nl : Nat → Nat) (gf nf : Nat → Nat → Int) : Prop where
  reg : Reg s h gen fi en
  gle : gen ≤ 1099511627776
  hat : fi + c < at1 ∧ at1 ≤ en
  ok : DkOk s d
  hnb : nb ≤ 1000000
  hb : ∀ x, x < nb → b x = bd x ∧ 0 ≤ b x ∧ b x < 256
  hv : v ≤ 1
  hcn : cn = v + c
  rows : ∀ i, i < c → gl (v + i) = nl i ∧ nl i ≤ 1000000 ∧ (∀ x, gf (v + i) x = nf i x) ∧ ∀ x, x < nl i → 0 ≤ nf i x ∧ nf i x < 256
section
variable {P : Program} {fr : Nat → Int} {s n : Nat} {V : Nat → Nat → Int} {W : Nat → Bool} {d : Dk}
theorem open27_facts (hP : P = Tryd.prog) (hfr : ∀ i, fr i = ((four i).toNat : Int)) (hn : n = 64 * s) (hs : 4 ≤ s ∧ s ≤ 4096) (ok : DkOk s d) (hdL : ∀ k, d.L k = none) (har : d.ar = false) (hi : RIs d V V W (-1)) :
    (∃ er : Int, (er = 4 ∨ er = 270) ∧ FnTr P (Gf fr) 32 [.ptr 0 0] (DHd n d) 3 (Gives (.tup [.nilp, .lit .i64 er]) (DHd n d) 3) ∧ FnTr P (Gf fr) 79 [RD s V V W (-1)] [] 0 (Gives (.tup [RLd s V V W (-1), .lit .i64 er]) [] 5000)) ∨
    ∃ (d2 : Dk) (gen h fi en at1 nb kc : Nat) (b bd : Nat → Int) (gl nl : Nat → Nat) (gf nf : Nat → Nat → Int) (S2 L2 : Nat → Nat → Int) (W2 : Nat → Bool),
      WIs s h d2 gen fi en at1 nb b bd 1 kc (1 + kc) gl nl gf nf ∧ RIs d2 S2 L2 W2 (-1) ∧ d2.ar = false ∧
      FnTr P (Gf fr) 32 [.ptr 0 0] (DHd n d) 3 (Gives (.tup [.ptr 3 0, .lit .i64 0]) (LgH n d2 gen at1 nb b (.s 1) kc kc false (1 + kc) gl gf) 100) ∧
      FnTr P (Gf fr) 79 [RD s V V W (-1)] [] 0 (Gives (.tup [RLg s S2 L2 W2 (-1) gen at1 nb bd kc nl nf kc false, .lit .i64 0]) [] 5000) := by
  have ho : ¬ offD d := fun q => by have := q.1; rw [har] at this; cases this
  have hVe : (fun t => secV d.S d.L t) = V := by
    funext t x
    rw [hi.rl]
  have hVt : ∀ t, secV d.S d.L t = V t := fun t => congrFun hVe t
  have hsim : Sim s n d.S d.L d.ar d.ca V V W (-1) := hi.sim ok hn ⟨by omega, hs.2⟩
  have hVb : ∀ t, t < s → isB (V t) := fun t ht => by rw [← hVt]; exact ok.bytes t ht
  obtain ⟨g0, e0⟩ := genIs_ex (V 0) 0
  obtain ⟨g1, e1⟩ := genIs_ex (V 1) 1
  obtain ⟨gen, hgen⟩ : ∃ gen, gen = max g0 g1 := ⟨_, rfl⟩
  have hg1 := e0.le
  have hg2 := e1.le
  have cN := newest_at (P := P) (G := Gf fr) hP hn ⟨by omega, hs.2⟩ ok ho (by rw [hVt]; exact e0) (by rw [hVt]; exact e1) hgen
  have rN := rnewest_fn (P := P) (G := Gf fr) (s := s) (S := V) (L := V) (W := W) (c := -1) hP (by omega) (hVb 0 (by omega)) (hVb 1 (by omega)) e0 e1 hgen
  by_cases hgz : gen = 0
  · exact .inl ⟨4, .inl rfl, open_none hP hn ⟨by omega, hs.2⟩ hgz cN, ropen_none hP (by omega) (by omega) hgz rN⟩
  obtain ⟨h, hh⟩ : ∃ h, h = (s - 2) / 2 := ⟨_, rfl⟩
  obtain ⟨fi, hfi⟩ : ∃ fi, fi = 2 + gen % 2 * h := ⟨_, rfl⟩
  obtain ⟨en, hen⟩ : ∃ en, en = fi + h := ⟨_, rfl⟩
  have hr : Reg s h gen fi en := ⟨⟨by omega, hs.2⟩, hh, by omega, hfi, hen⟩
  have hle := hr.le
  obtain ⟨⟨K, gs, last⟩, hR0⟩ : ∃ r, recP V en (en - fi + 1) fi 0 (fun _ => (0, fun _ => 0)) = r := ⟨_, rfl⟩
  have hR0' : recP (fun t => secV d.S d.L t) en (en - fi + 1) fi 0 (fun _ => (0, fun _ => 0)) = (K, gs, last) := by rw [hVe]; exact hR0
  have hrl := recP_le _ hR0
  by_cases hK : K = 0
  · exact .inl ⟨270, .inr rfl, open_log hP hn ⟨by omega, hs.2⟩ (by omega) hK cN (records_at hP hfr hn hr ok ho hR0'), ropen_log hP hr (by omega) (by omega) hsim hR0 hK rN⟩
  right
  have hlast : last ≤ en := hrl.2.2.1 hle.2.1
  have hbytes := recP_isB (fun i hi => hVb i (by omega)) _ hR0 (fun j hj => absurd hj (Nat.not_lt_zero _))
  have hK6 : K ≤ 1000000 := by
    have := recP_count _ hR0
    omega
  obtain ⟨on, d1, hw, ok1, hc⟩ := open_read hP hfr hn hr (by omega) ok ho (by rw [hVt]; exact e0) (by rw [hVt]; exact e1) hgen (by omega) hlast hK6 hR0'
  have arw := (wipeD_S hw).2
  have hSw := (wipeD_S hw).1
  have hwp := Prod.mk.inj hw
  rcases hc with ⟨e, _⟩ | ⟨m, e, hm, o1, _⟩ | ⟨m, d2, e, ok2, hd2, cO⟩
  · obtain ⟨m', d', h'⟩ := wipeD_run (a := last) (b := en) har
    rw [hw, e] at h'
    cases h'
  · have := o1.1
    rw [arw, har] at this
    cases this
  subst e
  obtain ⟨kc, rfl⟩ : ∃ kc, K = kc + 1 := ⟨K - 1, by omega⟩
  rw [OpH, show kc + 1 - 1 = kc by omega] at cO
  obtain ⟨b, hb⟩ : ∃ b : Nat → Int, ∀ x, b x = (gs 0).2 x := ⟨_, fun _ => rfl⟩
  obtain ⟨nl, hnl⟩ : ∃ nl : Nat → Nat, ∀ i, nl i = (gs (1 + i)).1 := ⟨_, fun _ => rfl⟩
  obtain ⟨nf, hnf⟩ : ∃ nf : Nat → Nat → Int, ∀ i x, nf i x = (gs (1 + i)).2 x := ⟨_, fun _ _ => rfl⟩
  obtain ⟨L1', hL1'⟩ : ∃ L1' : Nat → Nat → Int, ∀ t x, L1' t x = secV d.S d1.L t x := ⟨_, fun _ _ => rfl⟩
  obtain ⟨W1, hW1⟩ : ∃ W1 : Nat → Bool, ∀ t : Nat, W1 t = (d1.L (t : Int)).isSome := ⟨_, fun _ => rfl⟩
  have hwr : wipeP (fun i => secV d.S d.L i) d.ar (en - last) last 0 d.L d.ca = (some m, d1.L, d1.ca) := by
    have h1 : (wipeP (fun i => secV d.S d.L i) d.ar (en - last) last 0 d.L d.ca).1 = some m := hwp.1
    have h2 : (wipeP (fun i => secV d.S d.L i) d.ar (en - last) last 0 d.L d.ca).2.1 = d1.L := by rw [← hwp.2]
    have h3 : (wipeP (fun i => secV d.S d.L i) d.ar (en - last) last 0 d.L d.ca).2.2 = d1.ca := by rw [← hwp.2]
    exact Prod.ext h1 (Prod.ext h2 h3)
  have hcm : (-1 : Int) = if d.ar then d1.ca else -1 := by rw [har]; rfl
  have hL2n : ∀ k, d2.L k = none := fun k => by
    rcases hd2 with ⟨q0, q⟩ | ⟨_, _, q⟩
    · rw [q]
      have h1 := (wipeP_many (V := fun i => secV d.S d.L i) (ar := d.ar) (en - last) last 0 d.L d.ca m hwp.1).2 q0
      have h2 : d1.L = d.L := by rw [← hwp.2]; exact h1
      rw [h2]; exact hdL k
    · rw [q]; rfl
  have har2 : d2.ar = false := by
    rcases hd2 with ⟨_, q⟩ | ⟨_, _, q⟩
    · rw [q, arw]; exact har
    · rw [q]; show d1.ar = false; rw [arw]; exact har
  obtain ⟨S2, hS2⟩ : ∃ S2 : Nat → Nat → Int, ∀ t x, S2 t x = d2.S (64 * t + x) := ⟨_, fun _ _ => rfl⟩
  obtain ⟨L2, hL2⟩ : ∃ L2 : Nat → Nat → Int, ∀ t x, L2 t x = secV d2.S d2.L t x := ⟨_, fun _ _ => rfl⟩
  obtain ⟨W2, hW2⟩ : ∃ W2 : Nat → Bool, ∀ t : Nat, W2 t = (d2.L (t : Int)).isSome := ⟨_, fun _ => rfl⟩
  have hi2 : RIs d2 S2 L2 W2 (-1) := ⟨hS2, hL2, hW2, by rw [har2]; rfl⟩
  have cR : FnTr P (Gf fr) 79 [RD s V V W (-1)] [] 0 (Gives (.tup [RLg s S2 L2 W2 (-1) gen last (gs 0).1 b kc nl nf kc false, .lit .i64 0]) [] 5000) := by
    rcases hd2 with ⟨q0, q⟩ | ⟨q0, q1, q⟩
    · rw [q0] at hwr
      have eS : S2 = V := by funext t x; rw [hS2, q, hSw, hi.rs]
      rw [eS]
      exact ropen_ok0 hP hr (by omega) (by omega) hsim hR0 (by omega) hwr (fun t x => by rw [hL2, q, hSw]) (fun t => by rw [hW2, q]) hcm (by omega) rfl hb hnl hnf rN
    · refine ropen_okF (L' := L1') (W' := W1) (c' := -1) (c2 := -1) hP hr (by omega) (by omega) hsim hR0 (by omega) q0 hwr hL1' hW1 hcm (by omega) rfl hb hnl hnf (by omega) (by omega) ?_ ?_ (fun t => by rw [hW2, q]; rfl) (by rw [if_neg (by omega)]) rN
      · intro t x _ hx
        rw [hS2, q, hL1', ← hSw]
        show secV d1.S d1.L ((64 * t + x) / 64) ((64 * t + x) % 64) = _
        rw [show (64 * t + x) / 64 = t by omega, show (64 * t + x) % 64 = x by omega]
      · intro t x _ hx
        rw [hL2, q, secV_eq (L := (flushD d1).L) (fun _ => rfl), flushD_S _ _ _ hx, hL1', hSw]
  have hg0b := hbytes 0 (by omega)
  have key : ∀ i, i < kc → (gs (1 + i)).1 ≤ 65536 ∧ ∀ y, y < (gs (1 + i)).1 → 0 ≤ (gs (1 + i)).2 y ∧ (gs (1 + i)).2 y ≤ 255 := fun i hi => hbytes (1 + i) (by omega)
  have hcnt := recP_count _ hR0
  refine ⟨d2, gen, h, fi, en, last, (gs 0).1, kc, (gs 0).2, b, fun i => (gs i).1, nl, fun i => (gs i).2, nf, S2, L2, W2, ⟨hr, by omega, ⟨by omega, hlast⟩, ok2, by omega, fun x hx => ⟨(hb x).symm, by have := hg0b.2 x hx; omega⟩, Nat.le_refl _, rfl, fun i hi => ⟨(hnl i).symm, by have := (key i hi).1; rw [hnl]; omega, fun x => (hnf i x).symm, fun x hx => ?_⟩⟩, hi2, har2, by rw [Nat.add_comm 1 kc]; exact cO, cR⟩
  rw [hnl] at hx
  have := (key i hi).2 x hx
  rw [hnf]
  omega
end
section
variable {P : Program} {fr : Nat → Int} {s n nb : Nat} {RS RL : Nat → Nat → Int} {W : Nat → Bool} {c : Int} {d : Dk} {b : Nat → Int}
theorem begin27_facts (hP : P = Tryd.prog) (hfr : ∀ i, fr i = ((four i).toNat : Int)) (hn : n = 64 * s) (hs : 4 ≤ s ∧ s ≤ 4096) (ok : DkOk s d) (har : d.ar = false) (hi : RIs d RS RL W c) (hb : ∀ x, x < nb → 0 ≤ b x ∧ b x ≤ 255) (hnb : nb ≤ 60000) (nl : Nat → Nat) (nf : Nat → Nat → Int) :
    (∃ er : Int, (er = 2 ∨ er = 3) ∧ FnTr P (Gf fr) 23 [.ptr 0 0, By nb b] (DHd n d) 3 (Gives (.tup [.nilp, .lit .i64 er]) (DHd n d) 5000) ∧ FnTr P (Gf fr) 42 [RD s RS RL W c, By nb b] [] 0 (Gives (.tup [RLd s RS RL W c, .lit .i64 er]) [] 20000)) ∨
    ∃ (d2 : Dk) (RS2 RL2 : Nat → Nat → Int) (W2 : Nat → Bool) (c2 : Int), RIs d2 RS2 RL2 W2 c2 ∧
      ((DkOk s d2 ∧ FnTr P (Gf fr) 23 [.ptr 0 0, By nb b] (DHd n d) 3 (Gives (.tup [.nilp, .lit .i64 6]) (DHd n d2) 9000) ∧ FnTr P (Gf fr) 42 [RD s RS RL W c, By nb b] [] 0 (Gives (.tup [RLd s RS2 RL2 W2 c2, .lit .i64 6]) [] 20000)) ∨
      ∃ h g1 fi en at1 : Nat, WIs s h d2 g1 fi en at1 nb b b 0 0 0 nl nl nf nf ∧
        FnTr P (Gf fr) 23 [.ptr 0 0, By nb b] (DHd n d) 3 (Gives (.tup [.ptr 3 0, .lit .i64 0]) (LgH n d2 g1 at1 nb b (.l 0) 0 0 false 0 nl nf) 9000) ∧
        FnTr P (Gf fr) 42 [RD s RS RL W c, By nb b] [] 0 (Gives (.tup [RLg s RS2 RL2 W2 c2 g1 at1 nb b 0 nl nf 0 false, .lit .i64 0]) [] 20000)) := by
  have ho : ¬ offD d := fun q => by have := q.1; rw [har] at this; cases this
  have hc0 : c ≠ 0 := fun e => ho (hi.off.1 e)
  obtain ⟨h, hh⟩ : ∃ h, h = (s - 2) / 2 := ⟨_, rfl⟩
  by_cases hf : 65536 < nb + 4 ∨ h < needN (nb + 4)
  · exact .inl ⟨2, .inl rfl, begin_full hP hn hs hh (by omega) hf, rbegin_full hP hs hh (by omega) hf⟩
  have hVb : ∀ t, t < s → isB (secV d.S d.L t) := fun t ht => ok.bytes t ht
  have hRL : (fun t => secV d.S d.L t) = RL := by funext t x; rw [hi.rl]
  have hRLt : ∀ t, secV d.S d.L t = RL t := fun t => congrFun hRL t
  obtain ⟨g0, e0⟩ := genIs_ex (RL 0) 0
  obtain ⟨g1, e1⟩ := genIs_ex (RL 1) 1
  obtain ⟨gen, hgen⟩ : ∃ gen, gen = max g0 g1 := ⟨_, rfl⟩
  have hg1 := e0.le
  have hg2 := e1.le
  have cN := newest_at (P := P) (G := Gf fr) hP hn hs ok ho (by rw [hRLt]; exact e0) (by rw [hRLt]; exact e1) hgen
  have rN := rnewest_fn (P := P) (G := Gf fr) (s := s) (S := RS) (L := RL) (W := W) (c := c) hP (by omega) (by rw [← hRLt]; exact hVb 0 (by omega)) (by rw [← hRLt]; exact hVb 1 (by omega)) e0 e1 hgen
  by_cases hgl : gen = 1099511627776
  · exact .inl ⟨3, .inr rfl, begin_long hP hn hs hh (by omega) hf cN hgl, rbegin_long hP hs hh (by omega) hf hc0 rN hgl⟩
  right
  obtain ⟨q, hq⟩ : ∃ q, q = gen + 1 := ⟨_, rfl⟩
  obtain ⟨fi, hfi⟩ : ∃ fi, fi = 2 + q % 2 * h := ⟨_, rfl⟩
  obtain ⟨en, hen⟩ : ∃ en, en = fi + h := ⟨_, rfl⟩
  have hr : Reg s h q fi en := ⟨hs, hh, by omega, hfi, hen⟩
  obtain ⟨d2, at', e, hl⟩ := layIs_ex d q fi en (nb + 4) (sealF nb b)
  obtain ⟨RS2, RL2, W2, c2, hi2⟩ := RIs.ex d2
  obtain ⟨a1, ha1⟩ : ∃ a1, a1 = fi + needN (nb + 4) := ⟨_, rfl⟩
  have r1 := rlay_fn (P := P) (G := Gf fr) (a1 := a1) hP hr hb rfl (by omega) (by omega) ok hi hi2 ha1 hl
  have p1 := lay_fn (P := P) hP hfr hn hr hb rfl (by omega) (by omega) ok hl
  refine ⟨d2, RS2, RL2, W2, c2, hi2, ?_⟩
  have hle := hr.le
  have ok2 : DkOk s d2 := hl.okd ok ⟨by omega, by omega⟩ (fun i _ => sealF_range hb i) (by omega)
  rcases r1 with ⟨r2, a2, r3⟩ | ⟨r2, r4, r3⟩
  · rcases p1 with ⟨_, _, p3⟩ | ⟨p2, _, _⟩
    · exact .inl ⟨ok2, begin_err hP hn hs hh (by omega) hf cN (by omega) hq p3, rbegin_err hP hs hh (by omega) hf hc0 rN (by omega) hq r3⟩
    · omega
  · rcases p1 with ⟨p2, _, _⟩ | ⟨_, _, p3⟩
    · omega
    · rw [← ha1] at p3
      have hneed : 1 ≤ needN (nb + 4) := by unfold needN; omega
      exact .inr ⟨h, q, fi, en, a1, ⟨hr, by omega, ⟨by omega, by omega⟩, ok2, by omega, fun x hx => ⟨rfl, by have := hb x hx; omega⟩, by omega, rfl, fun i hi => absurd hi (Nat.not_lt_zero _)⟩, begin_ok hP hn hs hh (by omega) hf cN (by omega) hq p3 nl nf, rbegin_ok hP hs hh (by omega) hf hc0 rN (by omega) hq r3⟩
end
end Go.Proofs.YtnjjgipblimbfaaDoor.Dsk
namespace Go.WalLaw
open Go.DskLaw
theorem RIs.crash {s N n : Nat} {d : Dk} {RS RL : Nat → Nat → Int} {W : Nat → Bool} {c : Int} {ks kb : Nat → Int} (h : RIs d RS RL W c) (ok : DkOk s d) (hN : N = 64 * s) (hs : 1 ≤ s ∧ s ≤ 4096) :
    ∃ (d1 : Dk) (R1 : Nat → Nat → Int) (W1 : Nat → Bool) (M : Nat → Nat), RIs d1 R1 R1 W1 (-1) ∧ DkOk s d1 ∧ (∀ k, d1.L k = none) ∧ d1.ar = false ∧ d1.ca = 0 ∧ (∀ x, d1.S x = (crashP d.S d.L ks kb n).1 x) ∧
      (∀ t, M t = if W t then clampB (fromP ks kb (t : Int) n n) else 0) ∧ (∀ t x, x < 64 → R1 t x = if x < M t then RL t x else RS t x) ∧ ∀ t, W1 t = false := by
  obtain ⟨S1, hS1⟩ : ∃ S1 : Nat → Int, ∀ x, S1 x = (crashP d.S d.L ks kb n).1 x := ⟨_, fun _ => rfl⟩
  obtain ⟨M, hM⟩ : ∃ M : Nat → Nat, ∀ t, M t = if W t then clampB (fromP ks kb (t : Int) n n) else 0 := ⟨_, fun _ => rfl⟩
  have hsim := (h.sim ok hN hs).crash (S' := S1) (L' := fun _ => none) (R' := fun t x => if x < M t then RL t x else RS t x) (W' := fun _ => false) (M := M) (ks := ks) (kb := kb) (n := n) hS1 (fun _ => rfl) hM (fun _ _ => rfl) (fun _ => rfl)
  refine ⟨⟨S1, fun _ => none, false, 0⟩, fun t x => S1 (64 * t + x), fun _ => false, M, ⟨fun _ _ => rfl, fun _ _ => rfl, fun _ => rfl, rfl⟩, ⟨hsim.hca, hsim.key, fun x hx => hsim.sb x (by omega), hsim.lb⟩, fun _ => rfl, rfl, rfl, hS1, hM, fun t x hx => (hsim.rs t x hx).symm, fun _ => rfl⟩
end Go.WalLaw
namespace Go.Proofs.YtnjjgipblimbfaaDoor.Dsk
open Go.Eng
open Go.DskLaw (q64 secV clampB fromP)
set_option maxRecDepth 100000
set_option maxHeartbeats 4000000
theorem cat_rows {N e : NV} {f g : Nat → Int} : ∃ s, catG Ar.real 1 N (fun e => [.int .u8 (f e.val)]) (fun e => [.int .u8 (g e.val)]) e = [s] ∧ intOfSV s = some (.u8, if e.val < N.val then f e.val else g (e.val - N.val)) := by
  have key : ∀ x n : NV, ∃ s, (List.range 1).map (fun j => mergeSV Ar.real 4 (Ar.real.ltN x.val n.val) (([SV.int IntKind.u8 (f x.val)] : List SV).getD j .any) (([SV.int IntKind.u8 (g (subNV Ar.real x n).val)] : List SV).getD j .any)) = [s] ∧ intOfSV s = some (.u8, if x.val < n.val then f x.val else g (x.val - n.val)) := fun x n => by
    refine ⟨_, rfl, ?_⟩
    show intOfSV (mergeSV Ar.real 4 (Ar.real.ltN x.val n.val) (.int .u8 (f x.val)) (.int .u8 (g (subNV Ar.real x n).val))) = _
    rw [merge_ints (kd := .u8) rfl rfl, subNV_val]
    show some (IntKind.u8, if decide (x.val < n.val) = true then _ else _) = _
    by_cases q : x.val < n.val <;> simp [q]
  cases e with
  | s a => cases N <;> exact key _ _
  | l a =>
    cases N with
    | s b => exact key _ _
    | l b =>
      show ∃ s, (match Nat.blt a b with | true => [SV.int IntKind.u8 (f a)] | false => [SV.int IntKind.u8 (g (a - b))]) = [s] ∧ intOfSV s = some (.u8, if a < b then f a else g (a - b))
      by_cases q : a < b
      · have : Nat.blt a b = true := by simpa using q
        rw [this, if_pos q]; exact ⟨_, rfl, rfl⟩
      · have : Nat.blt a b = false := by
          cases h : Nat.blt a b with
          | false => rfl
          | true => exact absurd (by simpa using h) q
        rw [this, if_neg q]; exact ⟨_, rfl, rfl⟩
theorem refcrash_fn {P : Program} {G : Gl} (hP : P = Tryd.prog) {s n : Nat} {S L S' : Nat → Nat → Int} {W W' : Nat → Bool} {c : Int} {ks kb : Nat → Int} {M : Nat → Nat} (hs : s ≤ 4096) (hn : n ≤ 1000000)
    (hM : ∀ t, t < s → M t = if W t then clampB (fromP ks kb (t : Int) n n) else 0) (hS : ∀ t x, t < s → x < 64 → S' t x = if x < M t then L t x else S t x) (hW : ∀ t, W' t = false) :
    FnTr P G 78 [RD s S L W c, .ro 2 (.s n) (fun e => [.int .i64 (ks e.val), .int .i64 (kb e.val)])] [] 0 (Gives (RD s S' S' W' (-1)) [] 400) := by
  have c2 := copied_own (P := P) (G := G) (S := S) (L := L) (W := W) (c := c) hP hs
  obtain ⟨Si, hSi⟩ : ∃ Si : Nat → Nat → Nat → Int, ∀ i t x, Si i t x = if t < i then S' t x else S t x := ⟨_, fun _ _ _ => rfl⟩
  obtain ⟨Li, hLi⟩ : ∃ Li : Nat → Nat → Nat → Int, ∀ i t x, Li i t x = if t < i then S' t x else L t x := ⟨_, fun _ _ _ => rfl⟩
  obtain ⟨Wi, hWi⟩ : ∃ Wi : Nat → Nat → Bool, ∀ i t, Wi i t = if t < i then false else W t := ⟨_, fun _ _ => rfl⟩
  have s0 : ∀ t x, S t x = Si 0 t x := fun t x => by rw [hSi, if_neg (by omega)]
  have l0 : ∀ t x, L t x = Li 0 t x := fun t x => by rw [hLi, if_neg (by omega)]
  have w0 : ∀ t, W t = Wi 0 t := fun t => by rw [hWi, if_neg (by omega)]
  have sS : ∀ i t x, Si (i + 1) t x = if t = i then S' i x else Si i t x := fun i t x => by
    rw [hSi, hSi]
    by_cases q : t = i
    · subst q; rw [if_pos (by omega), if_pos rfl]
    · rw [if_neg q]
      by_cases q2 : t < i
      · rw [if_pos q2, if_pos (by omega)]
      · rw [if_neg q2, if_neg (by omega)]
  have lS : ∀ i t x, Li (i + 1) t x = if t = i then S' i x else Li i t x := fun i t x => by
    rw [hLi, hLi]
    by_cases q : t = i
    · subst q; rw [if_pos (by omega), if_pos rfl]
    · rw [if_neg q]
      by_cases q2 : t < i
      · rw [if_pos q2, if_pos (by omega)]
      · rw [if_neg q2, if_neg (by omega)]
  have wS : ∀ i t, Wi (i + 1) t = if t = i then false else Wi i t := fun i t => by
    rw [hWi, hWi]
    by_cases q : t = i
    · subst q; rw [if_pos (by omega), if_pos rfl]
    · rw [if_neg q]
      by_cases q2 : t < i
      · rw [if_pos q2, if_pos (by omega)]
      · rw [if_neg q2, if_neg (by omega)]
  have sE : ∀ t x, t < s → Si s t x = S' t x := fun t x h1 => by rw [hSi, if_pos h1]
  have lE : ∀ t x, t < s → Li s t x = S' t x := fun t x h1 => by rw [hLi, if_pos h1]
  have wE : ∀ t, t < s → Wi s t = W' t := fun t h1 => by rw [hWi, if_pos h1, hW]
  obtain ⟨mv, hmv⟩ : ∃ mv : Nat → Nat → Int, ∀ t x, mv t x = fromP ks kb (t : Int) n (n - x) := ⟨_, fun _ _ => rfl⟩
  have m0 : ∀ t, mv t n = 0 := fun t => by rw [hmv, Nat.sub_self]; rfl
  have mS : ∀ t x, x < n → mv t x = if ks x = (t : Int) then kb x else mv t (x + 1) := fun t x hx => by
    rw [hmv, hmv, show n - x = (n - (x + 1)) + 1 by omega]
    show (if ks (n - (n - (x + 1) + 1)) = (t : Int) then kb (n - (n - (x + 1) + 1)) else fromP ks kb (t : Int) n (n - (x + 1))) = _
    rw [show n - (n - (x + 1) + 1) = x by omega]
  have mE : ∀ t, t < s → M t = if W t then clampB (mv t 0) else 0 := fun t ht => by rw [hM t ht, hmv]; rfl
  obtain ⟨kj, hkj⟩ : ∃ kj : Nat → Int, ∀ x, kj x = (x : Int) - 1 := ⟨_, fun _ => rfl⟩
  have hk0 : ∀ x, 0 ≤ kj x ↔ 1 ≤ x := fun x => by rw [hkj]; omega
  have hkn : ∀ y, (kj (y + 1)).toNat = y := fun y => by rw [hkj]; omega
  have hkS : ∀ y, kj (y + 1) - 1 = kj y := fun y => by rw [hkj, hkj]; omega
  have hkb : ∀ y, y ≤ n → -1 ≤ kj y ∧ kj y ≤ 1000000 := fun y hy => by rw [hkj]; omega
  have hkN : kj n = (n : Int) - 1 := hkj n
  have mSi : ∀ (t x : Nat), x < n → (ks x = (t : Int) → mv t x = kb x) ∧ (¬ ks x = (t : Int) → mv t x = mv t (x + 1)) := fun t x hx => ⟨fun h => by rw [mS t x hx, if_pos h], fun h => by rw [mS t x hx, if_neg h]⟩
  clear mS hkj
  clear hSi hLi hWi hmv hM
  have h0 : FnTr P G 78 [RD s S L W c, .ro 2 (.s n) (fun e => [.int .i64 (ks e.val), .int .i64 (kb e.val)])] [] 0 (Gives (.agg [.sl 0 1 (.l 0) (.s s), .sl 1 1 (.l 0) (.s s), .sl 2 1 (.l 0) (.s s), .lit .i64 (-1)]) (RH 0 1 2 s S' S' W') 400) := by
    have hT : T.Ok P := hP ▸ T_ok
    refine jjI Tryd.f78 hT ?_
    generalize hA : Ar.real = A
    generalize hK : Gives _ _ _ = K
    cbv
    refine jjS hA (c2) [] ?_
    cbv
    refine LS.leU hT hA 44 (fun (i : Nat) => [(6, .int .i64 (i : Int))]) [] (fun i => RH 3 4 5 s (Si i) (Li i) (Wi i)) (fun i => i ≤ s) (fun i => s - i) 0 [] rfl rfl ?_ ?_ ?_
    · (try cbv) <;> (repeat' (first | exact trivial | exact rfl | apply And.intro | exact fun _ => rfl | (intro _ hle; first | refine chunk_le hA rfl hle rfl ?_ | refine cat_le hA ?_ | refine upd_le hA ?_ | refine int_le ?_ | skip)))
      all_goals first | exact s0 _ _ | exact l0 _ _ | exact w0 _ | exact jjO
    · exact Nat.zero_le _
    · intro R hR i hi
      cbv
      refine ⟨fun q1 => ?_, fun q1 => ?_⟩
      · have him : i < s := by clear hR sS lS wS mSi mE m0; subst hA; simp [Ar.real] at q1; omega
        have kn : A.nat (Int.ofNat i) = i := by clear hR; subst hA; rfl
        cbv
        refine ⟨jjO, ?_⟩
        refine LS.leU hT hA 44 (fun (x : Nat) => [(7, .int .i64 (mv i x)), (8, .int .i64 (kj x))]) [] (fun _ => []) (fun x => x ≤ n) (fun x => x) n [] rfl rfl ?_ ?_ ?_
        · clear hR
          (try cbv) <;> (repeat' (first | exact trivial | exact rfl | apply And.intro | exact fun _ => rfl | (intro _ hle; first | refine chunk_le hA rfl hle rfl ?_ | refine cat_le hA ?_ | refine upd_le hA ?_ | refine int_le ?_ | skip)))
          all_goals first | exact (m0 i).symm | (subst hA; exact hkN.symm)
        · exact Nat.le_refl _
        · intro Q hQ x hx
          cbv
          refine ⟨fun q2 => ?_, fun q2 => ?_⟩
          · have hx1 : 1 ≤ x := by
              have q3 : 0 ≤ kj x := by clear hR hQ; subst hA; simpa [Ar.real] using q2
              exact (hk0 x).1 q3
            obtain ⟨y, rfl⟩ : ∃ y, x = y + 1 := ⟨x - 1, by omega⟩
            have hky := hkS y
            have hkyb := hkb y (by omega)
            have hkyb1 := hkb (y + 1) (by omega)
            have hkyp := (hk0 (y + 1)).2 hx1
            have kny : A.nat (kj (y + 1)) = y := by have := hkn y; clear hR hQ; subst hA; exact this
            have kix : A.idx (kj (y + 1)) n := by have := hkn y; clear hR hQ; subst hA; exact ⟨hkyp, by omega⟩
            have ksb : A.sub (kj (y + 1)) 1 = kj y := by clear hR hQ; subst hA; exact hky
            have ksr : A.inR .i64 (A.sub (kj (y + 1)) 1) := by rw [ksb]; clear hR hQ; subst hA; exact zi
            have hmy := mSi i y (by omega)
            cbv
            refine ⟨kix, ?_⟩
            by_cases hm : A.eq (ks (A.nat (kj (y + 1)))) (Int.ofNat i) = true
            · have hm2 : ks y = Int.ofNat i := by rw [kny] at hm; clear hR hQ; subst hA; simpa [Ar.real] using hm
              have hmm := hmy.1 hm2
              first | refine testR hm rfl ?_ | refine testL hm rfl ?_
              cbv
              refine ⟨kix, ?_⟩
              refine ⟨ksr, hQ _ _ ⟨y, 44, [], rfl, rfl, ?_, (by omega), (by show y < y + 1; omega)⟩⟩
              clear hR hQ
              (try cbv) <;> (repeat' (first | exact trivial | exact rfl | apply And.intro | exact fun _ => rfl | (intro _ hle; first | refine chunk_le hA rfl hle rfl ?_ | refine cat_le hA ?_ | refine upd_le hA ?_ | refine int_le ?_ | skip)))
              all_goals first | exact ksb | (rw [kny]; exact hmm.symm) | exact jjO
            · have hm1 : A.eq (ks (A.nat (kj (y + 1)))) (Int.ofNat i) = false := by
                cases h : A.eq (ks (A.nat (kj (y + 1)))) (Int.ofNat i) with
                | false => rfl
                | true => exact absurd h hm
              have hm2 : ¬ ks y = Int.ofNat i := by rw [kny] at hm1; clear hR hQ; subst hA; simpa [Ar.real] using hm1
              have hmm := hmy.2 hm2
              first | refine testR hm1 rfl ?_ | refine testL hm1 rfl ?_
              cbv
              refine ⟨ksr, hQ _ _ ⟨y, 44, [], rfl, rfl, ?_, (by omega), (by show y < y + 1; omega)⟩⟩
              clear hR hQ
              (try cbv) <;> (repeat' (first | exact trivial | exact rfl | apply And.intro | exact fun _ => rfl | (intro _ hle; first | refine chunk_le hA rfl hle rfl ?_ | refine cat_le hA ?_ | refine upd_le hA ?_ | refine int_le ?_ | skip)))
              all_goals first | exact ksb | exact hmm.symm | exact jjO
          · have hx0 : x = 0 := by
              have q3 : ¬ 0 ≤ kj x := by clear hR hQ; subst hA; simpa [Ar.real] using q2
              rcases Nat.lt_or_ge x 1 with q4 | q4
              · omega
              · exact absurd ((hk0 x).2 q4) q3
            subst hx0
            clear hQ mSi hkS hkb hk0 hkn
            cbv
            have hMi := mE i him
            have hSi' := fun x (hx : x < 64) => hS i x him hx
            by_cases ha : mv i 0 < 0
            · have k1 : A.lt (mv i 0) 0 = true := by clear hR; subst hA; simpa [Ar.real] using ha
              have hM0 : M i = 0 := by rw [hMi]; unfold clampB; split <;> omega
              first | refine testR k1 rfl ?_ | refine testL k1 rfl ?_
              cbv
              have hrow : RowOf .u8 64 (fun x => S' i x) (.ro 1 (.s (A.subN 64 0)) (fun e => (fun e => [.int .u8 (S (A.nat (Int.ofNat i)) (addNV A (.l 0) e).val)]) (addNV A (.l 0) e))) := by
                clear hR
                rw [kn]
                refine ⟨_, _, rfl, by subst hA; rfl, fun x hx => ⟨_, rfl, ?_⟩⟩
                show _ = some (IntKind.u8, S' i x.val)
                rw [hSi' x.val hx, hM0, if_neg (by omega)]
                subst hA
                show some (IntKind.u8, S i (addNV Ar.real (.l 0) (addNV Ar.real (.l 0) x)).val) = _
                rw [addNV_val, addNV_val]
                show some (IntKind.u8, S i (0 + (0 + x.val))) = _
                rw [Nat.zero_add, Nat.zero_add]
              have hup : ∀ e, ltNV A e (.s s) → leL (leSV A 4) (updF A 1 (.s (A.nat (Int.ofNat i))) 0 [(.ro 1 (.s (A.subN 64 0)) (fun e => (fun e => [.int .u8 (S (A.nat (Int.ofNat i)) (addNV A (.l 0) e).val)]) (addNV A (.l 0) e)))] (fun e => [.ro 1 (.s 64) (fun x => [.int .u8 (Si i e.val x.val)])]) e) [.ro 1 (.s 64) (fun x => [.int .u8 (Si (i + 1) e.val x.val)])] := fun e he =>
                upd_rows (F := Si i) (F' := Si (i + 1)) (v := fun x => S' i x) hA hrow (fun t x h1 h2 => by rw [kn]; exact sS i t x) he rfl
              have hup1 : ∀ e, ltNV A e (.s s) → leL (leSV A 4) (updF A 1 (.s (A.nat (Int.ofNat i))) 0 [.ro 1 (.s 64) fun x => [.int .u8 (Si (i + 1) (A.nat (Int.ofNat i)) x.val)]] (fun e => [.ro 1 (.s 64) (fun x => [.int .u8 (Li i e.val x.val)])]) e) [.ro 1 (.s 64) (fun x => [.int .u8 (Li (i + 1) e.val x.val)])] := fun e he =>
                upd_rows (F := Li i) (F' := Li (i + 1)) (v := fun x => Si (i + 1) (A.nat (Int.ofNat i)) x) hA (RowOf.base .u8 64 _) (fun t x h1 h2 => by rw [kn, sS i i x, if_pos rfl]; exact lS i t x) he rfl
              have hup2 : ∀ e, ltNV A e (.s s) → leL (leSV A 4) (updF A 1 (.s (A.nat (Int.ofNat i))) 0 [.bl false] (fun e => [.bs (Wi i e.val)]) e) [.bs (Wi (i + 1) e.val)] := fun e he =>
                Bls.le hA (g := Wi (i + 1)) (Bls.upd hA (A.nat (Int.ofNat i)) (v := false) rfl (Bls.base (Wi i) s)) he (Nat.le_refl _) (by
                  rw [kn]; exact (wS _ _).symm)
              refine ⟨?_, ⟨?_, ?_, ?_⟩, ⟨?_, ?_⟩, ?_, ⟨?_, ?_, ?_⟩, ⟨?_, ?_⟩, ?_, ⟨⟨?_, trivial⟩, ?_⟩, ?_⟩
              iterate 15 exact jjO
              refine DS.blk hA 3 (.row 22 1 (.s s) (fun e => [.ro 1 (.s 64) (fun x => [.int .u8 (Si (i + 1) e.val x.val)])])) ?_ ?_
              · (try cbv) <;> (repeat' (first | exact trivial | exact rfl | apply And.intro | exact fun _ => rfl | (intro _ hle; first | exact hup _ hle | refine chunk_le hA rfl hle rfl ?_ | refine cat_le hA ?_ | refine upd_le hA ?_ | refine int_le ?_ | skip)))
              refine jjR hA hT 4 ?_
              cbv
              refine ⟨?_, ?_, ?_, ?_, ?_⟩
              iterate 4 exact jjO
              refine jjD ?_
              cbv
              refine ⟨?_, ?_, ?_, hR _ _ ⟨i + 1, 44, [], rfl, rfl, ?_, him, (by show s - (i + 1) < s - i; omega)⟩⟩
              iterate 3 exact jjO
              clear hR
              (try cbv) <;> (repeat' (first | exact trivial | exact rfl | apply And.intro | exact fun _ => rfl | (intro _ hle; first | exact hup1 _ hle | exact hup2 _ hle | refine chunk_le hA rfl hle rfl ?_ | refine cat_le hA ?_ | refine upd_le hA ?_ | refine int_le ?_ | skip)))
              all_goals exact jjO
            have k1 : A.lt (mv i 0) 0 = false := by clear hR; subst hA; simpa [Ar.real] using ha
            cases hw : W i with
            | false =>
              have hM0 : M i = 0 := by rw [hMi, hw]; rfl
              have k2 : A.not (W (A.nat (Int.ofNat i))) = true := by rw [kn, hw]; clear hR; subst hA; rfl
              first | refine testR k1 rfl ?_ | refine testL k1 rfl ?_
              cbv
              refine ⟨jjO, ?_⟩
              first | refine testR k2 rfl ?_ | refine testL k2 rfl ?_
              cbv
              have hrow : RowOf .u8 64 (fun x => S' i x) (.ro 1 (.s (A.subN 64 0)) (fun e => (fun e => [.int .u8 (S (A.nat (Int.ofNat i)) (addNV A (.l 0) e).val)]) (addNV A (.l 0) e))) := by
                clear hR
                rw [kn]
                refine ⟨_, _, rfl, by subst hA; rfl, fun x hx => ⟨_, rfl, ?_⟩⟩
                show _ = some (IntKind.u8, S' i x.val)
                rw [hSi' x.val hx, hM0, if_neg (by omega)]
                subst hA
                show some (IntKind.u8, S i (addNV Ar.real (.l 0) (addNV Ar.real (.l 0) x)).val) = _
                rw [addNV_val, addNV_val]
                show some (IntKind.u8, S i (0 + (0 + x.val))) = _
                rw [Nat.zero_add, Nat.zero_add]
              have hup : ∀ e, ltNV A e (.s s) → leL (leSV A 4) (updF A 1 (.s (A.nat (Int.ofNat i))) 0 [(.ro 1 (.s (A.subN 64 0)) (fun e => (fun e => [.int .u8 (S (A.nat (Int.ofNat i)) (addNV A (.l 0) e).val)]) (addNV A (.l 0) e)))] (fun e => [.ro 1 (.s 64) (fun x => [.int .u8 (Si i e.val x.val)])]) e) [.ro 1 (.s 64) (fun x => [.int .u8 (Si (i + 1) e.val x.val)])] := fun e he =>
                upd_rows (F := Si i) (F' := Si (i + 1)) (v := fun x => S' i x) hA hrow (fun t x h1 h2 => by rw [kn]; exact sS i t x) he rfl
              have hup1 : ∀ e, ltNV A e (.s s) → leL (leSV A 4) (updF A 1 (.s (A.nat (Int.ofNat i))) 0 [.ro 1 (.s 64) fun x => [.int .u8 (Si (i + 1) (A.nat (Int.ofNat i)) x.val)]] (fun e => [.ro 1 (.s 64) (fun x => [.int .u8 (Li i e.val x.val)])]) e) [.ro 1 (.s 64) (fun x => [.int .u8 (Li (i + 1) e.val x.val)])] := fun e he =>
                upd_rows (F := Li i) (F' := Li (i + 1)) (v := fun x => Si (i + 1) (A.nat (Int.ofNat i)) x) hA (RowOf.base .u8 64 _) (fun t x h1 h2 => by rw [kn, sS i i x, if_pos rfl]; exact lS i t x) he rfl
              have hup2 : ∀ e, ltNV A e (.s s) → leL (leSV A 4) (updF A 1 (.s (A.nat (Int.ofNat i))) 0 [.bl false] (fun e => [.bs (Wi i e.val)]) e) [.bs (Wi (i + 1) e.val)] := fun e he =>
                Bls.le hA (g := Wi (i + 1)) (Bls.upd hA (A.nat (Int.ofNat i)) (v := false) rfl (Bls.base (Wi i) s)) he (Nat.le_refl _) (by
                  rw [kn]; exact (wS _ _).symm)
              refine ⟨?_, ⟨?_, ?_, ?_⟩, ⟨?_, ?_⟩, ?_, ⟨?_, ?_, ?_⟩, ⟨?_, ?_⟩, ?_, ⟨⟨?_, trivial⟩, ?_⟩, ?_⟩
              iterate 15 exact jjO
              refine DS.blk hA 3 (.row 22 1 (.s s) (fun e => [.ro 1 (.s 64) (fun x => [.int .u8 (Si (i + 1) e.val x.val)])])) ?_ ?_
              · (try cbv) <;> (repeat' (first | exact trivial | exact rfl | apply And.intro | exact fun _ => rfl | (intro _ hle; first | exact hup _ hle | refine chunk_le hA rfl hle rfl ?_ | refine cat_le hA ?_ | refine upd_le hA ?_ | refine int_le ?_ | skip)))
              refine jjR hA hT 4 ?_
              cbv
              refine ⟨?_, ?_, ?_, ?_, ?_⟩
              iterate 4 exact jjO
              refine jjD ?_
              cbv
              refine ⟨?_, ?_, ?_, hR _ _ ⟨i + 1, 44, [], rfl, rfl, ?_, him, (by show s - (i + 1) < s - i; omega)⟩⟩
              iterate 3 exact jjO
              clear hR
              (try cbv) <;> (repeat' (first | exact trivial | exact rfl | apply And.intro | exact fun _ => rfl | (intro _ hle; first | exact hup1 _ hle | exact hup2 _ hle | refine chunk_le hA rfl hle rfl ?_ | refine cat_le hA ?_ | refine upd_le hA ?_ | refine int_le ?_ | skip)))
              all_goals exact jjO
            | true =>
              have hM1 : M i = clampB (mv i 0) := by rw [hMi, hw]; rfl
              have k2 : A.not (W (A.nat (Int.ofNat i))) = false := by rw [kn, hw]; clear hR; subst hA; rfl
              by_cases hb : 64 < mv i 0
              · have k3 : A.gt (mv i 0) 64 = true := by clear hR; subst hA; simpa [Ar.real] using hb
                have hM64 : M i = 64 := by rw [hM1]; unfold clampB; omega
                first | refine testR k1 rfl ?_ | refine testL k1 rfl ?_
                cbv
                refine ⟨jjO, ?_⟩
                first | refine testR k2 rfl ?_ | refine testL k2 rfl ?_
                cbv
                first | refine testR k3 rfl ?_ | refine testL k3 rfl ?_
                cbv
                have hrow : RowOf .u8 64 (fun x => S' i x) (.ro 1 (.s (A.addN 64 (A.subN 64 64))) (fun e => catG A 1 (.l 64) (fun e => [.int .u8 (L (A.nat (Int.ofNat i)) (addNV A (.l 0) e).val)]) (fun e => [.int .u8 (S (A.nat (Int.ofNat i)) (addNV A (.l 64) e).val)]) (addNV A (.l 0) e))) := by
                  clear hR
                  rw [kn]
                  subst hA
                  have hf : (fun e : NV => [SV.int IntKind.u8 (L i (addNV Ar.real (.l 0) e).val)]) = fun e => [SV.int IntKind.u8 (L i e.val)] := by
                    funext e; rw [addNV_val]; show [SV.int IntKind.u8 (L i (0 + e.val))] = _; rw [Nat.zero_add]
                  have hg : (fun e : NV => [SV.int IntKind.u8 (S i (addNV Ar.real (.l 64) e).val)]) = fun e => [SV.int IntKind.u8 ((fun y => S i (M i + y)) e.val)] := by
                    funext e; rw [addNV_val]; rw [show ((.l 64) : NV).val = M i from hM64.symm]
                  rw [hf, hg]
                  refine ⟨_, _, rfl, ?_, fun x hx => ?_⟩
                  · rfl
                  obtain ⟨t, h1, h2⟩ := cat_rows (N := .l 64) (f := L i) (g := fun y => S i (M i + y)) (e := addNV Ar.real (.l 0) x)
                  refine ⟨t, h1, ?_⟩
                  have hx0 : (addNV Ar.real (.l 0) x).val = x.val := by rw [addNV_val]; show 0 + x.val = _; rw [Nat.zero_add]
                  have hNN : (NV.l 64).val = M i := hM64.symm
                  rw [h2, hx0, hNN]
                  show _ = some (IntKind.u8, S' i x.val)
                  rw [hSi' x.val hx]
                  by_cases q : x.val < M i
                  · rw [if_pos q, if_pos q]
                  · rw [if_neg q, if_neg q, show M i + (x.val - M i) = x.val by omega]
                have hup : ∀ e, ltNV A e (.s s) → leL (leSV A 4) (updF A 1 (.s (A.nat (Int.ofNat i))) 0 [(.ro 1 (.s (A.addN 64 (A.subN 64 64))) (fun e => catG A 1 (.l 64) (fun e => [.int .u8 (L (A.nat (Int.ofNat i)) (addNV A (.l 0) e).val)]) (fun e => [.int .u8 (S (A.nat (Int.ofNat i)) (addNV A (.l 64) e).val)]) (addNV A (.l 0) e)))] (fun e => [.ro 1 (.s 64) (fun x => [.int .u8 (Si i e.val x.val)])]) e) [.ro 1 (.s 64) (fun x => [.int .u8 (Si (i + 1) e.val x.val)])] := fun e he =>
                  upd_rows (F := Si i) (F' := Si (i + 1)) (v := fun x => S' i x) hA hrow (fun t x h1 h2 => by rw [kn]; exact sS i t x) he rfl
                have hup1 : ∀ e, ltNV A e (.s s) → leL (leSV A 4) (updF A 1 (.s (A.nat (Int.ofNat i))) 0 [.ro 1 (.s 64) fun x => [.int .u8 (Si (i + 1) (A.nat (Int.ofNat i)) x.val)]] (fun e => [.ro 1 (.s 64) (fun x => [.int .u8 (Li i e.val x.val)])]) e) [.ro 1 (.s 64) (fun x => [.int .u8 (Li (i + 1) e.val x.val)])] := fun e he =>
                  upd_rows (F := Li i) (F' := Li (i + 1)) (v := fun x => Si (i + 1) (A.nat (Int.ofNat i)) x) hA (RowOf.base .u8 64 _) (fun t x h1 h2 => by rw [kn, sS i i x, if_pos rfl]; exact lS i t x) he rfl
                have hup2 : ∀ e, ltNV A e (.s s) → leL (leSV A 4) (updF A 1 (.s (A.nat (Int.ofNat i))) 0 [.bl false] (fun e => [.bs (Wi i e.val)]) e) [.bs (Wi (i + 1) e.val)] := fun e he =>
                  Bls.le hA (g := Wi (i + 1)) (Bls.upd hA (A.nat (Int.ofNat i)) (v := false) rfl (Bls.base (Wi i) s)) he (Nat.le_refl _) (by
                    rw [kn]; exact (wS _ _).symm)
                refine ⟨?_, ⟨?_, ?_, ?_⟩, ⟨?_, ?_⟩, ?_, ⟨?_, ?_, ?_⟩, ⟨?_, ?_⟩, ?_, ⟨⟨?_, trivial⟩, ?_⟩, ?_⟩
                iterate 15 exact jjO
                refine DS.blk hA 3 (.row 22 1 (.s s) (fun e => [.ro 1 (.s 64) (fun x => [.int .u8 (Si (i + 1) e.val x.val)])])) ?_ ?_
                · (try cbv) <;> (repeat' (first | exact trivial | exact rfl | apply And.intro | exact fun _ => rfl | (intro _ hle; first | exact hup _ hle | refine chunk_le hA rfl hle rfl ?_ | refine cat_le hA ?_ | refine upd_le hA ?_ | refine int_le ?_ | skip)))
                refine jjR hA hT 4 ?_
                cbv
                refine ⟨?_, ?_, ?_, ?_, ?_⟩
                iterate 4 exact jjO
                refine jjD ?_
                cbv
                refine ⟨?_, ?_, ?_, hR _ _ ⟨i + 1, 44, [], rfl, rfl, ?_, him, (by show s - (i + 1) < s - i; omega)⟩⟩
                iterate 3 exact jjO
                clear hR
                (try cbv) <;> (repeat' (first | exact trivial | exact rfl | apply And.intro | exact fun _ => rfl | (intro _ hle; first | exact hup1 _ hle | exact hup2 _ hle | refine chunk_le hA rfl hle rfl ?_ | refine cat_le hA ?_ | refine upd_le hA ?_ | refine int_le ?_ | skip)))
                all_goals exact jjO
              · have k3 : A.gt (mv i 0) 64 = false := by clear hR; subst hA; simpa [Ar.real] using hb
                first | refine testR k1 rfl ?_ | refine testL k1 rfl ?_
                cbv
                refine ⟨jjO, ?_⟩
                first | refine testR k2 rfl ?_ | refine testL k2 rfl ?_
                cbv
                first | refine testR k3 rfl ?_ | refine testL k3 rfl ?_
                cbv
                have hMn : (mv i 0).toNat = M i := by rw [hM1]; unfold clampB; omega
                have hm64 : M i ≤ 64 := by rw [hM1]; unfold clampB; omega
                have knm : A.nat (mv i 0) = M i := by clear hR; subst hA; exact hMn
                have kmn : A.nn (mv i 0) := by clear hR; subst hA; show 0 ≤ mv i 0; omega
                have kml : A.leN (A.nat (mv i 0)) 64 := by rw [knm]; clear hR; subst hA; exact hm64
                have kmr : A.leN (A.mulN (A.addN 0 (A.subN (A.nat (mv i 0)) 0)) 1) 140737488355328 := by rw [knm]; clear hR; subst hA; show (0 + (M i - 0)) * 1 ≤ 140737488355328; omega
                have kmr2 : A.leN (A.mulN (A.addN (A.subN (A.nat (mv i 0)) 0) (A.subN 64 (A.nat (mv i 0)))) 1) 140737488355328 := by rw [knm]; clear hR; subst hA; show ((M i - 0) + (64 - M i)) * 1 ≤ 140737488355328; omega
                have kml2 : A.leN (A.addN 0 (A.addN (A.subN (A.nat (mv i 0)) 0) (A.subN 64 (A.nat (mv i 0))))) (A.addN (A.subN (A.nat (mv i 0)) 0) (A.subN 64 (A.nat (mv i 0)))) := by clear hR; subst hA; show 0 + _ ≤ _; omega
                have hrow : RowOf .u8 64 (fun x => S' i x) (.ro 1 (.s (A.addN (A.subN (A.nat (mv i 0)) 0) (A.subN 64 (A.nat (mv i 0))))) (fun e => catG A 1 (.s (A.subN (A.nat (mv i 0)) 0)) (fun e => [.int .u8 (L (A.nat (Int.ofNat i)) (addNV A (.l 0) e).val)]) (fun e => [.int .u8 (S (A.nat (Int.ofNat i)) (addNV A (.s (A.nat (mv i 0))) e).val)]) (addNV A (.l 0) e))) := by
                  clear hR
                  rw [kn]
                  subst hA
                  have hf : (fun e : NV => [SV.int IntKind.u8 (L i (addNV Ar.real (.l 0) e).val)]) = fun e => [SV.int IntKind.u8 (L i e.val)] := by
                    funext e; rw [addNV_val]; show [SV.int IntKind.u8 (L i (0 + e.val))] = _; rw [Nat.zero_add]
                  have hg : (fun e : NV => [SV.int IntKind.u8 (S i (addNV Ar.real (.s (Ar.real.nat (mv i 0))) e).val)]) = fun e => [SV.int IntKind.u8 ((fun y => S i (M i + y)) e.val)] := by
                    funext e; rw [addNV_val]; rw [show ((.s (Ar.real.nat (mv i 0))) : NV).val = M i from hMn]
                  rw [hf, hg]
                  refine ⟨_, _, rfl, ?_, fun x hx => ?_⟩
                  · show ((mv i 0).toNat - 0) + (64 - (mv i 0).toNat) = 64; omega
                  obtain ⟨t, h1, h2⟩ := cat_rows (N := .s (Ar.real.subN (Ar.real.nat (mv i 0)) 0)) (f := L i) (g := fun y => S i (M i + y)) (e := addNV Ar.real (.l 0) x)
                  refine ⟨t, h1, ?_⟩
                  have hx0 : (addNV Ar.real (.l 0) x).val = x.val := by rw [addNV_val]; show 0 + x.val = _; rw [Nat.zero_add]
                  have hNN : (NV.s (Ar.real.subN (Ar.real.nat (mv i 0)) 0)).val = M i := hMn
                  rw [h2, hx0, hNN]
                  show _ = some (IntKind.u8, S' i x.val)
                  rw [hSi' x.val hx]
                  by_cases q : x.val < M i
                  · rw [if_pos q, if_pos q]
                  · rw [if_neg q, if_neg q, show M i + (x.val - M i) = x.val by omega]
                have hup : ∀ e, ltNV A e (.s s) → leL (leSV A 4) (updF A 1 (.s (A.nat (Int.ofNat i))) 0 [(.ro 1 (.s (A.addN (A.subN (A.nat (mv i 0)) 0) (A.subN 64 (A.nat (mv i 0))))) (fun e => catG A 1 (.s (A.subN (A.nat (mv i 0)) 0)) (fun e => [.int .u8 (L (A.nat (Int.ofNat i)) (addNV A (.l 0) e).val)]) (fun e => [.int .u8 (S (A.nat (Int.ofNat i)) (addNV A (.s (A.nat (mv i 0))) e).val)]) (addNV A (.l 0) e)))] (fun e => [.ro 1 (.s 64) (fun x => [.int .u8 (Si i e.val x.val)])]) e) [.ro 1 (.s 64) (fun x => [.int .u8 (Si (i + 1) e.val x.val)])] := fun e he =>
                  upd_rows (F := Si i) (F' := Si (i + 1)) (v := fun x => S' i x) hA hrow (fun t x h1 h2 => by rw [kn]; exact sS i t x) he rfl
                have hup1 : ∀ e, ltNV A e (.s s) → leL (leSV A 4) (updF A 1 (.s (A.nat (Int.ofNat i))) 0 [.ro 1 (.s 64) fun x => [.int .u8 (Si (i + 1) (A.nat (Int.ofNat i)) x.val)]] (fun e => [.ro 1 (.s 64) (fun x => [.int .u8 (Li i e.val x.val)])]) e) [.ro 1 (.s 64) (fun x => [.int .u8 (Li (i + 1) e.val x.val)])] := fun e he =>
                  upd_rows (F := Li i) (F' := Li (i + 1)) (v := fun x => Si (i + 1) (A.nat (Int.ofNat i)) x) hA (RowOf.base .u8 64 _) (fun t x h1 h2 => by rw [kn, sS i i x, if_pos rfl]; exact lS i t x) he rfl
                have hup2 : ∀ e, ltNV A e (.s s) → leL (leSV A 4) (updF A 1 (.s (A.nat (Int.ofNat i))) 0 [.bl false] (fun e => [.bs (Wi i e.val)]) e) [.bs (Wi (i + 1) e.val)] := fun e he =>
                  Bls.le hA (g := Wi (i + 1)) (Bls.upd hA (A.nat (Int.ofNat i)) (v := false) rfl (Bls.base (Wi i) s)) he (Nat.le_refl _) (by
                    rw [kn]; exact (wS _ _).symm)
                refine ⟨?_, ⟨kmn, ?_, kml⟩, ⟨?_, kmr⟩, ?_, ⟨kmn, kml, ?_⟩, ⟨?_, kmr2⟩, ?_, ⟨⟨kml2, trivial⟩, ?_⟩, ?_⟩
                iterate 8 exact jjO
                refine DS.blk hA 3 (.row 22 1 (.s s) (fun e => [.ro 1 (.s 64) (fun x => [.int .u8 (Si (i + 1) e.val x.val)])])) ?_ ?_
                · (try cbv) <;> (repeat' (first | exact trivial | exact rfl | apply And.intro | exact fun _ => rfl | (intro _ hle; first | exact hup _ hle | refine chunk_le hA rfl hle rfl ?_ | refine cat_le hA ?_ | refine upd_le hA ?_ | refine int_le ?_ | skip)))
                refine jjR hA hT 4 ?_
                cbv
                refine ⟨?_, ?_, ?_, ?_, ?_⟩
                iterate 4 exact jjO
                refine jjD ?_
                cbv
                refine ⟨?_, ?_, ?_, hR _ _ ⟨i + 1, 44, [], rfl, rfl, ?_, him, (by show s - (i + 1) < s - i; omega)⟩⟩
                iterate 3 exact jjO
                clear hR
                (try cbv) <;> (repeat' (first | exact trivial | exact rfl | apply And.intro | exact fun _ => rfl | (intro _ hle; first | exact hup1 _ hle | exact hup2 _ hle | refine chunk_le hA rfl hle rfl ?_ | refine cat_le hA ?_ | refine upd_le hA ?_ | refine int_le ?_ | skip)))
                all_goals exact jjO
      · have him : i = s := by clear hR sS lS wS mSi mE m0; subst hA; simp [Ar.real] at q1; omega
        subst him
        clear hR
        cbv
        refine Fin.le hA 0 [(3, 0), (4, 1), (5, 2)] (.agg [.sl 0 1 (.l 0) (.s i), .sl 1 1 (.l 0) (.s i), .sl 2 1 (.l 0) (.s i), .lit .i64 (-1)]) _ 400 rfl rfl rfl ?_ ?_ jjK
        · exact jjL
        · have hS2 : ∀ e, ltNV A e (.s i) → leL (leSV A 4) [.ro 1 (.s 64) (fun x => [.int .u8 (Si i e.val x.val)])] [.ro 1 (.s 64) (fun x => [.int .u8 (S' e.val x.val)])] := fun e he =>
            Rws.le hA (f := Si i) (g := S') (len := 64) (n := i) (Rws.base .u8 64 (Si i) i) he (Nat.le_refl _) rfl (fun x hx => sE _ x (by subst hA; exact ltNV_real.1 he))
          have hL2 : ∀ e, ltNV A e (.s i) → leL (leSV A 4) [.ro 1 (.s 64) (fun x => [.int .u8 (Li i e.val x.val)])] [.ro 1 (.s 64) (fun x => [.int .u8 (S' e.val x.val)])] := fun e he =>
            Rws.le hA (f := Li i) (g := S') (len := 64) (n := i) (Rws.base .u8 64 (Li i) i) he (Nat.le_refl _) rfl (fun x hx => lE _ x (by subst hA; exact ltNV_real.1 he))
          have hW2 : ∀ e, ltNV A e (.s i) → leL (leSV A 4) [.bs (Wi i e.val)] [.bs (W' e.val)] := fun e he =>
            Bls.le hA (f := Wi i) (g := W') (Bls.base (Wi i) i) he (Nat.le_refl _) (wE _ (by subst hA; exact ltNV_real.1 he))
          (try cbv) <;> (repeat' (first | exact trivial | exact rfl | apply And.intro | exact fun _ => rfl | (intro _ hle; first | exact hS2 _ hle | exact hL2 _ hle | exact hW2 _ hle | refine chunk_le hA rfl hle rfl ?_ | refine cat_le hA ?_ | refine upd_le hA ?_ | refine int_le ?_ | skip)))
  generalize hA : Ar.real = A
  refine FnTr.dat hA h0 _ _ ?_
  (try cbv) <;> (repeat' (first | exact trivial | exact rfl | apply And.intro | exact fun _ => rfl | (intro _ hle; first | refine chunk_le hA rfl hle rfl ?_ | refine cat_le hA ?_ | refine upd_le hA ?_ | refine int_le ?_ | skip)))
  all_goals exact jjO
open Go.DskLaw (q64 secV isB needN pcs getP Sim wipeP crashP fromP clampB)
open Go.WalLaw
set_option maxHeartbeats 1000000
theorem crash27_facts {P : Program} {G : Gl} {s N n : Nat} {RS RL : Nat → Nat → Int} {W : Nat → Bool} {c : Int} {d : Dk} {ks kb : Nat → Int} (hP : P = Tryd.prog) (hN : N = 64 * s) (hs : 1 ≤ s ∧ s ≤ 4096) (ok : DkOk s d) (hi : RIs d RS RL W c) (hn : n ≤ 1000000) :
    ∃ (d1 : Dk) (R1 : Nat → Nat → Int) (W1 : Nat → Bool), RIs d1 R1 R1 W1 (-1) ∧ DkOk s d1 ∧ (∀ k, d1.L k = none) ∧ d1.ar = false ∧
      FnTr P G 78 [RD s RS RL W c, .ro 2 (.s n) (fun e => [.int .i64 (ks e.val), .int .i64 (kb e.val)])] [] 0 (Gives (RD s R1 R1 W1 (-1)) [] 400) ∧
      FnTr P G 40 [.ptr 0 0, .ro 2 (.s n) (fun e => [.int .i64 (ks e.val), .int .i64 (kb e.val)])] (DHd N d) 3 (Gives (.tup []) (DHd N d1) 3) := by
  obtain ⟨d1, R1, W1, M, h1, h2, h3, h4, h5, h6, h7, h8, h9⟩ := hi.crash (ks := ks) (kb := kb) (n := n) ok hN hs
  refine ⟨d1, R1, W1, h1, h2, h3, h4, refcrash_fn hP hs.2 hn (fun t _ => h7 t) (fun t x _ hx => h8 t x hx) h9, ?_⟩
  have := crash_fn (P := P) (G := G) (S := d.S) (L := d.L) (ar := d.ar) (ca := d.ca) (S' := d1.S) (L' := d1.L) (ks := ks) (kb := kb) hP hN hs.2 hn ok.key (fun x _ => h6 x) h3
  show FnTr P G _ _ _ 3 (Gives (.tup []) (DH N d1.S d1.L d1.ar d1.ca) 3)
  rw [h4, h5]
  exact this
open Go.DskLaw (q64 secV isB needN pcs Sim wipeP)
open Go.CrcLaw (four)
structure LSt where
  d : Dk
  RS : Nat → Nat → Int
  RL : Nat → Nat → Int
  W : Nat → Bool
  cc : Int
  gen : Nat
  at1 : Nat
  nb : Nat
  b : Nat → Int
  bd : Nat → Int
  o : NV
  kc : Nat
  su : Nat
  dead : Bool
  cn : Nat
  gl : Nat → Nat
  nl : Nat → Nat
  gf : Nat → Nat → Int
  nf : Nat → Nat → Int
def LInv (s : Nat) (z : LSt) : Prop := ∃ h fi en, WIs s h z.d z.gen fi en z.at1 z.nb z.b z.bd z.o.val z.kc z.cn z.gl z.nl z.gf z.nf ∧ RIs z.d z.RS z.RL z.W z.cc ∧ (z.o = .l 0 ∨ ∃ k, z.o = .s k)
abbrev LRz (s : Nat) (z : LSt) : SV := RLg s z.RS z.RL z.W z.cc z.gen z.at1 z.nb z.bd z.kc z.nl z.nf z.su z.dead
abbrev LHz (N : Nat) (z : LSt) : Hl := LgH N z.d z.gen z.at1 z.nb z.b z.o z.kc z.su z.dead z.cn z.gl z.gf
abbrev LQz (N : Nat) (z : LSt) : Hl := LgQ 5 N z.d z.gen z.at1 z.nb z.b z.o z.kc z.su z.dead z.cn z.gl z.gf
abbrev LMz (N : Nat) (z : LSt) : Hl := LgM 5 6 N z.d z.gen z.at1 z.nb z.b z.o z.kc z.su z.dead z.cn z.gl z.gf
abbrev OpZ (o : OpW) : SV := .agg (opW o)
def LStep (P : Program) (G : Gl) (s N : Nat) (z : LSt) (o : OpW) : Prop :=
  (∃ z', LInv s z' ∧ FnTr P G 43 [.ptr 0 0, .ptr 3 0, LRz s z, OpZ o] (LHz N z) 5 (Gives (.tup [.ptr 3 0, LRz s z', .bl true]) (LHz N z') 10)) ∨
  (∃ z', LInv s z' ∧ FnTr P G 43 [.ptr 0 0, .ptr 3 0, LRz s z, OpZ o] (LHz N z) 5 (Gives (.tup [.ptr 3 0, LRz s z', .bl true]) (LQz N z') 10)) ∨
  (∃ z', LInv s z' ∧ FnTr P G 43 [.ptr 0 0, .ptr 3 0, LRz s z, OpZ o] (LHz N z) 5 (Gives (.tup [.ptr 5 0, LRz s z', .bl true]) (LMz N z') 10)) ∨
  (∃ (d2 : Dk) (RS RL : Nat → Nat → Int) (W : Nat → Bool) (c : Int), DkOk s d2 ∧ RIs d2 RS RL W c ∧ FnTr P G 43 [.ptr 0 0, .ptr 3 0, LRz s z, OpZ o] (LHz N z) 5 (Gives (.tup [.nilp, RLd s RS RL W c, .bl true]) (DHd N d2) 10)) ∨
  ((z.kc = 0 → ∃ z', LInv s z' ∧ FnTr P G 43 [.ptr 0 0, .ptr 3 0, LRz s z, OpZ o] (LgN .nils N z.d z.gen z.at1 z.nb z.b z.su z.dead) 4 (Gives (.tup [.ptr 3 0, LRz s z', .bl true]) (LQz N z') 10)) ∧
    ∀ bb cp vv, vv = Value.slice (some ⟨bb, z.o.val * 1, none⟩) z.kc (cp - z.o.val) → z.cn ≤ cp → z.o.val < cp →
      ∃ z', LInv s z' ∧ FnTr P G 43 [.ptr 0 0, .ptr 3 0, LRz s z, OpZ o] ((4, LgRc z.cn bb cp z.gl z.gf) :: LgN (.con vv) N z.d z.gen z.at1 z.nb z.b z.su z.dead) 5 (Gives (.tup [.ptr 3 0, LRz s z', .bl true]) (LQz N z') 10))
theorem FnTr.num2 {P : Program} {G : Gl} {f : Nat} {args : List SV} {H H' : Hl} {k n' : Nat} {kd : IntKind} {y : SV} {x : Int} (h : FnTr P G f args H k (Gives (.tup [y, .lit kd x]) H' n')) : FnTr P G f args H k (Gives (.tup [y, .int kd x]) H' n') where
  ent := h.ent
  out := fun cx I β w cargs a b c d e => (h.out cx I β w cargs a b c d e).mono fun e w' ⟨v, r, H', n', I', β', h1, h2, h3, h4⟩ => by
    obtain ⟨rfl, rfl, rfl⟩ := h2
    refine ⟨v, _, _, _, I', β', h1, ⟨rfl, rfl, rfl⟩, h3, ?_⟩
    cases h4 with
    | tup hl h =>
      refine .tup hl fun j hj => ?_
      match j, hj with
      | 0, _ => exact h 0 (Nat.zero_lt_succ _)
      | 1, _ =>
        have q := h 1 (Nat.succ_lt_succ (Nat.zero_lt_succ _))
        change Rep _ _ _ (.lit kd x) _ at q
        change Rep _ _ _ (.int kd x) _
        generalize Array.getD _ 1 _ = u at q ⊢
        cases q
        exact .int _ _
      | k + 2, hj => exact absurd hj (by simp)
section
variable {P : Program} {fr : Nat → Int} {s N : Nat} {z : LSt} {o : OpW}
theorem step_note (hP : P = Tryd.prog) (hfr : ∀ i, fr i = ((four i).toNat : Int)) (hN : N = 64 * s) (hz : LInv s z) (ha : o.d = 0) (hb : ∀ x, x < o.bn → 0 ≤ o.b x ∧ o.b x ≤ 255) (hn : o.bn ≤ 400) : LStep P (Gf fr) s N z o := by
  obtain ⟨h, fi, en, w, hi, ho⟩ := hz
  have hat := w.hat
  have hs := w.reg.hs
  cases hd : z.dead with
  | true =>
    refine .inl ⟨z, ⟨h, fi, en, w, hi, ho⟩, ?_⟩
    exact do_note hP ha (FnTr.num2 (rappend_dead hP hd)) (FnTr.num (append_dead hP hd))
  | false =>
  obtain ⟨m, hm⟩ : ∃ m, m = o.bn + 4 := ⟨_, rfl⟩
  by_cases hfit : z.at1 + needN m ≤ en
  · have rF := rfits_fn (P := P) (G := Gf fr) (s := s) (RS := z.RS) (RL := z.RL) (W := z.W) (c := z.cc) (bn := z.nb) (b := z.bd) (kc := z.kc) (nl := z.nl) (nf := z.nf) (su := z.su) (dead := z.dead) (x := (o.bn : Int)) (nn := o.bn) (m := needN m) (r := true) hP w.reg hat.2 rfl (by omega) (by rw [hm]) ⟨fun _ => by omega, fun _ => rfl⟩
    obtain ⟨g, hg⟩ : ∃ g : Nat → Int, ∀ i, g i = sealF o.bn o.b i := ⟨_, fun _ => rfl⟩
    obtain ⟨d1, hd1⟩ : ∃ d1, d1 = putD z.d z.at1 m g := ⟨_, rfl⟩
    obtain ⟨RS', RL', W', c', hi'⟩ := RIs.ex d1
    have hle := w.reg.le
    have ok1 : DkOk s d1 := by rw [hd1]; exact w.ok.put (by omega) (fun i _ => by rw [hg]; exact sealF_range hb i)
    rcases Nat.lt_or_ge (putK z.d m) (needN m) with hk | hk
    · have pF := fits_fn (P := P) (G := Gf fr) (N := N) (gen := z.gen) (at1 := z.at1) (d := z.d) (nb := z.nb) (b := z.b) (o := z.o) (c := z.kc) (su := z.su) (cn := z.cn) (nl := z.gl) (nf := z.gf) (dead := z.dead) (n := (o.bn : Int)) (nn := o.bn) (m := needN m) (r := true) hP hN w.reg hat.2 rfl (by omega) (by rw [hm]) ⟨fun _ => by omega, fun _ => rfl⟩
      refine .inl ⟨{ z with d := d1, RS := RS', RL := RL', W := W', cc := c', dead := true }, ⟨h, fi, en, { w with ok := ok1 }, hi', ho⟩, ?_⟩
      exact do_note hP ha (FnTr.num2 (rappend_part hP hd w.reg hb (by omega) hm (fun i _ => hg i) w.ok hi hfit hk hd1 hi' rF)) (FnTr.num (append_part (mf := fun _ => g) hP hfr hd hN w.reg hb (by omega) hm (fun i _ => hg i) w.ok hfit hk hd1 pF))
    · have hk : putK z.d m = needN m := Nat.le_antisymm (putK_le _ _) hk
      obtain ⟨at2, hat2⟩ : ∃ at2, at2 = z.at1 + needN m := ⟨_, rfl⟩
      obtain ⟨k2, hk2⟩ : ∃ k2, k2 = z.kc + 1 := ⟨_, rfl⟩
      obtain ⟨ml, hml⟩ : ∃ ml : Nat → Nat, ∀ i, ml i = if i < z.kc then z.nl i else o.bn := ⟨_, fun _ => rfl⟩
      obtain ⟨mf, hmf⟩ : ∃ mf : Nat → Nat → Int, ∀ i x, mf i x = if i < z.kc then z.nf i x else o.b x := ⟨_, fun _ _ => rfl⟩
      have hneed : 1 ≤ needN m := by unfold needN; omega
      have cR := rappend_ok (P := P) (G := Gf fr) (k2 := k2) (ml := ml) (mf := mf) hP hd w.reg hb (by omega) hm (fun i _ => hg i) w.ok hi hfit hk hd1 hi' hat2 (by omega) hk2 hml hmf rF
      rw [← hd] at cR
      have hrow : ∀ i, i < k2 → ml i ≤ 1000000 ∧ ∀ x, x < ml i → 0 ≤ mf i x ∧ mf i x < 256 := fun i hik => by
        rw [hml]
        by_cases q : i < z.kc
        · rw [if_pos q]
          refine ⟨(w.rows i q).2.1, fun x hx => ?_⟩
          rw [hmf, if_pos q]; exact (w.rows i q).2.2.2 x hx
        · rw [if_neg q]
          refine ⟨by omega, fun x hx => ?_⟩
          rw [hmf, if_neg q]; have := hb x hx; omega
      have hv := w.hv
      refine .inr (.inr (.inr (.inr ⟨fun h0 => ?_, fun bb cp vv hvv hcn hvc => ?_⟩)))
      · obtain ⟨gl2, hgl2⟩ : ∃ gl2 : Nat → Nat, ∀ i, gl2 i = o.bn := ⟨_, fun _ => rfl⟩
        obtain ⟨gf2, hgf2⟩ : ∃ gf2 : Nat → Nat → Int, ∀ i x, gf2 i x = o.b x := ⟨_, fun _ _ => rfl⟩
        refine ⟨⟨d1, RS', RL', W', c', z.gen, at2, z.nb, z.b, z.bd, .s 0, k2, z.su, z.dead, k2, gl2, ml, gf2, mf⟩, ⟨h, fi, en, ⟨w.reg, w.gle, ⟨by show fi + k2 < at2; omega, by show at2 ≤ en; omega⟩, ok1, w.hnb, w.hb, by show 0 ≤ 1; omega, by show k2 = 0 + k2; omega, fun i hik => ?_⟩, hi', .inr ⟨0, rfl⟩⟩, ?_⟩
        · have hr := hrow i hik
          show gl2 (0 + i) = ml i ∧ ml i ≤ 1000000 ∧ (∀ x, gf2 (0 + i) x = mf i x) ∧ ∀ x, x < ml i → 0 ≤ mf i x ∧ mf i x < 256
          have hik : i < k2 := hik
          refine ⟨by rw [hgl2, hml, if_neg (by omega)], hr.1, fun x => by rw [hgf2, hmf, if_neg (by omega)], hr.2⟩
        · exact do_noteN hP ha (FnTr.num2 cR) (FnTr.num (append_nil hP hfr hd hN w.reg hb (by omega) hm (fun i _ => hg i) w.ok hfit hk hd1 hat2 (show k2 = 1 by omega) hgl2 hgf2))
      · have hwcn := w.hcn
        by_cases hcap : z.cn + 1 ≤ cp
        · obtain ⟨gl2, hgl2⟩ : ∃ gl2 : Nat → Nat, ∀ i, gl2 i = if i < z.cn then z.gl i else o.bn := ⟨_, fun _ => rfl⟩
          obtain ⟨gf2, hgf2⟩ : ∃ gf2 : Nat → Nat → Int, ∀ i x, gf2 i x = if i < z.cn then z.gf i x else o.b x := ⟨_, fun _ _ => rfl⟩
          obtain ⟨v, hvv0⟩ : ∃ v, v = z.o.val := ⟨_, rfl⟩
          obtain ⟨q, hq⟩ : ∃ q, q = v + k2 := ⟨_, rfl⟩
          refine ⟨⟨d1, RS', RL', W', c', z.gen, at2, z.nb, z.b, z.bd, .s v, k2, z.su, z.dead, q, gl2, ml, gf2, mf⟩, ⟨h, fi, en, ⟨w.reg, w.gle, ⟨by show fi + k2 < at2; omega, by show at2 ≤ en; omega⟩, ok1, w.hnb, w.hb, by show v ≤ 1; omega, by show q = v + k2; omega, fun i hik => ?_⟩, hi', .inr ⟨v, rfl⟩⟩, ?_⟩
          · have hr := hrow i hik
            show gl2 (v + i) = ml i ∧ ml i ≤ 1000000 ∧ (∀ x, gf2 (v + i) x = mf i x) ∧ ∀ x, x < ml i → 0 ≤ mf i x ∧ mf i x < 256
            have hik : i < k2 := hik
            by_cases e : i < z.kc
            · have hw := w.rows i e
              rw [← hvv0] at hw
              refine ⟨by rw [hgl2, hml, if_pos e, if_pos (by omega)]; exact hw.1, hr.1, fun x => by rw [hgf2, hmf, if_pos e, if_pos (by omega)]; exact hw.2.2.1 x, hr.2⟩
            · refine ⟨by rw [hgl2, hml, if_neg e, if_neg (by omega)], hr.1, fun x => by rw [hgf2, hmf, if_neg e, if_neg (by omega)], hr.2⟩
          · rw [← hvv0] at hvv hvc hwcn
            exact do_noteC hP ha (FnTr.num2 cR) (FnTr.num (append_fit hP hfr hd hN w.reg hb (by omega) hm (fun i _ => hg i) w.ok hfit hk hd1 hat2 (by omega) (by omega) hk2 hwcn hvv hvc hcap hq hgl2 hgf2))
        · obtain ⟨gl2, hgl2⟩ : ∃ gl2 : Nat → Nat, ∀ i, gl2 i = if i < z.kc then z.gl (z.o.val + i) else o.bn := ⟨_, fun _ => rfl⟩
          obtain ⟨gf2, hgf2⟩ : ∃ gf2 : Nat → Nat → Int, ∀ i x, gf2 i x = if i < z.kc then z.gf (z.o.val + i) x else o.b x := ⟨_, fun _ _ => rfl⟩
          refine ⟨⟨d1, RS', RL', W', c', z.gen, at2, z.nb, z.b, z.bd, .s 0, k2, z.su, z.dead, k2, gl2, ml, gf2, mf⟩, ⟨h, fi, en, ⟨w.reg, w.gle, ⟨by show fi + k2 < at2; omega, by show at2 ≤ en; omega⟩, ok1, w.hnb, w.hb, by show 0 ≤ 1; omega, by show k2 = 0 + k2; omega, fun i hik => ?_⟩, hi', .inr ⟨0, rfl⟩⟩, ?_⟩
          · have hr := hrow i hik
            show gl2 (0 + i) = ml i ∧ ml i ≤ 1000000 ∧ (∀ x, gf2 (0 + i) x = mf i x) ∧ ∀ x, x < ml i → 0 ≤ mf i x ∧ mf i x < 256
            rw [Nat.zero_add]
            have hik : i < k2 := hik
            by_cases e : i < z.kc
            · have hw := w.rows i e
              refine ⟨by rw [hgl2, hml, if_pos e, if_pos e]; exact hw.1, hr.1, fun x => by rw [hgf2, hmf, if_pos e, if_pos e]; exact hw.2.2.1 x, hr.2⟩
            · refine ⟨by rw [hgl2, hml, if_neg e, if_neg e], hr.1, fun x => by rw [hgf2, hmf, if_neg e, if_neg e], hr.2⟩
          · exact do_noteC hP ha (FnTr.num2 cR) (FnTr.num (append_grow hP hfr hd hN w.reg hb (by omega) hm (fun i _ => hg i) w.ok hfit hk hd1 hat2 (by omega) (by omega) hk2 hwcn hvv hvc (by omega) hgl2 hgf2))
  · have rF := rfits_fn (P := P) (G := Gf fr) (s := s) (RS := z.RS) (RL := z.RL) (W := z.W) (c := z.cc) (bn := z.nb) (b := z.bd) (kc := z.kc) (nl := z.nl) (nf := z.nf) (su := z.su) (dead := z.dead) (x := (o.bn : Int)) (nn := o.bn) (m := needN m) (r := false) hP w.reg hat.2 rfl (by omega) (by rw [hm]) ⟨fun q => (by cases q), fun q => by omega⟩
    have pF := fits_fn (P := P) (G := Gf fr) (N := N) (gen := z.gen) (at1 := z.at1) (d := z.d) (nb := z.nb) (b := z.b) (o := z.o) (c := z.kc) (su := z.su) (cn := z.cn) (nl := z.gl) (nf := z.gf) (dead := z.dead) (n := (o.bn : Int)) (nn := o.bn) (m := needN m) (r := false) hP hN w.reg hat.2 rfl (by omega) (by rw [hm]) ⟨fun q => (by cases q), fun q => by omega⟩
    refine .inl ⟨z, ⟨h, fi, en, w, hi, ho⟩, ?_⟩
    exact do_note hP ha (FnTr.num2 (rappend_full hP hd rF)) (FnTr.num (append_full hP hd pF))
theorem step_sync (hP : P = Tryd.prog) (hN : N = 64 * s) (hz : LInv s z) (ha : o.d = 1) : LStep P (Gf fr) s N z o := by
  obtain ⟨h, fi, en, w, hi, ho⟩ := hz
  have hs := w.reg.hs
  cases hd : z.dead with
  | true =>
    refine .inl ⟨z, ⟨h, fi, en, w, hi, ho⟩, ?_⟩
    exact do_sync hP ha (FnTr.num2 (rsync_dead hP hd)) (FnTr.num (sync_dead hP hd))
  | false =>
  by_cases hoff : offD z.d
  · refine .inl ⟨{ z with dead := true }, ⟨h, fi, en, w, hi, ho⟩, ?_⟩
    exact do_sync hP ha (FnTr.num2 (rsync_off hP hd (hi.off.2 hoff))) (FnTr.num (sync_off hP hd hoff))
  · obtain ⟨d1, hd1⟩ : ∃ d1, d1 = flushD z.d := ⟨_, rfl⟩
    obtain ⟨RS', RL', W', c', hi'⟩ := RIs.ex d1
    have ok1 : DkOk s d1 := by rw [hd1]; exact w.ok.flush hoff
    refine .inl ⟨{ z with d := d1, RS := RS', RL := RL', W := W', cc := c', su := z.kc }, ⟨h, fi, en, { w with ok := ok1 }, hi', ho⟩, ?_⟩
    exact do_sync hP ha (FnTr.num2 (rsync_ok hP hs.2 hd w.ok hi hoff hd1 hi')) (FnTr.num (sync_ok hP hd hN ⟨by omega, hs.2⟩ w.ok hoff hd1))
theorem step_switch (hP : P = Tryd.prog) (hfr : ∀ i, fr i = ((four i).toNat : Int)) (hN : N = 64 * s) (hz : LInv s z) (ha : o.d = 2) (hb : ∀ x, x < o.bn → 0 ≤ o.b x ∧ o.b x ≤ 255) (hn : o.bn ≤ 400) : LStep P (Gf fr) s N z o := by
  obtain ⟨h, fi, en, w, hi, ho⟩ := hz
  have hs := w.reg.hs
  have hh := w.reg.hh
  cases hd : z.dead with
  | true =>
    refine .inl ⟨z, ⟨h, fi, en, w, hi, ho⟩, ?_⟩
    exact do_switch3 hP ha (FnTr.num2 (rswitch_dead hP hd)) (FnTr.num (switch_dead hP hd))
  | false =>
  by_cases hf : 65536 < o.bn + 4 ∨ h < needN (o.bn + 4)
  · refine .inl ⟨z, ⟨h, fi, en, w, hi, ho⟩, ?_⟩
    exact do_switch3 hP ha (FnTr.num2 (rswitch_full hP hd hs hh (by omega) hf)) (FnTr.num (switch_full hP hd hN hs hh (by omega) hf))
  by_cases hgl : z.gen = 1099511627776
  · refine .inl ⟨z, ⟨h, fi, en, w, hi, ho⟩, ?_⟩
    exact do_switch3 hP ha (FnTr.num2 (rswitch_long hP hd hs hh (by omega) hf hgl)) (FnTr.num (switch_long hP hd hN hs hh (by omega) hf hgl))
  have hgle := w.gle
  obtain ⟨q, hq⟩ : ∃ q, q = z.gen + 1 := ⟨_, rfl⟩
  obtain ⟨fi2, hfi⟩ : ∃ fi, fi = 2 + q % 2 * h := ⟨_, rfl⟩
  obtain ⟨en2, hen⟩ : ∃ en, en = fi2 + h := ⟨_, rfl⟩
  have hr : Reg s h q fi2 en2 := ⟨hs, hh, by omega, hfi, hen⟩
  obtain ⟨d2, at', e, hl⟩ := layIs_ex z.d q fi2 en2 (o.bn + 4) (sealF o.bn o.b)
  obtain ⟨RS2, RL2, W2, c2, hi2⟩ := RIs.ex d2
  obtain ⟨a1, ha1⟩ : ∃ a1, a1 = fi2 + needN (o.bn + 4) := ⟨_, rfl⟩
  have r1 := rlay_fn (P := P) (G := Gf fr) (a1 := a1) hP hr hb rfl (by omega) (by omega) w.ok hi hi2 ha1 hl
  have p1 := lay_fn (P := P) hP hfr hN hr hb rfl (by omega) (by omega) w.ok hl
  have hle := hr.le
  have ok2 : DkOk s d2 := hl.okd w.ok ⟨by omega, by omega⟩ (fun i _ => sealF_range hb i) (by omega)
  rcases r1 with ⟨r2, a2, r3⟩ | ⟨r2, r4, r3⟩
  · rcases p1 with ⟨_, _, p3⟩ | ⟨p2, _, _⟩
    · refine .inl ⟨{ z with d := d2, RS := RS2, RL := RL2, W := W2, cc := c2, dead := true }, ⟨h, fi, en, { w with ok := ok2 }, hi2, ho⟩, ?_⟩
      exact do_switch hP ha (FnTr.num2 (rswitch_err hP hd hs hh (by omega) hf (by omega) hq r3)) (FnTr.num (switch_err hP hd hN hs hh (by omega) hf (by omega) hq p3))
    · omega
  · rcases p1 with ⟨p2, _, _⟩ | ⟨_, _, p3⟩
    · omega
    · rw [← ha1] at p3
      have hneed : 1 ≤ needN (o.bn + 4) := by unfold needN; omega
      refine .inr (.inl ⟨⟨d2, RS2, RL2, W2, c2, q, a1, o.bn, o.b, o.b, .l 0, 0, 0, false, 0, fun _ => 0, fun _ => 0, fun _ _ => 0, fun _ _ => 0⟩, ⟨h, fi2, en2, ⟨hr, by show q ≤ 1099511627776; omega, ⟨by show fi2 + 0 < a1; omega, by show a1 ≤ en2; omega⟩, ok2, by show o.bn ≤ 1000000; omega, fun x hx => ⟨rfl, by have := hb x hx; show 0 ≤ o.b x ∧ o.b x < 256; omega⟩, by show 0 ≤ 1; omega, rfl, fun i hi => absurd hi (Nat.not_lt_zero _)⟩, hi2, .inl rfl⟩, ?_⟩)
      exact do_switchQ hP ha (FnTr.num2 (rswitch_ok hP hd hs hh (by omega) hf (by omega) hq r3)) (FnTr.num (switch_ok hP hd hN hs hh (by omega) hf (by omega) hq p3))
theorem step_stop (hP : P = Tryd.prog) (hN : N = 64 * s) (hz : LInv s z) (ha : o.d = 3) (hm : o.a ≤ 9223372036854775807) : LStep P (Gf fr) s N z o := by
  obtain ⟨h, fi, en, w, hi, ho⟩ := hz
  obtain ⟨d1, c', hdS, hdL, ok1, hi', h1, h2⟩ : ∃ (d1 : Dk) (c' : Int), d1.S = z.d.S ∧ d1.L = z.d.L ∧ DkOk s d1 ∧ RIs d1 z.RS z.RL z.W c' ∧ ((z.d.ar = true ∧ z.d.ca = 0 ∧ d1.ar = z.d.ar ∧ d1.ca = z.d.ca) ∨ (¬ (z.d.ar = true ∧ z.d.ca = 0) ∧ (d1.ar = true ↔ 0 ≤ o.a) ∧ d1.ca = if o.a < 0 then 0 else o.a)) ∧ c' = if z.cc = 0 then z.cc else if o.a < 0 then -1 else o.a := by
    by_cases hoff : z.cc = 0
    · exact ⟨z.d, z.cc, rfl, rfl, w.ok, hi, .inl ⟨(hi.off.1 hoff).1, (hi.off.1 hoff).2, rfl, rfl⟩, by rw [if_pos hoff]⟩
    · refine ⟨⟨z.d.S, z.d.L, decide (0 ≤ o.a), if o.a < 0 then 0 else o.a⟩, _, rfl, rfl, ⟨?_, w.ok.key, w.ok.sb, w.ok.lb⟩, ⟨hi.rs, hi.rl, hi.w, rfl⟩, .inr ⟨fun q => hoff (hi.off.2 q), by simp, rfl⟩, ?_⟩
      · show 0 ≤ (if o.a < 0 then 0 else o.a) ∧ (if o.a < 0 then 0 else o.a) ≤ 9223372036854775807
        split <;> omega
      · rw [if_neg hoff]
        show (if decide (0 ≤ o.a) = true then (if o.a < 0 then 0 else o.a) else (-1 : Int)) = _
        by_cases q : o.a < 0
        · rw [if_neg (by simp; omega), if_pos q]
        · rw [if_pos (by simp; omega), if_neg q, if_neg q]
  have c1 := stop_fn (P := P) (G := Gf fr) (N := N) (S := z.d.S) (L := z.d.L) hP h1
  have c2 := refstop_fn (P := P) (G := Gf fr) (s := s) (S := z.RS) (L := z.RL) (W := z.W) hP h2
  refine .inl ⟨{ z with d := d1, cc := c' }, ⟨h, fi, en, { w with ok := ok1 }, hi', ho⟩, ?_⟩
  have c1 : FnTr P (Gf fr) 37 [.ptr 0 0, .int .i64 o.a] (DHd N z.d) 3 (Gives (.tup []) (DHd N d1) 3) := by
    show FnTr P (Gf fr) _ _ _ 3 (Gives (.tup []) (DH N d1.S d1.L d1.ar d1.ca) 3)
    rw [hdS, hdL]
    exact c1
  exact do_stop hP ha c2 c1
theorem step_fits (hP : P = Tryd.prog) (hN : N = 64 * s) (hz : LInv s z) (ha : o.d < 0 ∨ 5 < o.d) : LStep P (Gf fr) s N z o := by
  obtain ⟨h, fi, en, w, hi, ho⟩ := hz
  have hat := w.hat
  refine .inl ⟨z, ⟨h, fi, en, w, hi, ho⟩, ?_⟩
  obtain ⟨nn, hnn⟩ : ∃ nn, nn = o.a.toNat := ⟨_, rfl⟩
  by_cases hf : 65532 < nn
  · exact do_fits hP ha (rfits_no hP hnn hf) (fits_no hP hnn hf)
  · obtain ⟨r, hr⟩ : ∃ r : Bool, r = true ↔ needN (nn + 4) ≤ en - z.at1 := ⟨decide (needN (nn + 4) ≤ en - z.at1), by simp⟩
    exact do_fits hP ha (rfits_fn hP w.reg hat.2 hnn (by omega) rfl hr) (fits_fn hP hN w.reg hat.2 hnn (by omega) rfl hr)
theorem step_open (hP : P = Tryd.prog) (hfr : ∀ i, fr i = ((four i).toNat : Int)) (hN : N = 64 * s) (hz : LInv s z) (ha : o.d = 4) (hk : o.kn ≤ 1000000) : LStep P (Gf fr) s N z o := by
  obtain ⟨h, fi, en, w, hi, ho⟩ := hz
  have hs := w.reg.hs
  obtain ⟨d1, R1, W1, hi1, ok1, hL1, har1, cR, cA⟩ := crash27_facts (P := P) (G := Gf fr) (ks := o.ks) (kb := o.kb) hP hN ⟨by omega, hs.2⟩ w.ok hi hk
  rcases open27_facts (P := P) hP hfr hN hs ok1 hL1 har1 hi1 with ⟨er, he, cP, cO⟩ | ⟨d2, gen, h2, fi2, en2, at1, nb, kc, b, bd, gl, nl, gf, nf, S2, L2, W2, w2, hi2, _, cP, cO⟩
  · rcases he with rfl | rfl
    · exact .inr (.inr (.inr (.inl ⟨d1, R1, R1, W1, -1, ok1, hi1, do_open4 hP ha cR cA cO cP⟩)))
    · exact .inr (.inr (.inr (.inl ⟨d1, R1, R1, W1, -1, ok1, hi1, do_open270 hP ha cR cA cO cP⟩)))
  · exact .inr (.inr (.inl ⟨⟨d2, S2, L2, W2, -1, gen, at1, nb, b, bd, .s 1, kc, kc, false, 1 + kc, gl, nl, gf, nf⟩, ⟨h2, fi2, en2, w2, hi2, .inr ⟨1, rfl⟩⟩, do_open hP ha cR cA cO cP⟩))
theorem step_begin (hP : P = Tryd.prog) (hfr : ∀ i, fr i = ((four i).toNat : Int)) (hN : N = 64 * s) (hz : LInv s z) (ha : o.d = 5) (hk : o.kn ≤ 1000000) (hb : ∀ x, x < o.bn → 0 ≤ o.b x ∧ o.b x ≤ 255) (hn : o.bn ≤ 400) : LStep P (Gf fr) s N z o := by
  obtain ⟨h, fi, en, w, hi, ho⟩ := hz
  have hs := w.reg.hs
  obtain ⟨d1, R1, W1, hi1, ok1, hL1, har1, cR, cA⟩ := crash27_facts (P := P) (G := Gf fr) (ks := o.ks) (kb := o.kb) hP hN ⟨by omega, hs.2⟩ w.ok hi hk
  obtain ⟨nl0, hnl0⟩ : ∃ nl0 : Nat → Nat, ∀ i, nl0 i = 0 := ⟨fun _ => 0, fun _ => rfl⟩
  obtain ⟨nf0, hnf0⟩ : ∃ nf0 : Nat → Nat → Int, ∀ i x, nf0 i x = 0 := ⟨fun _ _ => 0, fun _ _ => rfl⟩
  rcases begin27_facts (P := P) hP hfr hN hs ok1 har1 hi1 hb (by omega) nl0 nf0 with ⟨er, he, cP, cO⟩ | ⟨d2, RS2, RL2, W2, c2, hi2, ⟨ok2, cP, cO⟩ | ⟨h2, g1, fi2, en2, at1, w2, cP, cO⟩⟩
  · rcases he with rfl | rfl
    · exact .inr (.inr (.inr (.inl ⟨d1, R1, R1, W1, -1, ok1, hi1, do_begin2 hP ha cR cA cO cP⟩)))
    · exact .inr (.inr (.inr (.inl ⟨d1, R1, R1, W1, -1, ok1, hi1, do_begin3 hP ha cR cA cO cP⟩)))
  · exact .inr (.inr (.inr (.inl ⟨d2, RS2, RL2, W2, c2, ok2, hi2, do_begin6 hP ha cR cA cO cP⟩)))
  · exact .inr (.inr (.inl ⟨⟨d2, RS2, RL2, W2, c2, g1, at1, o.bn, o.b, o.b, .l 0, 0, 0, false, 0, nl0, nl0, nf0, nf0⟩, ⟨h2, fi2, en2, w2, hi2, .inl rfl⟩, do_begin hP ha cR cA cO cP⟩))
theorem step_any (hP : P = Tryd.prog) (hfr : ∀ i, fr i = ((four i).toNat : Int)) (hN : N = 64 * s) (hz : LInv s z) (hm : o.a ≤ 9223372036854775807) (hk : o.kn ≤ 1000000) (hb : ∀ x, x < o.bn → 0 ≤ o.b x ∧ o.b x ≤ 255) (hn : o.bn ≤ 400) : LStep P (Gf fr) s N z o := by
  by_cases h0 : o.d = 0
  · exact step_note hP hfr hN hz h0 hb hn
  by_cases h1 : o.d = 1
  · exact step_sync hP hN hz h1
  by_cases h2 : o.d = 2
  · exact step_switch hP hfr hN hz h2 hb hn
  by_cases h3 : o.d = 3
  · exact step_stop hP hN hz h3 hm
  by_cases h4 : o.d = 4
  · exact step_open hP hfr hN hz h4 hk
  by_cases h5 : o.d = 5
  · exact step_begin hP hfr hN hz h5 hk hb hn
  exact step_fits hP hN hz (by omega)
end
open Go.DskLaw (q64 secV)
set_option maxHeartbeats 4000000
theorem cat_le2 {A : Ar} (hA : Ar.real = A) {n m d : Nat} {N e : NV} {f g h : Nat → Int} (he : ltNV A e N) (hN : N.val = A.addN n m) (hfg : ∀ x, x < n + m → h x = if x < n then f x else g (x - n)) :
    leL (leSV A (d + 1)) (catG A 1 (.s n) (fun e => [.int .u8 (f e.val)]) (fun e => [.int .u8 (g e.val)]) e) [.int .u8 (h e.val)] := by
  subst hA
  have he : e.val < n + m := by have := ltNV_real.1 he; rw [hN] at this; exact this
  obtain ⟨s, h1, h2⟩ := cat_rows (N := .s n) (e := e) (f := f) (g := g)
  rw [h1]
  have h3 := hfg _ he
  rw [show (NV.s n).val = n from rfl, ← h3] at h2
  cases s <;> simp only [intOfSV] at h2 <;> cases h2 <;> (simp only [leL, leSV, kEq_refl]; exact ⟨trivial, trivial⟩)
theorem image_own {P : Program} {G : Gl} (hP : P = Tryd.prog) {N s : Nat} {S g : Nat → Int} {L : Int → Option (Nat → Int)} {ar : Bool} {ca : Int} (hN : N = 64 * s) (hs : s ≤ 4096) (hg : ∀ x, g x = secV S L (x / 64) (x % 64)) :
    FnTr P G 45 [.ptr 0 0] (DH N S L ar ca) 3 (Gives (.sl 3 1 (.l 0) (.s N)) ((3, .row 5 1 (.s N) (fun e => [.int .u8 (g e.val)])) :: DH N S L ar ca) 100) := by
  have c1 := len_fn (P := P) (G := G) (S := S) (L := L) (ar := ar) (ca := ca) hP hN hs
  obtain ⟨v, hv⟩ : ∃ v : Nat → Nat → Int, ∀ i, v i = secV S L i := ⟨_, fun _ => rfl⟩
  have c2 : ∀ i, i < s → FnTr P G 64 [.ptr 0 0, .int .i64 (i : Int)] (DH N S L ar ca) 3 (Gives (.ro 1 (.l 64) (fun e => [.int .u8 (v i e.val)])) (DH N S L ar ca) 4) := fun i hi => last_fn hP hN hs hi (hv i)
  obtain ⟨M, hM⟩ : ∃ M : Nat → Nat, ∀ i, M i = 64 * i := ⟨_, fun _ => rfl⟩
  have M0 : M 0 = 0 := by rw [hM]
  have MS : ∀ i, M (i + 1) = M i + 64 := fun i => by rw [hM, hM]; omega
  have Mle : ∀ i, i ≤ s → M i ≤ 262144 := fun i hi => by rw [hM]; omega
  have ME : M s = N := by rw [hM, hN]
  have hcat : ∀ i y, y < 64 → g (M i + y) = v i y := fun i y hy => by rw [hg, hM, hv, show (64 * i + y) / 64 = i by omega, show (64 * i + y) % 64 = y by omega]
  clear hg hM hv
  have hT : T.Ok P := hP ▸ T_ok
  refine jjI Tryd.f45 hT ?_
  generalize hA : Ar.real = A
  generalize hK : Gives _ _ _ = K
  cbv
  refine jjS hA (c1) [(0, 0), (1, 1), (2, 2)] ?_
  cbv
  refine LS.ghost 5 1 (.l 0) (fun _ => [.int .u8 0]) rfl ?_
  refine LS.le hT hA 3 (fun (i : Nat) => [(3, .sl 3 1 (.l 0) (.s (M i))), (7, .int .i64 (i : Int))]) (fun i => (3, .row 5 1 (.s (M i)) (fun e => [.int .u8 (g e.val)])) :: DH N S L ar ca) (fun i => i ≤ s) (fun i => s - i) 0 [(10, 3)] rfl rfl ?_ ?_ ?_
  · (try cbv) <;> (repeat' (first | exact trivial | exact rfl | apply And.intro | exact fun _ => rfl | (intro _ hle; first | refine chunk_le hA rfl hle rfl ?_ | refine cat_le hA ?_ | refine upd_le hA ?_ | refine int_le ?_ | skip)))
    all_goals first | exact M0.symm | exact M0 | (exfalso; subst hA; exact absurd (ltNV_real.1 hle) (Nat.not_lt_zero _)) | exact jjO
  · exact Nat.zero_le _
  · intro R hR i hi
    cbv
    refine ⟨fun q1 => ?_, fun q1 => ?_⟩
    · have him : i < s := by clear hR c2 hcat MS Mle; subst hA; simp [Ar.real] at q1; omega
      have a2 := c2 i him
      have hMi := Mle i hi
      have hMS := MS i
      have hct := hcat i
      clear c2 hcat MS Mle
      cbv
      refine jjS hA (a2) [(0, 0), (1, 1), (2, 2)] ?_
      cbv
      have hup : ∀ e, ltNV A e (.s (A.addN (M i) 64)) → leL (leSV A 4) (catG A 1 (.s (M i)) (fun e => [.int .u8 (g e.val)]) (fun e => [.int .u8 (v i e.val)]) e) [.int .u8 (g e.val)] := fun e he =>
        cat_le2 hA he rfl (fun x hx => by
          by_cases q : x < M i
          · rw [if_pos q]
          · rw [if_neg q, ← hct (x - M i) (by omega)]; congr 1; omega)
      refine ⟨⟨?_, ?_⟩, ?_, hR _ _ ⟨i + 1, 3, [(14, 3)], rfl, rfl, ?_, him, (by show s - (i + 1) < s - i; omega)⟩⟩
      iterate 3 exact jjO
      clear hR
      (try cbv) <;> (repeat' (first | exact trivial | exact rfl | apply And.intro | exact fun _ => rfl | (intro _ hle; first | exact hup _ hle | refine chunk_le hA rfl hle rfl ?_ | refine cat_le hA ?_ | refine upd_le hA ?_ | refine int_le ?_ | skip)))
      all_goals first | (subst hA; exact hMS.symm) | exact jjO
    · have him : i = s := by clear hR c2 hcat MS Mle; subst hA; simp [Ar.real] at q1; omega
      subst him
      clear hR c2 hcat MS Mle
      cbv
      refine Fin.le hA 3 [(3, 3)] (.sl 3 1 (.l 0) (.s N)) ((3, .row 5 1 (.s N) (fun e => [.int .u8 (g e.val)])) :: DH N S L ar ca) 100 rfl rfl rfl ?_ ?_ jjK
      · (try cbv) <;> (repeat' (first | exact trivial | exact rfl | apply And.intro | exact fun _ => rfl | (intro _ hle; first | refine chunk_le hA rfl hle rfl ?_ | refine cat_le hA ?_ | refine upd_le hA ?_ | (try cbv))))
        all_goals exact ME
      · (try cbv) <;> (repeat' (first | exact trivial | exact rfl | apply And.intro | exact fun _ => rfl | (intro _ hle; first | refine chunk_le hA rfl hle rfl ?_ | refine cat_le hA ?_ | refine upd_le hA ?_ | (try cbv))))
        all_goals exact ME
theorem image_fn {P : Program} {G : Gl} (hP : P = Tryd.prog) {N s : Nat} {S g : Nat → Int} {L : Int → Option (Nat → Int)} {ar : Bool} {ca : Int} (hN : N = 64 * s) (hs : s ≤ 4096) (hg : ∀ x, g x = secV S L (x / 64) (x % 64)) :
    FnTr P G 45 [.ptr 0 0] (DH N S L ar ca) 3 (Gives (By N g) (DH N S L ar ca) 100) := by
  have h1 := image_own (P := P) (G := G) (ar := ar) (ca := ca) hP hN hs hg
  generalize hA : Ar.real = A
  refine FnTr.dat hA h1 _ _ ?_
  (try cbv) <;> (repeat' (first | exact trivial | exact rfl | apply And.intro | exact fun _ => rfl | (intro _ hle; first | refine chunk_le hA rfl hle rfl ?_ | refine cat_le hA ?_ | refine upd_le hA ?_ | refine int_le ?_ | skip)))
  all_goals exact jjO
theorem refimage_own {P : Program} {G : Gl} (hP : P = Tryd.prog) {N s : Nat} {S L : Nat → Nat → Int} {W : Nat → Bool} {c : Int} {g : Nat → Int} (hN : N = 64 * s) (hs : s ≤ 4096) (hg : ∀ x, g x = L (x / 64) (x % 64)) :
    FnTr P G 46 [RD s S L W c] [] 0 (Gives (.sl 1 1 (.l 0) (.s N)) [(1, .row 5 1 (.s N) (fun e => [.int .u8 (g e.val)]))] 100) := by
  obtain ⟨M, hM⟩ : ∃ M : Nat → Nat, ∀ i, M i = 64 * i := ⟨_, fun _ => rfl⟩
  have M0 : M 0 = 0 := by rw [hM]
  have MS : ∀ i, M (i + 1) = M i + 64 := fun i => by rw [hM, hM]; omega
  have Mle : ∀ i, i ≤ s → M i ≤ 262144 := fun i hi => by rw [hM]; omega
  have ME : M s = N := by rw [hM, hN]
  have hcat : ∀ i y, y < 64 → g (M i + y) = L i y := fun i y hy => by rw [hg, hM, show (64 * i + y) / 64 = i by omega, show (64 * i + y) % 64 = y by omega]
  clear hg hM
  have hT : T.Ok P := hP ▸ T_ok
  refine jjI Tryd.f46 hT ?_
  generalize hA : Ar.real = A
  generalize hK : Gives _ _ _ = K
  cbv
  refine LS.ghost 5 1 (.l 0) (fun _ => [.int .u8 0]) rfl ?_
  refine LS.le hT hA 1 (fun (i : Nat) => [(3, .sl 1 1 (.l 0) (.s (M i))), (4, .int .i64 (i : Int))]) (fun i => [(1, .row 5 1 (.s (M i)) (fun e => [.int .u8 (g e.val)])), (0, .cells 46 [Rw64 s S, Rw64 s L, .ro 1 (.s s) (fun e => [.bs (W e.val)]), .int .i64 c])]) (fun i => i ≤ s) (fun i => s - i) 0 [(4, 1)] rfl rfl ?_ ?_ ?_
  · (try cbv) <;> (repeat' (first | exact trivial | exact rfl | apply And.intro | exact fun _ => rfl | (intro _ hle; first | refine chunk_le hA rfl hle rfl ?_ | refine cat_le hA ?_ | refine upd_le hA ?_ | refine int_le ?_ | skip)))
    all_goals first | exact M0.symm | exact M0 | (exfalso; subst hA; exact absurd (ltNV_real.1 hle) (Nat.not_lt_zero _)) | exact jjO | trace_state
  · exact Nat.zero_le _
  · intro R hR i hi
    cbv
    refine ⟨fun q1 => ?_, fun q1 => ?_⟩
    · have him : i < s := by clear hR hcat MS Mle; subst hA; simp [Ar.real] at q1; omega
      have hMi := Mle i hi
      have hMS := MS i
      have hct := hcat i
      have kn : A.nat (Int.ofNat i) = i := by clear hR; subst hA; rfl
      clear hcat MS Mle
      cbv
      have hup : ∀ e, ltNV A e (.s (A.addN (M i) 64)) → leL (leSV A 4) (catG A 1 (.s (M i)) (fun e => [.int .u8 (g e.val)]) (fun e => [.int .u8 (L (A.nat (Int.ofNat i)) e.val)]) e) [.int .u8 (g e.val)] := fun e he =>
        cat_le2 hA he rfl (fun x hx => by
          rw [kn]
          by_cases q : x < M i
          · rw [if_pos q]
          · rw [if_neg q, ← hct (x - M i) (by omega)]; congr 1; omega)
      refine ⟨?_, ⟨?_, ?_⟩, ?_, hR _ _ ⟨i + 1, 1, [(13, 1)], rfl, rfl, ?_, him, (by show s - (i + 1) < s - i; omega)⟩⟩
      iterate 4 exact jjO
      clear hR
      (try cbv) <;> (repeat' (first | exact trivial | exact rfl | apply And.intro | exact fun _ => rfl | (intro _ hle; first | exact hup _ hle | refine chunk_le hA rfl hle rfl ?_ | refine cat_le hA ?_ | refine upd_le hA ?_ | refine int_le ?_ | skip)))
      all_goals first | (subst hA; exact hMS.symm) | exact jjO
    · have him : i = s := by clear hR hcat MS Mle; subst hA; simp [Ar.real] at q1; omega
      subst him
      clear hR hcat MS Mle
      cbv
      refine Fin.le hA 1 [(1, 1)] (.sl 1 1 (.l 0) (.s N)) [(1, .row 5 1 (.s N) (fun e => [.int .u8 (g e.val)]))] 100 rfl rfl rfl ?_ ?_ jjK
      · (try cbv) <;> (repeat' (first | exact trivial | exact rfl | apply And.intro | exact fun _ => rfl | (intro _ hle; first | refine chunk_le hA rfl hle rfl ?_ | refine cat_le hA ?_ | refine upd_le hA ?_ | (try cbv))))
        all_goals exact ME
      · (try cbv) <;> (repeat' (first | exact trivial | exact rfl | apply And.intro | exact fun _ => rfl | (intro _ hle; first | refine chunk_le hA rfl hle rfl ?_ | refine cat_le hA ?_ | refine upd_le hA ?_ | (try cbv))))
        all_goals exact ME
theorem refimage_fn {P : Program} {G : Gl} (hP : P = Tryd.prog) {N s : Nat} {S L : Nat → Nat → Int} {W : Nat → Bool} {c : Int} {g : Nat → Int} (hN : N = 64 * s) (hs : s ≤ 4096) (hg : ∀ x, g x = L (x / 64) (x % 64)) :
    FnTr P G 46 [RD s S L W c] [] 0 (Gives (By N g) [] 100) := by
  have h1 := refimage_own (P := P) (G := G) (S := S) (W := W) (c := c) hP hN hs hg
  generalize hA : Ar.real = A
  refine FnTr.dat hA h1 _ _ ?_
  (try cbv) <;> (repeat' (first | exact trivial | exact rfl | apply And.intro | exact fun _ => rfl | (intro _ hle; first | refine chunk_le hA rfl hle rfl ?_ | refine cat_le hA ?_ | refine upd_le hA ?_ | refine int_le ?_ | skip)))
  all_goals exact jjO
set_option maxHeartbeats 1000000
theorem FnTr.more {P : Program} {G : Gl} {f : Nat} {args : List SV} {H H' : Hl} {k n' n'' : Nat} {r : SV} (h : FnTr P G f args H k (Gives r H' n')) (hn : n' ≤ n'') : FnTr P G f args H k (Gives r H' n'') where
  ent := h.ent
  out := fun cx I β w cargs a b c d e => (h.out cx I β w cargs a b c d e).mono fun e w' ⟨v, r, H0, n0, I', β', h1, h2, h3, h4⟩ => by
    obtain ⟨rfl, rfl, rfl⟩ := h2
    exact ⟨v, _, _, _, I', β', h1, ⟨rfl, rfl, rfl⟩, { h3 with
      fresh := fun i hi => h3.fresh i (Nat.le_trans hn hi)
      blk := fun i y hy => by
        rcases h3.blk i y hy with q | ⟨q1, q2, q3⟩
        · exact .inl q
        · exact .inr ⟨q1, Nat.lt_of_lt_of_le q2 hn, q3⟩ }, h4⟩
section
variable {P : Program} {fr : Nat → Int} {G : Gl} {s N : Nat} {z : LSt}
theorem image_both (hP : P = Tryd.prog) (hN : N = 64 * s) (hs : s ≤ 4096) {d : Dk} {RS RL : Nat → Nat → Int} {W : Nat → Bool} {c : Int} (ok : DkOk s d) (hi : RIs d RS RL W c) :
    ∃ im : Nat → Int, FnTr P G 45 [.ptr 0 0] (DHd N d) 3 (Gives (By N im) (DHd N d) 100) ∧
      FnTr P G 46 [RD s RS RL W c] [] 0 (Gives (By N im) [] 100) ∧
      FnTr P G 17 [By N im, By N im] [] 0 (Gives (.bl true) [] 0) := by
  obtain ⟨im, him⟩ : ∃ im : Nat → Int, ∀ x, im x = secV d.S d.L (x / 64) (x % 64) := ⟨_, fun _ => rfl⟩
  have hb : ∀ x, x < N → 0 ≤ im x ∧ im x < 256 := fun x hx => by
    rw [him]
    have := ok.bytes (x / 64) (by omega) (x % 64) (by omega)
    omega
  exact ⟨im, image_fn hP hN hs him, refimage_fn hP hN hs (fun x => by rw [him]; exact (hi.rl _ _).symm), FnTr.res rfl (same_fn (res := true) hP hb hb ⟨fun _ => ⟨rfl, fun _ _ => rfl⟩, fun _ => rfl⟩) _ rfl⟩
theorem LInv.ok (hz : LInv s z) : DkOk s z.d := by obtain ⟨h, fi, en, w, _⟩ := hz; exact w.ok
theorem LInv.ris (hz : LInv s z) : RIs z.d z.RS z.RL z.W z.cc := by obtain ⟨h, fi, en, w, hi, _⟩ := hz; exact hi
theorem same_z (hP : P = Tryd.prog) (hN : N = 64 * s) (hz : LInv s z) : FnTr P G 44 [.ptr 3 0, LRz s z] (LHz N z) 5 (Gives (.bl true) (LHz N z) 10) := by
  obtain ⟨h, fi, en, w, hi, ho⟩ := hz
  have hat := w.hat
  have hs := w.reg.hs
  have hle := w.reg.le
  exact same28_fn (ml := z.nl) (mf := z.nf) hP hN w.reg hat.2 w.hnb rfl (fun x hx => (w.hb x hx).2) (fun x hx => (w.hb x hx).1) ho w.hcn (by omega)
    (fun i hi => ⟨(w.rows i hi).1.symm, (w.rows i hi).2.1⟩) (fun i hi x => ((w.rows i hi).2.2.1 x).symm) (fun i hi => ⟨rfl, fun x hx => ⟨rfl, (w.rows i hi).2.2.2 x hx⟩⟩)
theorem begin_start (hP : P = Tryd.prog) (hfr : ∀ i, fr i = ((four i).toNat : Int)) (hN : N = 64 * s) (hs : s ≤ 4096) {d : Dk} {RS RL : Nat → Nat → Int} {W : Nat → Bool} {c : Int} {nb : Nat} {b : Nat → Int} (ok : DkOk s d) (har : d.ar = false) (hi : RIs d RS RL W c) (hb : ∀ x, x < nb → 0 ≤ b x ∧ b x ≤ 255) (hnb : nb ≤ 60000) :
    (∃ (d2 : Dk) (RS2 RL2 : Nat → Nat → Int) (W2 : Nat → Bool) (c2 er : Int), er ≠ 0 ∧ DkOk s d2 ∧ RIs d2 RS2 RL2 W2 c2 ∧ FnTr P (Gf fr) 23 [.ptr 0 0, By nb b] (DHd N d) 3 (Gives (.tup [.nilp, .int .i64 er]) (DHd N d2) 9000) ∧
      FnTr P (Gf fr) 42 [RD s RS RL W c, By nb b] [] 0 (Gives (.tup [RLd s RS2 RL2 W2 c2, .int .i64 er]) [] 20000)) ∨
    ∃ z, LInv s z ∧ FnTr P (Gf fr) 23 [.ptr 0 0, By nb b] (DHd N d) 3 (Gives (.tup [.ptr 3 0, .lit .i64 0]) (LHz N z) 9000) ∧
      FnTr P (Gf fr) 42 [RD s RS RL W c, By nb b] [] 0 (Gives (.tup [LRz s z, .lit .i64 0]) [] 20000) := by
  have wk : ∀ {r : SV}, FnTr P (Gf fr) 23 [.ptr 0 0, By nb b] (DHd N d) 3 (Gives r (DHd N d) 5000) → FnTr P (Gf fr) 23 [.ptr 0 0, By nb b] (DHd N d) 3 (Gives r (DHd N d) 9000) := fun h => FnTr.more h (by decide)
  by_cases h4 : s < 4
  · exact .inl ⟨d, RS, RL, W, c, 1, by decide, ok, hi, FnTr.num2 (wk (begin_small hP hN h4)), FnTr.num2 (rbegin_small hP h4)⟩
  obtain ⟨nl0, hnl0⟩ : ∃ nl0 : Nat → Nat, ∀ i, nl0 i = 0 := ⟨fun _ => 0, fun _ => rfl⟩
  obtain ⟨nf0, hnf0⟩ : ∃ nf0 : Nat → Nat → Int, ∀ i x, nf0 i x = 0 := ⟨fun _ _ => 0, fun _ _ => rfl⟩
  rcases begin27_facts (P := P) hP hfr hN ⟨by omega, hs⟩ ok har hi hb hnb nl0 nf0 with ⟨er, he, cP, cO⟩ | ⟨d2, RS2, RL2, W2, c2, hi2, ⟨ok2, cP, cO⟩ | ⟨h2, g1, fi2, en2, at1, w2, cP, cO⟩⟩
  · exact .inl ⟨d, RS, RL, W, c, er, by omega, ok, hi, FnTr.num2 (wk cP), FnTr.num2 cO⟩
  · exact .inl ⟨d2, RS2, RL2, W2, c2, 6, by decide, ok2, hi2, FnTr.num2 cP, FnTr.num2 cO⟩
  · exact .inr ⟨⟨d2, RS2, RL2, W2, c2, g1, at1, nb, b, b, .l 0, 0, 0, false, 0, nl0, nl0, nf0, nf0⟩, ⟨h2, fi2, en2, w2, hi2, .inl rfl⟩, cP, cO⟩
end
open Go.DskLaw (q64 secV isB needN pcs getP)
set_option maxHeartbeats 4000000
theorem does27_run {P : Program} (hP : P = Tryd.prog) {fr : Nat → Int} (hfr : ∀ i, fr i = ((four i).toNat : Int)) {s N nb n : Nat} {b z0 : Nat → Int} {L0 : Int → Option (Nat → Int)} {R0 : Nat → Nat → Int} {W0 : Nat → Bool} {l : Nat → OpW} {z : LSt} (hN : N = 64 * s) (hs : 1 ≤ s ∧ s ≤ 24) (hn : n ≤ 40) (hnb : nb ≤ 400)
    (hl : ∀ i, i < n → ((l i).bn ≤ 9223372036854775807 ∧ (l i).kn ≤ 9223372036854775807) ∧ (l i).a ≤ 9223372036854775807 ∧ ∀ x, x < (l i).bn → 0 ≤ (l i).b x ∧ (l i).b x ≤ 255) (hli : ∀ i, i < n → (l i).bn ≤ 400 ∧ (l i).kn ≤ 60)
    (cl : FnTr P (Gf fr) 21 [] [] 0 (Gives (.bl true) [] 1000)) (cg : FnTr P (Gf fr) 36 [OpsW n l] [] 0 (Gives (.bs true) [] 0))
    (c1 : FnTr P (Gf fr) 22 [.int .i64 (s : Int)] [] 0 (Gives (.tup [.ptr 0 0, .lit .i64 0]) (DH N z0 L0 false 0) 3))
    (c2 : FnTr P (Gf fr) 24 [.int .i64 (s : Int)] [] 0 (Gives (.tup [RD s R0 R0 W0 (-1), .lit .i64 0]) [] 60)) (hz : LInv s z)
    (cB : FnTr P (Gf fr) 23 [.ptr 0 0, By nb b] (DHd N ⟨z0, L0, false, 0⟩) 3 (Gives (.tup [.ptr 3 0, .lit .i64 0]) (LHz N z) 9000))
    (cR : FnTr P (Gf fr) 42 [RD s R0 R0 W0 (-1), By nb b] [] 0 (Gives (.tup [LRz s z, .lit .i64 0]) [] 20000)) :
    FnTr P (Gf fr) 9 [.int .i64 (s : Int), By nb b, OpsW n l] [] 0 (Gives (.bl true) [] 200000) := by
  have hstep : ∀ i, i < n → ∀ z, LInv s z → LStep P (Gf fr) s N z (l i) := fun i hi z hz => step_any hP hfr hN hz (hl i hi).2.1 (by have := (hli i hi).2; omega) (hl i hi).2.2 (hli i hi).1
  have hlook : ∀ {d : Dk} {RS RL : Nat → Nat → Int} {W : Nat → Bool} {c : Int}, DkOk s d → RIs d RS RL W c → _ := fun {d RS RL W c} ok hi => image_both (P := P) (G := Gf fr) (d := d) (RS := RS) (RL := RL) (W := W) (c := c) hP hN (by omega) ok hi
  have hsame : ∀ z, LInv s z → _ := fun z hz => same_z (P := P) (G := Gf fr) (z := z) hP hN hz
  clear hl hli hfr
  have hT : T.Ok P := hP ▸ T_ok
  refine jjI Tryd.f9 hT ?_
  generalize hA : Ar.real = A
  generalize hK : Gives _ _ _ = K
  cbv
  have k1 : A.gt (A.i2 nb) 400 = false := by clear cl cg c1 c2 cB cR hstep hlook hsame; subst hA; simp [Ar.real]; omega
  have k2 : A.gt (Int.ofNat s) 24 = false := by clear cl cg c1 c2 cB cR hstep hlook hsame; subst hA; simp [Ar.real]; omega
  have k4 : A.lt (Int.ofNat s) 1 = false := by clear cl cg c1 c2 cB cR hstep hlook hsame; subst hA; simp [Ar.real]; omega
  have k5 : A.gt (Int.ofNat s) 4096 = false := by clear cl cg c1 c2 cB cR hstep hlook hsame; subst hA; simp [Ar.real]; omega
  refine jjT hA (cg) (.bl true) [] ?_
  cbv
  first | refine testR k1 rfl ?_ | refine testL k1 rfl ?_
  cbv
  first | refine testR k2 rfl ?_ | refine testL k2 rfl ?_
  cbv
  first | refine testR k4 rfl ?_ | refine testL k4 rfl ?_
  cbv
  first | refine testR k5 rfl ?_ | refine testL k5 rfl ?_
  cbv
  refine jjS hA (c1) [] ?_
  cbv
  refine jjS hA (c2) [] ?_
  cbv
  refine jjS hA (cR) [] ?_
  cbv
  refine CS.ren 30 [(20109, 30)] rfl rfl ?_
  cbv
  refine jjS hA (cB) [(23, 0), (24, 1), (25, 2)] ?_
  cbv
  refine LS.clr [55, 57, 60, 63, 66, 69, 70, 76] ?_
  cbv
  refine LS.le3 hT hA 36 (fun (i : Nat) (al : Bool) (z : LSt) => match al with | true => [(13, .ptr 34 0), (15, .int .i64 (i : Int))] | false => [(13, .nilp), (15, .int .i64 (i : Int))])
    (fun i al z => match al with
      | true => (30, .cells 71 [Rw64 s z.RS, Rw64 s z.RL, .ro 1 (.s s) (fun e => [.bs (z.W e.val)]), .int .i64 z.cc, .int .i64 (z.gen : Int), .int .i64 (z.at1 : Int), By z.nb z.bd, NtS z.kc z.nl z.nf, .int .i64 (z.su : Int), .bs z.dead]) ::
          (34, .cells 94 [.ptr 23 0, .int .i64 (z.gen : Int), .int .i64 (z.at1 : Int), By z.nb z.b, .sl 35 1 z.o (.s z.kc), .int .i64 (z.su : Int), .bs z.dead]) :: (35, LgR z.cn z.gl z.gf) :: DHn 23 24 25 N z.d.S z.d.L z.d.ar z.d.ca
      | false => (30, .cells 71 [Rw64 s z.RS, Rw64 s z.RL, .ro 1 (.s s) (fun e => [.bs (z.W e.val)]), .int .i64 z.cc, .lit .i64 0, .lit .i64 0, .nils, .nils, .lit .i64 0, .bl false]) :: DHn 23 24 25 N z.d.S z.d.L z.d.ar z.d.ca)
    (fun i al z => i ≤ n ∧ match al with | true => LInv s z | false => DkOk s z.d ∧ RIs z.d z.RS z.RL z.W z.cc) (fun i _ _ => n - i) 0 true z [] rfl rfl ?_ ?_ ?_
  · (try cbv) <;> (repeat' (first | exact trivial | exact rfl | apply And.intro | exact fun _ => rfl | (intro _ hle; first | refine chunk_le hA rfl hle rfl ?_ | refine cat_le hA ?_ | refine upd_le hA ?_ | refine int_le ?_ | skip)))
    all_goals first | exact jjO | trace_state
  · exact ⟨Nat.zero_le _, hz⟩
  · intro R hR i al z hp
    cases al with
    | false =>
      obtain ⟨im, i1, i2, i3⟩ := hlook hp.2.1 hp.2.2
      clear cg c1 c2 cB cR hstep hlook hsame hz hR
      cbv
      refine ⟨fun q1 => ?_, fun q1 => ?_⟩
      · cbv
        refine jjR hA hT 1300 ?_
        cbv
        refine jjP hA (i1) [(23, 0), (24, 1), (25, 2)] ?_
        cbv
        refine jjP hA (i2) [] ?_
        cbv
        refine jjP hA (i3) [] ?_
        cbv
        refine jjP hA (cl) [] ?_
        cbv
        refine jjD ?_
        cbv
        refine Fin.le hA 0 [] (.bl true) ([]) 200000 rfl rfl rfl ?_ ?_ jjK
        iterate 2 exact jjL
      · cbv
        refine jjR hA hT 1300 ?_
        cbv
        refine jjP hA (i1) [(23, 0), (24, 1), (25, 2)] ?_
        cbv
        refine jjP hA (i2) [] ?_
        cbv
        refine jjP hA (i3) [] ?_
        cbv
        refine jjP hA (cl) [] ?_
        cbv
        refine jjD ?_
        cbv
        refine Fin.le hA 0 [] (.bl true) ([]) 200000 rfl rfl rfl ?_ ?_ jjK
        iterate 2 exact jjL
    | true =>
      have hi := hp.1
      have hz' : LInv s z := hp.2
      clear hp hz cg c1 c2 cB cR
      cbv
      refine ⟨fun q1 => ?_, fun q1 => ?_⟩
      · have hin : i < n := by clear hR hstep hlook hsame hz'; subst hA; simp [Ar.real] at q1; omega
        have kn : A.nat (Int.ofNat i) = i := by clear hR; subst hA; rfl
        cbv
        rcases hstep i hin z hz' with ⟨z', hz2, a1⟩ | ⟨z', hz2, a1⟩ | ⟨z', hz2, a1⟩ | ⟨d2, RS, RL, W, c, ok2, hi2, a1⟩ | ⟨n1, n2⟩
        · skip
          obtain ⟨im, i1, i2, i3⟩ := hlook hz2.ok hz2.ris
          have i4 := hsame z' hz2
          clear hstep hlook hsame hz'
          refine jjR hA hT 100 ?_
          cbv
          refine ⟨jjO, ?_⟩
          refine CD.pass hA a1 [(23, 0), (24, 1), (25, 2), (34, 3), (35, 4)] [] rfl ⟨rfl, rfl, rfl, rfl, ?_, ?_⟩ rfl (.inl rfl) ?_
          · clear hR
            (try cbv) <;> (repeat' (first | exact trivial | exact rfl | apply And.intro | exact fun _ => rfl | (intro _ hle; first | refine chunk_le hA rfl hle rfl ?_ | refine cat_le hA ?_ | refine upd_le hA ?_ | refine int_le ?_ | skip)))
            all_goals first | (subst hA; rfl) | trace_state
          · clear hR
            (try cbv) <;> (repeat' (first | exact trivial | exact rfl | apply And.intro | exact fun _ => rfl | (intro _ hle; first | refine chunk_le hA rfl hle rfl ?_ | refine cat_le hA ?_ | refine upd_le hA ?_ | refine int_le ?_ | skip)))
            all_goals trace_state
          cbv
          refine jjD ?_
          cbv
          refine jjR hA hT 10 ?_
          cbv
          refine jjD ?_
          cbv
          refine jjR hA hT 300 ?_
          cbv
          refine jjP hA (i4) [(23, 0), (24, 1), (25, 2), (34, 3), (35, 4)] ?_
          cbv
          refine jjP hA (i1) [(23, 0), (24, 1), (25, 2)] ?_
          cbv
          refine jjP hA (i2) [] ?_
          cbv
          refine jjP hA (i3) [] ?_
          cbv
          refine jjD ?_
          cbv
          refine ⟨jjO, hR _ _ _ _ ⟨i + 1, true, z', 36, [], rfl, rfl, ?_, ⟨hin, hz2⟩, (by show n - (i + 1) < n - i; omega)⟩⟩
          clear hR
          (try cbv) <;> (repeat' (first | exact trivial | exact rfl | apply And.intro | exact fun _ => rfl | (intro _ hle; first | refine chunk_le hA rfl hle rfl ?_ | refine cat_le hA ?_ | refine upd_le hA ?_ | refine int_le ?_ | skip)))
          all_goals first | exact jjO | trace_state
        · skip
          obtain ⟨im, i1, i2, i3⟩ := hlook hz2.ok hz2.ris
          have i4 := hsame z' hz2
          clear hstep hlook hsame hz'
          refine jjR hA hT 100 ?_
          cbv
          refine ⟨jjO, ?_⟩
          refine CD.pass hA a1 [(23, 0), (24, 1), (25, 2), (34, 3), (35, 4)] [] rfl ⟨rfl, rfl, rfl, rfl, ?_, ?_⟩ rfl (.inl rfl) ?_
          · clear hR
            (try cbv) <;> (repeat' (first | exact trivial | exact rfl | apply And.intro | exact fun _ => rfl | (intro _ hle; first | refine chunk_le hA rfl hle rfl ?_ | refine cat_le hA ?_ | refine upd_le hA ?_ | refine int_le ?_ | skip)))
            all_goals first | (subst hA; rfl) | trace_state
          · clear hR
            (try cbv) <;> (repeat' (first | exact trivial | exact rfl | apply And.intro | exact fun _ => rfl | (intro _ hle; first | refine chunk_le hA rfl hle rfl ?_ | refine cat_le hA ?_ | refine upd_le hA ?_ | refine int_le ?_ | skip)))
            all_goals trace_state
          cbv
          refine jjD ?_
          cbv
          refine jjR hA hT 10 ?_
          cbv
          refine jjD ?_
          cbv
          refine jjR hA hT 300 ?_
          cbv
          refine jjP hA (i4) [(23, 0), (24, 1), (25, 2), (34, 3), (749, 4)] ?_
          cbv
          refine jjP hA (i1) [(23, 0), (24, 1), (25, 2)] ?_
          cbv
          refine jjP hA (i2) [] ?_
          cbv
          refine jjP hA (i3) [] ?_
          cbv
          refine jjD ?_
          cbv
          refine ⟨jjO, hR _ _ _ _ ⟨i + 1, true, z', 35, [(749, 35)], rfl, rfl, ?_, ⟨hin, hz2⟩, (by show n - (i + 1) < n - i; omega)⟩⟩
          clear hR
          (try cbv) <;> (repeat' (first | exact trivial | exact rfl | apply And.intro | exact fun _ => rfl | (intro _ hle; first | refine chunk_le hA rfl hle rfl ?_ | refine cat_le hA ?_ | refine upd_le hA ?_ | refine int_le ?_ | skip)))
          all_goals first | exact jjO | trace_state
        · skip
          obtain ⟨im, i1, i2, i3⟩ := hlook hz2.ok hz2.ris
          have i4 := hsame z' hz2
          clear hstep hlook hsame hz'
          refine jjR hA hT 100 ?_
          cbv
          refine ⟨jjO, ?_⟩
          refine CD.pass hA a1 [(23, 0), (24, 1), (25, 2), (34, 3), (35, 4)] [] rfl ⟨rfl, rfl, rfl, rfl, ?_, ?_⟩ rfl (.inl rfl) ?_
          · clear hR
            (try cbv) <;> (repeat' (first | exact trivial | exact rfl | apply And.intro | exact fun _ => rfl | (intro _ hle; first | refine chunk_le hA rfl hle rfl ?_ | refine cat_le hA ?_ | refine upd_le hA ?_ | refine int_le ?_ | skip)))
            all_goals first | (subst hA; rfl) | trace_state
          · clear hR
            (try cbv) <;> (repeat' (first | exact trivial | exact rfl | apply And.intro | exact fun _ => rfl | (intro _ hle; first | refine chunk_le hA rfl hle rfl ?_ | refine cat_le hA ?_ | refine upd_le hA ?_ | refine int_le ?_ | skip)))
            all_goals trace_state
          cbv
          refine jjD ?_
          cbv
          refine jjR hA hT 10 ?_
          cbv
          refine jjD ?_
          cbv
          refine jjR hA hT 300 ?_
          cbv
          refine jjP hA (i4) [(23, 0), (24, 1), (25, 2), (749, 3), (750, 4)] ?_
          cbv
          refine jjP hA (i1) [(23, 0), (24, 1), (25, 2)] ?_
          cbv
          refine jjP hA (i2) [] ?_
          cbv
          refine jjP hA (i3) [] ?_
          cbv
          refine jjD ?_
          cbv
          refine ⟨jjO, hR _ _ _ _ ⟨i + 1, true, z', 34, [(749, 34), (750, 35)], rfl, rfl, ?_, ⟨hin, hz2⟩, (by show n - (i + 1) < n - i; omega)⟩⟩
          clear hR
          (try cbv) <;> (repeat' (first | exact trivial | exact rfl | apply And.intro | exact fun _ => rfl | (intro _ hle; first | refine chunk_le hA rfl hle rfl ?_ | refine cat_le hA ?_ | refine upd_le hA ?_ | refine int_le ?_ | skip)))
          all_goals first | exact jjO | trace_state
        · skip
          obtain ⟨im, i1, i2, i3⟩ := hlook ok2 hi2
          clear hstep hlook hsame hz'
          refine jjR hA hT 100 ?_
          cbv
          refine ⟨jjO, ?_⟩
          refine CD.pass hA a1 [(23, 0), (24, 1), (25, 2), (34, 3), (35, 4)] [] rfl ⟨rfl, rfl, rfl, rfl, ?_, ?_⟩ rfl (.inl rfl) ?_
          · clear hR
            (try cbv) <;> (repeat' (first | exact trivial | exact rfl | apply And.intro | exact fun _ => rfl | (intro _ hle; first | refine chunk_le hA rfl hle rfl ?_ | refine cat_le hA ?_ | refine upd_le hA ?_ | refine int_le ?_ | skip)))
            all_goals first | (subst hA; rfl) | trace_state
          · clear hR
            (try cbv) <;> (repeat' (first | exact trivial | exact rfl | apply And.intro | exact fun _ => rfl | (intro _ hle; first | refine chunk_le hA rfl hle rfl ?_ | refine cat_le hA ?_ | refine upd_le hA ?_ | refine int_le ?_ | skip)))
            all_goals trace_state
          cbv
          refine jjD ?_
          cbv
          refine jjR hA hT 10 ?_
          cbv
          refine jjD ?_
          cbv
          refine jjR hA hT 300 ?_
          cbv
          refine jjP hA (i1) [(23, 0), (24, 1), (25, 2)] ?_
          cbv
          refine jjP hA (i2) [] ?_
          cbv
          refine jjP hA (i3) [] ?_
          cbv
          refine jjD ?_
          cbv
          refine ⟨jjO, hR _ _ _ _ ⟨i + 1, false, { z with d := d2, RS := RS, RL := RL, W := W, cc := c }, 36, [], rfl, rfl, ?_, ⟨hin, ok2, hi2⟩, (by show n - (i + 1) < n - i; omega)⟩⟩
          clear hR
          (try cbv) <;> (repeat' (first | exact trivial | exact rfl | apply And.intro | exact fun _ => rfl | (intro _ hle; first | refine chunk_le hA rfl hle rfl ?_ | refine cat_le hA ?_ | refine upd_le hA ?_ | refine int_le ?_ | skip)))
          all_goals first | exact jjO | trace_state
        · skip
          have hcn : z.o.val + z.kc = z.cn := by obtain ⟨h, fi, en, w, _⟩ := hz'; exact w.hcn.symm
          refine DS.cap 34 4 35 rfl rfl rfl rfl hcn (fun q => ?_) (fun bb cp vv q1 q2 q3 => ?_)
          · obtain ⟨z', hz2, a1⟩ := n1 q
            obtain ⟨im, i1, i2, i3⟩ := hlook hz2.ok hz2.ris
            have i4 := hsame z' hz2
            clear hstep hlook hsame hz'
            clear n1 n2 hcn
            cbv
            refine jjR hA hT 100 ?_
            cbv
            refine ⟨jjO, ?_⟩
            refine CD.pass hA a1 [(23, 0), (24, 1), (25, 2), (34, 3)] [] rfl ⟨rfl, rfl, rfl, rfl, ?_, ?_⟩ rfl (.inl rfl) ?_
            · clear hR
              (try cbv) <;> (repeat' (first | exact trivial | exact rfl | apply And.intro | exact fun _ => rfl | (intro _ hle; first | refine chunk_le hA rfl hle rfl ?_ | refine cat_le hA ?_ | refine upd_le hA ?_ | refine int_le ?_ | skip)))
              all_goals first | (subst hA; rfl) | trace_state
            · clear hR
              (try cbv) <;> (repeat' (first | exact trivial | exact rfl | apply And.intro | exact fun _ => rfl | (intro _ hle; first | refine chunk_le hA rfl hle rfl ?_ | refine cat_le hA ?_ | refine upd_le hA ?_ | refine int_le ?_ | skip)))
              all_goals trace_state
            cbv
            refine jjD ?_
            cbv
            refine jjR hA hT 10 ?_
            cbv
            refine jjD ?_
            cbv
            refine jjR hA hT 300 ?_
            cbv
            refine jjP hA (i4) [(23, 0), (24, 1), (25, 2), (34, 3), (749, 4)] ?_
            cbv
            refine jjP hA (i1) [(23, 0), (24, 1), (25, 2)] ?_
            cbv
            refine jjP hA (i2) [] ?_
            cbv
            refine jjP hA (i3) [] ?_
            cbv
            refine jjD ?_
            cbv
            refine ⟨jjO, hR _ _ _ _ ⟨i + 1, true, z', 35, [(749, 35)], rfl, rfl, ?_, ⟨hin, hz2⟩, (by show n - (i + 1) < n - i; omega)⟩⟩
            clear hR
            (try cbv) <;> (repeat' (first | exact trivial | exact rfl | apply And.intro | exact fun _ => rfl | (intro _ hle; first | refine chunk_le hA rfl hle rfl ?_ | refine cat_le hA ?_ | refine upd_le hA ?_ | refine int_le ?_ | skip)))
            all_goals first | exact jjO | trace_state
          · obtain ⟨z', hz2, a1⟩ := n2 bb cp vv q1 q2 q3
            obtain ⟨im, i1, i2, i3⟩ := hlook hz2.ok hz2.ris
            have i4 := hsame z' hz2
            clear hstep hlook hsame hz'
            clear n1 n2 hcn q1 q2 q3
            cbv
            refine jjR hA hT 100 ?_
            cbv
            refine ⟨jjO, ?_⟩
            refine CD.pass hA a1 [(23, 0), (24, 1), (25, 2), (34, 3), (35, 4)] [] rfl ⟨rfl, rfl, rfl, rfl, ?_, ?_⟩ rfl (.inl rfl) ?_
            · clear hR
              (try cbv) <;> (repeat' (first | exact trivial | exact rfl | apply And.intro | exact fun _ => rfl | (intro _ hle; first | refine chunk_le hA rfl hle rfl ?_ | refine cat_le hA ?_ | refine upd_le hA ?_ | refine int_le ?_ | skip)))
              all_goals first | (subst hA; rfl) | trace_state
            · clear hR
              (try cbv) <;> (repeat' (first | exact trivial | exact rfl | apply And.intro | exact fun _ => rfl | (intro _ hle; first | refine chunk_le hA rfl hle rfl ?_ | refine cat_le hA ?_ | refine upd_le hA ?_ | refine int_le ?_ | skip)))
              all_goals trace_state
            cbv
            refine jjD ?_
            cbv
            refine jjR hA hT 10 ?_
            cbv
            refine jjD ?_
            cbv
            refine jjR hA hT 300 ?_
            cbv
            refine jjP hA (i4) [(23, 0), (24, 1), (25, 2), (34, 3), (749, 4)] ?_
            cbv
            refine jjP hA (i1) [(23, 0), (24, 1), (25, 2)] ?_
            cbv
            refine jjP hA (i2) [] ?_
            cbv
            refine jjP hA (i3) [] ?_
            cbv
            refine jjD ?_
            cbv
            refine ⟨jjO, hR _ _ _ _ ⟨i + 1, true, z', 35, [(749, 35)], rfl, rfl, ?_, ⟨hin, hz2⟩, (by show n - (i + 1) < n - i; omega)⟩⟩
            clear hR
            (try cbv) <;> (repeat' (first | exact trivial | exact rfl | apply And.intro | exact fun _ => rfl | (intro _ hle; first | refine chunk_le hA rfl hle rfl ?_ | refine cat_le hA ?_ | refine upd_le hA ?_ | refine int_le ?_ | skip)))
            all_goals first | exact jjO | trace_state
      · obtain ⟨im, i1, i2, i3⟩ := hlook hz'.ok hz'.ris
        clear hstep hlook hsame hz' hR
        cbv
        refine jjR hA hT 1300 ?_
        cbv
        refine jjP hA (i1) [(23, 0), (24, 1), (25, 2)] ?_
        cbv
        refine jjP hA (i2) [] ?_
        cbv
        refine jjP hA (i3) [] ?_
        cbv
        refine jjP hA (cl) [] ?_
        cbv
        refine jjD ?_
        cbv
        refine Fin.le hA 0 [] (.bl true) ([]) 200000 rfl rfl rfl ?_ ?_ jjK
        iterate 2 exact jjL
theorem does27_law {P : Program} (hP : P = Tryd.prog) {fr : Nat → Int} (hfr : ∀ i, fr i = ((four i).toNat : Int)) {sc : Int} {nb n : Nat} {b : Nat → Int} {l : Nat → OpW} (hnb : nb ≤ 9223372036854775807) (hb : ∀ x, x < nb → 0 ≤ b x ∧ b x ≤ 255) (hn : n ≤ 9223372036854775807)
    (hl : ∀ i, i < n → ((l i).bn ≤ 9223372036854775807 ∧ (l i).kn ≤ 9223372036854775807) ∧ (l i).a ≤ 9223372036854775807 ∧ ∀ x, x < (l i).bn → 0 ≤ (l i).b x ∧ (l i).b x ≤ 255) :
    FnTr P (Gf fr) 9 [.int .i64 sc, By nb b, OpsW n l] [] 0 (Gives (.bl true) [] 200000) := by
  have cl := lives27_fn (P := P) hP hfr
  obtain ⟨r, hr⟩ := lightW_ex n l
  have cg := light27_fn (P := P) (G := Gf fr) hP hn (fun i hi => (hl i hi).1) hr
  cases hrb : r with
  | false =>
    rw [hrb] at cg
    clear hl hr hb
    have hT : T.Ok P := hP ▸ T_ok
    refine jjI Tryd.f9 hT ?_
    generalize hA : Ar.real = A
    generalize hK : Gives _ _ _ = K
    cbv
    refine jjT hA (cg) (.bl false) [] ?_
    cbv
    refine jjS hA (cl) [] ?_
    cbv
    refine Fin.le hA 0 [] (.bl true) ([]) 200000 rfl rfl rfl ?_ ?_ jjK
    iterate 2 exact jjL
  | true =>
  rw [hrb] at cg
  obtain ⟨hn40, hli⟩ := hr.1 hrb
  by_cases hb4 : 400 < nb
  · clear hl hr hb hli
    have hT : T.Ok P := hP ▸ T_ok
    refine jjI Tryd.f9 hT ?_
    generalize hA : Ar.real = A
    generalize hK : Gives _ _ _ = K
    cbv
    have k1 : A.gt (A.i2 nb) 400 = true := by clear cl cg; subst hA; simp [Ar.real]; omega
    refine jjT hA (cg) (.bl true) [] ?_
    cbv
    first | refine testR k1 rfl ?_ | refine testL k1 rfl ?_
    cbv
    refine jjS hA (cl) [] ?_
    cbv
    refine Fin.le hA 0 [] (.bl true) ([]) 200000 rfl rfl rfl ?_ ?_ jjK
    iterate 2 exact jjL
  by_cases hs24 : 24 < sc
  · clear hl hr hb hli
    by_cases hs4 : sc ≤ 4096
    · skip
      have hT : T.Ok P := hP ▸ T_ok
      refine jjI Tryd.f9 hT ?_
      generalize hA : Ar.real = A
      generalize hK : Gives _ _ _ = K
      cbv
      have k1 : A.gt (A.i2 nb) 400 = false := by clear cl cg; subst hA; simp [Ar.real]; omega
      have k2 : A.gt sc 24 = true := by clear cl cg; subst hA; simp [Ar.real]; omega
      have k3 : A.le sc 4096 = true := by clear cl cg; subst hA; simp [Ar.real]; omega
      refine jjT hA (cg) (.bl true) [] ?_
      cbv
      first | refine testR k1 rfl ?_ | refine testL k1 rfl ?_
      cbv
      first | refine testR k2 rfl ?_ | refine testL k2 rfl ?_
      cbv
      first | refine testR k3 rfl ?_ | refine testL k3 rfl ?_
      cbv
      refine jjS hA (cl) [] ?_
      cbv
      refine Fin.le hA 0 [] (.bl true) ([]) 200000 rfl rfl rfl ?_ ?_ jjK
      iterate 2 exact jjL
    · skip
      have hT : T.Ok P := hP ▸ T_ok
      refine jjI Tryd.f9 hT ?_
      generalize hA : Ar.real = A
      generalize hK : Gives _ _ _ = K
      cbv
      have k1 : A.gt (A.i2 nb) 400 = false := by clear cl cg; subst hA; simp [Ar.real]; omega
      have k2 : A.gt sc 24 = true := by clear cl cg; subst hA; simp [Ar.real]; omega
      have k3 : A.le sc 4096 = false := by clear cl cg; subst hA; simp [Ar.real]; omega
      have k4 : A.lt sc 1 = false := by clear cl cg; subst hA; simp [Ar.real]; omega
      have k5 : A.gt sc 4096 = true := by clear cl cg; subst hA; simp [Ar.real]; omega
      refine jjT hA (cg) (.bl true) [] ?_
      cbv
      first | refine testR k1 rfl ?_ | refine testL k1 rfl ?_
      cbv
      first | refine testR k2 rfl ?_ | refine testL k2 rfl ?_
      cbv
      first | refine testR k3 rfl ?_ | refine testL k3 rfl ?_
      cbv
      first | refine testR k4 rfl ?_ | refine testL k4 rfl ?_
      cbv
      first | refine testR k5 rfl ?_ | refine testL k5 rfl ?_
      cbv
      refine jjS hA (cl) [] ?_
      cbv
      refine Fin.le hA 0 [] (.bl true) ([]) 200000 rfl rfl rfl ?_ ?_ jjK
      iterate 2 exact jjL
  by_cases hs1 : sc < 1
  · clear hl hr hb hli
    have hT : T.Ok P := hP ▸ T_ok
    refine jjI Tryd.f9 hT ?_
    generalize hA : Ar.real = A
    generalize hK : Gives _ _ _ = K
    cbv
    have k1 : A.gt (A.i2 nb) 400 = false := by clear cl cg; subst hA; simp [Ar.real]; omega
    have k2 : A.gt sc 24 = false := by clear cl cg; subst hA; simp [Ar.real]; omega
    have k4 : A.lt sc 1 = true := by clear cl cg; subst hA; simp [Ar.real]; omega
    refine jjT hA (cg) (.bl true) [] ?_
    cbv
    first | refine testR k1 rfl ?_ | refine testL k1 rfl ?_
    cbv
    first | refine testR k2 rfl ?_ | refine testL k2 rfl ?_
    cbv
    first | refine testR k4 rfl ?_ | refine testL k4 rfl ?_
    cbv
    refine jjS hA (cl) [] ?_
    cbv
    refine Fin.le hA 0 [] (.bl true) ([]) 200000 rfl rfl rfl ?_ ?_ jjK
    iterate 2 exact jjL
  obtain ⟨s, hsc⟩ : ∃ s : Nat, sc = (s : Int) := ⟨sc.toNat, by omega⟩
  subst hsc
  have hs : 1 ≤ s ∧ s ≤ 24 := by omega
  obtain ⟨N, hN⟩ : ∃ N, N = 64 * s := ⟨_, rfl⟩
  obtain ⟨z0, hz0⟩ : ∃ z0 : Nat → Int, ∀ x, z0 x = 0 := ⟨fun _ => 0, fun _ => rfl⟩
  obtain ⟨L0, hL0⟩ : ∃ L0 : Int → Option (Nat → Int), ∀ k, L0 k = none := ⟨fun _ => none, fun _ => rfl⟩
  obtain ⟨R0, hR0⟩ : ∃ R0 : Nat → Nat → Int, ∀ t x, R0 t x = 0 := ⟨fun _ _ => 0, fun _ _ => rfl⟩
  obtain ⟨W0, hW0⟩ : ∃ W0 : Nat → Bool, ∀ t, W0 t = false := ⟨fun _ => false, fun _ => rfl⟩
  have c1 := new_ok (P := P) (G := Gf fr) (n := (s : Int)) (s := s) (N := N) (S := z0) (L := L0) hP rfl (by omega) hN hz0 hL0
  have c2 := refnew_fn (P := P) (G := Gf fr) (n := (s : Int)) (s := s) (S := R0) (L := R0) (W := W0) hP rfl (by omega) hR0 hR0 hW0
  have ok0 : DkOk s ⟨z0, L0, false, 0⟩ := ⟨⟨by show (0 : Int) ≤ 0; omega, by show (0 : Int) ≤ _; omega⟩, fun k g e => (by have e : L0 k = some g := e; rw [hL0] at e; cases e), fun x _ => (by show 0 ≤ z0 x ∧ z0 x ≤ 255; rw [hz0]; omega), fun k g e => (by have e : L0 k = some g := e; rw [hL0] at e; cases e)⟩
  have hi0 : RIs ⟨z0, L0, false, 0⟩ R0 R0 W0 (-1) := by
    refine ⟨fun t x => by rw [hR0]; exact (hz0 _).symm, fun t x => ?_, fun t => ?_, rfl⟩
    · rw [hR0, Go.DskLaw.secV_none' (hL0 _)]; exact (hz0 _).symm
    · rw [hW0]; show false = (L0 _).isSome; rw [hL0]; rfl
  rcases begin_start (b := b) (nb := nb) hP hfr hN (by omega) ok0 rfl hi0 hb (by omega) with ⟨d2, RS2, RL2, W2, cc2, er, he, ok2, hi2, cB, cR⟩ | ⟨z, hz, cB, cR⟩
  · obtain ⟨im, i1, i2, i3⟩ := image_both (P := P) (G := Gf fr) hP hN (by omega) ok2 hi2
    clear hl hr hli hb ok0 hi0 ok2 hi2 hz0 hL0 hR0 hW0 hN
    have hT : T.Ok P := hP ▸ T_ok
    refine jjI Tryd.f9 hT ?_
    generalize hA : Ar.real = A
    generalize hK : Gives _ _ _ = K
    cbv
    have k1 : A.gt (A.i2 nb) 400 = false := by clear cl cg c1 c2 cB cR i1 i2 i3; subst hA; simp [Ar.real]; omega
    have k2 : A.gt (Int.ofNat s) 24 = false := by clear cl cg c1 c2 cB cR i1 i2 i3; subst hA; simp [Ar.real]; omega
    have k4 : A.lt (Int.ofNat s) 1 = false := by clear cl cg c1 c2 cB cR i1 i2 i3; subst hA; simp [Ar.real]; omega
    have k5 : A.gt (Int.ofNat s) 4096 = false := by clear cl cg c1 c2 cB cR i1 i2 i3; subst hA; simp [Ar.real]; omega
    refine jjT hA (cg) (.bl true) [] ?_
    cbv
    first | refine testR k1 rfl ?_ | refine testL k1 rfl ?_
    cbv
    first | refine testR k2 rfl ?_ | refine testL k2 rfl ?_
    cbv
    first | refine testR k4 rfl ?_ | refine testL k4 rfl ?_
    cbv
    first | refine testR k5 rfl ?_ | refine testL k5 rfl ?_
    cbv
    refine jjS hA (c1) [] ?_
    cbv
    refine jjS hA (c2) [] ?_
    cbv
    refine jjS hA (cR) [] ?_
    cbv
    refine CS.ren 30 [(20109, 30)] rfl rfl ?_
    cbv
    refine jjS hA (cB) [(23, 0), (24, 1), (25, 2)] ?_
    cbv
    have k6 : A.ne er er = false := by clear cl cg c1 c2 cB cR i1 i2 i3; subst hA; simp [Ar.real]
    have k7 : A.not (A.eqB true (A.ne er 0)) = false := by clear cl cg c1 c2 cB cR i1 i2 i3; subst hA; simp [Ar.real, he]
    first | refine testR k6 rfl ?_ | refine testL k6 rfl ?_
    cbv
    first | refine testR k7 rfl ?_ | refine testL k7 rfl ?_
    cbv
    refine LS.rounds hA 1 hT ?_
    cbv
    by_cases h0 : n = 0
    · have k8 : A.lt 0 (A.i2 n) = false := by clear cl cg c1 c2 cB cR i1 i2 i3; subst hA; simp [Ar.real]; omega
      first | refine testR k8 rfl ?_ | refine testL k8 rfl ?_
      cbv
      refine jjR hA hT 1300 ?_
      cbv
      refine jjP hA (i1) [(23, 0), (24, 1), (25, 2)] ?_
      cbv
      refine jjP hA (i2) [] ?_
      cbv
      refine jjP hA (i3) [] ?_
      cbv
      refine jjP hA (cl) [] ?_
      cbv
      refine jjD ?_
      cbv
      refine Fin.le hA 0 [] (.bl true) ([]) 200000 rfl rfl rfl ?_ ?_ jjK
      iterate 2 exact jjL
    · have k8 : A.lt 0 (A.i2 n) = true := by clear cl cg c1 c2 cB cR i1 i2 i3; subst hA; simp [Ar.real]; omega
      first | refine testR k8 rfl ?_ | refine testL k8 rfl ?_
      cbv
      refine jjR hA hT 1300 ?_
      cbv
      refine jjP hA (i1) [(23, 0), (24, 1), (25, 2)] ?_
      cbv
      refine jjP hA (i2) [] ?_
      cbv
      refine jjP hA (i3) [] ?_
      cbv
      refine jjP hA (cl) [] ?_
      cbv
      refine jjD ?_
      cbv
      refine Fin.le hA 0 [] (.bl true) ([]) 200000 rfl rfl rfl ?_ ?_ jjK
      iterate 2 exact jjL
  · exact does27_run hP hfr hN hs hn40 (by omega) hl hli cl cg c1 c2 hz cB cR
open Go.Eng Go.RowKit
variable {W : World} {v0 v1 v2 v3 v4 : Value}
def opwOf (d : opwsh.Den) : OpW := ⟨d.1, d.2.1, d.2.2.1.1, fun x => (d.2.2.1.2 x).1, d.2.2.2.1.1, fun x => (d.2.2.2.1.2 x).1, fun x => (d.2.2.2.1.2 x).2.1⟩
theorem opwOf_ok {n : Nat} {l : Nat → opwsh.Den} (h : ∀ i, i < n → opwsh.wf (l i)) (i : Nat) (hi : i < n) : ((opwOf (l i)).bn ≤ 9223372036854775807 ∧ (opwOf (l i)).kn ≤ 9223372036854775807) ∧ (opwOf (l i)).a ≤ 9223372036854775807 ∧ ∀ x, x < (opwOf (l i)).bn → 0 ≤ (opwOf (l i)).b x ∧ (opwOf (l i)).b x ≤ 255 :=
  have q := h i hi
  ⟨⟨q.2.2.1.1, q.2.2.2.1.1⟩, q.2.1.2, fun x hx => (q.2.2.1.2 x hx).1⟩
theorem does_at (h : Lib.TabIs Tryd.prog W "copse/crc.four" .u32 zs4) (hg : Tryd.prog.globalNamed "copse/crc.four" = some 0)
    {n m : Nat} {sc : Int} {f : Nat → bysh.Den} {l : Nat → opwsh.Den} (wf0 : intWf .i64 sc) (r0 : Rep W (fun b => b < W.heap.size) Vln.no (.int .i64 sc) v0)
    (wf1 : m ≤ 9223372036854775807 ∧ ∀ i, i < m → bysh.wf (f i)) (r1 : Rep W (fun b => b < W.heap.size) Vln.no (.ro bysh.size (.s m) (fun e => bysh.svs (f e.val))) v1)
    (wf2 : n ≤ 9223372036854775807 ∧ ∀ i, i < n → opwsh.wf (l i)) (r2 : Rep W (fun b => b < W.heap.size) Vln.no (.ro opwsh.size (.s n) (fun e => opwsh.svs (l e.val))) v2) :
    Calls Tryd.prog 9 #[v0, v1, v2] W fun e w' => e = .returned (.bool true) ∧ Below W.heap.size W w' :=
  FnTr.law (does27_law rfl fr4_four (sc := sc) (b := fun i => (f i).1) (l := fun i => opwOf (l i)) wf1.1 (fun i hi => (wf1.2 i hi).1) wf2.1 (opwOf_ok wf2.2)) (fun r H n h => .inr h.1) (four_rep h hg) rfl (reps_cons r0 (reps_cons r1 (reps_cons r2 reps_nil)))
end Go.Proofs.YtnjjgipblimbfaaDoor.Dsk
