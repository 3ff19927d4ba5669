/-
  A verified symbolic executor over the code of the model, and what it shows of this program: part 4 of 6 (LawWalDoes).
-/
import Derived.Test.YtnjjgipblimbfaaDoorWalDoesPartC
import Derived.Test.YtnjjgipblimbfaaDoorProg
import Derived.KernelRfl
import Derived.ProofKit
import Derived.Lib.LaidTab
set_option linter.unusedVariables false
set_option linter.unusedSimpArgs false
namespace Go.Eng
theorem zo (n : Nat) : Int.ofNat n = (n : Int) := rfl
theorem zt (n : Nat) : ((n : Int)).toNat = n := rfl
theorem zn (n : Nat) : (@NatCast.natCast Int instNatCastInt n) = (n : Int) := rfl
theorem zi {n : Int} (h0 : -9223372036854775808 ≤ n := by omega) (h1 : n ≤ 9223372036854775807 := by omega) : inRange .i64 n := ⟨h0, h1⟩
theorem jjO {p : Prop} (h : p := by (subst hA; (try simp only [zn] at *); (try (simp only [Ar.real, NV.val, zo, zt])); first | done | omega | decide | exact zi | (refine ⟨?_, ?_⟩ <;> first | omega | decide | exact zi))) : p := h
theorem jjL {p : Prop} (h : p := by (try cbv) <;> (repeat' (first | exact trivial | exact rfl | apply And.intro | exact fun _ => rfl | (intro _ hle; first | refine chunk_le hA rfl hle rfl ?_ | refine cat_le hA ?_ | refine upd_le hA ?_ | (try cbv))))) : p := h
theorem jjC {p : Prop} (h : p := by (try cbv) <;> (repeat' (first | exact trivial | exact rfl | apply And.intro | exact fun _ => rfl | (intro _ hle; first | refine chunk_le hA rfl hle rfl ?_ | refine cat_le hA ?_ | refine upd_le hA ?_ | (try cbv)))) <;> (try (subst hA; (try simp only [zn] at *); (try (simp only [Ar.real, NV.val, zo, zt])); first | done | omega | decide | exact zi | (refine ⟨?_, ?_⟩ <;> first | omega | decide | exact zi)))) : p := h
theorem jjF {p : Prop} (h : p := by (try cbv) <;> (repeat' (first | exact trivial | exact rfl | apply And.intro | exact fun _ => rfl | (intro _ hle; first | refine chunk_le hA rfl hle rfl ?_ | refine cat_le hA ?_ | refine upd_le hA ?_ | (try cbv)))); all_goals (subst hA; (try simp only [zn] at *); (try (simp only [Ar.real, NV.val, zo, zt])); first | done | omega | decide | exact zi | (refine ⟨?_, ?_⟩ <;> first | omega | decide | exact zi))) : p := h
theorem jjK {p : Prop} (h : p := by rw [← hK]; exact ⟨rfl, rfl, rfl⟩) : p := h
theorem jjI {P : Program} {G : Gl} {T : Tab} {f : Nat} (fn : Func) {args : List SV} {H : Hl} {k : Nat} {K : SV → Hl → Nat → Prop} (hT : T.Ok P) (h : vc P G T Ar.real (bodyOf fn) ⟨padTo args fn.ntmps, H, k, k⟩ (retK T Ar.real fn.results.toList K)) (hf : P.funcs[f]? = some fn := by rw [hP]; rfl) (hn : (fn.name == "runtime.NumGoroutine") = false := by exact rfl) (hb : fn.body = some (bodyOf fn) := by exact rfl) : FnTr P G f args H k K := FnTr.intro hf hn hb hT h
theorem jjR {P : Program} {G : Gl} {T : Tab} {A : Ar} {ops : List Oper} {st : St} {K : St → Prop} (hA : Ar.real = A) (hT : T.Ok P) (W : Nat) (h : dvc P G T A ops st.nx W 0 ops st [] (DF ops st.nx W st.tmps.length K)) (hm : P.follows .mixedOrders = true := by rw [hP]; exact P_mixed) (hW : Nat.blt 0 W = true := by exact rfl) : DS P G T ops st K := DS.runK hA hT hm W hW h
theorem jjS {P : Program} {G : Gl} {f : Nat} {args args0 : List SV} {st : St} {K : SV → St → Prop} {H0 H' : Hl} {k n' : Nat} {r : SV} {A : Ar} (hA : Ar.real = A) (h : FnTr P G f args0 H0 k (Gives r H' n')) (ρ : List (Nat × Nat)) (hK : K (mvSV 3 (outId st.nx ρ) r) ⟨st.tmps, happ (mvH (outId st.nx ρ) H') (hgone st.heap (srcs ρ)), st.nx + n', st.lo⟩) (hok : renOk 0 ρ = true := by exact rfl) (hs : srcOk st.nx ρ = true := by exact rfl) (hk : Nat.ble (renNx 0 ρ) k = true := by exact rfl) (ha : leL (leSV A 4) (args.map (renSV 0 ρ)) args0 := by (try cbv) <;> (repeat' (first | exact trivial | exact rfl | apply And.intro | exact fun _ => rfl | (intro _ hle; first | refine chunk_le hA rfl hle rfl ?_ | refine cat_le hA ?_ | refine upd_le hA ?_ | (try cbv)))) <;> (try (subst hA; (try simp only [zn] at *); (try (simp only [Ar.real, NV.val, zo, zt])); first | done | omega | decide | exact zi | (refine ⟨?_, ?_⟩ <;> first | omega | decide | exact zi)))) (hH : leH A (renH 0 ρ st.heap) H0 := by (try cbv) <;> (repeat' (first | exact trivial | exact rfl | apply And.intro | exact fun _ => rfl | (intro _ hle; first | refine chunk_le hA rfl hle rfl ?_ | refine cat_le hA ?_ | refine upd_le hA ?_ | (try cbv)))) <;> (try (subst hA; (try simp only [zn] at *); (try (simp only [Ar.real, NV.val, zo, zt])); first | done | omega | decide | exact zi | (refine ⟨?_, ?_⟩ <;> first | omega | decide | exact zi)))) : CS P G f args st K := CS.le hA h ρ hok hs hk ha hH hK
theorem jjT {P : Program} {G : Gl} {f : Nat} {args args0 : List SV} {st : St} {K : SV → St → Prop} {H0 H' : Hl} {k n' : Nat} {r : SV} {A : Ar} (hA : Ar.real = A) (h : FnTr P G f args0 H0 k (Gives r H' n')) (r' : SV) (ρ : List (Nat × Nat)) (hK : K (mvSV 3 (outId st.nx ρ) r') ⟨st.tmps, happ (mvH (outId st.nx ρ) H') (hgone st.heap (srcs ρ)), st.nx + n', st.lo⟩) (hok : renOk 0 ρ = true := by exact rfl) (hs : srcOk st.nx ρ = true := by exact rfl) (hk : Nat.ble (renNx 0 ρ) k = true := by exact rfl) (ha : leL (leSV A 4) (args.map (renSV 0 ρ)) args0 := by (try cbv) <;> (repeat' (first | exact trivial | exact rfl | apply And.intro | exact fun _ => rfl | (intro _ hle; first | refine chunk_le hA rfl hle rfl ?_ | refine cat_le hA ?_ | refine upd_le hA ?_ | (try cbv)))) <;> (try (subst hA; (try simp only [zn] at *); (try (simp only [Ar.real, NV.val, zo, zt])); first | done | omega | decide | exact zi | (refine ⟨?_, ?_⟩ <;> first | omega | decide | exact zi)))) (hH : leH A (renH 0 ρ st.heap) H0 := by (try cbv) <;> (repeat' (first | exact trivial | exact rfl | apply And.intro | exact fun _ => rfl | (intro _ hle; first | refine chunk_le hA rfl hle rfl ?_ | refine cat_le hA ?_ | refine upd_le hA ?_ | (try cbv)))) <;> (try (subst hA; (try simp only [zn] at *); (try (simp only [Ar.real, NV.val, zo, zt])); first | done | omega | decide | exact zi | (refine ⟨?_, ?_⟩ <;> first | omega | decide | exact zi)))) (hr : leSV A 5 r r' := by (try cbv) <;> (repeat' (first | exact trivial | exact rfl | apply And.intro | exact fun _ => rfl | (intro _ hle; first | refine chunk_le hA rfl hle rfl ?_ | refine cat_le hA ?_ | refine upd_le hA ?_ | (try cbv)))) <;> (try (subst hA; (try simp only [zn] at *); (try (simp only [Ar.real, NV.val, zo, zt])); first | done | omega | decide | exact zi | (refine ⟨?_, ?_⟩ <;> first | omega | decide | exact zi)))) : CS P G f args st K := CS.leR hA h r' ρ hok hs hk ha hH hr hK
theorem jjP {P : Program} {G : Gl} {f : Nat} {args args0 : List SV} {H H0 H' : Hl} {n W k n' : Nat} {r : SV} {K : DRec → Prop} {A : Ar} (hA : Ar.real = A) (hf : FnTr P G f args0 H0 k (Gives r H' n')) (ρ : List (Nat × Nat)) (hK : K ⟨mvSV 3 (outId n ρ) r, srcs ρ ++ [], outU n ρ H'⟩) (hs : srcLt n ρ = true := by exact rfl) (hp : Passes A ρ [] (HF.restr (srcs ρ ++ []) (look H)) n W args args0 H0 k := by (refine ⟨rfl, rfl, rfl, rfl, ?_, ?_⟩ <;> ((try cbv) <;> (repeat' (first | exact trivial | exact rfl | apply And.intro | exact fun _ => rfl | (intro _ hle; first | refine chunk_le hA rfl hle rfl ?_ | refine cat_le hA ?_ | refine upd_le hA ?_ | (try cbv)))) <;> (try (subst hA; (try simp only [zn] at *); (try (simp only [Ar.real, NV.val, zo, zt])); first | done | omega | decide | exact zi | (refine ⟨?_, ?_⟩ <;> first | omega | decide | exact zi)))))) (hn' : Nat.ble n' W = true := by exact rfl) : CD P G f args H n W K := CD.pass hA hf ρ [] hs hp hn' (.inl rfl) hK
theorem jjD {all : List Oper} {nx W N : Nat} {K : St → Prop} {recs : List DRec} {st : St} (h : K ⟨st.tmps, st.heap, nx + all.length * W, st.lo⟩) (h1 : dCheck all recs nx W = true := by kernel_rfl) (h2 : dstsLt N all = true := by kernel_rfl) : DF all nx W N K recs st := DF.fin h1 h2 h
end Go.Eng
namespace Go.Proofs.YtnjjgipblimbfaaDoor.Dsk
open Go.Eng
def T : Tab := [
  (3, ⟨1, 8, [.lit .i64 0], .int .i64⟩),
  (4, ⟨1, 1, [.bl false], .bool⟩),
  (5, ⟨1, 1, [.lit .u8 0], .int .u8⟩),
  (9, ⟨1, 16, [.str []], .str⟩),
  (22, ⟨1, 24, [.nils], .slice 5⟩),
  (23, ⟨1, 4, [.lit .u32 0], .int .u32⟩),
  (25, ⟨1, 8, [.lit .i64 0], .int .i64⟩),
  (37, ⟨1, 24, [.nils], .slice 22⟩),
  (38, ⟨1, 8, [.nilp], .ptr 87⟩),
  (41, ⟨1, 8, [.nilp], .ptr 94⟩),
  (44, ⟨1, 24, [.nils], .slice 4⟩),
  (46, ⟨4, 80, [.nils, .nils, .nils, .lit .i64 0], .struct [(0, 37), (1, 37), (2, 44), (3, 3)]⟩),
  (50, ⟨1, 24, [.nils], .slice 3⟩),
  (61, ⟨1, 24, [.nils], .slice 66⟩),
  (62, ⟨1, 24, [.nils], .slice 106⟩),
  (66, ⟨4, 64, [.lit .i64 0, .lit .i64 0, .nils, .nils], .struct [(0, 3), (1, 3), (2, 22), (3, 62)]⟩),
  (71, ⟨10, 160, [.nils, .nils, .nils, .lit .i64 0, .lit .i64 0, .lit .i64 0, .nils, .nils, .lit .i64 0, .bl false], .struct [(0, 46), (4, 3), (5, 3), (6, 22), (7, 37), (8, 3), (9, 4)]⟩),
  (79, ⟨1, 8, [.lit .u64 0], .int .u64⟩),
  (85, ⟨1, 8, [.con (.map none)], .map 3 101⟩),
  (87, ⟨4, 48, [.nils, .con (.map none), .bl false, .lit .i64 0], .struct [(0, 22), (1, 85), (2, 4), (3, 3)]⟩),
  (94, ⟨7, 88, [.nilp, .lit .i64 0, .lit .i64 0, .nils, .nils, .lit .i64 0, .bl false], .struct [(0, 38), (1, 3), (2, 3), (3, 22), (4, 37), (5, 3), (6, 4)]⟩),
  (101, ⟨64, 64, [.lit .u8 0, .lit .u8 0, .lit .u8 0, .lit .u8 0, .lit .u8 0, .lit .u8 0, .lit .u8 0, .lit .u8 0, .lit .u8 0, .lit .u8 0, .lit .u8 0, .lit .u8 0, .lit .u8 0, .lit .u8 0, .lit .u8 0, .lit .u8 0, .lit .u8 0, .lit .u8 0, .lit .u8 0, .lit .u8 0, .lit .u8 0, .lit .u8 0, .lit .u8 0, .lit .u8 0, .lit .u8 0, .lit .u8 0, .lit .u8 0, .lit .u8 0, .lit .u8 0, .lit .u8 0, .lit .u8 0, .lit .u8 0, .lit .u8 0, .lit .u8 0, .lit .u8 0, .lit .u8 0, .lit .u8 0, .lit .u8 0, .lit .u8 0, .lit .u8 0, .lit .u8 0, .lit .u8 0, .lit .u8 0, .lit .u8 0, .lit .u8 0, .lit .u8 0, .lit .u8 0, .lit .u8 0, .lit .u8 0, .lit .u8 0, .lit .u8 0, .lit .u8 0, .lit .u8 0, .lit .u8 0, .lit .u8 0, .lit .u8 0, .lit .u8 0, .lit .u8 0, .lit .u8 0, .lit .u8 0, .lit .u8 0, .lit .u8 0, .lit .u8 0, .lit .u8 0], .array 64 5⟩),
  (106, ⟨2, 16, [.lit .i64 0, .lit .i64 0], .struct [(0, 3), (1, 3)]⟩),
  (137, ⟨1, 8, [.lit .u64 0], .int .u64⟩)]
set_option maxRecDepth 100000
theorem T_ok : T.Ok Tryd.prog := Tab.ok_of_map (by kernel_rfl)
theorem P_mixed : Tryd.prog.follows .mixedOrders = true := by kernel_rfl
theorem map_ty : MapTy Tryd.prog 85 64 := by
  refine ⟨3, 101, (Tryd.prog.info? 101).getD default, Tryd.underlying85, Tryd.underlying3, ?_, ?_⟩ <;> kernel_rfl
theorem arr_ty : ArrTy Tryd.prog 101 64 := by
  refine ⟨by decide, 5, (Tryd.prog.info? 5).getD default, (Tryd.prog.info? 101).getD default, Tryd.underlying101, ?_, ?_, ?_, ?_⟩ <;> kernel_rfl
theorem sl_ty : SlTy Tryd.prog 22 := by
  refine ⟨5, (Tryd.prog.info? 5).getD default, Tryd.underlying22, ?_, ?_⟩ <;> kernel_rfl
open Go.DskLaw (q64 secV)
set_option maxHeartbeats 4000000
abbrev By (n : Nat) (f : Nat → Int) : SV := .ro 1 (.s n) (fun e => [.int .u8 (f e.val)])
abbrev DH (N : Nat) (S : Nat → Int) (L : Int → Option (Nat → Int)) (ar : Bool) (ca : Int) : Hl :=
  [(0, .cells 87 [.sl 1 1 (.l 0) (.s N), .mp 2, .bs ar, .int .i64 ca]), (1, .row 5 1 (.s N) (fun e => [.int .u8 (S e.val)])), (2, .wm 64 L)]
theorem clone_own {P : Program} {G : Gl} (hP : P = Tryd.prog) {n : Nat} {f : Nat → Int} (hn : n ≤ 1000000) :
    FnTr P G 47 [By n f] [] 0 (Gives (.sl 0 1 (.l 0) (.s n)) [(0, .row 5 1 (.s n) (fun e => [.int .u8 (f e.val)]))] 1) := by
  have hT : T.Ok P := hP ▸ T_ok
  refine jjI Tryd.f47 hT ?_
  generalize hA : Ar.real = A
  generalize hK : Gives _ _ _ = K
  cbv
  refine ⟨fun h0 => ?_, ?_⟩
  · cbv
    refine Fin.leG hA 0 [] [(0, .row 5 1 (.s n) (fun e => [.int .u8 (f e.val)]))] (.sl 0 1 (.l 0) (.s n)) _ 1 rfl rfl rfl ?_ ?_ ?_ jjK
    · (try cbv) <;> (repeat' (first | exact trivial | exact rfl | apply And.intro | exact fun _ => rfl | (intro _ hle; first | refine chunk_le hA rfl hle rfl ?_ | refine cat_le hA ?_ | refine upd_le hA ?_ | (try cbv))))
      exact h0
    · (try cbv) <;> (repeat' (first | exact trivial | exact rfl | apply And.intro | exact fun _ => rfl | (intro _ hle; first | refine chunk_le hA rfl hle rfl ?_ | refine cat_le hA ?_ | refine upd_le hA ?_ | (try cbv))))
      exact h0
    · exact jjL
  · refine ⟨?_, Fin.le hA 0 [(4, 0)] (.sl 0 1 (.l 0) (.s n)) _ 1 rfl rfl rfl ?_ ?_ jjK⟩
    · subst hA; simp only [Ar.real, NV.val, zo, zt]
      omega
    iterate 2 exact jjL
theorem off_fn {P : Program} {G : Gl} (hP : P = Tryd.prog) {N : Nat} {S : Nat → Int} {L : Int → Option (Nat → Int)} {ar r : Bool} {ca : Int} (hr : r = true ↔ ar = true ∧ ca = 0) :
    FnTr P G 39 [.ptr 0 0] (DH N S L ar ca) 3 (Gives (.bs r) (DH N S L ar ca) 3) := by
  have hT : T.Ok P := hP ▸ T_ok
  refine jjI Tryd.f39 hT ?_
  generalize hA : Ar.real = A
  generalize hK : Gives _ _ _ = K
  cbv
  refine ⟨fun h1 => ?_, fun h1 => ?_⟩
  · cbv
    refine Fin.le hA 3 [] (.bs r) (DH N S L ar ca) 3 rfl rfl rfl ?_ ?_ jjK
    · (try cbv) <;> (repeat' (first | exact trivial | exact rfl | apply And.intro | exact fun _ => rfl | (intro _ hle; first | refine chunk_le hA rfl hle rfl ?_ | refine cat_le hA ?_ | refine upd_le hA ?_ | (try cbv))))
      subst hA
      subst h1
      simp only [Ar.real]
      rw [Bool.eq_iff_iff, hr]; simp
    · exact jjL
  · cbv
    refine Fin.le hA 3 [] (.bs r) (DH N S L ar ca) 3 rfl rfl rfl ?_ ?_ jjK
    · (try cbv) <;> (repeat' (first | exact trivial | exact rfl | apply And.intro | exact fun _ => rfl | (intro _ hle; first | refine chunk_le hA rfl hle rfl ?_ | refine cat_le hA ?_ | refine upd_le hA ?_ | (try cbv))))
      subst hA
      subst h1
      simp at hr
      simp [hr, Ar.real]
    · exact jjL
theorem len_fn {P : Program} {G : Gl} (hP : P = Tryd.prog) {N s : Nat} {S : Nat → Int} {L : Int → Option (Nat → Int)} {ar : Bool} {ca : Int} (hN : N = 64 * s) (hs : s ≤ 4096) :
    FnTr P G 82 [.ptr 0 0] (DH N S L ar ca) 3 (Gives (.int .i64 (s : Int)) (DH N S L ar ca) 3) := by
  have q := q64 s
  rw [← hN] at q
  have hT : T.Ok P := hP ▸ T_ok
  refine jjI Tryd.f82 hT ?_
  generalize hA : Ar.real = A
  generalize hK : Gives _ _ _ = K
  cbv
  refine ⟨?_, ?_⟩
  · subst hA
    simp only [zn] at *
    simp only [Ar.real, zo, q]
    exact ⟨by decide, inR64 (by omega) (by omega)⟩
  refine Fin.le hA 3 [] (.int .i64 (s : Int)) (DH N S L ar ca) 3 rfl rfl rfl ?_ ?_ jjK
  · (try cbv) <;> (repeat' (first | exact trivial | exact rfl | apply And.intro | exact fun _ => rfl | (intro _ hle; first | refine chunk_le hA rfl hle rfl ?_ | refine cat_le hA ?_ | refine upd_le hA ?_ | (try cbv))))
    subst hA
    simp only [zn] at *
    simp only [Ar.real, zo, q]
  · exact jjL
theorem asked_off {P : Program} {G : Gl} (hP : P = Tryd.prog) {N : Nat} {S : Nat → Int} {L : Int → Option (Nat → Int)} {ar : Bool} {ca i : Int} (h : ar = true ∧ ca = 0) :
    FnTr P G 63 [.ptr 0 0, .int .i64 i] (DH N S L ar ca) 3 (Gives (.lit .i64 6) (DH N S L ar ca) 3) := by
  have c1 := off_fn (P := P) (G := G) (N := N) (S := S) (L := L) (ar := ar) (r := true) (ca := ca) hP ⟨fun _ => h, fun _ => rfl⟩
  have hT : T.Ok P := hP ▸ T_ok
  refine jjI Tryd.f63 hT ?_
  generalize hA : Ar.real = A
  generalize hK : Gives _ _ _ = K
  cbv
  refine jjT hA (c1) (.bl true) [(0, 0), (1, 1), (2, 2)] ?_
  cbv
  refine Fin.le hA 3 [] (.lit .i64 6) (DH N S L ar ca) 3 rfl rfl rfl ?_ ?_ jjK
  iterate 2 exact jjL
theorem asked_ok {P : Program} {G : Gl} (hP : P = Tryd.prog) {N s : Nat} {S : Nat → Int} {L : Int → Option (Nat → Int)} {ar : Bool} {ca i : Int} (h : ¬ (ar = true ∧ ca = 0)) (hN : N = 64 * s) (hs : s ≤ 4096) (hi : 0 ≤ i ∧ i < (s : Int)) :
    FnTr P G 63 [.ptr 0 0, .int .i64 i] (DH N S L ar ca) 3 (Gives (.lit .i64 0) (DH N S L ar ca) 3) := by
  have c1 := off_fn (P := P) (G := G) (N := N) (S := S) (L := L) (ar := ar) (r := false) (ca := ca) hP ⟨fun q => (by cases q), fun q => absurd q h⟩
  have c2 := len_fn (P := P) (G := G) (S := S) (L := L) (ar := ar) (ca := ca) hP hN hs
  have hT : T.Ok P := hP ▸ T_ok
  refine jjI Tryd.f63 hT ?_
  generalize hA : Ar.real = A
  generalize hK : Gives _ _ _ = K
  cbv
  refine jjT hA (c1) (.bl false) [(0, 0), (1, 1), (2, 2)] ?_
  cbv
  have k1 : A.lt i 0 = false := by subst hA; simp only [zn] at *; simp [Ar.real]; omega
  repeat' (first | (refine ⟨fun h => absurd (h.symm.trans k1) (by decide), fun _ => ?_⟩; cbv) | (refine ⟨fun _ => ?_, fun h => absurd (h.symm.trans k1) (by decide)⟩; cbv))
  refine jjS hA (c2) [(0, 0), (1, 1), (2, 2)] ?_
  cbv
  have k2 : A.ge i (s : Int) = false := by subst hA; simp only [zn] at *; simp [Ar.real]; omega
  repeat' (first | (refine ⟨fun h => absurd (h.symm.trans k2) (by decide), fun _ => ?_⟩; cbv) | (refine ⟨fun _ => ?_, fun h => absurd (h.symm.trans k2) (by decide)⟩; cbv))
  refine Fin.le hA 3 [] (.lit .i64 0) (DH N S L ar ca) 3 rfl rfl rfl ?_ ?_ jjK
  iterate 2 exact jjL
theorem at_fn {P : Program} {G : Gl} (hP : P = Tryd.prog) {N s i o : Nat} {S : Nat → Int} {L : Int → Option (Nat → Int)} {ar : Bool} {ca : Int} (hN : N = 64 * s) (hs : s ≤ 4096) (hi : i < s) (ho : o = 64 * i) :
    FnTr P G 66 [.ptr 0 0, .int .i64 (i : Int)] (DH N S L ar ca) 3 (Gives (.sl 1 1 (.s o) (.l 64)) (DH N S L ar ca) 3) := by
  have hT : T.Ok P := hP ▸ T_ok
  refine jjI Tryd.f66 hT ?_
  generalize hA : Ar.real = A
  generalize hK : Gives _ _ _ = K
  cbv
  refine ⟨?_, ?_, ?_, ⟨?_, ?_, ?_, ?_⟩, ?_⟩
  iterate 7 exact jjO
  refine Fin.le hA 3 [] (.sl 1 1 (.s o) (.l 64)) (DH N S L ar ca) 3 rfl rfl rfl ?_ ?_ jjK
  · (try cbv) <;> (repeat' (first | exact trivial | exact rfl | apply And.intro | exact fun _ => rfl | (intro _ hle; first | refine chunk_le hA rfl hle rfl ?_ | refine cat_le hA ?_ | refine upd_le hA ?_ | (try cbv))))
    all_goals exact jjO
  · exact jjL
theorem done_fn {P : Program} {G : Gl} (hP : P = Tryd.prog) {N : Nat} {S : Nat → Int} {L : Int → Option (Nat → Int)} {ar : Bool} {ca ca' : Int} (hc : ca' = if ar then ca - 1 else ca) (h : 0 ≤ ca ∧ ca ≤ 9223372036854775807) :
    FnTr P G 65 [.ptr 0 0] (DH N S L ar ca) 3 (Gives (.tup []) (DH N S L ar ca') 3) := by
  have hT : T.Ok P := hP ▸ T_ok
  refine jjI Tryd.f65 hT ?_
  generalize hA : Ar.real = A
  generalize hK : Gives _ _ _ = K
  cbv
  refine ⟨fun h1 => ?_, fun h1 => ?_⟩
  · rw [h1, if_pos rfl] at hc
    cbv
    refine ⟨jjO, ?_⟩
    refine Fin.le hA 3 [] (.tup []) (DH N S L ar ca') 3 rfl rfl rfl ?_ ?_ jjK
    · exact jjL
    · (try cbv) <;> (repeat' (first | exact trivial | exact rfl | apply And.intro | exact fun _ => rfl | (intro _ hle; first | refine chunk_le hA rfl hle rfl ?_ | refine cat_le hA ?_ | refine upd_le hA ?_ | (try cbv))))
      all_goals exact jjO
  · rw [h1] at hc
    cbv
    refine Fin.le hA 3 [] (.tup []) (DH N S L ar ca') 3 rfl rfl rfl ?_ ?_ jjK
    · exact jjL
    · (try cbv) <;> (repeat' (first | exact trivial | exact rfl | apply And.intro | exact fun _ => rfl | (intro _ hle; first | refine chunk_le hA rfl hle rfl ?_ | refine cat_le hA ?_ | refine upd_le hA ?_ | (try cbv))))
      subst hA
      simpa using hc.symm
theorem last_own {P : Program} {G : Gl} (hP : P = Tryd.prog) {N s i : Nat} {S v : Nat → Int} {L : Int → Option (Nat → Int)} {ar : Bool} {ca : Int} (hN : N = 64 * s) (hs : s ≤ 4096) (hi : i < s) (hv : v = secV S L i) :
    FnTr P G 64 [.ptr 0 0, .int .i64 (i : Int)] (DH N S L ar ca) 3 (Gives (.sl 3 1 (.l 0) (.l 64)) ((3, .row 5 1 (.l 64) (fun e => [.int .u8 (v e.val)])) :: DH N S L ar ca) 4) := by
  obtain ⟨o, ho⟩ : ∃ o, o = 64 * i := ⟨_, rfl⟩
  obtain ⟨w, hw⟩ : ∃ w : Nat → Int, w = fun x => S (64 * i + x) := ⟨_, rfl⟩
  have c1 := at_fn (P := P) (G := G) (S := S) (L := L) (ar := ar) (ca := ca) hP hN hs hi ho
  have hM : MapTy P _ 64 := hP ▸ map_ty
  have hR : ArrTy P _ 64 := hP ▸ arr_ty
  cases hL : L (i : Int) with
  | some g =>
    have hvg : v = g := by rw [hv]; unfold secV; rw [hL]
    subst hvg
    clear hv
    obtain ⟨m, hm⟩ : ∃ m, m = 64 := ⟨_, rfl⟩
    have c2 := clone_own (P := P) (G := G) (n := m) (f := v) hP (by omega)
    have hT : T.Ok P := hP ▸ T_ok
    refine jjI Tryd.f64 hT ?_
    generalize hA : Ar.real = A
    generalize hK : Gives _ _ _ = K
    cbv
    refine OS.did (lookup_did hM rfl rfl rfl rfl true v (.inl ⟨rfl, hL⟩)) ?_
    cbv
    refine OS.did (sliceArr_did (g := v) (.l 64) hR rfl rfl rfl rfl rfl) ?_
    cbv
    refine jjS hA (c2) [] ?_
    cbv
    refine Fin.le hA 3 [(18, 3)] (.sl 3 1 (.l 0) (.l 64)) ((3, .row 5 1 (.l 64) (fun e => [.int .u8 (v e.val)])) :: DH N S L ar ca) 4 rfl rfl rfl ?_ ?_ jjK
    · (try cbv) <;> (repeat' (first | exact trivial | exact rfl | apply And.intro | exact fun _ => rfl | (intro _ hle; first | refine chunk_le hA rfl hle rfl ?_ | refine cat_le hA ?_ | refine upd_le hA ?_ | (try cbv))))
      all_goals exact hm
    · (try cbv) <;> (repeat' (first | exact trivial | exact rfl | apply And.intro | exact fun _ => rfl | (intro _ hle; first | refine chunk_le hA rfl hle rfl ?_ | refine cat_le hA ?_ | refine upd_le hA ?_ | (try cbv))))
      all_goals exact hm
  | none =>
    have hvw : v = w := by rw [hv, hw]; unfold secV; rw [hL]
    subst hvw
    clear hv
    obtain ⟨m, hm⟩ : ∃ m, m = 64 := ⟨_, rfl⟩
    have c2 := clone_own (P := P) (G := G) (n := m) (f := v) hP (by omega)
    have hT : T.Ok P := hP ▸ T_ok
    refine jjI Tryd.f64 hT ?_
    generalize hA : Ar.real = A
    generalize hK : Gives _ _ _ = K
    cbv
    refine OS.did (lookup_did hM rfl rfl rfl rfl false (fun _ => 0) (.inr ⟨rfl, hL, rfl⟩)) ?_
    cbv
    refine jjS hA (c1) [(0, 0), (1, 1), (2, 2)] ?_
    cbv
    refine CS.lend hA c2 [] [1] 1 rfl ⟨rfl, rfl, rfl, rfl, ?_, ?_⟩ rfl (.inr ⟨rfl, (by (try cbv) <;> (repeat' (first | exact trivial | exact rfl | apply And.intro | exact fun _ => rfl | (intro _ hle; first | refine chunk_le hA rfl hle rfl ?_ | refine cat_le hA ?_ | refine upd_le hA ?_ | (try cbv)))))⟩) ?_
    · (try cbv) <;> (repeat' (first | exact trivial | exact rfl | apply And.intro | exact fun _ => rfl | (intro _ hle; first | refine chunk_le hA rfl hle rfl ?_ | refine cat_le hA ?_ | refine upd_le hA ?_ | (try cbv))))
      all_goals first | exact jjO | (subst hA; simp only [Ar.real, ho, hw]; rfl)
    · exact jjL
    cbv
    refine Fin.le hA 3 [(22, 3)] (.sl 3 1 (.l 0) (.l 64)) ((3, .row 5 1 (.l 64) (fun e => [.int .u8 (v e.val)])) :: DH N S L ar ca) 4 rfl rfl rfl ?_ ?_ jjK
    · (try cbv) <;> (repeat' (first | exact trivial | exact rfl | apply And.intro | exact fun _ => rfl | (intro _ hle; first | refine chunk_le hA rfl hle rfl ?_ | refine cat_le hA ?_ | refine upd_le hA ?_ | (try cbv))))
      all_goals exact hm
    · (try cbv) <;> (repeat' (first | exact trivial | exact rfl | apply And.intro | exact fun _ => rfl | (intro _ hle; first | refine chunk_le hA rfl hle rfl ?_ | refine cat_le hA ?_ | refine upd_le hA ?_ | (try cbv))))
      all_goals exact hm
theorem last_fn {P : Program} {G : Gl} (hP : P = Tryd.prog) {N s i : Nat} {S v : Nat → Int} {L : Int → Option (Nat → Int)} {ar : Bool} {ca : Int} (hN : N = 64 * s) (hs : s ≤ 4096) (hi : i < s) (hv : v = secV S L i) :
    FnTr P G 64 [.ptr 0 0, .int .i64 (i : Int)] (DH N S L ar ca) 3 (Gives (.ro 1 (.l 64) (fun e => [.int .u8 (v e.val)])) (DH N S L ar ca) 4) := by
  have h1 := last_own (P := P) (G := G) (S := S) (L := L) (ar := ar) (ca := ca) hP hN hs hi hv
  generalize hA : Ar.real = A
  refine FnTr.dat hA h1 _ _ ?_
  (try cbv) <;> (repeat' (first | exact trivial | exact rfl | apply And.intro | exact fun _ => rfl | (intro _ hle; first | refine chunk_le hA rfl hle rfl ?_ | refine cat_le hA ?_ | refine upd_le hA ?_ | refine int_le ?_ | skip)))
  all_goals exact jjO
theorem new_ok {P : Program} {G : Gl} (hP : P = Tryd.prog) {n : Int} {s N : Nat} {S : Nat → Int} {L : Int → Option (Nat → Int)} (hn : n = (s : Int)) (h1 : 1 ≤ s ∧ s ≤ 4096) (hN : N = 64 * s) (hS : ∀ x, S x = 0) (hL : ∀ k, L k = none) :
    FnTr P G 22 [.int .i64 n] [] 0 (Gives (.tup [.ptr 0 0, .lit .i64 0]) (DH N S L false 0) 3) := by
  have hM : MapTy P _ 64 := hP ▸ map_ty
  have hT : T.Ok P := hP ▸ T_ok
  refine jjI Tryd.f22 hT ?_
  generalize hA : Ar.real = A
  generalize hK : Gives _ _ _ = K
  cbv
  have k1 : A.lt n 1 = false := by subst hA; simp only [zn] at *; simp [Ar.real]; omega
  have k2 : A.gt n 4096 = false := by subst hA; simp only [zn] at *; simp [Ar.real]; omega
  repeat' (first | (refine ⟨fun h => absurd (h.symm.trans k1) (by decide), fun _ => ?_⟩; cbv) | (refine ⟨fun _ => ?_, fun h => absurd (h.symm.trans k1) (by decide)⟩; cbv) | (refine ⟨fun h => absurd (h.symm.trans k2) (by decide), fun _ => ?_⟩; cbv) | (refine ⟨fun _ => ?_, fun h => absurd (h.symm.trans k2) (by decide)⟩; cbv))
  refine ⟨?_, ⟨?_, ?_, ?_, ?_⟩, ?_⟩
  iterate 5 exact jjO
  refine OS.did (makeMap_did (sz := 64) rfl) ?_
  cbv
  refine Fin.le hA 0 [(13, 0), (10, 1), (11, 2)] (.tup [.ptr 0 0, .lit .i64 0]) (DH N S L false 0) 3 rfl rfl rfl ?_ ?_ jjK
  · exact jjL
  · (try cbv) <;> (repeat' (first | exact trivial | exact rfl | apply And.intro | exact fun _ => rfl | (intro _ hle; first | refine chunk_le hA rfl hle rfl ?_ | refine cat_le hA ?_ | refine upd_le hA ?_ | (try cbv))))
    all_goals first | exact (hS _).symm | exact fun k => (hL k).symm | exact jjO
theorem write_off {P : Program} {G : Gl} (hP : P = Tryd.prog) {N n : Nat} {S f : Nat → Int} {L : Int → Option (Nat → Int)} {ar : Bool} {ca i : Int} (h : ar = true ∧ ca = 0) :
    FnTr P G 30 [.ptr 0 0, .int .i64 i, By n f] (DH N S L ar ca) 3 (Gives (.lit .i64 6) (DH N S L ar ca) 3) := by
  have c1 := asked_off (P := P) (G := G) (N := N) (S := S) (L := L) (ar := ar) (i := i) (ca := ca) hP h
  have hT : T.Ok P := hP ▸ T_ok
  refine jjI Tryd.f30 hT ?_
  generalize hA : Ar.real = A
  generalize hK : Gives _ _ _ = K
  cbv
  refine jjS hA (c1) [(0, 0), (1, 1), (2, 2)] ?_
  cbv
  refine Fin.le hA 3 [] (.lit .i64 6) (DH N S L ar ca) 3 rfl rfl rfl ?_ ?_ jjK
  iterate 2 exact jjL
theorem write_ok {P : Program} {G : Gl} (hP : P = Tryd.prog) {N s n i : Nat} {S f : Nat → Int} {L L' : Int → Option (Nat → Int)} {ar : Bool} {ca ca' : Int} (h : ¬ (ar = true ∧ ca = 0)) (hN : N = 64 * s) (hs : s ≤ 4096) (hi : i < s) (hn : n = 64) (hL : ∀ k, L' k = if k = (i : Int) then some f else L k)
    (hc : ca' = if ar then ca - 1 else ca) (hca : 0 ≤ ca ∧ ca ≤ 9223372036854775807) :
    FnTr P G 30 [.ptr 0 0, .int .i64 (i : Int), By n f] (DH N S L ar ca) 3 (Gives (.lit .i64 0) (DH N S L' ar ca') 3) := by
  have c1 := asked_ok (P := P) (G := G) (S := S) (L := L) (i := (i : Int)) hP h hN hs (by omega)
  have c2 := done_fn (P := P) (G := G) (N := N) (S := S) (L := L') (ar := ar) hP hc hca
  have hM : MapTy P _ 64 := hP ▸ map_ty
  have hR : ArrTy P _ 64 := hP ▸ arr_ty
  have hT : T.Ok P := hP ▸ T_ok
  refine jjI Tryd.f30 hT ?_
  generalize hA : Ar.real = A
  generalize hK : Gives _ _ _ = K
  cbv
  refine jjS hA (c1) [(0, 0), (1, 1), (2, 2)] ?_
  cbv
  have k1 : A.ne (A.i2 n) 64 = false := by subst hA; simp [Ar.real]; omega
  repeat' (first | (refine ⟨fun h => absurd (h.symm.trans k1) (by decide), fun _ => ?_⟩; cbv) | (refine ⟨fun _ => ?_, fun h => absurd (h.symm.trans k1) (by decide)⟩; cbv))
  refine jjR hA hT 1 ?_
  cbv
  refine OD.did [] rfl (arrayAt_did hR rfl rfl (show 64 ≤ n by omega)) rfl ?_
  cbv
  refine OD.did [] rfl (loadRa_did (g := f) hR rfl rfl (Ints.base .u8 f 64)) rfl ?_
  cbv
  refine OD.did [2] rfl (mapUpdate_did hM rfl rfl rfl rfl rfl) rfl ?_
  cbv
  refine jjD ?_
  cbv
  refine CS.le hA c2 [(0, 0), (1, 1), (2, 2)] rfl rfl rfl ?_ ?_ ?_
  · exact jjL
  · (try cbv) <;> (repeat' (first | exact trivial | exact rfl | apply And.intro | exact fun _ => rfl | (intro _ hle; first | refine chunk_le hA rfl hle rfl ?_ | refine cat_le hA ?_ | refine upd_le hA ?_ | (try cbv))))
    exact fun k => (hL k).symm
  cbv
  refine Fin.le hA 3 [] (.lit .i64 0) (DH N S L' ar ca') 3 rfl rfl rfl ?_ ?_ jjK
  iterate 2 exact jjL
theorem read_off {P : Program} {G : Gl} (hP : P = Tryd.prog) {N : Nat} {S : Nat → Int} {L : Int → Option (Nat → Int)} {ar : Bool} {ca i : Int} (h : ar = true ∧ ca = 0) :
    FnTr P G 29 [.ptr 0 0, .int .i64 i] (DH N S L ar ca) 3 (Gives (.tup [.nils, .lit .i64 6]) (DH N S L ar ca) 3) := by
  have c1 := asked_off (P := P) (G := G) (N := N) (S := S) (L := L) (ar := ar) (i := i) (ca := ca) hP h
  have hT : T.Ok P := hP ▸ T_ok
  refine jjI Tryd.f29 hT ?_
  generalize hA : Ar.real = A
  generalize hK : Gives _ _ _ = K
  cbv
  refine jjS hA (c1) [(0, 0), (1, 1), (2, 2)] ?_
  cbv
  refine Fin.le hA 3 [] (.tup [.nils, .lit .i64 6]) (DH N S L ar ca) 3 rfl rfl rfl ?_ ?_ jjK
  iterate 2 exact jjL
theorem read_own {P : Program} {G : Gl} (hP : P = Tryd.prog) {N s i : Nat} {S v : Nat → Int} {L : Int → Option (Nat → Int)} {ar : Bool} {ca : Int} (h : ¬ (ar = true ∧ ca = 0)) (hN : N = 64 * s) (hs : s ≤ 4096) (hi : i < s) (hv : v = secV S L i) :
    FnTr P G 29 [.ptr 0 0, .int .i64 (i : Int)] (DH N S L ar ca) 3 (Gives (.tup [.sl 3 1 (.l 0) (.l 64), .lit .i64 0]) ((3, .row 5 1 (.l 64) (fun e => [.int .u8 (v e.val)])) :: DH N S L ar ca) 4) := by
  have c1 := asked_ok (P := P) (G := G) (S := S) (L := L) (i := (i : Int)) hP h hN hs (by omega)
  have c2 := last_own (P := P) (G := G) (S := S) (L := L) (ar := ar) (ca := ca) hP hN hs hi hv
  have hT : T.Ok P := hP ▸ T_ok
  refine jjI Tryd.f29 hT ?_
  generalize hA : Ar.real = A
  generalize hK : Gives _ _ _ = K
  cbv
  refine jjS hA (c1) [(0, 0), (1, 1), (2, 2)] ?_
  cbv
  refine jjS hA (c2) [(0, 0), (1, 1), (2, 2)] ?_
  cbv
  refine Fin.le hA 3 [(18, 3)] (.tup [.sl 3 1 (.l 0) (.l 64), .lit .i64 0]) ((3, .row 5 1 (.l 64) (fun e => [.int .u8 (v e.val)])) :: DH N S L ar ca) 4 rfl rfl rfl ?_ ?_ jjK
  iterate 2 exact jjL
theorem read_fn {P : Program} {G : Gl} (hP : P = Tryd.prog) {N s i : Nat} {S v : Nat → Int} {L : Int → Option (Nat → Int)} {ar : Bool} {ca : Int} (h : ¬ (ar = true ∧ ca = 0)) (hN : N = 64 * s) (hs : s ≤ 4096) (hi : i < s) (hv : v = secV S L i) :
    FnTr P G 29 [.ptr 0 0, .int .i64 (i : Int)] (DH N S L ar ca) 3 (Gives (.tup [.ro 1 (.l 64) (fun e => [.int .u8 (v e.val)]), .lit .i64 0]) (DH N S L ar ca) 4) := by
  have h1 := read_own (P := P) (G := G) (S := S) (L := L) (ar := ar) (ca := ca) hP h hN hs hi hv
  generalize hA : Ar.real = A
  refine FnTr.dat hA h1 _ _ ?_
  (try cbv) <;> (repeat' (first | exact trivial | exact rfl | apply And.intro | exact fun _ => rfl | (intro _ hle; first | refine chunk_le hA rfl hle rfl ?_ | refine cat_le hA ?_ | refine upd_le hA ?_ | refine int_le ?_ | skip)))
  all_goals exact jjO
theorem stop_fn {P : Program} {G : Gl} (hP : P = Tryd.prog) {N : Nat} {S : Nat → Int} {L : Int → Option (Nat → Int)} {ar ar' : Bool} {ca ca' n : Int} (h : (ar = true ∧ ca = 0 ∧ ar' = ar ∧ ca' = ca) ∨ (¬ (ar = true ∧ ca = 0) ∧ (ar' = true ↔ 0 ≤ n) ∧ ca' = if n < 0 then 0 else n)) :
    FnTr P G 37 [.ptr 0 0, .int .i64 n] (DH N S L ar ca) 3 (Gives (.tup []) (DH N S L ar' ca') 3) := by
  rcases h with ⟨h1, h2, rfl, rfl⟩ | ⟨h1, h2, h3⟩
  · have c1 := off_fn (P := P) (G := G) (N := N) (S := S) (L := L) (ar := ar') (r := true) (ca := ca') hP ⟨fun _ => ⟨h1, h2⟩, fun _ => rfl⟩
    have hT : T.Ok P := hP ▸ T_ok
    refine jjI Tryd.f37 hT ?_
    generalize hA : Ar.real = A
    generalize hK : Gives _ _ _ = K
    cbv
    refine jjT hA (c1) (.bl true) [(0, 0), (1, 1), (2, 2)] ?_
    cbv
    refine Fin.le hA 3 [] (.tup []) (DH N S L ar' ca') 3 rfl rfl rfl ?_ ?_ jjK
    iterate 2 exact jjL
  · have c1 := off_fn (P := P) (G := G) (N := N) (S := S) (L := L) (ar := ar) (r := false) (ca := ca) hP ⟨fun q => (by cases q), fun q => absurd q h1⟩
    have hT : T.Ok P := hP ▸ T_ok
    refine jjI Tryd.f37 hT ?_
    generalize hA : Ar.real = A
    generalize hK : Gives _ _ _ = K
    cbv
    refine jjT hA (c1) (.bl false) [(0, 0), (1, 1), (2, 2)] ?_
    cbv
    refine Fin.le hA 3 [] (.tup []) (DH N S L ar' ca') 3 rfl rfl rfl ?_ ?_ jjK
    · exact jjL
    · (try cbv) <;> (repeat' (first | exact trivial | exact rfl | apply And.intro | exact fun _ => rfl | (intro _ hle; first | refine chunk_le hA rfl hle rfl ?_ | refine cat_le hA ?_ | refine upd_le hA ?_ | (try cbv))))
      · subst hA
        simp only [Ar.real]
        rw [Bool.eq_iff_iff, h2]; simp
      · subst hA
        rw [h3]
        show (if (0 : Int) > n then 0 else n) = _
        rfl
open Go.DskLaw (q64 secV needN need_eq)
theorem need_fn {P : Program} {G : Gl} (hP : P = Tryd.prog) {n : Int} {m : Nat} (h : n ≤ 9223372036854775000) (hm : m = needN n.toNat) : FnTr P G 83 [.int .i64 n] [] 0 (Gives (.int .i64 (m : Int)) [] 0) := by
  obtain ⟨q1, q2, q3⟩ := need_eq n h
  rw [← hm] at q3
  have hT : T.Ok P := hP ▸ T_ok
  refine jjI Tryd.f83 hT ?_
  generalize hA : Ar.real = A
  generalize hK : Gives _ _ _ = K
  cbv
  refine ⟨?_, ?_, ⟨?_, ?_⟩, ?_⟩
  · subst hA
    exact inR64 (by simp only [Ar.real]; omega) (by simp only [Ar.real]; omega)
  · subst hA
    exact inR64 (by simp only [Ar.real]; omega) (by simp only [Ar.real]; omega)
  · subst hA
    simp only [Ar.real]
    decide
  · subst hA
    exact inR64 (Int.le_trans (by decide) q2.1) (Int.le_trans q2.2 (by decide))
  refine Fin.le hA 0 [] (.int .i64 (m : Int)) ([]) 0 rfl rfl rfl ?_ ?_ jjK
  · (try cbv) <;> (repeat' (first | exact trivial | exact rfl | apply And.intro | exact fun _ => rfl | (intro _ hle; first | refine chunk_le hA rfl hle rfl ?_ | refine cat_le hA ?_ | refine upd_le hA ?_ | (try cbv))))
    subst hA
    exact q3
  · exact jjL
theorem sasked_ok {P : Program} {G : Gl} (hP : P = Tryd.prog) {N s : Nat} {S : Nat → Int} {L : Int → Option (Nat → Int)} {ar : Bool} {ca a b : Int} (hN : N = 64 * s) (hs : s ≤ 4096) (h : 0 ≤ a ∧ a ≤ b ∧ b ≤ (s : Int)) :
    FnTr P G 89 [.ptr 0 0, .int .i64 a, .int .i64 b] (DH N S L ar ca) 3 (Gives (.lit .i64 0) (DH N S L ar ca) 3) := by
  have c2 := len_fn (P := P) (G := G) (S := S) (L := L) (ar := ar) (ca := ca) hP hN hs
  have hT : T.Ok P := hP ▸ T_ok
  refine jjI Tryd.f89 hT ?_
  generalize hA : Ar.real = A
  generalize hK : Gives _ _ _ = K
  cbv
  have k1 : A.lt a 0 = false := by subst hA; simp [Ar.real]; omega
  have k2 : A.lt b a = false := by subst hA; simp [Ar.real]; omega
  repeat' (first | (refine ⟨fun h => absurd (h.symm.trans k1) (by decide), fun _ => ?_⟩; cbv) | (refine ⟨fun _ => ?_, fun h => absurd (h.symm.trans k1) (by decide)⟩; cbv) | (refine ⟨fun h => absurd (h.symm.trans k2) (by decide), fun _ => ?_⟩; cbv) | (refine ⟨fun _ => ?_, fun h => absurd (h.symm.trans k2) (by decide)⟩; cbv))
  refine jjS hA (c2) [(0, 0), (1, 1), (2, 2)] ?_
  cbv
  have k3 : A.gt b (s : Int) = false := by subst hA; simp only [zn] at *; simp [Ar.real]; omega
  repeat' (first | (refine ⟨fun h => absurd (h.symm.trans k3) (by decide), fun _ => ?_⟩; cbv) | (refine ⟨fun _ => ?_, fun h => absurd (h.symm.trans k3) (by decide)⟩; cbv))
  refine Fin.le hA 3 [] (.lit .i64 0) (DH N S L ar ca) 3 rfl rfl rfl ?_ ?_ jjK
  iterate 2 exact jjL
theorem blank_fn {P : Program} {G : Gl} (hP : P = Tryd.prog) {n : Nat} {f : Nat → Int} {r : Bool} (hn : n ≤ 1000000) (hr : r = true ↔ ∀ i, i < n → f i = 0) :
    FnTr P G 92 [By n f] [] 0 (Gives (.bs r) [] 0) := by
  have hT : T.Ok P := hP ▸ T_ok
  refine jjI Tryd.f92 hT ?_
  generalize hA : Ar.real = A
  generalize hK : Gives _ _ _ = K
  cbv
  refine LS.le hT hA 0 (fun (i : Nat) => [(7, .int .i64 (i : Int))]) (fun _ => []) (fun i => i ≤ n ∧ ∀ j, j < i → f j = 0) (fun i => n - i) 0 [] rfl rfl ?_ ?_ ?_
  · exact jjL
  · exact ⟨Nat.zero_le _, fun j hj => absurd hj (Nat.not_lt_zero _)⟩
  · intro R hR i hi
    cbv
    refine ⟨fun h1 => ?_, fun h1 => ?_⟩
    · have him : i < n := by subst hA; simp [Ar.real] at h1; omega
      cbv
      refine ⟨jjO, ?_⟩
      refine ⟨fun h2 => ?_, fun h2 => ?_⟩
      · have hf : f i ≠ 0 := by subst hA; simpa [Ar.real, NV.val] using h2
        have hr' : r = false := by
          cases r with
          | false => rfl
          | true => exact absurd (hr.1 rfl i him) hf
        clear hR
        cbv
        refine Fin.le hA 0 [] (.bs r) ([]) 0 rfl rfl rfl ?_ ?_ jjK
        · (try cbv) <;> (repeat' (first | exact trivial | exact rfl | apply And.intro | exact fun _ => rfl | (intro _ hle; first | refine chunk_le hA rfl hle rfl ?_ | refine cat_le hA ?_ | refine upd_le hA ?_ | (try cbv))))
          exact hr'.symm
        · exact jjL
      · have hf : f i = 0 := by subst hA; simpa [Ar.real, NV.val] using h2
        cbv
        refine ⟨jjO, hR _ _ ⟨i + 1, 0, [], rfl, rfl, ?_, ⟨him, fun j hj => ?_⟩, (by show n - (i + 1) < n - i; omega)⟩⟩
        · clear hR
          (try cbv) <;> (repeat' (first | exact trivial | exact rfl | apply And.intro | exact fun _ => rfl | (intro _ hle; first | refine chunk_le hA rfl hle rfl ?_ | refine cat_le hA ?_ | refine upd_le hA ?_ | (try cbv))))
          exact jjO
        · rcases Nat.lt_or_ge j i with q | q
          · exact hi.2 j q
          · rw [show j = i by omega]; exact hf
    · have him : i = n := by subst hA; simp [Ar.real] at h1; omega
      subst him
      have hr' : r = true := hr.2 hi.2
      clear hR
      cbv
      refine Fin.le hA 0 [] (.bs r) ([]) 0 rfl rfl rfl ?_ ?_ jjK
      · (try cbv) <;> (repeat' (first | exact trivial | exact rfl | apply And.intro | exact fun _ => rfl | (intro _ hle; first | refine chunk_le hA rfl hle rfl ?_ | refine cat_le hA ?_ | refine upd_le hA ?_ | (try cbv))))
        exact hr'.symm
      · exact jjL
open Go.DskLaw (q64 secV needN pcs)
theorem conv62 (n : Nat) : IntKind.u8.wrap (if (62 : Int) < (n : Int) then 62 else (n : Int)) = ((min n 62 : Nat) : Int) := by
  rw [show (if (62 : Int) < (n : Int) then 62 else (n : Int)) = ((min n 62 : Nat) : Int) by split <;> omega, wrap_u8, Nat.mod_eq_of_lt (by omega)]
theorem pieces_fn {P : Program} {G : Gl} (hP : P = Tryd.prog) {n : Nat} {f : Nat → Int} :
    FnTr P G 90 [By n f] [] 0 (Gives (.fn 103 [.ptr 0 0]) [(0, .cells 22 [By n f])] 1) := by
  have hT : T.Ok P := hP ▸ T_ok
  refine jjI Tryd.f90 hT ?_
  generalize hA : Ar.real = A
  generalize hK : Gives _ _ _ = K
  cbv
  refine OS.did (makeFunc_did rfl) ?_
  cbv
  refine Fin.le hA 0 [(0, 0)] (.fn 103 [.ptr 0 0]) ([(0, .cells 22 [By n f])]) 1 rfl rfl rfl ?_ ?_ jjK
  iterate 2 exact jjL
theorem put_ok {P : Program} {G : Gl} (hP : P = Tryd.prog) {N s n first fin k : Nat} {S f : Nat → Int} {L L' : Int → Option (Nat → Int)} {ar : Bool} {ca ca' at' e' : Int} (hN : N = 64 * s) (hs : s ≤ 4096) (h : first + needN n ≤ fin ∧ fin ≤ s) (hn : n ≤ 65536)
    (hca : 0 ≤ ca ∧ ca ≤ 9223372036854775807) (hk : (ar = false ∧ k = needN n) ∨ (ar = true ∧ k = min (needN n) ca.toNat)) (hL : ∀ i, L' i = if (first : Int) ≤ i ∧ i < (first : Int) + k then some (pcs n f (i - first).toNat) else L i) (hc : ca' = if ar then ca - k else ca)
    (he : (k = needN n ∧ at' = ((first + needN n : Nat) : Int) ∧ e' = 0) ∨ (k < needN n ∧ at' = 0 ∧ e' = 6)) :
    FnTr P G 60 [.ptr 0 0, .int .i64 (first : Int), .int .i64 (fin : Int), By n f] (DH N S L ar ca) 3 (Gives (.tup [.int .i64 at', .int .i64 e']) (DH N S L' ar ca') 3) := by
  have c1 := sasked_ok (P := P) (G := G) (S := S) (L := L) (ar := ar) (ca := ca) (a := (first : Int)) (b := (fin : Int)) hP hN hs (by omega)
  obtain ⟨m, hm⟩ : ∃ m, m = needN n := ⟨_, rfl⟩
  have c2 := need_fn (P := P) (G := G) (n := (n : Int)) (m := m) hP (by omega) hm
  have c3 := pieces_fn (P := P) (G := G) (n := n) (f := f) hP
  have hmn : 62 * m < n + 62 + (if n = 0 then 62 else 0) ∧ n ≤ 62 * m ∧ 1 ≤ m := by rw [hm]; unfold needN; split <;> omega
  rw [← hm] at h he hk
  have hkm : k ≤ m := by omega
  obtain ⟨aj, haj⟩ : ∃ aj : Nat → Int, aj = fun (j : Nat) => ((first + j : Nat) : Int) := ⟨_, rfl⟩
  obtain ⟨cj, hcj⟩ : ∃ cj : Nat → Int, cj = fun (j : Nat) => if ar then ca - (j : Int) else ca := ⟨_, rfl⟩
  obtain ⟨nj, hnj⟩ : ∃ nj : Nat → Nat, nj = fun (j : Nat) => n - 62 * j := ⟨_, rfl⟩
  obtain ⟨fj, hfj⟩ : ∃ fj : Nat → Nat → Int, fj = fun (j x : Nat) => f (62 * j + x) := ⟨_, rfl⟩
  obtain ⟨pj, hpj⟩ : ∃ pj : Nat → Nat → Int, pj = fun (j : Nat) => pcs n f j := ⟨_, rfl⟩
  obtain ⟨Lj, hLj⟩ : ∃ Lj : Nat → Int → Option (Nat → Int), Lj = fun (j : Nat) (i : Int) => if (first : Int) ≤ i ∧ i < (first : Int) + (j : Int) then some (pj (i - first).toNat) else L i := ⟨_, rfl⟩
  have a0 : (first : Int) = aj 0 := by rw [haj]; simp
  have n0 : n = nj 0 := by rw [hnj]; simp
  have f0 : ∀ x, f x = fj 0 x := fun x => by rw [hfj]; simp
  have ca0 : ca = cj 0 := by rw [hcj]; simp
  have L0 : ∀ i, L i = Lj 0 i := fun i => by rw [hLj]; simp only []; rw [if_neg (by omega)]
  have Lk : ∀ i, Lj k i = L' i := fun i => by rw [hLj, hL i, hpj]
  have ck : cj k = ca' := by rw [hcj, hc]
  have hkc : ar = true → (k : Int) ≤ ca := fun q => by
    rcases hk with hk | hk
    · rw [q] at hk; cases hk.1
    · omega
  have cjv : ∀ j, j ≤ k → 0 ≤ cj j ∧ cj j ≤ 9223372036854775807 := fun j hj => by
    rw [hcj]; simp only []
    split
    · rename_i q; have := hkc q; omega
    · exact hca
  have cjS : ∀ j, cj (j + 1) = if ar then cj j - 1 else cj j := fun j => by
    rw [hcj]; simp only []
    split <;> omega
  have cj0 : ∀ j, j < k → ¬ (ar = true ∧ cj j = 0) := fun j hj => by
    rw [hcj]; simp only []
    rintro ⟨q1, q2⟩
    rw [if_pos q1] at q2
    have := hkc q1; omega
  have ckz : k < m → ar = true ∧ cj k = 0 := fun q => by
    rcases hk with hk | hk
    · omega
    · refine ⟨hk.1, ?_⟩
      rw [hcj]; simp only []
      rw [if_pos hk.1]; omega
  have cw : ∀ j, j < k → FnTr P G 30 [.ptr 0 0, .int .i64 (aj j), By 64 (pj j)] (DH N S (Lj j) ar (cj j)) 3 (Gives (.lit .i64 0) (DH N S (Lj (j + 1)) ar (cj (j + 1))) 3) := fun j hj => by
    have q := write_ok (P := P) (G := G) (N := N) (s := s) (n := 64) (i := first + j) (S := S) (f := pj j) (L := Lj j) (L' := Lj (j + 1)) (ar := ar) (ca := cj j) (ca' := cj (j + 1)) hP (cj0 j hj) hN hs (by omega) rfl (fun i => by
      rw [hLj]
      simp only []
      by_cases e : i = ((first + j : Nat) : Int)
      · rw [if_pos e, if_pos (by omega), show (i - (first : Int)).toNat = j by omega]
      · rw [if_neg e]
        by_cases e2 : (first : Int) ≤ i ∧ i < (first : Int) + (j : Int)
        · rw [if_pos e2, if_pos (by omega)]
        · rw [if_neg e2, if_neg (by omega)]) (cjS j) (cjv j (by omega))
    rw [haj]
    exact q
  have cz : k < m → FnTr P G 30 [.ptr 0 0, .int .i64 (aj k), By 64 (pj k)] (DH N S (Lj k) ar (cj k)) 3 (Gives (.lit .i64 6) (DH N S (Lj k) ar (cj k)) 3) := fun hj =>
    write_off hP (ckz hj)
  have aS : ∀ j, j < m → aj (j + 1) = aj j + 1 ∧ 0 ≤ aj j ∧ aj j ≤ 4096 := fun j hj => by rw [haj]; simp only []; omega
  have nS : ∀ j, j < m → (nj (j + 1) = nj j - min (nj j) 62 ∧ (nj (j + 1) = 0 ↔ j + 1 = m) ∧ nj j ≤ 65536) := fun j hj => by
    rw [hnj]; simp only []
    refine ⟨by omega, ⟨fun q => ?_, fun q => ?_⟩, by omega⟩ <;> split at hmn <;> omega
  have fS : ∀ j x, fj (j + 1) x = fj j (62 + x) := fun j x => by rw [hfj]; simp only []; congr 1; omega
  have am : aj m = ((first + m : Nat) : Int) := by rw [haj]
  have pS : ∀ j x, x < 64 → pj j x = if x < 62 then (if x < nj j then fj j x else 0) else if x = 62 then ((min (nj j) 62 : Nat) : Int) else if nj j > 62 then 1 else 2 := fun j x hx => by
    rw [hpj, hnj, hfj]; simp only []; unfold pcs
    by_cases e : x < 62
    · rw [if_pos e, if_pos e]
      by_cases e2 : 62 * j + x < n
      · rw [if_pos e2, if_pos (by omega)]
      · rw [if_neg e2, if_neg (by omega)]
    · rw [if_neg e, if_neg e]
      by_cases e2 : x = 62
      · rw [if_pos e2, if_pos e2]
      · rw [if_neg e2, if_neg e2, if_pos (by omega)]
  have m1 : 0 < m := by omega
  obtain ⟨zj, hzj⟩ : ∃ zj : Nat → Nat → Int, zj = fun j x => if x < nj j ∧ x < 62 then fj j x else 0 := ⟨_, rfl⟩
  have zS : ∀ j x, zj j x = if x < nj j ∧ x < 62 then fj j x else 0 := fun j x => by rw [hzj]
  have hSl : SlTy P _ := hP ▸ sl_ty
  clear haj hcj hnj hzj hfj hpj hLj hL hc hmn hk hkc cjv cjS cj0 ckz
  have hT : T.Ok P := hP ▸ T_ok
  refine jjI Tryd.f60 hT ?_
  generalize hA : Ar.real = A
  generalize hK : Gives _ _ _ = K
  cbv
  refine jjS hA (c1) [(0, 0), (1, 1), (2, 2)] ?_
  cbv
  have k1 : A.gt (A.i2 n) 65536 = false := by subst hA; simp [Ar.real]; omega
  repeat' (first | (refine ⟨fun h => absurd (h.symm.trans k1) (by decide), fun _ => ?_⟩; cbv) | (refine ⟨fun _ => ?_, fun h => absurd (h.symm.trans k1) (by decide)⟩; cbv))
  refine jjS hA (c2) [] ?_
  cbv
  have k2 : A.gt (m : Int) (A.sub (fin : Int) (first : Int)) = false := by subst hA; simp only [zn] at *; simp [Ar.real]; omega
  refine ⟨jjO, ?_⟩
  repeat' (first | (refine ⟨fun h => absurd (h.symm.trans k2) (by decide), fun _ => ?_⟩; cbv) | (refine ⟨fun _ => ?_, fun h => absurd (h.symm.trans k2) (by decide)⟩; cbv))
  refine jjS hA (c3) [] ?_
  cbv
  refine FS.run hA (fn := Tryd.f103) (body := bodyOf Tryd.f103) (by rw [hP]; rfl) rfl rfl rfl hT rfl ?_
  intro l
  cbv
  clear c1 c2 c3 k1 k2 hN hs hca
  refine LS.leU hT hA 32 (fun _ => []) [] (fun j => [(0, .cells 87 [.sl 1 1 (.l 0) (.s N), .mp 2, .bs ar, .int .i64 (cj j)]), (2, .wm 64 (Lj j)), (27, .cells 3 [.int .i64 (aj j)]), (30, .cells 22 [By (nj j) (fj j)])]) (fun j => j ≤ k ∧ j < m) (fun j => m - j) 0 [] rfl rfl ?_ ?_ ?_
  · (try cbv) <;> (repeat' (first | exact trivial | exact rfl | apply And.intro | exact fun _ => rfl | (intro _ hle; first | refine chunk_le hA rfl hle rfl ?_ | refine cat_le hA ?_ | refine upd_le hA ?_ | (try cbv))))
    all_goals first | exact n0 | exact f0 _ | exact a0 | exact L0 | exact ca0
  · exact ⟨Nat.zero_le _, m1⟩
  · intro R hR j hj
    have hnj := nS j hj.2
    have haj := aS j hj.2
    cbv
    by_cases hl : j + 1 = m
    · refine ⟨⟨jjO, jjO, jjO, jjO⟩, ⟨jjO, jjO, jjO⟩, ?_⟩
      refine OS.did (copy_did (S := fun _ => 0) (S' := zj j) hSl rfl rfl rfl rfl (fun e _ => ⟨_, rfl, rfl⟩) rfl (Ints.shift hA (.l 0) (Ints.base .u8 (fj j) (nj j)) jjO) (by decide) (fun i hi => by
        rw [zS j i]
        by_cases q : i < nj j ∧ i < 62
        · rw [if_pos q, if_pos (by subst hA; simp only [Ar.real, NV.val]; split <;> omega)]
          show fj j i = fj j (0 + (i - 0))
          rw [Nat.sub_zero, Nat.zero_add]
        · rw [if_neg q, if_neg (by subst hA; simp only [Ar.real, NV.val]; split <;> omega)])) ?_
      cbv
      refine ⟨⟨?_, ?_, ?_⟩, ?_⟩
      iterate 3 exact jjO
      have k3 : A.gt (A.i2 (A.subN (nj j) (A.nat (A.min (A.i2 (nj j)) 62)))) 0 = false := by subst hA; simp only [Ar.real]; simp; split <;> omega
      repeat' (first | (refine ⟨fun h => absurd (h.symm.trans k3) (by decide), fun _ => ?_⟩; cbv) | (refine ⟨fun _ => ?_, fun h => absurd (h.symm.trans k3) (by decide)⟩; cbv))
      have hp : ∀ e, ltNV A e (.l 64) → leL (leSV A 4) (updF A 1 (.l 63) 0 [.lit .u8 2] (updF A 1 (.l 62) 0 [.int .u8 (A.conv .u8 (A.min (A.i2 (nj j)) 62))] fun e => [.int .u8 (zj j e.val)]) e) [.int .u8 (pj j e.val)] := fun e he => by
        refine Ints.le hA (Ints.updl hA 63 (v := 2) rfl (Ints.updl hA 62 (v := A.conv .u8 (A.min (A.i2 (nj j)) 62)) rfl (Ints.base .u8 (zj j) 64))) he (Nat.le_refl _) ?_
        have hlt : e.val < 64 := ltNV_real.1 (hA ▸ he)
        have hv : A.conv .u8 (A.min (A.i2 (nj j)) 62) = ((min (nj j) 62 : Nat) : Int) := by subst hA; exact conv62 (nj j)
        show (if e.val = 63 then 2 else if e.val = 62 then A.conv .u8 (A.min (A.i2 (nj j)) 62) else zj j e.val) = pj j e.val
        rw [pS j e.val hlt, zS, hv]
        by_cases q1 : e.val < 62
        · rw [if_neg (by omega), if_neg (by omega), if_pos q1]
          by_cases q2 : e.val < nj j
          · rw [if_pos ⟨q2, q1⟩, if_pos q2]
          · rw [if_neg (fun q => q2 q.1), if_neg q2]
        · rw [if_neg q1]
          by_cases q2 : e.val = 62
          · rw [if_neg (by omega), if_pos q2, if_pos q2]
          · rw [if_pos (by omega), if_neg q2, if_neg (by omega)]
      refine OS.yield hA (i := 31) hT rfl rfl rfl rfl rfl rfl ?_
      cbv
      by_cases hjk : j < k
      · skip
        refine CS.frzA hA jjF ?_
        cbv
        refine CS.le hA (cw j hjk) [(0, 0), (1, 1), (2, 2)] rfl rfl rfl ?_ ?_ ?_
        · (try cbv) <;> (repeat' (first | exact trivial | exact rfl | apply And.intro | exact fun _ => rfl | (intro _ hle; first | exact hp _ hle | refine chunk_le hA rfl hle rfl ?_ | refine cat_le hA ?_ | refine upd_le hA ?_ | refine int_le ?_ | skip)))
        · exact jjL
        cbv
        have k4 : A.eq (A.i2 (A.subN (nj j) (A.nat (A.min (A.i2 (nj j)) 62)))) 0 = true := by subst hA; simp only [Ar.real]; simp; split <;> omega
        refine ⟨jjO, ?_⟩
        repeat' (first | (refine ⟨fun h => absurd (h.symm.trans k4) (by decide), fun _ => ?_⟩; cbv) | (refine ⟨fun _ => ?_, fun h => absurd (h.symm.trans k4) (by decide)⟩; cbv))
        clear hR
        have hk' : k = j + 1 := by omega
        have he' : at' = ((first + m : Nat) : Int) ∧ e' = 0 := by
          rcases he with he | he
          · exact he.2
          · omega
        have ha' : aj j + 1 = at' := by rw [← haj.1, hl, am, he'.1]
        rw [hk'] at Lk ck
        refine Fin.le hA 3 [] (.tup [.int .i64 at', .int .i64 e']) (DH N S L' ar ca') 3 rfl rfl rfl ?_ ?_ jjK
        · (try cbv) <;> (repeat' (first | exact trivial | exact rfl | apply And.intro | exact fun _ => rfl | (intro _ hle; first | refine chunk_le hA rfl hle rfl ?_ | refine cat_le hA ?_ | refine upd_le hA ?_ | (try cbv))))
          · subst hA
            exact ha'
          · exact he'.2.symm
        · (try cbv) <;> (repeat' (first | exact trivial | exact rfl | apply And.intro | exact fun _ => rfl | (intro _ hle; first | refine chunk_le hA rfl hle rfl ?_ | refine cat_le hA ?_ | refine upd_le hA ?_ | (try cbv))))
          all_goals first | exact Lk | exact ck
      · have hjk : j = k := by omega
        have hkm' : k < m := by omega
        have he' : at' = 0 ∧ e' = 6 := by omega
        subst hjk
        refine CS.frzA hA jjF ?_
        cbv
        refine CS.le hA (cz hkm') [(0, 0), (1, 1), (2, 2)] rfl rfl rfl ?_ ?_ ?_
        · (try cbv) <;> (repeat' (first | exact trivial | exact rfl | apply And.intro | exact fun _ => rfl | (intro _ hle; first | exact hp _ hle | refine chunk_le hA rfl hle rfl ?_ | refine cat_le hA ?_ | refine upd_le hA ?_ | refine int_le ?_ | skip)))
        · exact jjL
        cbv
        clear hR
        refine Fin.le hA 3 [] (.tup [.int .i64 at', .int .i64 e']) (DH N S L' ar ca') 3 rfl rfl rfl ?_ ?_ jjK
        · (try cbv) <;> (repeat' (first | exact trivial | exact rfl | apply And.intro | exact fun _ => rfl | (intro _ hle; first | refine chunk_le hA rfl hle rfl ?_ | refine cat_le hA ?_ | refine upd_le hA ?_ | (try cbv))))
          · exact he'.1.symm
          · exact he'.2.symm
        · (try cbv) <;> (repeat' (first | exact trivial | exact rfl | apply And.intro | exact fun _ => rfl | (intro _ hle; first | refine chunk_le hA rfl hle rfl ?_ | refine cat_le hA ?_ | refine upd_le hA ?_ | (try cbv))))
          all_goals first | exact Lk | exact ck
    · refine ⟨⟨jjO, jjO, jjO, jjO⟩, ⟨jjO, jjO, jjO⟩, ?_⟩
      refine OS.did (copy_did (S := fun _ => 0) (S' := zj j) hSl rfl rfl rfl rfl (fun e _ => ⟨_, rfl, rfl⟩) rfl (Ints.shift hA (.l 0) (Ints.base .u8 (fj j) (nj j)) jjO) (by decide) (fun i hi => by
        rw [zS j i]
        by_cases q : i < nj j ∧ i < 62
        · rw [if_pos q, if_pos (by subst hA; simp only [Ar.real, NV.val]; split <;> omega)]
          show fj j i = fj j (0 + (i - 0))
          rw [Nat.sub_zero, Nat.zero_add]
        · rw [if_neg q, if_neg (by subst hA; simp only [Ar.real, NV.val]; split <;> omega)])) ?_
      cbv
      refine ⟨⟨?_, ?_, ?_⟩, ?_⟩
      iterate 3 exact jjO
      have k3 : A.gt (A.i2 (A.subN (nj j) (A.nat (A.min (A.i2 (nj j)) 62)))) 0 = true := by subst hA; simp only [Ar.real]; simp; split <;> omega
      repeat' (first | (refine ⟨fun h => absurd (h.symm.trans k3) (by decide), fun _ => ?_⟩; cbv) | (refine ⟨fun _ => ?_, fun h => absurd (h.symm.trans k3) (by decide)⟩; cbv))
      have hp : ∀ e, ltNV A e (.l 64) → leL (leSV A 4) (updF A 1 (.l 63) 0 [.lit .u8 1] (updF A 1 (.l 63) 0 [.lit .u8 2] (updF A 1 (.l 62) 0 [.int .u8 (A.conv .u8 (A.min (A.i2 (nj j)) 62))] fun e => [.int .u8 (zj j e.val)])) e) [.int .u8 (pj j e.val)] := fun e he => by
        refine Ints.le hA (Ints.updl hA 63 (v := 1) rfl (Ints.updl hA 63 (v := 2) rfl (Ints.updl hA 62 (v := A.conv .u8 (A.min (A.i2 (nj j)) 62)) rfl (Ints.base .u8 (zj j) 64)))) he (Nat.le_refl _) ?_
        have hlt : e.val < 64 := ltNV_real.1 (hA ▸ he)
        have hv : A.conv .u8 (A.min (A.i2 (nj j)) 62) = ((min (nj j) 62 : Nat) : Int) := by subst hA; exact conv62 (nj j)
        show (if e.val = 63 then 1 else if e.val = 63 then 2 else if e.val = 62 then A.conv .u8 (A.min (A.i2 (nj j)) 62) else zj j e.val) = pj j e.val
        rw [pS j e.val hlt, zS, hv]
        by_cases q1 : e.val < 62
        · rw [if_neg (by omega), if_neg (by omega), if_neg (by omega), if_pos q1]
          by_cases q2 : e.val < nj j
          · rw [if_pos ⟨q2, q1⟩, if_pos q2]
          · rw [if_neg (fun q => q2 q.1), if_neg q2]
        · rw [if_neg q1]
          by_cases q2 : e.val = 62
          · rw [if_neg (by omega), if_neg (by omega), if_pos q2, if_pos q2]
          · rw [if_pos (by omega), if_neg q2, if_pos (by omega)]
      refine OS.yield hA (i := 31) hT rfl rfl rfl rfl rfl rfl ?_
      cbv
      by_cases hjk : j < k
      · skip
        refine CS.frzA hA jjF ?_
        cbv
        refine CS.le hA (cw j hjk) [(0, 0), (1, 1), (2, 2)] rfl rfl rfl ?_ ?_ ?_
        · (try cbv) <;> (repeat' (first | exact trivial | exact rfl | apply And.intro | exact fun _ => rfl | (intro _ hle; first | exact hp _ hle | refine chunk_le hA rfl hle rfl ?_ | refine cat_le hA ?_ | refine upd_le hA ?_ | refine int_le ?_ | skip)))
        · exact jjL
        cbv
        have k4 : A.eq (A.i2 (A.subN (nj j) (A.nat (A.min (A.i2 (nj j)) 62)))) 0 = false := by subst hA; simp only [Ar.real]; simp; split <;> omega
        refine ⟨jjO, ?_⟩
        repeat' (first | (refine ⟨fun h => absurd (h.symm.trans k4) (by decide), fun _ => ?_⟩; cbv) | (refine ⟨fun _ => ?_, fun h => absurd (h.symm.trans k4) (by decide)⟩; cbv))
        refine hR _ _ ⟨j + 1, 32, [], rfl, rfl, ?_, ⟨hjk, by omega⟩, (by show m - (j + 1) < m - j; omega)⟩
        clear hR
        have hbig : 62 < nj j := by omega
        have e62 : A.nat (A.min (A.i2 (nj j)) 62) = 62 := by subst hA; simp only [Ar.real]; split <;> omega
        (try cbv) <;> (repeat' (first | exact trivial | exact rfl | apply And.intro | exact fun _ => rfl | (intro _ hle; first | refine chunk_le hA rfl hle rfl ?_ | refine cat_le hA ?_ | refine upd_le hA ?_ | refine int_le ?_ | skip)))
        · have q : A.subN (nj j) (A.nat (A.min (A.i2 (nj j)) 62)) = nj (j + 1) := by
            rw [e62]
            subst hA
            show nj j - 62 = nj (j + 1)
            omega
          exact q
        · rw [e62, fS]
          subst hA
          congr 1
        · subst hA
          exact haj.1.symm
      · have hjk : j = k := by omega
        have hkm' : k < m := by omega
        have he' : at' = 0 ∧ e' = 6 := by omega
        subst hjk
        refine CS.frzA hA jjF ?_
        cbv
        refine CS.le hA (cz hkm') [(0, 0), (1, 1), (2, 2)] rfl rfl rfl ?_ ?_ ?_
        · (try cbv) <;> (repeat' (first | exact trivial | exact rfl | apply And.intro | exact fun _ => rfl | (intro _ hle; first | exact hp _ hle | refine chunk_le hA rfl hle rfl ?_ | refine cat_le hA ?_ | refine upd_le hA ?_ | refine int_le ?_ | skip)))
        · exact jjL
        cbv
        clear hR
        refine Fin.le hA 3 [] (.tup [.int .i64 at', .int .i64 e']) (DH N S L' ar ca') 3 rfl rfl rfl ?_ ?_ jjK
        · (try cbv) <;> (repeat' (first | exact trivial | exact rfl | apply And.intro | exact fun _ => rfl | (intro _ hle; first | refine chunk_le hA rfl hle rfl ?_ | refine cat_le hA ?_ | refine upd_le hA ?_ | (try cbv))))
          · exact he'.1.symm
          · exact he'.2.symm
        · (try cbv) <;> (repeat' (first | exact trivial | exact rfl | apply And.intro | exact fun _ => rfl | (intro _ hle; first | refine chunk_le hA rfl hle rfl ?_ | refine cat_le hA ?_ | refine upd_le hA ?_ | (try cbv))))
          all_goals first | exact Lk | exact ck
open Go.DskLaw (q64 secV needN pcs padOk isB)
theorem wrap_by {x : Int} (h : 0 ≤ x ∧ x ≤ 255) : IntKind.i64.wrap x = x := by
  simp [IntKind.wrap, IntKind.bits, IntKind.signed]; omega
theorem used_bad {P : Program} {G : Gl} (hP : P = Tryd.prog) {m : Nat} {v : Nat → Int} (hm : m = 64) (hv : isB v) (h : ¬ padOk v) :
    FnTr P G 104 [By m v] [] 0 (Gives (.tup [.nils, .bl false, .bl false]) [] 0) := by
  have h62 := hv 62 (by omega)
  have h63 := hv 63 (by omega)
  have hw := wrap_by h62
  by_cases h0 : 62 < v 62
  · skip
    have hT : T.Ok P := hP ▸ T_ok
    refine jjI Tryd.f104 hT ?_
    generalize hA : Ar.real = A
    generalize hK : Gives _ _ _ = K
    cbv
    refine jjR hA hT 1 ?_
    cbv
    refine ⟨?_, ?_, ?_⟩
    iterate 2 exact jjO
    refine jjD ?_
    cbv
    have k1 : A.gt (A.conv .i64 (v 62)) 62 = true := by subst hA; show decide (IntKind.i64.wrap (v 62) > 62) = true; rw [hw]; simpa using h0
    repeat' (first | (refine ⟨fun h => absurd (h.symm.trans k1) (by decide), fun _ => ?_⟩; cbv) | (refine ⟨fun _ => ?_, fun h => absurd (h.symm.trans k1) (by decide)⟩; cbv))
    refine Fin.le hA 0 [] (.tup [.nils, .bl false, .bl false]) ([]) 0 rfl rfl rfl ?_ ?_ jjK
    iterate 2 exact jjL
  · obtain ⟨n, hn⟩ : ∃ n, n = (v 62).toNat := ⟨_, rfl⟩
    obtain ⟨q, hq⟩ : ∃ q, q = 62 - n := ⟨_, rfl⟩
    obtain ⟨w, hw2⟩ : ∃ w : Nat → Int, w = fun x => v (n + x) := ⟨_, rfl⟩
    have c1 := blank_fn (P := P) (G := G) (n := q) (f := w) (r := false) hP (by omega) ⟨fun e => (by cases e), fun e => by
      exfalso
      refine h ⟨by omega, fun x hx1 hx2 => ?_⟩
      rw [← hn] at hx1
      have := e (x - n) (by omega)
      rw [hw2] at this
      simp only [] at this
      rwa [show n + (x - n) = x by omega] at this⟩
    have hwv : ∀ x, w x = v (n + x) := fun x => by rw [hw2]
    clear h hw2
    have hT : T.Ok P := hP ▸ T_ok
    refine jjI Tryd.f104 hT ?_
    generalize hA : Ar.real = A
    generalize hK : Gives _ _ _ = K
    cbv
    refine jjR hA hT 1 ?_
    cbv
    refine ⟨?_, ?_, ?_⟩
    iterate 2 exact jjO
    refine jjD ?_
    cbv
    have kc : A.conv .i64 (v 62) = v 62 := by subst hA; exact hw
    have k1 : A.gt (A.conv .i64 (v 62)) 62 = false := by rw [kc]; subst hA; simp [Ar.real]; omega
    repeat' (first | (refine ⟨fun h => absurd (h.symm.trans k1) (by decide), fun _ => ?_⟩; cbv) | (refine ⟨fun _ => ?_, fun h => absurd (h.symm.trans k1) (by decide)⟩; cbv))
    have kn : A.nat (A.conv .i64 (v 62)) = n := by rw [kc]; subst hA; exact hn.symm
    refine ⟨⟨?_, ?_, ?_, ?_⟩, ?_⟩
    · have : A.nn (A.conv .i64 (v 62)) := by rw [kc]; subst hA; exact h62.1
      exact this
    · subst hA
      show 0 ≤ (62 : Int)
      decide
    · have : A.leN (A.nat (A.conv .i64 (v 62))) 62 := by rw [kn]; subst hA; show n ≤ 62; omega
      exact this
    · subst hA
      show 62 ≤ m
      omega
    have hp : ∀ e, ltNV A e (.s (A.subN 62 (A.nat (A.conv .i64 (v 62))))) → leL (leSV A 4) [.int .u8 (v (addNV A (.s (A.nat (A.conv .i64 (v 62)))) e).val)] [.int .u8 (w e.val)] := fun e he => by
      rw [kn]
      refine int_le ?_
      rw [hwv]
      subst hA
      cases e <;> rfl
    refine CS.leR hA c1 (.bl false) [] rfl rfl rfl ?_ ?_ ?_ ?_
    · (try cbv) <;> (repeat' (first | exact trivial | exact rfl | apply And.intro | exact fun _ => rfl | (intro _ hle; first | exact hp _ hle | refine chunk_le hA rfl hle rfl ?_ | refine cat_le hA ?_ | refine upd_le hA ?_ | refine int_le ?_ | skip)))
      have : A.subN 62 (A.nat (A.conv .i64 (v 62))) = q := by rw [kn, hq]; subst hA; rfl
      exact this
    iterate 2 exact jjL
    cbv
    refine Fin.le hA 0 [] (.tup [.nils, .bl false, .bl false]) ([]) 0 rfl rfl rfl ?_ ?_ jjK
    iterate 2 exact jjL
theorem used_on {P : Program} {G : Gl} (hP : P = Tryd.prog) {m n : Nat} {v : Nat → Int} {r : Bool} (hm : m = 64) (hv : isB v) (h : padOk v) (hn : n = (v 62).toNat) (h1 : v 63 = 1) (hr : r = true ↔ n = 62) :
    FnTr P G 104 [By m v] [] 0 (Gives (.tup [By n v, .bl true, .bs r]) [] 0) := by
  have h62 := hv 62 (by omega)
  have h63 := hv 63 (by omega)
  have hw := wrap_by h62
  have hle := h.1
  obtain ⟨q, hq⟩ : ∃ q, q = 62 - n := ⟨_, rfl⟩
  obtain ⟨w, hw2⟩ : ∃ w : Nat → Int, w = fun x => v (n + x) := ⟨_, rfl⟩
  have c1 := blank_fn (P := P) (G := G) (n := q) (f := w) (r := true) hP (by omega) ⟨fun _ x hx => by rw [hw2]; exact h.2 _ (by omega) (by omega), fun _ => rfl⟩
  have hwv : ∀ x, w x = v (n + x) := fun x => by rw [hw2]
  clear h hw2
  have hT : T.Ok P := hP ▸ T_ok
  refine jjI Tryd.f104 hT ?_
  generalize hA : Ar.real = A
  generalize hK : Gives _ _ _ = K
  cbv
  refine jjR hA hT 1 ?_
  cbv
  refine ⟨?_, ?_, ?_⟩
  iterate 2 exact jjO
  refine jjD ?_
  cbv
  have kc : A.conv .i64 (v 62) = v 62 := by subst hA; exact hw
  have k1 : A.gt (A.conv .i64 (v 62)) 62 = false := by rw [kc]; subst hA; simp [Ar.real]; omega
  repeat' (first | (refine ⟨fun h => absurd (h.symm.trans k1) (by decide), fun _ => ?_⟩; cbv) | (refine ⟨fun _ => ?_, fun h => absurd (h.symm.trans k1) (by decide)⟩; cbv))
  have kn : A.nat (A.conv .i64 (v 62)) = n := by rw [kc]; subst hA; exact hn.symm
  refine ⟨⟨?_, ?_, ?_, ?_⟩, ?_⟩
  · have : A.nn (A.conv .i64 (v 62)) := by rw [kc]; subst hA; exact h62.1
    exact this
  · subst hA
    show 0 ≤ (62 : Int)
    decide
  · have : A.leN (A.nat (A.conv .i64 (v 62))) 62 := by rw [kn]; subst hA; show n ≤ 62; omega
    exact this
  · subst hA
    show 62 ≤ m
    omega
  have hp : ∀ e, ltNV A e (.s (A.subN 62 (A.nat (A.conv .i64 (v 62))))) → leL (leSV A 4) [.int .u8 (v (addNV A (.s (A.nat (A.conv .i64 (v 62)))) e).val)] [.int .u8 (w e.val)] := fun e he => by
    rw [kn]
    refine int_le ?_
    rw [hwv]
    subst hA
    cases e <;> rfl
  refine CS.leR hA c1 (.bl true) [] rfl rfl rfl ?_ ?_ ?_ ?_
  · (try cbv) <;> (repeat' (first | exact trivial | exact rfl | apply And.intro | exact fun _ => rfl | (intro _ hle; first | exact hp _ hle | refine chunk_le hA rfl hle rfl ?_ | refine cat_le hA ?_ | refine upd_le hA ?_ | refine int_le ?_ | skip)))
    have : A.subN 62 (A.nat (A.conv .i64 (v 62))) = q := by rw [kn, hq]; subst hA; rfl
    exact this
  iterate 2 exact jjL
  cbv
  have k2 : A.eq (v 63) 1 = true := by subst hA; simpa [Ar.real] using h1
  repeat' (first | (refine ⟨fun h => absurd (h.symm.trans k2) (by decide), fun _ => ?_⟩; cbv) | (refine ⟨fun _ => ?_, fun h => absurd (h.symm.trans k2) (by decide)⟩; cbv))
  refine ⟨⟨?_, ?_, ?_⟩, ?_⟩
  · have : A.nn (A.conv .i64 (v 62)) := by rw [kc]; subst hA; exact h62.1
    exact this
  · have : A.leN 0 (A.nat (A.conv .i64 (v 62))) := by subst hA; exact Nat.zero_le _
    exact this
  · have : A.leN (A.nat (A.conv .i64 (v 62))) m := by rw [kn]; subst hA; show n ≤ m; omega
    exact this
  have hpn : A.subN (A.nat (A.conv .i64 (v 62))) 0 = n := by rw [kn]; subst hA; rfl
  have k3 : A.eq (A.conv .i64 (v 62)) 62 = r := by
    rw [kc]
    subst hA
    rw [Bool.eq_iff_iff, hr]
    simp only [Ar.real, beq_iff_eq]
    omega
  refine Fin.le hA 0 [] (.tup [By n v, .bl true, .bs r]) ([]) 0 rfl rfl rfl ?_ ?_ jjK
  · (try cbv) <;> (repeat' (first | exact trivial | exact rfl | apply And.intro | exact fun _ => rfl | (intro _ hle; first | refine chunk_le hA rfl hle rfl ?_ | refine cat_le hA ?_ | refine upd_le hA ?_ | refine int_le ?_ | skip)))
    · exact hpn
    · exact k3
  · exact jjL
theorem used_end {P : Program} {G : Gl} (hP : P = Tryd.prog) {m n : Nat} {v : Nat → Int} {r : Bool} (hm : m = 64) (hv : isB v) (h : padOk v) (hn : n = (v 62).toNat) (h1 : v 63 ≠ 1) (hr : r = true ↔ v 63 = 2) :
    FnTr P G 104 [By m v] [] 0 (Gives (.tup [By n v, .bl false, .bs r]) [] 0) := by
  have h62 := hv 62 (by omega)
  have h63 := hv 63 (by omega)
  have hw := wrap_by h62
  have hle := h.1
  obtain ⟨q, hq⟩ : ∃ q, q = 62 - n := ⟨_, rfl⟩
  obtain ⟨w, hw2⟩ : ∃ w : Nat → Int, w = fun x => v (n + x) := ⟨_, rfl⟩
  have c1 := blank_fn (P := P) (G := G) (n := q) (f := w) (r := true) hP (by omega) ⟨fun _ x hx => by rw [hw2]; exact h.2 _ (by omega) (by omega), fun _ => rfl⟩
  have hwv : ∀ x, w x = v (n + x) := fun x => by rw [hw2]
  clear h hw2
  have hT : T.Ok P := hP ▸ T_ok
  refine jjI Tryd.f104 hT ?_
  generalize hA : Ar.real = A
  generalize hK : Gives _ _ _ = K
  cbv
  refine jjR hA hT 1 ?_
  cbv
  refine ⟨?_, ?_, ?_⟩
  iterate 2 exact jjO
  refine jjD ?_
  cbv
  have kc : A.conv .i64 (v 62) = v 62 := by subst hA; exact hw
  have k1 : A.gt (A.conv .i64 (v 62)) 62 = false := by rw [kc]; subst hA; simp [Ar.real]; omega
  repeat' (first | (refine ⟨fun h => absurd (h.symm.trans k1) (by decide), fun _ => ?_⟩; cbv) | (refine ⟨fun _ => ?_, fun h => absurd (h.symm.trans k1) (by decide)⟩; cbv))
  have kn : A.nat (A.conv .i64 (v 62)) = n := by rw [kc]; subst hA; exact hn.symm
  refine ⟨⟨?_, ?_, ?_, ?_⟩, ?_⟩
  · have : A.nn (A.conv .i64 (v 62)) := by rw [kc]; subst hA; exact h62.1
    exact this
  · subst hA
    show 0 ≤ (62 : Int)
    decide
  · have : A.leN (A.nat (A.conv .i64 (v 62))) 62 := by rw [kn]; subst hA; show n ≤ 62; omega
    exact this
  · subst hA
    show 62 ≤ m
    omega
  have hp : ∀ e, ltNV A e (.s (A.subN 62 (A.nat (A.conv .i64 (v 62))))) → leL (leSV A 4) [.int .u8 (v (addNV A (.s (A.nat (A.conv .i64 (v 62)))) e).val)] [.int .u8 (w e.val)] := fun e he => by
    rw [kn]
    refine int_le ?_
    rw [hwv]
    subst hA
    cases e <;> rfl
  refine CS.leR hA c1 (.bl true) [] rfl rfl rfl ?_ ?_ ?_ ?_
  · (try cbv) <;> (repeat' (first | exact trivial | exact rfl | apply And.intro | exact fun _ => rfl | (intro _ hle; first | exact hp _ hle | refine chunk_le hA rfl hle rfl ?_ | refine cat_le hA ?_ | refine upd_le hA ?_ | refine int_le ?_ | skip)))
    have : A.subN 62 (A.nat (A.conv .i64 (v 62))) = q := by rw [kn, hq]; subst hA; rfl
    exact this
  iterate 2 exact jjL
  cbv
  have k2 : A.eq (v 63) 1 = false := by subst hA; simpa [Ar.real] using h1
  repeat' (first | (refine ⟨fun h => absurd (h.symm.trans k2) (by decide), fun _ => ?_⟩; cbv) | (refine ⟨fun _ => ?_, fun h => absurd (h.symm.trans k2) (by decide)⟩; cbv))
  refine ⟨⟨?_, ?_, ?_⟩, ?_⟩
  · have : A.nn (A.conv .i64 (v 62)) := by rw [kc]; subst hA; exact h62.1
    exact this
  · have : A.leN 0 (A.nat (A.conv .i64 (v 62))) := by subst hA; exact Nat.zero_le _
    exact this
  · have : A.leN (A.nat (A.conv .i64 (v 62))) m := by rw [kn]; subst hA; show n ≤ m; omega
    exact this
  have hpn : A.subN (A.nat (A.conv .i64 (v 62))) 0 = n := by rw [kn]; subst hA; rfl
  have k3 : A.eq (v 63) 2 = r := by
    subst hA
    rw [Bool.eq_iff_iff, hr]
    simp only [Ar.real, beq_iff_eq]
  refine Fin.le hA 0 [] (.tup [By n v, .bl false, .bs r]) ([]) 0 rfl rfl rfl ?_ ?_ jjK
  · (try cbv) <;> (repeat' (first | exact trivial | exact rfl | apply And.intro | exact fun _ => rfl | (intro _ hle; first | refine chunk_le hA rfl hle rfl ?_ | refine cat_le hA ?_ | refine upd_le hA ?_ | refine int_le ?_ | skip)))
    · exact hpn
    · exact k3
  · exact jjL
open Go.DskLaw (q64 secV needN pcs padOk isB usedP getP usedP_none1 usedP_on usedP_none2 usedP_end usedP_none3 getP_stop getP_none getP_long getP_empty getP_on getP_end)
theorem get_own {P : Program} {G : Gl} {K : SV → Hl → Nat → Prop} (hP : P = Tryd.prog) {N s first fin : Nat} {S f0 : Nat → Int} {L : Int → Option (Nat → Int)} {ar : Bool} {ca : Int} {V : Nat → Nat → Int} {R0 : Option (Nat × (Nat → Int) × Nat)} (hN : N = 64 * s) (hs : s ≤ 4096)
    (h : first ≤ fin ∧ fin ≤ s) (ho : ¬ (ar = true ∧ ca = 0)) (hV : ∀ i, i < s → V i = secV S L i ∧ isB (V i)) (hR0 : getP V first fin (fin - first) first 0 f0 = R0)
    (hK1 : ∀ n f next, R0 = some (n, f, next) → K (.tup [.sl 3 1 (.l 0) (.s n), .int .i64 (next : Int), .lit .i64 0]) ((3, .row 5 1 (.s n) (fun e => [.int .u8 (f e.val)])) :: DH N S L ar ca) 4)
    (hK0 : R0 = none → K (.tup [.nils, .lit .i64 0, .lit .i64 4]) (DH N S L ar ca) 3) :
    FnTr P G 91 [.ptr 0 0, .int .i64 (first : Int), .int .i64 (fin : Int)] (DH N S L ar ca) 3 K := by
  have c1 := sasked_ok (P := P) (G := G) (S := S) (L := L) (ar := ar) (ca := ca) (a := (first : Int)) (b := (fin : Int)) hP hN hs (by omega)
  have c2 := off_fn (P := P) (G := G) (N := N) (S := S) (L := L) (ar := ar) (r := false) (ca := ca) hP ⟨fun q => (by cases q), fun q => absurd q ho⟩
  have c3 : ∀ i, i < s → FnTr P G 29 [.ptr 0 0, .int .i64 (i : Int)] (DH N S L ar ca) 3 (Gives (.tup [.ro 1 (.l 64) (fun e => [.int .u8 (V i e.val)]), .lit .i64 0]) (DH N S L ar ca) 4) := fun i hi => read_fn hP ho hN hs hi (hV i hi).1
  obtain ⟨m64, h64⟩ : ∃ m, m = 64 := ⟨_, rfl⟩
  have hB : ∀ i, i < s → isB (V i) := fun i hi => (hV i hi).2
  clear hV
  have hT : T.Ok P := hP ▸ T_ok
  refine jjI Tryd.f91 hT ?_
  generalize hA : Ar.real = A
  cbv
  refine jjS hA (c1) [(0, 0), (1, 1), (2, 2)] ?_
  cbv
  refine jjT hA (c2) (.bl false) [(0, 0), (1, 1), (2, 2)] ?_
  cbv
  clear c1 c2
  refine LS.ghost 5 1 (.l 0) (fun _ => [.int .u8 0]) rfl ?_
  refine LS.le3 hT hA 3 (fun (x : Nat) (n : Nat) (_ : Nat → Int) => [(10, .sl 3 1 (.l 0) (.s n)), (11, .int .i64 (x : Int))]) (fun _ n f => (3, .row 5 1 (.s n) (fun e => [.int .u8 (f e.val)])) :: DH N S L ar ca) (fun x n f => first ≤ x ∧ x ≤ fin ∧ n ≤ 65536 ∧ getP V first fin (fin - x) x n f = R0) (fun x _ _ => fin - x) first 0 f0 [(22, 3)] rfl rfl ?_ ?_ ?_
  · (try cbv) <;> (repeat' (first | exact trivial | exact rfl | apply And.intro | exact fun _ => rfl | (intro _ hle; first | refine chunk_le hA rfl hle rfl ?_ | refine cat_le hA ?_ | refine upd_le hA ?_ | refine int_le ?_ | skip)))
    all_goals (exfalso; subst hA; exact absurd (ltNV_real.1 hle) (Nat.not_lt_zero _))
  · exact ⟨Nat.le_refl _, h.1, by omega, hR0⟩
  · intro R hR x n f hx
    cbv
    refine ⟨fun h1 => ?_, fun h1 => ?_⟩
    · have hxf : x < fin := by clear c3 hK1 hK0 hB hR0 hx hR; subst hA; simpa [Ar.real] using h1
      have c := c3 x (by omega)
      have hb := hB x (by omega)
      clear c3
      cbv
      refine jjS hA (c) [(0, 0), (1, 1), (2, 2)] ?_
      cbv
      by_cases hp : padOk (V x)
      · obtain ⟨m, hm⟩ : ∃ m, m = (V x 62).toNat := ⟨_, rfl⟩
        obtain ⟨nm, hnm⟩ : ∃ q, q = n + m := ⟨_, rfl⟩
        have hm62 : m ≤ 62 := by have := hp.1; omega
        obtain ⟨f', hf'⟩ : ∃ f' : Nat → Int, f' = fun i => if i < n then f i else V x (i - n) := ⟨_, rfl⟩
        have hfe : ∀ i, f' i = if i < n then f i else V x (i - n) := fun i => by rw [hf']
        by_cases e1 : V x 63 = 1
        · by_cases e2 : m = 62
          · have hu := usedP_on hp e1 (by omega)
            refine CS.leR hA (used_on (r := true) hP h64 hb hp hm e1 ⟨fun _ => e2, fun _ => rfl⟩) (.tup [By m (V x), .bl true, .bl true]) [] rfl rfl rfl ?_ ?_ ?_ ?_
            · (try cbv) <;> (repeat' (first | exact trivial | exact rfl | apply And.intro | exact fun _ => rfl | (intro _ hle; first | refine chunk_le hA rfl hle rfl ?_ | refine cat_le hA ?_ | refine upd_le hA ?_ | (try cbv))))
              all_goals exact jjO
            iterate 2 exact jjL
            cbv
            refine ⟨jjO, ?_⟩
            by_cases e3 : 65536 < n + m
            · have hr0 : R0 = none := hx.2.2.2.symm.trans (getP_long hxf hu (by omega))
              have k1 : A.gt (A.i2 (A.addN n m)) 65536 = true := by subst hA; simp [Ar.real]; omega
              first | refine testR k1 rfl ?_ | refine testL k1 rfl ?_
              cbv
              refine Fin.le hA 3 [] (.tup [.nils, .lit .i64 0, .lit .i64 4]) (DH N S L ar ca) 3 rfl rfl rfl ?_ ?_ (hK0 hr0)
              iterate 2 exact jjL
            · have hr1 := hx.2.2.2.symm.trans (getP_on hxf hu (by omega))
              rw [← e2, ← hf', ← hnm] at hr1
              have k1 : A.gt (A.i2 (A.addN n m)) 65536 = false := by subst hA; simp [Ar.real]; omega
              first | refine testR k1 rfl ?_ | refine testL k1 rfl ?_
              cbv
              refine ⟨jjO, hR _ _ _ _ ⟨x + 1, nm, f', 3, [(30, 3)], rfl, rfl, ?_, ⟨by omega, by omega, by omega, hr1.symm⟩, (by show fin - (x + 1) < fin - x; omega)⟩⟩
              clear hR
              (try cbv) <;> (repeat' (first | exact trivial | exact rfl | apply And.intro | exact fun _ => rfl | (intro _ hle; first | refine chunk_le hA rfl hle rfl ?_ | refine cat_le hA ?_ | refine upd_le hA ?_ | refine int_le ?_ | skip)))
              all_goals first | exact hfe _ | exact jjO
          · have hr0 : R0 = none := hx.2.2.2.symm.trans (getP_none hxf (usedP_none2 hp e1 (by omega)))
            refine CS.leR hA (used_on (r := false) hP h64 hb hp hm e1 ⟨fun q => (by cases q), fun q => absurd q e2⟩) (.tup [By m (V x), .bl true, .bl false]) [] rfl rfl rfl ?_ ?_ ?_ ?_
            · (try cbv) <;> (repeat' (first | exact trivial | exact rfl | apply And.intro | exact fun _ => rfl | (intro _ hle; first | refine chunk_le hA rfl hle rfl ?_ | refine cat_le hA ?_ | refine upd_le hA ?_ | (try cbv))))
              all_goals exact jjO
            iterate 2 exact jjL
            cbv
            refine ⟨jjO, ?_⟩
            refine Fin.le hA 3 [] (.tup [.nils, .lit .i64 0, .lit .i64 4]) (DH N S L ar ca) 3 rfl rfl rfl ?_ ?_ (hK0 hr0)
            iterate 2 exact jjL
        · by_cases e2 : V x 63 = 2
          · have hu := usedP_end hp e1 e2
            rw [← hm] at hu
            refine CS.leR hA (used_end (r := true) hP h64 hb hp hm e1 ⟨fun _ => e2, fun _ => rfl⟩) (.tup [By m (V x), .bl false, .bl true]) [] rfl rfl rfl ?_ ?_ ?_ ?_
            · (try cbv) <;> (repeat' (first | exact trivial | exact rfl | apply And.intro | exact fun _ => rfl | (intro _ hle; first | refine chunk_le hA rfl hle rfl ?_ | refine cat_le hA ?_ | refine upd_le hA ?_ | (try cbv))))
              all_goals exact jjO
            iterate 2 exact jjL
            cbv
            refine ⟨jjO, ?_⟩
            by_cases e3 : 65536 < n + m
            · have hr0 : R0 = none := hx.2.2.2.symm.trans (getP_long hxf hu (by omega))
              have k1 : A.gt (A.i2 (A.addN n m)) 65536 = true := by subst hA; simp [Ar.real]; omega
              first | refine testR k1 rfl ?_ | refine testL k1 rfl ?_
              cbv
              refine Fin.le hA 3 [] (.tup [.nils, .lit .i64 0, .lit .i64 4]) (DH N S L ar ca) 3 rfl rfl rfl ?_ ?_ (hK0 hr0)
              iterate 2 exact jjL
            · have k1 : A.gt (A.i2 (A.addN n m)) 65536 = false := by subst hA; simp [Ar.real]; omega
              clear hR
              by_cases e4 : m = 0
              · have k2 : A.eq (A.i2 m) 0 = true := by subst hA; simp [Ar.real]; omega
                by_cases e5 : first < x
                · have hr0 : R0 = none := hx.2.2.2.symm.trans (getP_empty hxf hu e4 e5)
                  have k3 : A.gt (Int.ofNat x) (Int.ofNat first) = true := by subst hA; simp [Ar.real]; omega
                  first | refine testR k1 rfl ?_ | refine testL k1 rfl ?_
                  cbv
                  first | refine testR k2 rfl ?_ | refine testL k2 rfl ?_
                  cbv
                  first | refine testR k3 rfl ?_ | refine testL k3 rfl ?_
                  cbv
                  refine Fin.le hA 3 [] (.tup [.nils, .lit .i64 0, .lit .i64 4]) (DH N S L ar ca) 3 rfl rfl rfl ?_ ?_ (hK0 hr0)
                  iterate 2 exact jjL
                · have hr1 := hx.2.2.2.symm.trans (getP_end hxf hu (by omega) (by omega))
                  rw [← hf', ← hnm] at hr1
                  have k3 : A.gt (Int.ofNat x) (Int.ofNat first) = false := by subst hA; simp [Ar.real]; omega
                  first | refine testR k1 rfl ?_ | refine testL k1 rfl ?_
                  cbv
                  first | refine testR k2 rfl ?_ | refine testL k2 rfl ?_
                  cbv
                  first | refine testR k3 rfl ?_ | refine testL k3 rfl ?_
                  cbv
                  refine ⟨jjO, ?_⟩
                  refine Fin.le hA 3 [(30, 3)] (.tup [.sl 3 1 (.l 0) (.s nm), .int .i64 ((x + 1 : Nat) : Int), .lit .i64 0]) ((3, .row 5 1 (.s nm) (fun e => [.int .u8 (f' e.val)])) :: DH N S L ar ca) 4 rfl rfl rfl ?_ ?_ (hK1 _ _ _ hr1)
                  · (try cbv) <;> (repeat' (first | exact trivial | exact rfl | apply And.intro | exact fun _ => rfl | (intro _ hle; first | refine chunk_le hA rfl hle rfl ?_ | refine cat_le hA ?_ | refine upd_le hA ?_ | refine int_le ?_ | skip)))
                    all_goals exact jjO
                  · (try cbv) <;> (repeat' (first | exact trivial | exact rfl | apply And.intro | exact fun _ => rfl | (intro _ hle; first | refine chunk_le hA rfl hle rfl ?_ | refine cat_le hA ?_ | refine upd_le hA ?_ | refine int_le ?_ | skip)))
                    all_goals first | exact hfe _ | exact jjO
              · have hr1 := hx.2.2.2.symm.trans (getP_end hxf hu (by omega) (by omega))
                rw [← hf', ← hnm] at hr1
                have k2 : A.eq (A.i2 m) 0 = false := by subst hA; simp [Ar.real]; omega
                first | refine testR k1 rfl ?_ | refine testL k1 rfl ?_
                cbv
                first | refine testR k2 rfl ?_ | refine testL k2 rfl ?_
                cbv
                refine ⟨jjO, ?_⟩
                refine Fin.le hA 3 [(30, 3)] (.tup [.sl 3 1 (.l 0) (.s nm), .int .i64 ((x + 1 : Nat) : Int), .lit .i64 0]) ((3, .row 5 1 (.s nm) (fun e => [.int .u8 (f' e.val)])) :: DH N S L ar ca) 4 rfl rfl rfl ?_ ?_ (hK1 _ _ _ hr1)
                · (try cbv) <;> (repeat' (first | exact trivial | exact rfl | apply And.intro | exact fun _ => rfl | (intro _ hle; first | refine chunk_le hA rfl hle rfl ?_ | refine cat_le hA ?_ | refine upd_le hA ?_ | refine int_le ?_ | skip)))
                  all_goals exact jjO
                · (try cbv) <;> (repeat' (first | exact trivial | exact rfl | apply And.intro | exact fun _ => rfl | (intro _ hle; first | refine chunk_le hA rfl hle rfl ?_ | refine cat_le hA ?_ | refine upd_le hA ?_ | refine int_le ?_ | skip)))
                  all_goals first | exact hfe _ | exact jjO
          · have hr0 : R0 = none := hx.2.2.2.symm.trans (getP_none hxf (usedP_none3 hp e1 e2))
            refine CS.leR hA (used_end (r := false) hP h64 hb hp hm e1 ⟨fun q => (by cases q), fun q => absurd q e2⟩) (.tup [By m (V x), .bl false, .bl false]) [] rfl rfl rfl ?_ ?_ ?_ ?_
            · (try cbv) <;> (repeat' (first | exact trivial | exact rfl | apply And.intro | exact fun _ => rfl | (intro _ hle; first | refine chunk_le hA rfl hle rfl ?_ | refine cat_le hA ?_ | refine upd_le hA ?_ | (try cbv))))
              all_goals exact jjO
            iterate 2 exact jjL
            cbv
            refine ⟨jjO, ?_⟩
            refine Fin.le hA 3 [] (.tup [.nils, .lit .i64 0, .lit .i64 4]) (DH N S L ar ca) 3 rfl rfl rfl ?_ ?_ (hK0 hr0)
            iterate 2 exact jjL
      · have hr0 : R0 = none := hx.2.2.2.symm.trans (getP_none hxf (usedP_none1 hp))
        refine jjS hA (used_bad hP h64 hb hp) [] ?_
        cbv
        refine ⟨jjO, ?_⟩
        refine Fin.le hA 3 [] (.tup [.nils, .lit .i64 0, .lit .i64 4]) (DH N S L ar ca) 3 rfl rfl rfl ?_ ?_ (hK0 hr0)
        iterate 2 exact jjL
    · have hxf : ¬ x < fin := by clear c3 hK1 hK0 hB hR0 hx hR; subst hA; simpa [Ar.real] using h1
      have hr0 : R0 = none := hx.2.2.2.symm.trans (getP_stop (by omega) _)
      clear c3 hR hK1
      cbv
      refine Fin.le hA 3 [] (.tup [.nils, .lit .i64 0, .lit .i64 4]) (DH N S L ar ca) 3 rfl rfl rfl ?_ ?_ (hK0 hr0)
      iterate 2 exact jjL
open Go.DskLaw (q64 secV needN pcs padOk isB usedP getP scanP getP_next scanP_none scanP_some)
theorem get_none {P : Program} {G : Gl} (hP : P = Tryd.prog) {N s first fin : Nat} {S f0 : Nat → Int} {L : Int → Option (Nat → Int)} {ar : Bool} {ca : Int} {V : Nat → Nat → Int} (hN : N = 64 * s) (hs : s ≤ 4096)
    (h : first ≤ fin ∧ fin ≤ s) (ho : ¬ (ar = true ∧ ca = 0)) (hV : ∀ i, i < s → V i = secV S L i ∧ isB (V i)) (hR0 : getP V first fin (fin - first) first 0 f0 = none) :
    FnTr P G 91 [.ptr 0 0, .int .i64 (first : Int), .int .i64 (fin : Int)] (DH N S L ar ca) 3 (Gives (.tup [.nils, .lit .i64 0, .lit .i64 4]) (DH N S L ar ca) 3) :=
  get_own hP hN hs h ho hV hR0 (fun n f next e => by cases e) (fun _ => ⟨rfl, rfl, rfl⟩)
theorem get_fn {P : Program} {G : Gl} (hP : P = Tryd.prog) {N s first fin n next : Nat} {S f0 f : Nat → Int} {L : Int → Option (Nat → Int)} {ar : Bool} {ca : Int} {V : Nat → Nat → Int} (hN : N = 64 * s) (hs : s ≤ 4096)
    (h : first ≤ fin ∧ fin ≤ s) (ho : ¬ (ar = true ∧ ca = 0)) (hV : ∀ i, i < s → V i = secV S L i ∧ isB (V i)) (hR0 : getP V first fin (fin - first) first 0 f0 = some (n, f, next)) :
    FnTr P G 91 [.ptr 0 0, .int .i64 (first : Int), .int .i64 (fin : Int)] (DH N S L ar ca) 3 (Gives (.tup [By n f, .int .i64 (next : Int), .lit .i64 0]) (DH N S L ar ca) 4) := by
  have h1 : FnTr P G 91 [.ptr 0 0, .int .i64 (first : Int), .int .i64 (fin : Int)] (DH N S L ar ca) 3 (Gives (.tup [.sl 3 1 (.l 0) (.s n), .int .i64 (next : Int), .lit .i64 0]) ((3, .row 5 1 (.s n) (fun e => [.int .u8 (f e.val)])) :: DH N S L ar ca) 4) :=
    get_own hP hN hs h ho hV hR0 (fun n f next e => by cases e; exact ⟨rfl, rfl, rfl⟩) (fun e => by cases e)
  generalize hA : Ar.real = A
  refine FnTr.dat hA h1 _ _ ?_
  (try cbv) <;> (repeat' (first | exact trivial | exact rfl | apply And.intro | exact fun _ => rfl | (intro _ hle; first | refine chunk_le hA rfl hle rfl ?_ | refine cat_le hA ?_ | refine upd_le hA ?_ | refine int_le ?_ | skip)))
  all_goals exact jjO
abbrev RecS (c : Nat) (g : Nat → Nat × (Nat → Int)) : SV := .ro 1 (.s c) (fun e => [.ro 1 (.s (g e.val).1) (fun x => [.int .u8 ((g e.val).2 x.val)])])
open Go.DskLaw (q64 secV needN pcs padOk isB wipeP wipeP_off wipeP_blank wipeP_full secV_upd)
theorem wipe_off {P : Program} {G : Gl} (hP : P = Tryd.prog) {N s : Nat} {S : Nat → Int} {L : Int → Option (Nat → Int)} {ar : Bool} {ca a b : Int} (hN : N = 64 * s) (hs : s ≤ 4096) (h : 0 ≤ a ∧ a ≤ b ∧ b ≤ (s : Int)) (ho : ar = true ∧ ca = 0) :
    FnTr P G 68 [.ptr 0 0, .int .i64 a, .int .i64 b] (DH N S L ar ca) 3 (Gives (.tup [.lit .i64 0, .lit .i64 6]) (DH N S L ar ca) 3) := by
  have c1 := sasked_ok (P := P) (G := G) (S := S) (L := L) (ar := ar) (ca := ca) hP hN hs h
  have c2 := off_fn (P := P) (G := G) (N := N) (S := S) (L := L) (ar := ar) (r := true) (ca := ca) hP ⟨fun _ => ho, fun _ => rfl⟩
  have hT : T.Ok P := hP ▸ T_ok
  refine jjI Tryd.f68 hT ?_
  generalize hA : Ar.real = A
  generalize hK : Gives _ _ _ = K
  cbv
  refine jjS hA (c1) [(0, 0), (1, 1), (2, 2)] ?_
  cbv
  refine jjT hA (c2) (.bl true) [(0, 0), (1, 1), (2, 2)] ?_
  cbv
  refine Fin.le hA 3 [] (.tup [.lit .i64 0, .lit .i64 6]) (DH N S L ar ca) 3 rfl rfl rfl ?_ ?_ jjK
  iterate 2 exact jjL
theorem wipe_ok {P : Program} {G : Gl} {K : SV → Hl → Nat → Prop} (hP : P = Tryd.prog) {N s first fin : Nat} {S : Nat → Int} {L L' : Int → Option (Nat → Int)} {ar : Bool} {ca ca' : Int} {V : Nat → Nat → Int} {on : Option Nat} (hN : N = 64 * s) (hs : s ≤ 4096)
    (h : first ≤ fin ∧ fin ≤ s) (ho : ¬ (ar = true ∧ ca = 0)) (hca : 0 ≤ ca ∧ ca ≤ 9223372036854775807) (hV : ∀ i, i < s → V i = secV S L i) (hR0 : wipeP V ar (fin - first) first 0 L ca = (on, L', ca'))
    (hK1 : ∀ n, on = some n → K (.tup [.int .i64 (n : Int), .lit .i64 0]) (DH N S L' ar ca') 3) (hK0 : on = none → K (.tup [.lit .i64 0, .lit .i64 6]) (DH N S L' ar ca') 3) :
    FnTr P G 68 [.ptr 0 0, .int .i64 (first : Int), .int .i64 (fin : Int)] (DH N S L ar ca) 3 K := by
  have c1 := sasked_ok (P := P) (G := G) (S := S) (L := L) (ar := ar) (ca := ca) (a := (first : Int)) (b := (fin : Int)) hP hN hs (by omega)
  have c2 := off_fn (P := P) (G := G) (N := N) (S := S) (L := L) (ar := ar) (r := false) (ca := ca) hP ⟨fun q => (by cases q), fun q => absurd q ho⟩
  have hT : T.Ok P := hP ▸ T_ok
  refine jjI Tryd.f68 hT ?_
  generalize hA : Ar.real = A
  cbv
  refine jjS hA (c1) [(0, 0), (1, 1), (2, 2)] ?_
  cbv
  refine jjT hA (c2) (.bl false) [(0, 0), (1, 1), (2, 2)] ?_
  cbv
  clear c1 c2
  refine LS.le3 hT hA 3 (fun (x : Nat) (n : Nat) (_ : (Int → Option (Nat → Int)) × Int) => [(10, .int .i64 (x : Int)), (9, .int .i64 (n : Int))]) (fun _ _ Z => DH N S Z.1 ar Z.2) (fun x n Z => x ≤ fin ∧ n ≤ x ∧ wipeP V ar (fin - x) x n Z.1 Z.2 = (on, L', ca') ∧ (0 ≤ Z.2 ∧ Z.2 ≤ 9223372036854775807) ∧ ∀ i, x ≤ i → i < s → V i = secV S Z.1 i) (fun x _ _ => fin - x) first 0 (L, ca) [] rfl rfl ?_ ?_ ?_
  · (try cbv) <;> (repeat' (first | exact trivial | exact rfl | apply And.intro | exact fun _ => rfl | (intro _ hle; first | refine chunk_le hA rfl hle rfl ?_ | refine cat_le hA ?_ | refine upd_le hA ?_ | refine int_le ?_ | skip)))
  · exact ⟨h.1, Nat.zero_le _, hR0, hca, fun i _ hi => hV i hi⟩
  · intro R hR x n Z hx
    obtain ⟨L1, c1⟩ := Z
    obtain ⟨hxf, hnx, hw, hc1, hV1⟩ := hx
    cbv
    refine ⟨fun h1 => ?_, fun h1 => ?_⟩
    · have hxf' : x < fin := by clear hK1 hK0 hw hV hV1 hR hR0; subst hA; simpa [Ar.real] using h1
      obtain ⟨k, hk⟩ : ∃ k, fin - x = k + 1 := ⟨fin - x - 1, by omega⟩
      rw [hk] at hw
      cbv
      by_cases hoff : ar = true ∧ c1 = 0
      · rw [wipeP_off hoff] at hw
        obtain ⟨rfl, rfl, rfl⟩ : none = on ∧ L1 = L' ∧ c1 = ca' := by cases hw; exact ⟨rfl, rfl, rfl⟩
        have a1 := read_off (P := P) (G := G) (N := N) (S := S) (L := L1) (ar := ar) (i := (x : Int)) hP hoff
        clear hR hK1
        refine jjS hA (a1) [(0, 0), (1, 1), (2, 2)] ?_
        cbv
        refine Fin.le hA 3 [] (.tup [.lit .i64 0, .lit .i64 6]) (DH N S L1 ar c1) 3 rfl rfl rfl ?_ ?_ (hK0 rfl)
        iterate 2 exact jjL
      · have a1 := read_fn (P := P) (G := G) hP hoff hN hs (show x < s by omega) (hV1 x (Nat.le_refl _) (by omega))
        refine jjS hA (a1) [(0, 0), (1, 1), (2, 2)] ?_
        cbv
        obtain ⟨m64, h64⟩ : ∃ m, m = 64 := ⟨_, rfl⟩
        by_cases hb : ∀ i, i < 64 → V x i = 0
        · rw [wipeP_blank hoff hb] at hw
          have a2 := blank_fn (P := P) (G := G) (n := m64) (f := V x) (r := true) hP (by omega) ⟨fun _ i hi => hb i (by omega), fun _ => rfl⟩
          refine CS.leR hA a2 (.bl true) [] rfl rfl rfl ?_ ?_ ?_ ?_
          · (try cbv) <;> (repeat' (first | exact trivial | exact rfl | apply And.intro | exact fun _ => rfl | (intro _ hle; first | refine chunk_le hA rfl hle rfl ?_ | refine cat_le hA ?_ | refine upd_le hA ?_ | (try cbv))))
            all_goals exact jjO
          iterate 2 exact jjL
          cbv
          refine ⟨jjO, hR _ _ _ _ ⟨x + 1, n, (L1, c1), 3, [], rfl, rfl, ?_, ⟨by omega, by omega, by rw [show fin - (x + 1) = k by omega]; exact hw, hc1, fun i h1 h2 => hV1 i (by omega) h2⟩, (by show fin - (x + 1) < fin - x; omega)⟩⟩
          clear hR
          (try cbv) <;> (repeat' (first | exact trivial | exact rfl | apply And.intro | exact fun _ => rfl | (intro _ hle; first | refine chunk_le hA rfl hle rfl ?_ | refine cat_le hA ?_ | refine upd_le hA ?_ | refine int_le ?_ | skip)))
          all_goals exact jjO
        · rw [wipeP_full hoff hb] at hw
          obtain ⟨z, hz⟩ : ∃ z : Nat → Int, z = fun _ => 0 := ⟨_, rfl⟩
          obtain ⟨L2, hL2⟩ : ∃ L2 : Int → Option (Nat → Int), L2 = fun i => if i = (x : Int) then some (fun _ => 0) else L1 i := ⟨_, rfl⟩
          obtain ⟨c2, hc2⟩ : ∃ c2 : Int, c2 = if ar then c1 - 1 else c1 := ⟨_, rfl⟩
          rw [← hL2, ← hc2] at hw
          have hc2r : 0 ≤ c2 ∧ c2 ≤ 9223372036854775807 := by
            rw [hc2]
            by_cases q : ar = true
            · rw [if_pos q]; have : c1 ≠ 0 := fun e => hoff ⟨q, e⟩; omega
            · rw [if_neg q]; exact hc1
          have a2 := blank_fn (P := P) (G := G) (n := m64) (f := V x) (r := false) hP (by omega) ⟨fun q => (by cases q), fun q => absurd (fun i hi => q i (by omega)) hb⟩
          have a3 := write_ok (P := P) (G := G) (S := S) (f := z) (L := L1) (L' := L2) hP hoff hN hs (show x < s by omega) h64 (fun k => by rw [hL2, hz]) hc2 hc1
          have hV2 : ∀ i, x + 1 ≤ i → i < s → V i = secV S L2 i := fun i h1 h2 => by rw [hL2, secV_upd (by omega)]; exact hV1 i (by omega) h2
          have hz0 : ∀ i, z i = 0 := fun i => by rw [hz]
          clear hL2 hz hc2
          refine CS.leR hA a2 (.bl false) [] rfl rfl rfl ?_ ?_ ?_ ?_
          · (try cbv) <;> (repeat' (first | exact trivial | exact rfl | apply And.intro | exact fun _ => rfl | (intro _ hle; first | refine chunk_le hA rfl hle rfl ?_ | refine cat_le hA ?_ | refine upd_le hA ?_ | (try cbv))))
            all_goals exact jjO
          iterate 2 exact jjL
          cbv
          refine ⟨⟨?_, ?_, ?_, ?_⟩, ?_⟩
          iterate 4 exact jjO
          refine CS.frzA hA jjF ?_
          cbv
          refine CS.le hA a3 [(0, 0), (1, 1), (2, 2)] rfl rfl rfl ?_ ?_ ?_
          · (try cbv) <;> (repeat' (first | exact trivial | exact rfl | apply And.intro | exact fun _ => rfl | (intro _ hle; first | refine chunk_le hA rfl hle rfl ?_ | refine cat_le hA ?_ | refine upd_le hA ?_ | refine int_le ?_ | skip)))
            all_goals first | exact (hz0 _).symm | exact jjO
          · exact jjL
          cbv
          refine ⟨?_, ?_, hR _ _ _ _ ⟨x + 1, n + 1, (L2, c2), 3, [], rfl, rfl, ?_, ⟨by omega, by omega, by rw [show fin - (x + 1) = k by omega]; exact hw, hc2r, hV2⟩, (by show fin - (x + 1) < fin - x; omega)⟩⟩
          iterate 2 exact jjO
          clear hR
          (try cbv) <;> (repeat' (first | exact trivial | exact rfl | apply And.intro | exact fun _ => rfl | (intro _ hle; first | refine chunk_le hA rfl hle rfl ?_ | refine cat_le hA ?_ | refine upd_le hA ?_ | refine int_le ?_ | skip)))
          all_goals exact jjO
    · have hxf' : ¬ x < fin := by clear hK1 hK0 hw hV hV1 hR hR0; subst hA; simpa [Ar.real] using h1
      rw [show fin - x = 0 by omega] at hw
      obtain ⟨rfl, rfl, rfl⟩ : some n = on ∧ L1 = L' ∧ c1 = ca' := by cases hw; exact ⟨rfl, rfl, rfl⟩
      clear hR hK0
      cbv
      refine Fin.le hA 3 [] (.tup [.int .i64 (n : Int), .lit .i64 0]) (DH N S L1 ar c1) 3 rfl rfl rfl ?_ ?_ (hK1 n rfl)
      iterate 2 exact jjL
end Go.Proofs.YtnjjgipblimbfaaDoor.Dsk
namespace Go.DskLaw
open Go.Eng
structure FlInv (N : Nat) (S : Nat → Int) (L : Int → Option (Nat → Int)) (es : Array MapEntry) (seen : Array Nat) (Sc : Nat → Int) : Prop where
  done : ∀ e ∈ es.toList, e.born ∈ seen → ∀ x, x < N → e.key = .int .i64 ((x / 64 : Nat) : Int) → Sc x = secV S L (x / 64) (x % 64)
  left : ∀ x, x < N → (∀ e ∈ es.toList, e.born ∈ seen → e.key ≠ .int .i64 ((x / 64 : Nat) : Int)) → Sc x = S x
variable {N c : Nat} {S Sc Sc' : Nat → Int} {L : Int → Option (Nat → Int)} {es : Array MapEntry} {seen : Array Nat} {e : MapEntry}
theorem FlInv.start : FlInv N S L es #[] S := ⟨fun e _ h => by simp at h, fun _ _ _ => rfl⟩
theorem secV_none {i : Nat} (h : L (i : Int) = none) : secV S L i = fun x => S (64 * i + x) := by unfold secV; rw [h]
theorem secV_some {i : Nat} {g : Nat → Int} (h : L (i : Int) = some g) : secV S L i = g := by unfold secV; rw [h]
theorem FlInv.fin (h : FlInv N S L es seen Sc) (hm : MapIs 64 es c L) (h0 : (leftOf es seen).size = 0) : ∀ x, x < N → Sc x = secV S L (x / 64) (x % 64) := by
  intro x hx
  have hall : ∀ e ∈ es.toList, e.born ∈ seen := by
    intro e he
    have : leftOf es seen = #[] := Array.eq_empty_of_size_eq_zero h0
    unfold leftOf at this
    rw [Array.filter_eq_empty_iff] at this
    have := this e (by simpa using he)
    simpa using this
  cases hL : L ((x / 64 : Nat) : Int) with
  | some g =>
    obtain ⟨e, he, hk⟩ := hm.all _ _ hL
    exact h.done e he (hall e he) x hx hk
  | none =>
    rw [secV_none hL]
    simp only []
    rw [show 64 * (x / 64) + x % 64 = x by omega]
    refine h.left x hx fun e he _ hk => ?_
    obtain ⟨k', g', q1, q2, _⟩ := hm.ent e he
    rw [hk] at q1
    cases q1
    rw [hL] at q2; cases q2
theorem FlInv.step {k : Nat} {g : Nat → Int} (h : FlInv N S L es seen Sc) (hm : MapIs 64 es c L) (he : e ∈ es.toList) (hk : e.key = .int .i64 (k : Int)) (hL : L (k : Int) = some g) (hS : ∀ x, x < N → Sc' x = if 64 * k ≤ x ∧ x < 64 * k + 64 then g (x - 64 * k) else Sc x) :
    FlInv N S L es (seen.push e.born) Sc' where
  done := fun e' he' hb x hx hk' => by
    rw [hS x hx]
    by_cases q : x / 64 = k
    · rw [if_pos (by omega), q, secV_some hL, show x - 64 * k = x % 64 by omega]
    · rw [if_neg (by omega)]
      refine h.done e' he' ?_ x hx hk'
      rcases Array.mem_push.1 hb with hb | hb
      · exact hb
      · exfalso
        obtain ⟨i, hi⟩ := List.getElem?_of_mem he
        obtain ⟨j, hj⟩ := List.getElem?_of_mem he'
        have h1 : (es.toList.map (·.born))[i]? = some e.born := by rw [List.getElem?_map, hi]; rfl
        have h2 : (es.toList.map (·.born))[j]? = some e.born := by rw [List.getElem?_map, hj, ← hb]; rfl
        have hl : i < (es.toList.map (·.born)).length := by
          rcases Nat.lt_or_ge i (es.toList.map (·.born)).length with hl | hl
          · exact hl
          · rw [List.getElem?_eq_none hl] at h1; cases h1
        have hij := (List.getElem?_inj hl hm.born).1 (h1.trans h2.symm)
        subst hij
        rw [hi] at hj; cases hj
        rw [hk] at hk'; cases hk'
        omega
  left := fun x hx hn => by
    rw [hS x hx, if_neg]
    · exact h.left x hx fun e' he' hb => hn e' he' (Array.mem_push.2 (.inl hb))
    · intro q
      refine hn e he (Array.mem_push.2 (.inr rfl)) ?_
      rw [hk]
      congr 1
      omega
theorem left_mem (h : e ∈ (leftOf es seen).toList) : e ∈ es.toList ∧ e.born ∉ seen := by
  unfold leftOf at h
  simp at h
  simpa using h
theorem left_less (h : e ∈ (leftOf es seen).toList) : (leftOf es (seen.push e.born)).size < (leftOf es seen).size := left_shrinks es seen e h
end Go.DskLaw
namespace Go.Proofs.YtnjjgipblimbfaaDoor.Dsk
open Go.Eng
open Go.DskLaw (q64 secV FlInv FlInv.start FlInv.fin FlInv.step left_mem left_less)
set_option maxRecDepth 100000
set_option maxHeartbeats 4000000
abbrev DN (N : Nat) (S : Nat → Int) (mb : Nat) (o : Obj) (ar : Bool) (ca : Int) : Hl :=
  [(0, .cells 87 [.sl 1 1 (.l 0) (.s N), .mp 2, .bs ar, .int .i64 ca]), (1, .row 5 1 (.s N) (fun e => [.int .u8 (S e.val)])), (2, .num mb o)]
theorem at_num {P : Program} {G : Gl} (hP : P = Tryd.prog) {N s i o mb : Nat} {ob : Obj} {S : Nat → Int} {ar : Bool} {ca : Int} (hN : N = 64 * s) (hs : s ≤ 4096) (hi : i < s) (ho : o = 64 * i) :
    FnTr P G 66 [.ptr 0 0, .int .i64 (i : Int)] (DN N S mb ob ar ca) 3 (Gives (.sl 1 1 (.s o) (.l 64)) (DN N S mb ob ar ca) 3) := by
  have hT : T.Ok P := hP ▸ T_ok
  refine jjI Tryd.f66 hT ?_
  generalize hA : Ar.real = A
  generalize hK : Gives _ _ _ = K
  cbv
  refine ⟨?_, ?_, ?_, ⟨?_, ?_, ?_, ?_⟩, ?_⟩
  iterate 7 exact jjO
  refine Fin.le hA 3 [] (.sl 1 1 (.s o) (.l 64)) (DN N S mb ob ar ca) 3 rfl rfl rfl ?_ ?_ jjK
  · (try cbv) <;> (repeat' (first | exact trivial | exact rfl | apply And.intro | exact fun _ => rfl | (intro _ hle; first | refine chunk_le hA rfl hle rfl ?_ | refine cat_le hA ?_ | refine upd_le hA ?_ | (try cbv))))
    all_goals exact jjO
  · exact jjL
theorem flush_off {P : Program} {G : Gl} (hP : P = Tryd.prog) {N : Nat} {S : Nat → Int} {L : Int → Option (Nat → Int)} {ar : Bool} {ca : Int} (h : ar = true ∧ ca = 0) :
    FnTr P G 31 [.ptr 0 0] (DH N S L ar ca) 3 (Gives (.lit .i64 6) (DH N S L ar ca) 3) := by
  have c1 := asked_off (P := P) (G := G) (N := N) (S := S) (L := L) (ar := ar) (i := 0) (ca := ca) hP h
  have hT : T.Ok P := hP ▸ T_ok
  refine jjI Tryd.f31 hT ?_
  generalize hA : Ar.real = A
  generalize hK : Gives _ _ _ = K
  cbv
  refine jjS hA (c1) [(0, 0), (1, 1), (2, 2)] ?_
  cbv
  refine Fin.le hA 3 [] (.lit .i64 6) (DH N S L ar ca) 3 rfl rfl rfl ?_ ?_ jjK
  iterate 2 exact jjL
theorem flush_ok {P : Program} {G : Gl} (hP : P = Tryd.prog) {N s : Nat} {S S' : Nat → Int} {L L' : Int → Option (Nat → Int)} {ar : Bool} {ca ca' : Int} (h : ¬ (ar = true ∧ ca = 0)) (hN : N = 64 * s) (hs : 1 ≤ s ∧ s ≤ 4096) (hc : ca' = if ar then ca - 1 else ca) (hca : 0 ≤ ca ∧ ca ≤ 9223372036854775807)
    (hk : ∀ k g, L k = some g → 0 ≤ k ∧ k < (s : Int)) (hS : ∀ x, x < N → S' x = secV S L (x / 64) (x % 64)) (hL : ∀ k, L' k = none) :
    FnTr P G 31 [.ptr 0 0] (DH N S L ar ca) 3 (Gives (.lit .i64 0) (DH N S' L' ar ca') 3) := by
  have c1 := asked_ok (P := P) (G := G) (S := S) (L := L) (ar := ar) (ca := ca) (i := 0) hP h hN hs.2 (by omega)
  have hM : MapTy P _ 64 := hP ▸ map_ty
  have hAr : ArrTy P _ 64 := hP ▸ arr_ty
  have hSl : SlTy P _ := hP ▸ sl_ty
  have hT : T.Ok P := hP ▸ T_ok
  refine jjI Tryd.f31 hT ?_
  generalize hA : Ar.real = A
  generalize hK : Gives _ _ _ = K
  cbv
  refine jjS hA (c1) [(0, 0), (1, 1), (2, 2)] ?_
  cbv
  refine OS.range (sz := 64) hM rfl rfl rfl ?_
  intro mb es c hmap
  cbv
  have c2 := done_fn (P := P) (G := G) (N := N) (S := S') (L := L') (ar := ar) hP hc hca
  refine LS.leU hT hA 16 (fun _ => []) [] (fun (Z : Array Nat × (Nat → Int)) => [(1, .row 5 1 (.s N) (fun e => [.int .u8 (Z.2 e.val)])), (15, .obj (.mapIter (some mb) c Z.1 c))]) (fun Z => FlInv N S L es Z.1 Z.2) (fun Z => (leftOf es Z.1).size) (#[], S) [] rfl rfl ?_ ?_ ?_
  · (try cbv) <;> (repeat' (first | exact trivial | exact rfl | apply And.intro | exact fun _ => rfl | (intro _ hle; first | refine chunk_le hA rfl hle rfl ?_ | refine cat_le hA ?_ | refine upd_le hA ?_ | refine int_le ?_ | skip)))
  · exact FlInv.start
  · intro R hR Z hZ
    obtain ⟨seen, Sc⟩ := Z
    cbv
    refine OS.next (sz := 64) (i := 2) hmap rfl rfl rfl rfl (fun h0 => ?_) (fun e he seen' hse => ?_)
    · have hSc : ∀ x, x < N → Sc x = S' x := fun x hx => (hZ.fin hmap h0 x hx).trans (hS x hx).symm
      clear hR hZ hS
      have hp2 : ∀ e, ltNV A e (.s N) → leL (leSV A 4) [.int .u8 (Sc e.val)] [.int .u8 (S' e.val)] := fun e he => by
        refine int_le ?_
        exact hSc _ (by subst hA; exact ltNV_real.1 he)
      cbv
      refine OS.did (clear_did (sz := 64) hM rfl rfl rfl rfl trivial) ?_
      cbv
      refine CS.le hA c2 [(0, 0), (1, 1), (2, 2)] rfl rfl rfl ?_ ?_ ?_
      · exact jjL
      · (try cbv) <;> (repeat' (first | exact trivial | exact rfl | apply And.intro | exact fun _ => rfl | (intro _ hle; first | exact hp2 _ hle | refine chunk_le hA rfl hle rfl ?_ | refine cat_le hA ?_ | refine upd_le hA ?_ | refine int_le ?_ | skip)))
        exact fun k => (hL k).symm
      cbv
      refine Fin.le hA 3 [] (.lit .i64 0) (DH N S' L' ar ca') 3 rfl rfl rfl ?_ ?_ jjK
      iterate 2 exact jjL
    · obtain ⟨hes, hnew⟩ := left_mem he
      obtain ⟨k, g, hke, hLk, hval⟩ := hmap.ent e hes
      obtain ⟨q, rfl⟩ : ∃ q : Nat, k = (q : Int) := ⟨k.toNat, by have := hk k g hLk; omega⟩
      have hq : q < s := by have := hk _ g hLk; simp only [zn] at this; omega
      obtain ⟨o, ho⟩ : ∃ o, o = 64 * q := ⟨_, rfl⟩
      obtain ⟨Sc', hSc'⟩ : ∃ Sc' : Nat → Int, Sc' = fun x => if o ≤ x ∧ x < o + 64 then g (x - o) else Sc x := ⟨_, rfl⟩
      have hSe : ∀ x, Sc' x = if o ≤ x ∧ x < o + 64 then g (x - o) else Sc x := fun x => by rw [hSc']
      have hZ' : FlInv N S L es (seen.push e.born) Sc' := hZ.step hmap hes hke hLk (fun x _ => by rw [hSe, ho])
      rw [← hse] at hZ'
      have hls : (leftOf es seen').size < (leftOf es seen).size := by rw [hse]; exact left_less he
      have a1 := at_num (P := P) (G := G) (mb := mb) (ob := .map es c) (S := Sc) (ar := ar) (ca := ca) hP hN hs.2 hq ho
      clear hZ hSc'
      cbv
      refine OS.did (entry_did (i := 2) hmap hse rfl rfl rfl rfl hes hke hval) ?_
      cbv
      refine jjR hA hT 4 ?_
      cbv
      refine jjP hA (a1) [(0, 0), (1, 1), (2, 2)] ?_
      cbv
      refine OD.did [20] rfl (sliceArr_did (g := g) (.l 64) hAr rfl rfl rfl rfl rfl) rfl ?_
      cbv
      refine OD.did [1] rfl (copy_did (S := Sc) (S' := Sc') hSl rfl rfl rfl rfl (Ints.base .u8 Sc N) rfl (Ints.base .u8 g 64) (show o + 64 ≤ N by omega) (fun i hi => by rw [hSe]; rfl)) rfl ?_
      cbv
      refine jjD ?_
      cbv
      refine hR _ _ ⟨(seen', Sc'), 16, [], rfl, rfl, ?_, hZ', hls⟩
      clear hR
      (try cbv) <;> (repeat' (first | exact trivial | exact rfl | apply And.intro | exact fun _ => rfl | (intro _ hle; first | refine chunk_le hA rfl hle rfl ?_ | refine cat_le hA ?_ | refine upd_le hA ?_ | refine int_le ?_ | skip)))
      all_goals exact jjO
open Go.DskLaw (q64 secV clampB crash1 crashP crashP_keys)
theorem crash_fn {P : Program} {G : Gl} (hP : P = Tryd.prog) {N s n : Nat} {S S' : Nat → Int} {L L' : Int → Option (Nat → Int)} {ar : Bool} {ca : Int} {ks kb : Nat → Int} (hN : N = 64 * s) (hs : s ≤ 4096) (hn : n ≤ 1000000)
    (hk : ∀ k g, L k = some g → 0 ≤ k ∧ k < (s : Int)) (hS : ∀ x, x < N → S' x = (crashP S L ks kb n).1 x) (hL : ∀ k, L' k = none) :
    FnTr P G 40 [.ptr 0 0, .ro 2 (.s n) (fun e => [.int .i64 (ks e.val), .int .i64 (kb e.val)])] (DH N S L ar ca) 3 (Gives (.tup []) (DH N S' L' false 0) 3) := by
  have hM : MapTy P _ 64 := hP ▸ map_ty
  have hAr : ArrTy P _ 64 := hP ▸ arr_ty
  have hSl : SlTy P _ := hP ▸ sl_ty
  obtain ⟨Si, hSi⟩ : ∃ Si : Nat → Nat → Int, Si = fun (i : Nat) => (crashP S L ks kb i).1 := ⟨_, rfl⟩
  obtain ⟨Li, hLi⟩ : ∃ Li : Nat → Int → Option (Nat → Int), Li = fun (i : Nat) => (crashP S L ks kb i).2 := ⟨_, rfl⟩
  have h1 : ∀ i, Li i (ks i) = none → Si (i + 1) = Si i ∧ Li (i + 1) = Li i := fun i h => by
    rw [hSi, hLi]; rw [hLi] at h
    show (crash1 _ _ _ _).1 = _ ∧ (crash1 _ _ _ _).2 = _
    unfold crash1
    simp only [] at h
    rw [h]
    exact ⟨rfl, rfl⟩
  have h2 : ∀ i g, Li i (ks i) = some g → (∀ x, Si (i + 1) x = if 64 * (ks i).toNat ≤ x ∧ x < 64 * (ks i).toNat + clampB (kb i) then g (x - 64 * (ks i).toNat) else Si i x) ∧ (∀ k, Li (i + 1) k = if k = ks i then none else Li i k) := fun i g h => by
    rw [hSi, hLi]; rw [hLi] at h
    show (∀ x, (crash1 _ _ _ _).1 x = _) ∧ ∀ k, (crash1 _ _ _ _).2 k = _
    unfold crash1
    simp only [] at h
    rw [h]
    exact ⟨fun _ => rfl, fun _ => rfl⟩
  have hkey : ∀ i g, Li i (ks i) = some g → 0 ≤ ks i ∧ ks i < (s : Int) := fun i g h => by rw [hLi] at h; exact crashP_keys hk i _ _ h
  have hS0 : ∀ x, S x = Si 0 x := fun x => by rw [hSi]; rfl
  have hL0 : ∀ k, L k = Li 0 k := fun k => by rw [hLi]; rfl
  have hSn : ∀ x, x < N → Si n x = S' x := fun x hx => by rw [hS x hx, hSi]
  clear hSi hLi hS hk
  have hT : T.Ok P := hP ▸ T_ok
  refine jjI Tryd.f40 hT ?_
  generalize hA : Ar.real = A
  generalize hK : Gives _ _ _ = K
  cbv
  refine LS.leU hT hA 3 (fun (i : Nat) => [(12, .int .i64 (i : Int))]) [] (fun i => [(1, .row 5 1 (.s N) (fun e => [.int .u8 (Si i e.val)])), (2, .wm 64 (Li i))]) (fun i => i ≤ n) (fun i => n - i) 0 [] rfl rfl ?_ ?_ ?_
  · (try cbv) <;> (repeat' (first | exact trivial | exact rfl | apply And.intro | exact fun _ => rfl | (intro _ hle; first | refine chunk_le hA rfl hle rfl ?_ | refine cat_le hA ?_ | refine upd_le hA ?_ | (try cbv))))
    all_goals first | exact hS0 _ | exact hL0
  · exact Nat.zero_le _
  · intro R hR i hi
    cbv
    refine ⟨fun h3 => ?_, fun h3 => ?_⟩
    · have him : i < n := by clear h1 h2 hkey hR; subst hA; simpa [Ar.real] using h3
      cbv
      refine ⟨jjO, ?_⟩
      have kn : A.nat (Int.ofNat i) = i := by subst hA; rfl
      cases hlk : Li i (ks i) with
      | none =>
        obtain ⟨e1, e2⟩ := h1 i hlk
        clear h1 h2 hkey
        refine jjR hA hT 1 ?_
        cbv
        refine OD.did [2] rfl (lookup_did (k := ks (A.nat (Int.ofNat i))) hM rfl rfl rfl rfl false (fun _ => 0) (.inr ⟨rfl, by rw [kn]; exact hlk, rfl⟩)) rfl ?_
        cbv
        refine jjD ?_
        cbv
        refine ⟨jjO, hR _ _ ⟨i + 1, 3, [], rfl, rfl, ?_, him, (by show n - (i + 1) < n - i; omega)⟩⟩
        clear hR
        (try cbv) <;> (repeat' (first | exact trivial | exact rfl | apply And.intro | exact fun _ => rfl | (intro _ hle; first | refine chunk_le hA rfl hle rfl ?_ | refine cat_le hA ?_ | refine upd_le hA ?_ | refine int_le ?_ | skip)))
        all_goals first | exact congrFun e1.symm _ | exact fun k => congrFun e2.symm k | exact jjO
      | some g =>
        obtain ⟨e1, e2⟩ := h2 i g hlk
        obtain ⟨q, hq⟩ : ∃ q : Nat, ks i = (q : Int) := ⟨(ks i).toNat, by have := hkey i g hlk; omega⟩
        have hqs : q < s := by have := hkey i g hlk; simp only [zn] at *; omega
        obtain ⟨o, ho⟩ : ∃ o, o = 64 * q := ⟨_, rfl⟩
        obtain ⟨m, hm⟩ : ∃ m, m = clampB (kb i) := ⟨_, rfl⟩
        have hm64 : m ≤ 64 := by rw [hm]; unfold clampB; omega
        have hmv : (if (if (0 : Int) > kb i then 0 else kb i) > 64 then 64 else (if (0 : Int) > kb i then 0 else kb i)) = (m : Int) := by
          rw [hm]; unfold clampB; split <;> split <;> omega
        have a1 := at_fn (P := P) (G := G) (S := Si i) (L := Li i) (ar := ar) (ca := ca) hP hN hs hqs ho
        rw [hq] at e1
        rw [← hm, show ((q : Int)).toNat = q from rfl, ← ho] at e1
        clear h1 h2 hkey
        refine jjR hA hT 1 ?_
        cbv
        refine OD.did [2] rfl (lookup_did (k := ks (A.nat (Int.ofNat i))) hM rfl rfl rfl rfl true g (.inl ⟨rfl, by rw [kn]; exact hlk⟩)) rfl ?_
        cbv
        refine jjD ?_
        cbv
        refine jjR hA hT 4 ?_
        cbv
        refine jjP hA (a1) [(0, 0), (1, 1), (2, 2)] ?_
        cbv
        have hN64 : A.min (A.max (kb (NV.s (A.nat (Int.ofNat i))).val) 0) 64 = (m : Int) ∧ m ≤ 64 := ⟨by subst hA; exact hmv, hm64⟩
        refine OD.did [18] rfl (sliceArr_did (g := g) (.s m) hAr rfl rfl rfl rfl hN64) rfl ?_
        cbv
        refine OD.did [1] rfl (copy_did (S := Si i) (S' := Si (i + 1)) hSl rfl rfl rfl rfl (Ints.base .u8 (Si i) N) rfl (Ints.base .u8 g m) (show o + 64 ≤ N by omega) (fun x hx => by rw [e1 x]; show _ = if o ≤ x ∧ x < o + min m 64 then _ else _; rw [Nat.min_eq_left hm64]; rfl)) rfl ?_
        cbv
        refine jjD ?_
        cbv
        refine jjR hA hT 1 ?_
        cbv
        refine OD.did [2] rfl (delete_did hM rfl rfl rfl rfl rfl) rfl ?_
        cbv
        refine jjD ?_
        cbv
        refine ⟨jjO, hR _ _ ⟨i + 1, 3, [], rfl, rfl, ?_, him, (by show n - (i + 1) < n - i; omega)⟩⟩
        clear hR
        (try cbv) <;> (repeat' (first | exact trivial | exact rfl | apply And.intro | exact fun _ => rfl | (intro _ hle; first | refine chunk_le hA rfl hle rfl ?_ | refine cat_le hA ?_ | refine upd_le hA ?_ | refine int_le ?_ | skip)))
        all_goals first | (intro k; rw [e2 k]; show updL (Li i) (ks (A.nat (Int.ofNat i))) none k = _; rw [kn]; rfl) | exact jjO
    · have him : i = n := by clear h1 h2 hkey hR; subst hA; simp [Ar.real] at h3; omega
      subst him
      clear h1 h2 hkey hR
      cbv
      refine OS.did (clear_did (sz := 64) hM rfl rfl rfl rfl rfl) ?_
      cbv
      have hp2 : ∀ e, ltNV A e (.s N) → leL (leSV A 4) [.int .u8 (Si i e.val)] [.int .u8 (S' e.val)] := fun e he => by
        refine int_le ?_
        exact hSn _ (by subst hA; exact ltNV_real.1 he)
      refine Fin.le hA 3 [] (.tup []) (DH N S' L' false 0) 3 rfl rfl rfl ?_ ?_ jjK
      · exact jjL
      · (try cbv) <;> (repeat' (first | exact trivial | exact rfl | apply And.intro | exact fun _ => rfl | (intro _ hle; first | exact hp2 _ hle | refine chunk_le hA rfl hle rfl ?_ | refine cat_le hA ?_ | refine upd_le hA ?_ | refine int_le ?_ | skip)))
        exact fun k => (hL k).symm
end Go.Proofs.YtnjjgipblimbfaaDoor.Dsk
namespace Go.DskLaw
theorem pcs_lt {n : Nat} {f : Nat → Int} {j x : Nat} (h : x < 62) : pcs n f j x = if 62 * j + x < n then f (62 * j + x) else 0 := by unfold pcs; rw [if_pos h]
theorem pcs_62 (n : Nat) (f : Nat → Int) (j : Nat) : pcs n f j 62 = ((min (n - 62 * j) 62 : Nat) : Int) := rfl
theorem pcs_63 (n : Nat) (f : Nat → Int) (j : Nat) : pcs n f j 63 = if n - 62 * j > 62 then 1 else 2 := rfl
theorem isB_pcs {n : Nat} {f : Nat → Int} (hf : ∀ x, x < n → 0 ≤ f x ∧ f x ≤ 255) (j : Nat) : isB (pcs n f j) := by
  intro x hx
  unfold pcs
  split
  · split
    · exact hf _ (by assumption)
    · omega
  · split
    · omega
    · split
      · split <;> omega
      · omega
theorem padOk_congr {v w : Nat → Int} (h : ∀ x, x < 64 → v x = w x) : padOk v ↔ padOk w := by
  unfold padOk
  rw [h 62 (by omega)]
  constructor
  · rintro ⟨h1, h2⟩
    exact ⟨h1, fun x a b => by rw [← h x (by omega)]; exact h2 x a b⟩
  · rintro ⟨h1, h2⟩
    exact ⟨h1, fun x a b => by rw [h x (by omega)]; exact h2 x a b⟩
theorem usedP_congr {v w : Nat → Int} (h : ∀ x, x < 64 → v x = w x) : usedP v = usedP w := by
  have h1 := padOk_congr h
  have h2 := h 62 (by omega)
  have h3 := h 63 (by omega)
  unfold usedP
  rw [h2, h3]
  by_cases q : padOk v
  · rw [if_pos q, if_pos (h1.1 q)]
  · rw [if_neg q, if_neg (fun e => q (h1.2 e))]
theorem usedP_pcs_on {n : Nat} {f : Nat → Int} {j : Nat} (h : 62 * j + 62 < n) : usedP (pcs n f j) = some (62, true) := by
  have e : pcs n f j 62 = 62 := by rw [pcs_62]; omega
  refine usedP_on ⟨by rw [e]; omega, fun x h1 h2 => ?_⟩ (by rw [pcs_63, if_pos (by omega)]) (by rw [e]; rfl)
  rw [e] at h1; omega
theorem usedP_pcs_end {n : Nat} {f : Nat → Int} {j : Nat} (h : n ≤ 62 * j + 62) : usedP (pcs n f j) = some (n - 62 * j, false) := by
  have e : pcs n f j 62 = ((n - 62 * j : Nat) : Int) := by rw [pcs_62]; omega
  rw [usedP_end ⟨by rw [e]; omega, fun x h1 h2 => ?_⟩ (by rw [pcs_63, if_neg (by omega)]; decide) (by rw [pcs_63, if_neg (by omega)]), e]
  · rfl
  · rw [pcs_lt h2, if_neg]
    rw [e] at h1; omega
theorem getP_whole {V : Nat → Nat → Int} {first fin n : Nat} {r : Nat → Int} (hfin : first + needN n ≤ fin) (hn : n ≤ 65536) (hV : ∀ j, j < needN n → ∀ x, x < 64 → V (first + j) x = pcs n r j x) :
    ∀ (k j : Nat) (f : Nat → Int), k + j + 1 = needN n → (∀ i, i < 62 * j → i < n → f i = r i) → ∃ f', getP V first fin (fin - (first + j)) (first + j) (62 * j) f = some (n, f', first + needN n) ∧ ∀ i, i < n → f' i = r i := by
  intro k
  induction k with
  | zero =>
    intro j f hk hf
    have hm : n ≤ 62 * j + 62 ∧ (j = 0 ∨ 62 * j < n) := by unfold needN at hk; omega
    have hu : usedP (V (first + j)) = some (n - 62 * j, false) := (usedP_congr (hV j (by omega))).trans (usedP_pcs_end hm.1)
    have e1 : 62 * j + (n - 62 * j) = n := by omega
    refine ⟨_, by rw [getP_end (by omega) hu (by omega) (by omega), e1]; rw [show first + j + 1 = first + needN n by omega], fun i hi => ?_⟩
    by_cases q : i < 62 * j
    · simp only [q, if_true]
      exact hf i q hi
    · simp only [q, if_false]
      rw [hV j (by omega) _ (by omega), pcs_lt (by omega), if_pos (by omega)]
      congr 1; omega
  | succ k ih =>
    intro j f hk hf
    have hm : 62 * j + 62 < n := by unfold needN at hk; omega
    have hu : usedP (V (first + j)) = some (62, true) := (usedP_congr (hV j (by omega))).trans (usedP_pcs_on hm)
    rw [getP_on (by omega) hu (by omega)]
    obtain ⟨f', h1, h2⟩ := ih (j + 1) (fun i => if i < 62 * j then f i else V (first + j) (i - 62 * j)) (by omega) (fun i h1 h2 => by
      by_cases q : i < 62 * j
      · simp only [q, if_true]
        exact hf i q h2
      · simp only [q, if_false]
        rw [hV j (by omega) _ (by omega), pcs_lt (by omega), if_pos (by omega)]
        congr 1; omega)
    exact ⟨f', h1, h2⟩
def atN (o : Nat) (len : Nat → Nat) : Nat → Nat
  | 0 => o
  | i + 1 => atN o len i + needN (len i)
theorem need1 (n : Nat) : 1 ≤ needN n := by unfold needN; omega
theorem atN_mono {o : Nat} {len : Nat → Nat} {i j : Nat} (h : i ≤ j) : atN o len i ≤ atN o len j := by
  induction j with
  | zero => rw [Nat.le_zero.1 h]; exact Nat.le_refl _
  | succ j ih =>
    rcases Nat.lt_or_ge i (j + 1) with q | q
    · have := ih (by omega)
      show _ ≤ atN o len j + needN (len j)
      omega
    · rw [show i = j + 1 by omega]; exact Nat.le_refl _
theorem le_atN (o : Nat) (len : Nat → Nat) (i : Nat) : o + i ≤ atN o len i := by
  induction i with
  | zero => exact Nat.le_refl _
  | succ i ih => show _ ≤ atN o len i + needN (len i); have := need1 (len i); omega
theorem scan_row {V : Nat → Nat → Int} {o fin c0 : Nat} {len : Nat → Nat} {r : Nat → Nat → Int} (hlen : ∀ i, i < c0 → len i ≤ 65536) (hfin : atN o len c0 ≤ fin) (hV : ∀ i, i < c0 → ∀ j, j < needN (len i) → ∀ x, x < 64 → V (atN o len i + j) x = pcs (len i) (r i) j x)
    (hstop : getP V (atN o len c0) fin (fin - atN o len c0) (atN o len c0) 0 (fun _ => 0) = none) :
    ∀ (q i k : Nat) (g : Nat → Nat × (Nat → Int)), q + i = c0 → fin - atN o len i < k → (∀ u, u < i → (g u).1 = len u ∧ ∀ x, x < len u → (g u).2 x = r u x) → ∃ gs, scanP V fin k (atN o len i) i g = (c0, gs, atN o len c0) ∧ ∀ u, u < c0 → (gs u).1 = len u ∧ ∀ x, x < len u → (gs u).2 x = r u x := by
  intro q
  induction q with
  | zero =>
    intro i k g hq hk hg
    obtain rfl : i = c0 := by omega
    exact ⟨g, scanP_none hstop, hg⟩
  | succ q ih =>
    intro i k g hq hk hg
    have hi : i < c0 := by omega
    have hm : atN o len (i + 1) ≤ atN o len c0 := atN_mono (by omega)
    have e1 : atN o len (i + 1) = atN o len i + needN (len i) := rfl
    have hn1 := need1 (len i)
    obtain ⟨f', h1, h2⟩ := getP_whole (V := V) (first := atN o len i) (fin := fin) (n := len i) (r := r i) (by omega) (hlen i hi) (hV i hi) (needN (len i) - 1) 0 (fun _ => 0) (by omega) (fun u h => by omega)
    obtain ⟨k', rfl⟩ : ∃ k', k = k' + 1 := ⟨k - 1, by omega⟩
    rw [scanP_some h1, ← e1]
    refine ih (i + 1) k' _ (by omega) (by omega) fun u hu => ?_
    by_cases w : u < i
    · simp only [w, if_true]
      exact hg u w
    · obtain rfl : u = i := by omega
      simp only [w, if_false]
      exact ⟨trivial, h2⟩
theorem usedP_zero {v : Nat → Int} (h : v 63 = 0) : usedP v = none := by
  by_cases q : padOk v
  · exact usedP_none3 q (by rw [h]; decide) (by rw [h]; decide)
  · exact usedP_none1 q
theorem getP_zero {V : Nat → Nat → Int} {first fin : Nat} {f : Nat → Int} (h : first < fin → V first 63 = 0) : getP V first fin (fin - first) first 0 f = none := by
  by_cases q : fin ≤ first
  · exact getP_stop q _
  · exact getP_none (by omega) (usedP_zero (h (by omega)))
def pieceAt (o : Nat) (len : Nat → Nat) (r : Nat → Nat → Int) : Nat → Nat → Nat → Int
  | 0, _ => fun _ => 0
  | i + 1, t => if atN o len i ≤ t ∧ t < atN o len (i + 1) then pcs (len i) (r i) (t - atN o len i) else pieceAt o len r i t
def keptB (ks kb : Nat → Int) (t : Int) : Nat → Option Nat
  | 0 => none
  | i + 1 => match keptB ks kb t i with
    | some b => some b
    | none => if ks i = t then some (clampB (kb i)) else none
def secC (S : Nat → Int) (L : Int → Option (Nat → Int)) (ks kb : Nat → Int) (n t : Nat) : Nat → Int := fun x =>
  match L (t : Int) with
  | some g => if x < (keptB ks kb (t : Int) n).getD 0 then g x else S (64 * t + x)
  | none => S (64 * t + x)
theorem clampB_le (b : Int) : clampB b ≤ 64 := by unfold clampB; omega
theorem keptB_le {ks kb : Nat → Int} {t : Int} : ∀ {n b : Nat}, keptB ks kb t n = some b → b ≤ 64 := by
  intro n
  induction n with
  | zero => intro b h; cases h
  | succ n ih =>
    intro b h
    unfold keptB at h
    split at h
    · rename_i q; cases h; exact ih q
    · split at h
      · cases h; exact clampB_le _
      · cases h
theorem crashP_eq {S : Nat → Int} {L : Int → Option (Nat → Int)} {ks kb : Nat → Int} (hk : ∀ k g, L k = some g → 0 ≤ k) : ∀ i, (∀ k, (crashP S L ks kb i).2 k = if (keptB ks kb k i).isSome then none else L k) ∧ ∀ t x, x < 64 → (crashP S L ks kb i).1 (64 * t + x) = secC S L ks kb i t x := by
  intro i
  induction i with
  | zero =>
    refine ⟨fun k => rfl, fun t x hx => ?_⟩
    unfold secC
    show S (64 * t + x) = _
    split
    · rw [if_neg (by show ¬ x < 0; omega)]
    · rfl
  | succ i ih =>
    obtain ⟨ih1, ih2⟩ := ih
    unfold crashP crash1
    cases hL : (crashP S L ks kb i).2 (ks i) with
    | none =>
      simp only []
      rw [ih1] at hL
      refine ⟨fun k => ?_, fun t x hx => ?_⟩
      · rw [ih1 k]
        cases e : keptB ks kb k i with
        | some b => simp [keptB, e]
        | none =>
          by_cases q : ks i = k
          · rw [q, e] at hL
            simp only [Option.isSome_none, Bool.false_eq_true, if_false] at hL
            simp [keptB, e, q, hL]
          · simp [keptB, e, q]
      · rw [ih2 t x hx]
        unfold secC
        cases e2 : L (t : Int) with
        | none => rfl
        | some g =>
          simp only []
          cases e : keptB ks kb (t : Int) i with
          | some b => simp [keptB, e]
          | none =>
            by_cases q : ks i = (t : Int)
            · rw [q, e, e2] at hL; simp at hL
            · simp [keptB, e, q]
    | some g =>
      simp only []
      rw [ih1] at hL
      have hno : keptB ks kb (ks i) i = none := by
        cases e : keptB ks kb (ks i) i with
        | none => rfl
        | some b => rw [e] at hL; simp at hL
      have hLg : L (ks i) = some g := by rw [hno] at hL; simpa using hL
      have hk0 := hk _ _ hLg
      refine ⟨fun k => ?_, fun t x hx => ?_⟩
      · by_cases q : k = ks i
        · rw [if_pos q, q]
          simp [keptB, hno]
        · rw [if_neg q, ih1 k]
          cases e : keptB ks kb k i with
          | some b => simp [keptB, e]
          | none => simp [keptB, e, show ¬ ks i = k from fun h => q h.symm]
      · have hc := clampB_le (kb i)
        by_cases q : (t : Int) = ks i
        · have ht : (ks i).toNat = t := by omega
          unfold secC
          rw [q, hLg]
          simp only []
          have e1 : keptB ks kb (ks i) (i + 1) = some (clampB (kb i)) := by simp [keptB, hno]
          rw [e1, ht]
          show _ = if x < clampB (kb i) then _ else _
          by_cases w : x < clampB (kb i)
          · rw [if_pos ⟨by omega, by omega⟩, if_pos w]; congr 1; omega
          · rw [if_neg (by omega), if_neg w, ih2 t x hx]
            unfold secC
            rw [q, hLg, hno]
            simp only []
            rw [if_neg (by show ¬ x < 0; omega)]
        · rw [if_neg (by omega), ih2 t x hx]
          unfold secC
          cases e2 : L (t : Int) with
          | none => rfl
          | some g' =>
            simp only []
            have : keptB ks kb (t : Int) (i + 1) = keptB ks kb (t : Int) i := by
              cases e : keptB ks kb (t : Int) i with
              | some b => simp [keptB, e]
              | none => simp [keptB, e, show ¬ ks i = (t : Int) from fun h => q h.symm]
            rw [this]
theorem secV_none' {S : Nat → Int} {L : Int → Option (Nat → Int)} {i : Nat} (h : L (i : Int) = none) (x : Nat) : secV S L i x = S (64 * i + x) := by unfold secV; rw [h]
theorem secV_some' {S : Nat → Int} {L : Int → Option (Nat → Int)} {i : Nat} {g : Nat → Int} (h : L (i : Int) = some g) : secV S L i = g := by unfold secV; rw [h]
theorem lives26_facts (g0 : Nat → Nat × (Nat → Int)) : ∃ (z nine : Nat → Int) (L0 L1 L2 L3 : Int → Option (Nat → Int)) (V : Nat → Nat → Int) (gs : Nat → Nat × (Nat → Int)) (f' : Nat → Int),
    (∀ x, z x = 0) ∧ (∀ x, nine x = 9) ∧ (∀ k, L0 k = none) ∧ (∀ i, L1 i = if ((1 : Nat) : Int) ≤ i ∧ i < ((1 : Nat) : Int) + (2 : Nat) then some (pcs 63 z (i - (1 : Nat)).toNat) else L0 i) ∧
    (∀ i, L2 i = if ((3 : Nat) : Int) ≤ i ∧ i < ((3 : Nat) : Int) + (1 : Nat) then some (pcs 1 nine (i - (3 : Nat)).toNat) else L1 i) ∧ (∀ i, i < 6 → V i = secV z L2 i ∧ isB (V i)) ∧
    scanP V 6 (6 - 1 + 1) 1 0 g0 = (2, gs, 4) ∧ getP V 3 6 (6 - 3) 3 0 (fun _ => 0) = some (1, f', 4) ∧ f' 0 = 9 ∧ getP V 4 6 (6 - 4) 4 0 (fun _ => 0) = none ∧ wipeP V false (6 - 0) 0 0 L2 0 = (some 3, L3, 0) := by
  obtain ⟨z, hz⟩ : ∃ z : Nat → Int, ∀ x, z x = 0 := ⟨fun _ => 0, fun _ => rfl⟩
  obtain ⟨nine, h9⟩ : ∃ z : Nat → Int, ∀ x, z x = 9 := ⟨fun _ => 9, fun _ => rfl⟩
  obtain ⟨L0, hL0⟩ : ∃ L0 : Int → Option (Nat → Int), ∀ k, L0 k = none := ⟨fun _ => none, fun _ => rfl⟩
  obtain ⟨L1, hL1⟩ : ∃ L1 : Int → Option (Nat → Int), ∀ i, L1 i = if ((1 : Nat) : Int) ≤ i ∧ i < ((1 : Nat) : Int) + (2 : Nat) then some (pcs 63 z (i - (1 : Nat)).toNat) else L0 i := ⟨_, fun _ => rfl⟩
  obtain ⟨L2, hL2⟩ : ∃ L2 : Int → Option (Nat → Int), ∀ i, L2 i = if ((3 : Nat) : Int) ≤ i ∧ i < ((3 : Nat) : Int) + (1 : Nat) then some (pcs 1 nine (i - (3 : Nat)).toNat) else L1 i := ⟨_, fun _ => rfl⟩
  obtain ⟨V, hV⟩ : ∃ V : Nat → Nat → Int, ∀ i, V i = secV z L2 i := ⟨_, fun _ => rfl⟩
  have v0 : ∀ x, V 0 x = 0 := fun x => by rw [hV, secV_none' (by rw [hL2, if_neg (by decide), hL1, if_neg (by decide), hL0]), hz]
  have v1 : V 1 = pcs 63 z 0 := by rw [hV, secV_some' (by rw [hL2, if_neg (by decide), hL1, if_pos (by decide)])]; rfl
  have v2 : V 2 = pcs 63 z 1 := by rw [hV, secV_some' (by rw [hL2, if_neg (by decide), hL1, if_pos (by decide)])]; rfl
  have v3 : V 3 = pcs 1 nine 0 := by rw [hV, secV_some' (by rw [hL2, if_pos (by decide)])]; rfl
  have v4 : ∀ x, V 4 x = 0 := fun x => by rw [hV, secV_none' (by rw [hL2, if_neg (by decide), hL1, if_neg (by decide), hL0]), hz]
  have v5 : ∀ x, V 5 x = 0 := fun x => by rw [hV, secV_none' (by rw [hL2, if_neg (by decide), hL1, if_neg (by decide), hL0]), hz]
  obtain ⟨len, hlen⟩ : ∃ len : Nat → Nat, len = fun i => if i = 0 then 63 else 1 := ⟨_, rfl⟩
  obtain ⟨r, hr⟩ : ∃ r : Nat → Nat → Int, r = fun i => if i = 0 then z else nine := ⟨_, rfl⟩
  have a0 : atN 1 len 0 = 1 := rfl
  have a1 : atN 1 len 1 = 3 := by rw [hlen]; rfl
  have a2 : atN 1 len 2 = 4 := by rw [hlen]; rfl
  have n0 : needN (len 0) = 2 := by rw [hlen]; rfl
  have n1 : needN (len 1) = 1 := by rw [hlen]; rfl
  have hB0 : isB fun _ => (0 : Int) := fun x _ => ⟨Int.le_refl _, by show (0 : Int) ≤ 255; decide⟩
  obtain ⟨gs, hgs, _⟩ := scan_row (V := V) (o := 1) (fin := 6) (c0 := 2) (len := len) (r := r) (fun i _ => by rw [hlen]; simp only []; split <;> omega) (by rw [a2]; omega)
    (fun i hi j hj x hx => by
      rcases (show i = 0 ∨ i = 1 by omega) with rfl | rfl
      · rw [n0] at hj
        rw [a0]
        rcases (show j = 0 ∨ j = 1 by omega) with rfl | rfl
        · rw [v1, hr, hlen]; rfl
        · rw [v2, hr, hlen]; rfl
      · rw [n1] at hj
        obtain rfl : j = 0 := by omega
        rw [a1, v3, hr, hlen]; rfl)
    (by rw [a2]; exact getP_zero fun _ => v4 63) 2 0 (6 - 1 + 1) g0 rfl (by rw [a0]; decide) (fun u hu => by omega)
  rw [a0, a2] at hgs
  obtain ⟨f', hf', hf9⟩ := getP_whole (V := V) (first := 3) (fin := 6) (n := 1) (r := nine) (by decide) (by omega) (fun j hj x hx => by
    obtain rfl : j = 0 := by have : needN 1 = 1 := rfl; omega
    rw [v3]) 0 0 (fun _ => 0) rfl (fun i h => by omega)
  refine ⟨z, nine, L0, L1, L2, (wipeP V false 6 0 0 L2 0).2.1, V, gs, f', hz, h9, hL0, hL1, hL2, fun i hi => ⟨hV i, ?_⟩, hgs, hf', (hf9 0 (by omega)).trans (h9 0), getP_zero fun _ => v4 63, ?_⟩
  · rcases (show i = 0 ∨ i = 1 ∨ i = 2 ∨ i = 3 ∨ i = 4 ∨ i = 5 by omega) with rfl | rfl | rfl | rfl | rfl | rfl
    · rw [show V 0 = fun _ => 0 from funext v0]; exact hB0
    · rw [v1]; exact isB_pcs (fun x _ => by rw [hz]; decide) _
    · rw [v2]; exact isB_pcs (fun x _ => by rw [hz]; decide) _
    · rw [v3]; exact isB_pcs (fun x _ => by rw [h9]; decide) _
    · rw [show V 4 = fun _ => 0 from funext v4]; exact hB0
    · rw [show V 5 = fun _ => 0 from funext v5]; exact hB0
  · have off : ¬ (false = true ∧ (0 : Int) = 0) := fun h => by cases h.1
    have e : ∃ L3, wipeP V false 6 0 0 L2 0 = (some 3, L3, 0) := by
      rw [wipeP_blank off (fun i _ => v0 i), wipeP_full off (fun h => by have := h 62 (by omega); rw [v1] at this; rw [pcs_62] at this; revert this; decide)]
      rw [show (if false = true then (0 : Int) - 1 else 0) = 0 from rfl]
      rw [wipeP_full off (fun h => by have := h 62 (by omega); rw [v2] at this; rw [pcs_62] at this; revert this; decide)]
      rw [show (if false = true then (0 : Int) - 1 else 0) = 0 from rfl]
      rw [wipeP_full off (fun h => by have := h 62 (by omega); rw [v3] at this; rw [pcs_62] at this; revert this; decide)]
      rw [show (if false = true then (0 : Int) - 1 else 0) = 0 from rfl]
      rw [wipeP_blank off (fun i _ => v4 i), wipeP_blank off (fun i _ => v5 i)]
      exact ⟨_, rfl⟩
    obtain ⟨L3, h3⟩ := e
    show wipeP V false 6 0 0 L2 0 = _
    rw [h3]
def rowL (o : Nat) (len : Nat → Nat) (r : Nat → Nat → Int) (m t : Nat) : Int → Option (Nat → Int) := fun k => if (o : Int) ≤ k ∧ k < (t : Int) then some (pieceAt o len r m k.toNat) else none
end Go.DskLaw
namespace Go.Proofs.YtnjjgipblimbfaaDoor.Dsk
open Go.Eng
open Go.DskLaw (q64 secV needN pcs padOk isB usedP getP scanP lives26_facts)
set_option maxRecDepth 100000
set_option maxHeartbeats 4000000
abbrev DHn (a b c : Nat) (N : Nat) (S : Nat → Int) (L : Int → Option (Nat → Int)) (ar : Bool) (ca : Int) : Hl :=
  [(a, .cells 87 [.sl b 1 (.l 0) (.s N), .mp c, .bs ar, .int .i64 ca]), (b, .row 5 1 (.s N) (fun e => [.int .u8 (S e.val)])), (c, .wm 64 L)]
theorem refneed_fn {P : Program} {G : Gl} (hP : P = Tryd.prog) : ∀ (q : Nat) {n : Int} {m : Nat}, n.toNat ≤ q → n ≤ 9223372036854775000 → -9223372036854775000 ≤ n → m = needN n.toNat → FnTr P G 27 [.int .i64 n] [] 0 (Gives (.int .i64 (m : Int)) [] 0) := by
  intro q
  induction q with
  | zero =>
    intro n m hq h1 h2 hm
    have hm1 : m = 1 := by rw [hm]; unfold needN; omega
    have hT : T.Ok P := hP ▸ T_ok
    refine jjI Tryd.f27 hT ?_
    generalize hA : Ar.real = A
    generalize hK : Gives _ _ _ = K
    cbv
    have k1 : A.le n 62 = true := by subst hA; simp [Ar.real]; omega
    first | refine testR k1 rfl ?_ | refine testL k1 rfl ?_
    cbv
    refine Fin.le hA 0 [] (.int .i64 (m : Int)) ([]) 0 rfl rfl rfl ?_ ?_ jjK
    · (try cbv) <;> (repeat' (first | exact trivial | exact rfl | apply And.intro | exact fun _ => rfl | (intro _ hle; first | refine chunk_le hA rfl hle rfl ?_ | refine cat_le hA ?_ | refine upd_le hA ?_ | (try cbv))))
      subst hm1; rfl
    · exact jjL
  | succ q ih =>
    intro n m hq h1 h2 hm
    by_cases h : n ≤ 62
    · have hm1 : m = 1 := by rw [hm]; unfold needN; omega
      have hT : T.Ok P := hP ▸ T_ok
      refine jjI Tryd.f27 hT ?_
      generalize hA : Ar.real = A
      generalize hK : Gives _ _ _ = K
      cbv
      have k1 : A.le n 62 = true := by subst hA; simp [Ar.real]; omega
      first | refine testR k1 rfl ?_ | refine testL k1 rfl ?_
      cbv
      refine Fin.le hA 0 [] (.int .i64 (m : Int)) ([]) 0 rfl rfl rfl ?_ ?_ jjK
      · (try cbv) <;> (repeat' (first | exact trivial | exact rfl | apply And.intro | exact fun _ => rfl | (intro _ hle; first | refine chunk_le hA rfl hle rfl ?_ | refine cat_le hA ?_ | refine upd_le hA ?_ | (try cbv))))
        subst hm1; rfl
      · exact jjL
    · obtain ⟨n', hn'⟩ : ∃ n', n' = n - 62 := ⟨_, rfl⟩
      obtain ⟨m', hm'⟩ : ∃ m', m' = needN n'.toNat := ⟨_, rfl⟩
      have e : (m : Int) = 1 + (m' : Int) := by rw [hm, hm', hn']; unfold needN; omega
      have hb : (m' : Int) ≤ 9223372036854775000 := by rw [hm', hn']; unfold needN; omega
      have c1 := ih (n := n') (m := m') (by omega) (by omega) (by omega) hm'
      clear ih
      have hT : T.Ok P := hP ▸ T_ok
      refine jjI Tryd.f27 hT ?_
      generalize hA : Ar.real = A
      generalize hK : Gives _ _ _ = K
      cbv
      have k1 : A.le n 62 = false := by subst hA; simp [Ar.real]; omega
      first | refine testR k1 rfl ?_ | refine testL k1 rfl ?_
      cbv
      refine ⟨jjO, ?_⟩
      refine jjS hA (c1) [] ?_
      cbv
      refine ⟨jjO, ?_⟩
      refine Fin.le hA 0 [] (.int .i64 (m : Int)) ([]) 0 rfl rfl rfl ?_ ?_ jjK
      · (try cbv) <;> (repeat' (first | exact trivial | exact rfl | apply And.intro | exact fun _ => rfl | (intro _ hle; first | refine chunk_le hA rfl hle rfl ?_ | refine cat_le hA ?_ | refine upd_le hA ?_ | (try cbv))))
        exact jjO
      · exact jjL
theorem same_fn {P : Program} {G : Gl} (hP : P = Tryd.prog) {n m : Nat} {f g : Nat → Int} {res : Bool} (hf : ∀ i, i < n → 0 ≤ f i ∧ f i < 256) (hg : ∀ i, i < m → 0 ≤ g i ∧ g i < 256) (hres : res = true ↔ (n = m ∧ ∀ i, i < n → f i = g i)) :
    FnTr P G 17 [.ro 1 (.s n) (fun e => [.int .u8 (f e.val)]), .ro 1 (.s m) (fun e => [.int .u8 (g e.val)])] [] 0 (Gives (.bs res) [] 0) := by
  have hT : T.Ok P := hP ▸ T_ok
  refine jjI Tryd.f17 hT ?_
  generalize hA : Ar.real = A
  generalize hK : Gives _ _ _ = K
  cbv
  refine ⟨fun e _ => rfl, fun e _ => rfl, ?_⟩
  refine Fin.le hA 0 [] (.bs res) [] 0 rfl rfl rfl ?_ ?_ jjK
  · cbv
    subst hA
    rw [Bool.eq_iff_iff]
    exact (bytes_eq hf hg).trans hres.symm
  · trivial
theorem sameall_fn {P : Program} {G : Gl} (hP : P = Tryd.prog) {n m : Nat} {lf lg : Nat → Nat} {f g : Nat → Nat → Int} (hn : n = m) (hb : n ≤ 1000000) (h : ∀ i, i < n → lf i = lg i ∧ ∀ j, j < lf i → f i j = g i j ∧ 0 ≤ f i j ∧ f i j < 256) :
    FnTr P G 34 [.ro 1 (.s n) (fun e => [.ro 1 (.s (lf e.val)) (fun x => [.int .u8 (f e.val x.val)])]), .ro 1 (.s m) (fun e => [.ro 1 (.s (lg e.val)) (fun x => [.int .u8 (g e.val x.val)])])] [] 0 (Gives (.bl true) [] 0) := by
  subst hn
  have hT : T.Ok P := hP ▸ T_ok
  refine jjI Tryd.f34 hT ?_
  generalize hA : Ar.real = A
  generalize hK : Gives _ _ _ = K
  cbv
  have k1 : A.ne (A.i2 n) (A.i2 n) = false := by subst hA; simp [Ar.real]
  first | refine testR k1 rfl ?_ | refine testL k1 rfl ?_
  cbv
  refine LS.le hT hA 0 (fun (i : Nat) => [(5, .int .i64 (i : Int))]) (fun _ => []) (fun i => i ≤ n) (fun i => n - i) 0 [] rfl rfl ?_ ?_ ?_
  · exact jjL
  · exact Nat.zero_le _
  · intro R hR i hi
    cbv
    refine ⟨fun h1 => ?_, fun h1 => ?_⟩
    · have him : i < n := by clear h; subst hA; simp [Ar.real] at h1; omega
      have a1 := h i him
      clear h
      cbv
      refine jjR hA hT 2 ?_
      cbv
      refine ⟨?_, fun e _ => rfl, ?_, fun e _ => rfl, ?_⟩
      iterate 2 exact jjO
      refine jjD ?_
      cbv
      have k2 : A.not (A.eqL (A.bytes (lf (A.nat (Int.ofNat i))) (byteAt fun x => [SV.int IntKind.u8 (f (A.nat (Int.ofNat i)) x.val)])) (A.bytes (lg (A.nat (Int.ofNat i))) (byteAt fun x => [SV.int IntKind.u8 (g (A.nat (Int.ofNat i)) x.val)]))) = false := by
        clear hR
        subst hA
        show (!(Ar.real.eqL (Ar.real.bytes (lf i) (f i)) (Ar.real.bytes (lg i) (g i)))) = false
        rw [(bytes_eq (fun j hj => (a1.2 j hj).2) (fun j hj => by rw [← (a1.2 j (by omega)).1]; exact (a1.2 j (by omega)).2)).2 ⟨a1.1, fun j hj => (a1.2 j hj).1⟩]
        rfl
      clear a1
      first | refine testR k2 rfl ?_ | refine testL k2 rfl ?_
      cbv
      refine ⟨jjO, hR _ _ ⟨i + 1, 0, [], rfl, rfl, ?_, him, (by show n - (i + 1) < n - i; omega)⟩⟩
      clear hR
      (try cbv) <;> (repeat' (first | exact trivial | exact rfl | apply And.intro | exact fun _ => rfl | (intro _ hle; first | refine chunk_le hA rfl hle rfl ?_ | refine cat_le hA ?_ | refine upd_le hA ?_ | (try cbv))))
      exact jjO
    · clear hR h
      cbv
      refine Fin.le hA 0 [] (.bl true) ([]) 0 rfl rfl rfl ?_ ?_ jjK
      iterate 2 exact jjL
end Go.Proofs.YtnjjgipblimbfaaDoor.Dsk
namespace Go.DskLaw
def rowS (len : Nat → Nat) (r : Nat → Nat → Int) (m f : Nat) : Nat → Int := fun x => if x < 64 * f then pieceAt 0 len r m (x / 64) (x % 64) else 0
def rowW (len : Nat → Nat) (r : Nat → Nat → Int) (m f w : Nat) : Int → Option (Nat → Int) := fun k => if (f : Int) ≤ k ∧ k < (w : Int) then some (pieceAt 0 len r m k.toNat) else none
variable {len : Nat → Nat} {r : Nat → Nat → Int} {m f w : Nat}
end Go.DskLaw
namespace Go.DskLaw
theorem usedP_le {v : Nat → Int} {m : Nat} {on : Bool} (h : usedP v = some (m, on)) : m ≤ 62 := by
  unfold usedP at h
  split at h
  · rename_i q
    have := q.1
    split at h
    · split at h
      · cases h; omega
      · cases h
    · split at h
      · cases h; omega
      · cases h
  · cases h
theorem getP_isB {V : Nat → Nat → Int} {first fin : Nat} (hV : ∀ i, i < fin → isB (V i)) : ∀ (k x n : Nat) (f : Nat → Int) (n' : Nat) (f' : Nat → Int) (next : Nat), (∀ i, i < n → 0 ≤ f i ∧ f i ≤ 255) → getP V first fin k x n f = some (n', f', next) → ∀ i, i < n' → 0 ≤ f' i ∧ f' i ≤ 255 := by
  intro k
  induction k with
  | zero => intro x n f n' f' next _ h; cases h
  | succ k ih =>
    intro x n f n' f' next hf h
    unfold getP at h
    split at h
    · cases h
    · rename_i hx
      split at h
      · cases h
      · rename_i m on hu
        have hm := usedP_le hu
        have key : ∀ i, i < n + m → 0 ≤ (fun i => if i < n then f i else V x (i - n)) i ∧ (fun i => if i < n then f i else V x (i - n)) i ≤ 255 := fun i hi => by
          by_cases q : i < n
          · simp only [q, if_true]; exact hf i q
          · simp only [q, if_false]; exact hV x (by omega) _ (by omega)
        split at h
        · cases h
        · split at h
          · cases h
          · split at h
            · exact ih _ _ _ _ _ _ key h
            · cases h; exact key
def fromP (ks kb : Nat → Int) (t : Int) (n : Nat) : Nat → Int
  | 0 => 0
  | d + 1 => if ks (n - (d + 1)) = t then kb (n - (d + 1)) else fromP ks kb t n d
theorem fromP_kept {ks kb : Nat → Int} {t : Int} {n : Nat} : ∀ d, d ≤ n → (keptB ks kb t n).getD 0 = match keptB ks kb t (n - d) with | some b => b | none => clampB (fromP ks kb t n d) := by
  intro d
  induction d with
  | zero =>
    intro _
    rw [Nat.sub_zero]
    cases keptB ks kb t n with
    | none => rfl
    | some b => rfl
  | succ d ih =>
    intro hd
    have h1 := ih (by omega)
    have e : n - d = (n - (d + 1)) + 1 := by omega
    rw [h1, e]
    show (match (match keptB ks kb t (n - (d + 1)) with
      | some b => some b
      | none => if ks (n - (d + 1)) = t then some (clampB (kb (n - (d + 1)))) else none) with | some b => b | none => clampB (fromP ks kb t n d)) = _
    cases hk : keptB ks kb t (n - (d + 1)) with
    | some b => rfl
    | none =>
      simp only []
      by_cases q : ks (n - (d + 1)) = t
      · rw [if_pos q]
        unfold fromP; rw [if_pos q]
      · rw [if_neg q]
        conv => rhs; unfold fromP
        rw [if_neg q]
theorem fromP_all {ks kb : Nat → Int} {t : Int} {n : Nat} : clampB (fromP ks kb t n n) = (keptB ks kb t n).getD 0 := by
  have := fromP_kept (ks := ks) (kb := kb) (t := t) (n := n) n (Nat.le_refl _)
  rw [this, Nat.sub_self]; rfl
open Go.Eng
structure SeenIs (es : Array MapEntry) (seen : Array Nat) (n : Nat) (f : Nat → Int) : Prop where
  inc : ∀ i, i < n → ∃ e ∈ es.toList, e.born ∈ seen ∧ e.key = .int .i64 (f i)
  all : ∀ e ∈ es.toList, e.born ∈ seen → ∃ i, i < n ∧ e.key = .int .i64 (f i)
  inj : ∀ i j, i < n → j < n → f i = f j → i = j
structure EnumIs (L : Int → Option (Nat → Int)) (n : Nat) (f : Nat → Int) : Prop where
  inc : ∀ i, i < n → ∃ g, L (f i) = some g
  all : ∀ k g, L k = some g → ∃ i, i < n ∧ f i = k
  inj : ∀ i j, i < n → j < n → f i = f j → i = j
variable {es : Array MapEntry} {seen : Array Nat} {n c : Nat} {f : Nat → Int} {L : Int → Option (Nat → Int)} {e : MapEntry}
theorem SeenIs.start : SeenIs es #[] 0 f := ⟨fun i h => by omega, fun e _ h => by simp at h, fun i j h => by omega⟩
theorem SeenIs.step {k : Int} {f' : Nat → Int} (h : SeenIs es seen n f) (hm : MapIs 64 es c L) (he : e ∈ es.toList) (hnew : e.born ∉ seen) (hk : e.key = .int .i64 k) (h1 : ∀ i, i < n → f' i = f i) (h2 : f' n = k) : SeenIs es (seen.push e.born) (n + 1) f' where
  inc := fun i hi => by
    by_cases q : i < n
    · obtain ⟨e', a, b, d⟩ := h.inc i q
      exact ⟨e', a, Array.mem_push.2 (.inl b), by rw [d, h1 i q]⟩
    · obtain rfl : i = n := by omega
      exact ⟨e, he, Array.mem_push.2 (.inr rfl), by rw [hk, h2]⟩
  all := fun e' he' hb => by
    rcases Array.mem_push.1 hb with hb | hb
    · obtain ⟨i, a, b⟩ := h.all e' he' hb
      exact ⟨i, by omega, by rw [b, h1 i a]⟩
    · obtain ⟨i, hi⟩ := List.getElem?_of_mem he
      obtain ⟨j, hj⟩ := List.getElem?_of_mem he'
      have a1 : (es.toList.map (·.born))[i]? = some e.born := by rw [List.getElem?_map, hi]; rfl
      have a2 : (es.toList.map (·.born))[j]? = some e.born := by rw [List.getElem?_map, hj, ← hb]; rfl
      have hl : i < (es.toList.map (·.born)).length := by
        rcases Nat.lt_or_ge i (es.toList.map (·.born)).length with hl | hl
        · exact hl
        · rw [List.getElem?_eq_none hl] at a1; cases a1
      have hij := (List.getElem?_inj hl hm.born).1 (a1.trans a2.symm)
      subst hij
      rw [hi] at hj; cases hj
      exact ⟨n, by omega, by rw [hk, h2]⟩
  inj := fun i j hi hj hij => by
    have key : ∀ u, u < n → f u = k → False := fun u hu hfu => by
      obtain ⟨e', a, b, d⟩ := h.inc u hu
      have : e'.key = e.key := by rw [d, hk, hfu]
      obtain ⟨p, hp⟩ := List.getElem?_of_mem a
      obtain ⟨q, hq⟩ := List.getElem?_of_mem he
      have := hm.uniq hp hq this
      subst this
      rw [hp] at hq; cases hq
      exact hnew b
    by_cases p : i < n
    · by_cases q : j < n
      · rw [h1 i p, h1 j q] at hij; exact h.inj i j p q hij
      · obtain rfl : j = n := by omega
        rw [h1 i p, h2] at hij; exact (key i p hij).elim
    · obtain rfl : i = n := by omega
      by_cases q : j < i
      · rw [h1 j q, h2] at hij; exact (key j q hij.symm).elim
      · omega
theorem SeenIs.fin (h : SeenIs es seen n f) (hm : MapIs 64 es c L) (h0 : (leftOf es seen).size = 0) : EnumIs L n f where
  inc := fun i hi => by
    obtain ⟨e, a, _, d⟩ := h.inc i hi
    obtain ⟨k, g, q1, q2, _⟩ := hm.ent e a
    rw [d] at q1; cases q1
    exact ⟨g, q2⟩
  all := fun k g hL => by
    obtain ⟨e, he, hk⟩ := hm.all k g hL
    have hs : e.born ∈ seen := by
      have : leftOf es seen = #[] := Array.eq_empty_of_size_eq_zero h0
      unfold leftOf at this
      rw [Array.filter_eq_empty_iff] at this
      have := this e (by simpa using he)
      simpa using this
    obtain ⟨i, a, b⟩ := h.all e he hs
    rw [hk] at b
    cases b
    exact ⟨i, a, rfl⟩
  inj := h.inj
def SrtTo (f : Nat → Int) (i : Nat) : Prop := ∀ u v, u < v → v < i → f u < f v
structure Mov (f : Nat → Int) (i j : Nat) : Prop where
  oth : ∀ u v, u < v → v ≤ i → u ≠ j → v ≠ j → f u < f v
  abv : ∀ u, j < u → u ≤ i → f j < f u
theorem Mov.start {i : Nat} (h : SrtTo f i) : Mov f i i := ⟨fun u v h1 h2 _ h4 => h u v h1 (by omega), fun u h1 h2 => by omega⟩
theorem Mov.step {f' : Nat → Int} {i j : Nat} (h : Mov f i j) (hj : 1 ≤ j ∧ j ≤ i) (hlt : f j < f (j - 1)) (h' : ∀ u, u ≤ i → f' u = if u = j then f (j - 1) else if u = j - 1 then f j else f u) : Mov f' i (j - 1) where
  oth := fun u v h1 h2 h3 h4 => by
    rw [h' u (by omega), h' v h2, if_neg h3, if_neg h4]
    by_cases p : u = j
    · rw [if_pos p, if_neg (by omega)]
      exact h.oth (j - 1) v (by omega) h2 (by omega) (by omega)
    · rw [if_neg p]
      by_cases q : v = j
      · rw [if_pos q]
        exact h.oth u (j - 1) (by omega) (by omega) p (by omega)
      · rw [if_neg q]
        exact h.oth u v h1 h2 p q
  abv := fun u h1 h2 => by
    rw [h' (j - 1) (by omega), if_neg (by omega), if_pos rfl, h' u h2]
    by_cases p : u = j
    · rw [if_pos p]; exact hlt
    · rw [if_neg p, if_neg (by omega)]
      exact h.abv u (by omega) h2
theorem Mov.fin {i j : Nat} (h : Mov f i j) (hj : j = 0 ∨ (1 ≤ j ∧ f (j - 1) < f j)) : SrtTo f (i + 1) := fun u v h1 h2 => by
  by_cases p : u = j
  · subst p; exact h.abv v h1 (by omega)
  · by_cases q : v = j
    · subst q
      have hj : 1 ≤ v ∧ f (v - 1) < f v := by omega
      by_cases w : u = v - 1
      · rw [w]; exact hj.2
      · have := h.oth u (v - 1) (by omega) (by omega) p (by omega)
        omega
    · exact h.oth u v h1 (by omega) p q
def wP (W : Nat → Bool) : Nat → Nat × (Nat → Int)
  | 0 => (0, fun _ => 0)
  | i + 1 => if W i = true then ((wP W i).1 + 1, fun x => if x < (wP W i).1 then (wP W i).2 x else (i : Int)) else wP W i
end Go.DskLaw
namespace Go.DskLaw
structure Sim (s N : Nat) (S : Nat → Int) (L : Int → Option (Nat → Int)) (ar : Bool) (ca : Int) (RS RL : Nat → Nat → Int) (W : Nat → Bool) (c : Int) : Prop where
  hN : N = 64 * s
  hs : 1 ≤ s ∧ s ≤ 4096
  rs : ∀ t x, x < 64 → RS t x = S (64 * t + x)
  rl : ∀ t x, x < 64 → RL t x = secV S L t x
  w : ∀ t : Nat, W t = (L (t : Int)).isSome
  hc : c = if ar then ca else -1
  hca : 0 ≤ ca ∧ ca ≤ 9223372036854775807
  key : ∀ k g, L k = some g → 0 ≤ k ∧ k < (s : Int)
  sb : ∀ x, x < N → 0 ≤ S x ∧ S x ≤ 255
  lb : ∀ k g, L k = some g → ∀ x, x < 64 → 0 ≤ g x ∧ g x ≤ 255
section
variable {s N : Nat} {S : Nat → Int} {L : Int → Option (Nat → Int)} {ar : Bool} {ca : Int} {RS RL : Nat → Nat → Int} {W : Nat → Bool} {c : Int}
theorem Sim.off (h : Sim s N S L ar ca RS RL W c) : c = 0 ↔ ar = true ∧ ca = 0 := by
  rw [h.hc]
  cases ar <;> simp
theorem Sim.crange (h : Sim s N S L ar ca RS RL W c) : -1 ≤ c ∧ c ≤ 9223372036854775807 := by
  rw [h.hc]; have := h.hca
  split <;> omega
theorem Sim.bytes (h : Sim s N S L ar ca RS RL W c) (t : Nat) (ht : t < s) : isB (secV S L t) := by
  intro x hx
  cases e : L (t : Int) with
  | some g => rw [secV_some' e]; exact h.lb _ _ e x hx
  | none => rw [secV_none' e]; exact h.sb _ (by rw [h.hN]; omega)
theorem Sim.rbytes (h : Sim s N S L ar ca RS RL W c) (t : Nat) (ht : t < s) : isB (RL t) := by
  intro x hx; rw [h.rl t x hx]; exact h.bytes t ht x hx
theorem Sim.start (hN : N = 64 * s) (hs : 1 ≤ s ∧ s ≤ 4096) (hS : ∀ x, S x = 0) (hL : ∀ k, L k = none) (hRS : ∀ t x, RS t x = 0) (hRL : ∀ t x, RL t x = 0) (hW : ∀ t, W t = false) : Sim s N S L false 0 RS RL W (-1) where
  hN := hN
  hs := hs
  rs := fun t x _ => by rw [hRS, hS]
  rl := fun t x _ => by rw [secV_none' (hL _), hRL, hS]
  w := fun t => by rw [hW, hL]; rfl
  hc := rfl
  hca := by omega
  key := fun k g h => by rw [hL] at h; cases h
  sb := fun x _ => by rw [hS]; omega
  lb := fun k g h => by rw [hL] at h; cases h
theorem Sim.write {i : Nat} {f : Nat → Int} {L' : Int → Option (Nat → Int)} {ca' c' : Int} {RL' : Nat → Nat → Int} {W' : Nat → Bool} (h : Sim s N S L ar ca RS RL W c) (ho : c ≠ 0) (hi : i < s) (hf : ∀ x, x < 64 → 0 ≤ f x ∧ f x ≤ 255) (hL' : ∀ k, L' k = if k = (i : Int) then some f else L k) (hca : ca' = if ar then ca - 1 else ca)
    (hRL : ∀ t x, RL' t x = if t = i then f x else RL t x) (hW : ∀ t, W' t = if t = i then true else W t) (hc' : c' = if 0 < c then c - 1 else c) : Sim s N S L' ar ca' RS RL' W' c' where
  hN := h.hN
  hs := h.hs
  rs := h.rs
  rl := fun t x hx => by
    rw [hRL]
    by_cases q : t = i
    · subst q; rw [if_pos rfl]; unfold secV; rw [hL', if_pos rfl]
    · rw [if_neg q, h.rl t x hx]; unfold secV; rw [hL', if_neg (by omega)]
  w := fun t => by
    rw [hW, hL']
    by_cases q : t = i
    · rw [if_pos q, if_pos (by omega)]; rfl
    · rw [if_neg q, if_neg (by omega)]; exact h.w t
  hc := by
    have h1 := h.hc; have h2 := h.hca
    rw [hc', hca]
    cases ar with
    | true => simp only [if_true] at h1 ⊢; rw [if_pos (by omega)]; omega
    | false => simp at h1 ⊢; rw [h1]; rfl
  hca := by
    have h1 := h.hc; have h2 := h.hca
    rw [hca]
    cases ar with
    | true => simp only [if_true] at h1 ⊢; omega
    | false => simpa using h2
  key := fun k g hk => by
    rw [hL'] at hk
    by_cases q : k = (i : Int)
    · omega
    · rw [if_neg q] at hk; exact h.key k g hk
  sb := h.sb
  lb := fun k g hk => by
    rw [hL'] at hk
    by_cases q : k = (i : Int)
    · rw [if_pos q] at hk; cases hk; exact hf
    · rw [if_neg q] at hk; exact h.lb k g hk
theorem Sim.crash {S' : Nat → Int} {L' : Int → Option (Nat → Int)} {R' : Nat → Nat → Int} {W' : Nat → Bool} {M : Nat → Nat} {ks kb : Nat → Int} {n : Nat} (h : Sim s N S L ar ca RS RL W c) (hS' : ∀ x, S' x = (crashP S L ks kb n).1 x) (hL' : ∀ k, L' k = none)
    (hM : ∀ t, M t = if W t then clampB (fromP ks kb (t : Int) n n) else 0) (hR : ∀ t x, R' t x = if x < M t then RL t x else RS t x) (hW : ∀ t, W' t = false) : Sim s N S' L' false 0 R' R' W' (-1) := by
  have hc := (crashP_eq (S := S) (L := L) (ks := ks) (kb := kb) (fun k g hk => (h.key k g hk).1) n).2
  have hR' : ∀ t x, x < 64 → R' t x = S' (64 * t + x) := fun t x hx => by
    rw [hS', hc t x hx, hR, hM, h.w]
    unfold secC
    cases e : L (t : Int) with
    | none =>
      simp only [Option.isSome_none, Bool.false_eq_true, if_false]
      rw [if_neg (by omega)]; exact h.rs t x hx
    | some g =>
      simp only [Option.isSome_some, if_true]
      rw [fromP_all, h.rl t x hx, h.rs t x hx]
      unfold secV; rw [e]
  exact {
    hN := h.hN, hs := h.hs, rs := hR'
    rl := fun t x hx => by rw [hR' t x hx]; unfold secV; rw [hL']
    w := fun t => by rw [hW, hL']; rfl
    hc := rfl
    hca := by omega
    key := fun k g hk => by rw [hL'] at hk; cases hk
    sb := fun x hx => by
      have e : x = 64 * (x / 64) + x % 64 := by omega
      have hN := h.hN
      rw [hS', e, hc (x / 64) (x % 64) (by omega)]
      unfold secC
      split
      · rename_i g hg
        split
        · exact h.lb _ _ hg _ (by omega)
        · exact h.sb _ (by omega)
      · exact h.sb _ (by omega)
    lb := fun k g hk => by rw [hL'] at hk; cases hk }
end
end Go.DskLaw
namespace Go.WalLaw
def headB (g : Nat) (i : Nat) : Int := if i < 8 then ((g / 256 ^ (7 - i) % 256 : Nat) : Int) else if 56 ≤ i then ((g / 256 ^ (63 - i) % 256 : Nat) : Int) else 0
def headP (g j : Nat) (x : Nat) : Int := if x < j ∨ (56 ≤ x ∧ x < 56 + j) then headB g x else 0
theorem headP_zero (g x : Nat) : headP g 0 x = 0 := by
  unfold headP; rw [if_neg (by omega)]
theorem headP_all (g x : Nat) (hx : x < 64) : headP g 8 x = headB g x := by
  unfold headP
  split
  · rfl
  · unfold headB; rw [if_neg (by omega), if_neg (by omega)]
theorem headP_succ (g j x : Nat) (hj : j < 8) : headP g (j + 1) x = if x = 56 + j then ((g / 256 ^ (7 - j) % 256 : Nat) : Int) else if x = j then ((g / 256 ^ (7 - j) % 256 : Nat) : Int) else headP g j x := by
  unfold headP headB
  by_cases h1 : x = 56 + j
  · rw [if_pos (by omega), if_neg (by omega), if_pos (by omega), if_pos h1, show 63 - x = 7 - j by omega]
  · rw [if_neg h1]
    by_cases h2 : x = j
    · rw [if_pos (by omega), if_pos (by omega), if_pos h2, h2]
    · rw [if_neg h2]
      by_cases h3 : x < j ∨ (56 ≤ x ∧ x < 56 + j)
      · rw [if_pos (by omega), if_pos h3]
      · rw [if_neg (by omega), if_neg h3]
theorem headB_range (g i : Nat) : 0 ≤ headB g i ∧ headB g i ≤ 255 := by
  unfold headB
  split
  · omega
  · split <;> omega
def genN (v : Nat → Int) : Nat → Nat
  | 0 => 0
  | j + 1 => genN v j * 256 + (v j).toNat
theorem genN_lt (v : Nat → Int) (hv : ∀ i, i < 8 → 0 ≤ v i ∧ v i ≤ 255) : ∀ j, j ≤ 8 → genN v j < 256 ^ j := by
  intro j
  induction j with
  | zero => intro _; show (0 : Nat) < 1; omega
  | succ j ih =>
    intro hj
    have h1 := ih (by omega)
    have h2 := hv j (by omega)
    unfold genN
    rw [Nat.pow_succ]
    omega
def GenOk (v : Nat → Int) (sec : Nat) : Prop := 1 ≤ genN v 8 ∧ genN v 8 ≤ 1099511627776 ∧ genN v 8 % 2 = sec ∧ ∀ i, i < 64 → v i = headB (genN v 8) i
def GenIs (v : Nat → Int) (sec g : Nat) : Prop := (GenOk v sec ∧ g = genN v 8) ∨ (¬ GenOk v sec ∧ g = 0)
theorem genIs_ex (v : Nat → Int) (sec : Nat) : ∃ g, GenIs v sec g := by
  by_cases h : GenOk v sec
  · exact ⟨_, .inl ⟨h, rfl⟩⟩
  · exact ⟨_, .inr ⟨h, rfl⟩⟩
theorem GenIs.le {v : Nat → Int} {sec g : Nat} (h : GenIs v sec g) : g ≤ 1099511627776 := by
  rcases h with ⟨h, rfl⟩ | ⟨_, rfl⟩
  · exact h.2.1
  · decide
end Go.WalLaw
namespace Go.Proofs.YtnjjgipblimbfaaDoor.Dsk
open Go.Eng
open Go.DskLaw (q64)
open Go.WalLaw
set_option maxRecDepth 100000
set_option maxHeartbeats 1000000
theorem half_fn {P : Program} {G : Gl} (hP : P = Tryd.prog) {N s h : Nat} {S : Nat → Int} {L : Int → Option (Nat → Int)} {ar : Bool} {ca : Int} (hN : N = 64 * s) (hs : 4 ≤ s ∧ s ≤ 4096) (hh : h = (s - 2) / 2) :
    FnTr P G 84 [.ptr 0 0] (DH N S L ar ca) 3 (Gives (.int .i64 (h : Int)) (DH N S L ar ca) 3) := by
  have a1 := len_fn (P := P) (G := G) (S := S) (L := L) (ar := ar) (ca := ca) hP hN hs.2
  have e1 : Int.tdiv ((s : Int) - 2) 2 = (h : Int) := by rw [show ((s : Int) - 2) = ((s - 2 : Nat) : Int) by omega, hh]; rfl
  have hh2 : h ≤ 2047 := by omega
  have hT : T.Ok P := hP ▸ T_ok
  refine jjI Tryd.f84 hT ?_
  generalize hA : Ar.real = A
  generalize hK : Gives _ _ _ = K
  cbv
  refine jjS hA (a1) [(0, 0), (1, 1), (2, 2)] ?_
  cbv
  have k1 : A.quo (A.sub (Int.ofNat s) 2) 2 = (h : Int) := by subst hA; exact e1
  refine ⟨?_, ⟨?_, by (show A.inR .i64 (A.quo (A.sub (Int.ofNat s) 2) 2)); rw [k1]; exact jjO⟩, ?_⟩
  iterate 2 exact jjO
  refine Fin.le hA 3 [] (.int .i64 (h : Int)) (DH N S L ar ca) 3 rfl rfl rfl ?_ ?_ jjK
  · (try cbv) <;> (repeat' (first | exact trivial | exact rfl | apply And.intro | exact fun _ => rfl | (intro _ hle; first | refine chunk_le hA rfl hle rfl ?_ | refine cat_le hA ?_ | refine upd_le hA ?_ | (try cbv))))
    exact k1
  · exact jjL
theorem first_fn {P : Program} {G : Gl} (hP : P = Tryd.prog) {N s h g fi : Nat} {S : Nat → Int} {L : Int → Option (Nat → Int)} {ar : Bool} {ca : Int} (hN : N = 64 * s) (hs : 4 ≤ s ∧ s ≤ 4096) (hh : h = (s - 2) / 2) (hg : g ≤ 1099511627777) (hf : fi = 2 + g % 2 * h) :
    FnTr P G 87 [.ptr 0 0, .int .i64 (g : Int)] (DH N S L ar ca) 3 (Gives (.int .i64 (fi : Int)) (DH N S L ar ca) 3) := by
  have a1 := half_fn (P := P) (G := G) (S := S) (L := L) (ar := ar) (ca := ca) hP hN hs hh
  obtain ⟨r, hr⟩ : ∃ r, r = g % 2 := ⟨_, rfl⟩
  obtain ⟨rh, hrh⟩ : ∃ rh, rh = r * h := ⟨_, rfl⟩
  have e0 : Int.tmod (g : Int) 2 = (r : Int) := by rw [hr]; rfl
  have e1 : (r : Int) * (h : Int) = (rh : Int) := by rw [hrh]; exact (Int.natCast_mul r h).symm
  have hh2 : h ≤ 2047 := by omega
  have hr2 : r ≤ 1 := by omega
  have hrh2 : rh ≤ 2047 := by
    rw [hrh]
    have : r = 0 ∨ r = 1 := by omega
    rcases this with e | e <;> rw [e] <;> omega
  have hf : fi = 2 + rh := by rw [hf, ← hr, ← hrh]
  clear hh hN
  have hT : T.Ok P := hP ▸ T_ok
  refine jjI Tryd.f87 hT ?_
  generalize hA : Ar.real = A
  generalize hK : Gives _ _ _ = K
  cbv
  have k0 : A.rem (Int.ofNat g) 2 = (r : Int) := by subst hA; exact e0
  have k1 : A.mul (r : Int) (Int.ofNat h) = (rh : Int) := by subst hA; exact e1
  refine ⟨jjO, ?_⟩
  refine jjS hA (a1) [(0, 0), (1, 1), (2, 2)] ?_
  cbv
  have k2 : A.mul (A.rem (Int.ofNat g) 2) (Int.ofNat h) = (rh : Int) := by rw [k0]; exact k1
  refine ⟨by (show A.inR .i64 (A.mul (A.rem (Int.ofNat g) 2) (Int.ofNat h))); rw [k2]; exact jjO, by (show A.inR .i64 (A.add 2 (A.mul (A.rem (Int.ofNat g) 2) (Int.ofNat h)))); rw [k2]; exact jjO, ?_⟩
  refine Fin.le hA 3 [] (.int .i64 (fi : Int)) (DH N S L ar ca) 3 rfl rfl rfl ?_ ?_ jjK
  · (try cbv) <;> (repeat' (first | exact trivial | exact rfl | apply And.intro | exact fun _ => rfl | (intro _ hle; first | refine chunk_le hA rfl hle rfl ?_ | refine cat_le hA ?_ | refine upd_le hA ?_ | (try cbv))))
    show A.add 2 (A.mul (A.rem (Int.ofNat g) 2) (Int.ofNat h)) = _
    rw [k2]
    exact jjO
  · exact jjL
theorem end_fn {P : Program} {G : Gl} (hP : P = Tryd.prog) {N s h g fi en : Nat} {S : Nat → Int} {L : Int → Option (Nat → Int)} {ar : Bool} {ca : Int} (hN : N = 64 * s) (hs : 4 ≤ s ∧ s ≤ 4096) (hh : h = (s - 2) / 2) (hg : g ≤ 1099511627777) (hf : fi = 2 + g % 2 * h) (he : en = fi + h) :
    FnTr P G 61 [.ptr 0 0, .int .i64 (g : Int)] (DH N S L ar ca) 3 (Gives (.int .i64 (en : Int)) (DH N S L ar ca) 3) := by
  have a1 := half_fn (P := P) (G := G) (S := S) (L := L) (ar := ar) (ca := ca) hP hN hs hh
  have a2 := first_fn (P := P) (G := G) (S := S) (L := L) (ar := ar) (ca := ca) hP hN hs hh hg hf
  have hh2 : h ≤ 2047 := by omega
  have hf2 : fi ≤ 2049 := by
    rw [hf]
    have : g % 2 = 0 ∨ g % 2 = 1 := by omega
    rcases this with e | e <;> rw [e] <;> omega
  clear hh hN hf
  have hT : T.Ok P := hP ▸ T_ok
  refine jjI Tryd.f61 hT ?_
  generalize hA : Ar.real = A
  generalize hK : Gives _ _ _ = K
  cbv
  refine jjS hA (a2) [(0, 0), (1, 1), (2, 2)] ?_
  cbv
  refine jjS hA (a1) [(0, 0), (1, 1), (2, 2)] ?_
  cbv
  refine ⟨jjO, ?_⟩
  refine Fin.le hA 3 [] (.int .i64 (en : Int)) (DH N S L ar ca) 3 rfl rfl rfl ?_ ?_ jjK
  · (try cbv) <;> (repeat' (first | exact trivial | exact rfl | apply And.intro | exact fun _ => rfl | (intro _ hle; first | refine chunk_le hA rfl hle rfl ?_ | refine cat_le hA ?_ | refine upd_le hA ?_ | (try cbv))))
    exact jjO
  · exact jjL
theorem byte64 (g i : Nat) (hi : i < 8) : IntKind.u8.wrap (Ar.real.shr .i64 (g : Int) (8 * (7 - (i : Int)))) = ((g / 256 ^ (7 - i) % 256 : Nat) : Int) := by
  have hw : ∀ x : Nat, IntKind.u8.wrap (x : Int) = ((x % 256 : Nat) : Int) := fun x => by
    simp [IntKind.wrap, IntKind.signed, IntKind.bits]
  rw [show (8 * (7 - (i : Int))) = ((8 * (7 - i) : Nat) : Int) by omega, ← hw]
  congr 1
  show Int.fdiv (g : Int) (2 ^ (Nat.min ((8 * (7 - i) : Nat) : Int).toNat IntKind.i64.bits)) = _
  rw [show Nat.min ((8 * (7 - i) : Nat) : Int).toNat IntKind.i64.bits = 8 * (7 - i) by show min (8 * (7 - i)) 64 = _; omega]
  rw [show (256 : Nat) ^ (7 - i) = 2 ^ (8 * (7 - i)) by rw [Nat.pow_mul]]
  rw [Int.fdiv_eq_ediv_of_nonneg _ (by exact Int.le_of_lt (Int.pow_pos (by decide)))]
  simp
theorem head_own {P : Program} {G : Gl} (hP : P = Tryd.prog) {g : Nat} {f : Nat → Int} (hg : g ≤ 1099511627777) (hf : ∀ i, i < 64 → f i = headB g i) :
    FnTr P G 88 [.int .i64 (g : Int)] [] 0 (Gives (.sl 0 1 (.l 0) (.l 64)) [(0, .row 5 1 (.l 64) (fun e => [.int .u8 (f e.val)]))] 100) := by
  obtain ⟨F, hF⟩ : ∃ F : Nat → Nat → Int, ∀ j x, F j x = headP g j x := ⟨_, fun _ _ => rfl⟩
  have hF0 : ∀ x, F 0 x = 0 := fun x => by rw [hF]; exact headP_zero g x
  obtain ⟨B, hB⟩ : ∃ B : Nat → Int, ∀ j, B j = ((g / 256 ^ (7 - j) % 256 : Nat) : Int) := ⟨_, fun _ => rfl⟩
  have hFs : ∀ (j x : Nat), j < 8 → F (j + 1) x = if x = 56 + j then B j else if x = j then B j else F j x := fun j x hj => by rw [hF, hF, hB]; exact headP_succ g j x hj
  have hF8 : ∀ x, x < 64 → F 8 x = f x := fun x hx => by rw [hF, headP_all g x hx, hf x hx]
  have hb : ∀ (j : Nat), j < 8 → IntKind.u8.wrap (Ar.real.shr .i64 (g : Int) (8 * (7 - (j : Int)))) = B j := fun j hj => by rw [hB]; exact byte64 g j hj
  clear hF hf hB
  have hT : T.Ok P := hP ▸ T_ok
  refine jjI Tryd.f88 hT ?_
  generalize hA : Ar.real = A
  generalize hK : Gives _ _ _ = K
  cbv
  refine ⟨jjO, ?_⟩
  refine LS.le hT hA 5 (fun (i : Nat) => [(7, .int .i64 (i : Int))]) (fun i => [(1, .row 5 1 (.l 64) (fun e => [.int .u8 (F i e.val)]))]) (fun i => i ≤ 8) (fun i => 8 - i) 0 [] rfl rfl ?_ ?_ ?_
  · (try cbv) <;> (repeat' (first | exact trivial | exact rfl | apply And.intro | exact fun _ => rfl | (intro _ hle; first | refine chunk_le hA rfl hle rfl ?_ | refine cat_le hA ?_ | refine upd_le hA ?_ | (try cbv))))
    all_goals exact (hF0 _).symm
  · exact Nat.zero_le _
  · intro R hR i hi
    cbv
    refine ⟨fun q1 => ?_, fun q1 => ?_⟩
    · have hi8 : i < 8 := by clear hR hF0 hFs hF8 hb; subst hA; simp [Ar.real] at q1; omega
      have hb := hb i hi8
      have hFs := fun x => hFs i x hi8
      clear hF0 hF8
      have kn : A.nat (Int.ofNat i) = i := by clear hR hFs hb; subst hA; rfl
      have kv : A.conv .u8 (A.shr .i64 (Int.ofNat g) (A.mul 8 (A.sub 7 (Int.ofNat i)))) = B i := by clear hR hFs; subst hA; exact hb
      have kn2 : A.nat (A.add 56 (Int.ofNat i)) = 56 + i := by clear hR hFs hb kv kn; subst hA; show ((56 : Int) + (i : Int)).toNat = _; omega
      have hup : ∀ e, ltNV A e (.l 64) → leL (leSV A 4) (updF A 1 (.s (A.nat (A.add 56 (Int.ofNat i)))) 0 [.int .u8 (A.conv .u8 (A.shr .i64 (Int.ofNat g) (A.mul 8 (A.sub 7 (Int.ofNat i)))))] (updF A 1 (.s (A.nat (Int.ofNat i))) 0 [.int .u8 (A.conv .u8 (A.shr .i64 (Int.ofNat g) (A.mul 8 (A.sub 7 (Int.ofNat i)))))] (fun e => [.int .u8 (F i e.val)])) e) [.int .u8 (F (i + 1) e.val)] := fun e he =>
        Ints.le hA (Ints.upd hA (A.nat (A.add 56 (Int.ofNat i))) rfl (Ints.upd hA (A.nat (Int.ofNat i)) rfl (Ints.base .u8 (F i) 64))) he (Nat.le_refl _) (by rw [kn2, kn, kv, hFs])
      clear hb hFs kv kn kn2
      cbv
      refine ⟨?_, ?_, ?_, ?_, ?_, ?_, ?_, ?_, ?_, hR _ _ ⟨i + 1, 5, [], rfl, rfl, ?_, hi8, (by show 8 - (i + 1) < 8 - i; omega)⟩⟩
      iterate 9 exact jjO
      clear hR
      (try cbv) <;> (repeat' (first | exact trivial | exact rfl | apply And.intro | exact fun _ => rfl | (intro _ hle; first | exact hup _ hle | refine chunk_le hA rfl hle rfl ?_ | refine cat_le hA ?_ | refine upd_le hA ?_ | refine int_le ?_ | skip)))
      all_goals exact jjO
    · have hi8 : i = 8 := by clear hR hF0 hFs hF8 hb; subst hA; simp [Ar.real] at q1; omega
      subst hi8
      clear hR hF0 hFs hb
      cbv
      refine Fin.le hA 0 [(1, 0)] (.sl 0 1 (.l 0) (.l 64)) ([(0, .row 5 1 (.l 64) (fun e => [.int .u8 (f e.val)]))]) 100 rfl rfl rfl ?_ ?_ jjK
      · exact jjL
      · (try cbv) <;> (repeat' (first | exact trivial | exact rfl | apply And.intro | exact fun _ => rfl | (intro _ hle; first | refine chunk_le hA rfl hle rfl ?_ | refine cat_le hA ?_ | refine upd_le hA ?_ | (try cbv))))
        all_goals (refine hF8 _ ?_; subst hA; exact ltNV_real.1 (by assumption))
theorem head_fn {P : Program} {G : Gl} (hP : P = Tryd.prog) {g : Nat} {f : Nat → Int} (hg : g ≤ 1099511627777) (hf : ∀ i, i < 64 → f i = headB g i) :
    FnTr P G 88 [.int .i64 (g : Int)] [] 0 (Gives (.ro 1 (.l 64) (fun e => [.int .u8 (f e.val)])) [] 100) := by
  have h1 := head_own (P := P) (G := G) hP hg hf
  generalize hA : Ar.real = A
  refine FnTr.dat hA h1 _ _ ?_
  (try cbv) <;> (repeat' (first | exact trivial | exact rfl | apply And.intro | exact fun _ => rfl | (intro _ hle; first | refine chunk_le hA rfl hle rfl ?_ | refine cat_le hA ?_ | refine upd_le hA ?_ | (try cbv))))
  all_goals exact jjO
end Go.Proofs.YtnjjgipblimbfaaDoor.Dsk
namespace Go.CrcLaw
abbrev R := BitVec 32
def half (r : R) : R := (r >>> 1) ^^^ (bif r.getLsbD 0 then 0xedb88320#32 else 0#32)
def Lin (f : R → R) : Prop := ∀ x y, f (x ^^^ y) = f x ^^^ f y
def sumBits (x : R) : Nat → R
  | 0 => 0#32
  | n + 1 => sumBits x n ^^^ (bif x.getLsbD n then 1#32 <<< n else 0#32)
theorem sumBits_bit (x : R) (n : Nat) (i : Nat) (hn : n ≤ 32) : (sumBits x n).getLsbD i = (decide (i < n) && x.getLsbD i) := by
  induction n with
  | zero => simp [sumBits]
  | succ n ih =>
    simp only [sumBits, BitVec.getLsbD_xor]
    rw [ih (by omega)]
    by_cases e : i = n
    · subst e
      have h1 : (1#32 <<< i).getLsbD i = true := by simp; omega
      cases hx : x.getLsbD i <;> simp [h1]
    · have h1 : (1#32 <<< n).getLsbD i = false := by
        simp only [BitVec.getLsbD_shiftLeft, BitVec.getLsbD_one]
        by_cases h : i < n
        · simp [h]
        · have : i - n ≠ 0 := by omega
          simp [this]
      have h2 : (bif x.getLsbD n then 1#32 <<< n else 0#32).getLsbD i = false := by
        cases x.getLsbD n
        · simp
        · simpa using h1
      rw [h2]
      have : decide (i < n + 1) = decide (i < n) := by
        by_cases h : i < n
        · simp [h]; omega
        · simp [h]; omega
      rw [this]; simp
theorem sumBits_all (x : R) : sumBits x 32 = x := by
  apply BitVec.eq_of_getLsbD_eq
  intro i hi
  rw [sumBits_bit x 32 i (by omega)]
  simp [hi]
theorem Lin.zero {f : R → R} (h : Lin f) : f 0#32 = 0#32 := by
  have := h 0#32 0#32
  simpa using this
theorem lin_ext {f g : R → R} (hf : Lin f) (hg : Lin g) (h : ∀ i : Fin 32, f (1#32 <<< i.val) = g (1#32 <<< i.val)) : ∀ x, f x = g x := by
  intro x
  have key : ∀ n, n ≤ 32 → f (sumBits x n) = g (sumBits x n) := by
    intro n
    induction n with
    | zero => intro _; show f 0#32 = g 0#32; rw [hf.zero, hg.zero]
    | succ n ih =>
      intro hn
      simp only [sumBits]
      rw [hf, hg, ih (by omega)]
      congr 1
      cases x.getLsbD n with
      | false => show f 0#32 = g 0#32; rw [hf.zero, hg.zero]
      | true => exact h ⟨n, by omega⟩
  have := key 32 (Nat.le_refl _)
  rwa [sumBits_all] at this
theorem Lin.id : Lin (fun x => x) := fun _ _ => rfl
theorem Lin.comp {f g : R → R} (hf : Lin f) (hg : Lin g) : Lin (fun x => f (g x)) := fun x y => by
  show f (g (x ^^^ y)) = _
  rw [hg, hf]
theorem xor4 (a b c d : R) : (a ^^^ b) ^^^ (c ^^^ d) = (a ^^^ c) ^^^ (b ^^^ d) := by ac_rfl
theorem Lin.xor {f g : R → R} (hf : Lin f) (hg : Lin g) : Lin (fun x => f x ^^^ g x) := fun x y => by
  show f (x ^^^ y) ^^^ g (x ^^^ y) = _
  rw [hf, hg, xor4]
theorem Lin.shr (n : Nat) : Lin (fun x => x >>> n) := fun x y => by
  show (x ^^^ y) >>> n = _
  exact BitVec.ushiftRight_xor_distrib x y n
theorem Lin.bit (i : Nat) (c : R) : Lin (fun x => bif x.getLsbD i then c else 0#32) := fun x y => by
  show (bif (x ^^^ y).getLsbD i then c else 0#32) = (bif x.getLsbD i then c else 0#32) ^^^ (bif y.getLsbD i then c else 0#32)
  rw [BitVec.getLsbD_xor]
  cases x.getLsbD i <;> cases y.getLsbD i <;> simp
theorem Lin.half : Lin half := Lin.xor (Lin.shr 1) (Lin.bit 0 _)
def hs : Nat → R → R
  | 0, r => r
  | n + 1, r => hs n (half r)
theorem Lin.hs (n : Nat) : Lin (hs n) := by
  induction n with
  | zero => exact Lin.id
  | succ n ih => exact fun x y => Lin.comp ih Lin.half x y
theorem hs_add (m n : Nat) (r : R) : hs (m + n) r = hs n (hs m r) := by
  induction m generalizing r with
  | zero => rw [Nat.zero_add]; rfl
  | succ m ih => rw [Nat.succ_add]; exact ih (half r)
theorem hs_half (n : Nat) (r : R) : hs n (half r) = half (hs n r) := by
  have := hs_add n 1 r
  rw [show hs (n + 1) r = hs n (half r) from rfl] at this
  exact this
def dbl (x : R) : R := (x <<< 1) ^^^ (bif x.getLsbD 31 then (0xedb88320#32 <<< 1) ^^^ 1#32 else 0#32)
def four : Nat → R
  | 0 => 0#32 | 1 => 498536548#32 | 2 => 997073096#32 | 3 => 651767980#32 | 4 => 1994146192#32 | 5 => 1802195444#32 | 6 => 1303535960#32 | 7 => 1342533948#32
  | 8 => 3988292384#32 | 9 => 4027552580#32 | 10 => 3604390888#32 | 11 => 3412177804#32 | 12 => 2607071920#32 | 13 => 2262029012#32 | 14 => 2685067896#32 | 15 => 3183342108#32
  | _ => 0#32
theorem four_lin : ∀ a b : Fin 16, four (a.val ^^^ b.val) = four a.val ^^^ four b.val := by decide +kernel
theorem and15_lt (x : R) : (x &&& 15#32).toNat < 16 := by
  rw [BitVec.toNat_and]
  have : x.toNat &&& (15#32).toNat ≤ (15#32).toNat := Nat.and_le_right
  have e : (15#32).toNat = 15 := by decide
  omega
theorem xor_and (x y c : R) : (x ^^^ y) &&& c = (x &&& c) ^^^ (y &&& c) := by
  apply BitVec.eq_of_getLsbD_eq
  intro i hi
  simp only [BitVec.getLsbD_and, BitVec.getLsbD_xor]
  cases x.getLsbD i <;> cases y.getLsbD i <;> cases c.getLsbD i <;> rfl
theorem Lin.low4 : Lin (fun x => four (x &&& 15#32).toNat) := fun x y => by
  show four ((x ^^^ y) &&& 15#32).toNat = _
  have e : ((x ^^^ y) &&& 15#32).toNat = (x &&& 15#32).toNat ^^^ (y &&& 15#32).toNat := by
    rw [xor_and, BitVec.toNat_xor]
  rw [e]
  exact four_lin ⟨_, and15_lt x⟩ ⟨_, and15_lt y⟩
theorem hs4 (r : R) : hs 4 r = (r >>> 4) ^^^ four (r &&& 15#32).toNat := by
  refine lin_ext (Lin.hs 4) (Lin.xor (Lin.shr 4) Lin.low4) ?_ r
  decide +kernel
def step (r c : R) : R := hs 8 (r ^^^ c)
def raw (g : Nat → R) (r : R) : Nat → R
  | 0 => r
  | n + 1 => step (raw g r n) (g n)
def more (g : Nat → R) (s : R) (n : Nat) : R := ~~~ (raw g (~~~ s) n)
theorem not_eq_xor (x : R) : ~~~ x = 4294967295#32 ^^^ x := by
  rw [show (4294967295#32 : R) = BitVec.allOnes 32 by decide, BitVec.allOnes_xor]
def cat (g : Nat → R) (n : Nat) (h : Nat → R) : Nat → R := fun i => if i < n then g i else h (i - n)
def mulGo (a : R) : Nat → R → R → R
  | 0, _, out => out
  | k + 1, b, out => mulGo a k (half b) (bif a.getLsbD k then out ^^^ b else out)
def times (a b : R) : R := mulGo a 32 b 0#32
def mulSum (a : R) : Nat → R → R
  | 0, _ => 0#32
  | k + 1, b => (bif a.getLsbD k then b else 0#32) ^^^ mulSum a k (half b)
def unit : R := 1#32 <<< 31
def joinGo : Nat → Nat → R → R → R
  | 0, _, _, a => a
  | f + 1, n, p, a => if n = 0 then a else joinGo f (n / 2) (times p p) (if n % 2 = 1 then times p a else a)
def join (a b : R) (n : Nat) : R := joinGo n n (8388608#32) a ^^^ b
def sealB (gi : Nat → Int) (s : R) (n e : Nat) : Int := if e < n then gi e else ((s.toNat / 256 ^ (e - n) % 256 : Nat) : Int)
theorem sealB_rng {gi : Nat → Int} {s : R} {n : Nat} (h : ∀ i, i < n → 0 ≤ gi i ∧ gi i < 256) (i : Nat) : 0 ≤ sealB gi s n i ∧ sealB gi s n i < 256 := by
  unfold sealB
  split
  · exact h i ‹_›
  · constructor
    · exact Int.natCast_nonneg _
    · generalize s.toNat / 256 ^ (i - n) = q
      omega
def turn (g : Nat → R) (x : R) (k : Nat) : Nat → Nat → R
  | 0 => g
  | i + 1 => fun j => bif x.getLsbD i then (if j = (k + i) / 8 then turn g x k i j ^^^ 1#32 <<< ((k + i) % 8) else turn g x k i j) else turn g x k i j
def byteOf (s : R) (j : Nat) : R := (s >>> (8 * j)) &&& 255#32
end Go.CrcLaw
namespace Go.Proofs.YtnjjgipblimbfaaDoor
open Go.Eng
def T : Tab := [
  (3, ⟨1, 8, [.lit .i64 0], .int .i64⟩),
  (4, ⟨1, 1, [.bl false], .bool⟩),
  (5, ⟨1, 1, [.lit .u8 0], .int .u8⟩),
  (9, ⟨1, 16, [.str []], .str⟩),
  (22, ⟨1, 24, [.nils], .slice 5⟩),
  (23, ⟨1, 4, [.lit .u32 0], .int .u32⟩),
  (25, ⟨1, 8, [.lit .i64 0], .int .i64⟩),
  (35, ⟨1, 2, [.lit .u16 0], .int .u16⟩),
  (79, ⟨1, 8, [.lit .u64 0], .int .u64⟩),
  (80, ⟨16, 64, [.lit .u32 0, .lit .u32 0, .lit .u32 0, .lit .u32 0, .lit .u32 0, .lit .u32 0, .lit .u32 0, .lit .u32 0, .lit .u32 0, .lit .u32 0, .lit .u32 0, .lit .u32 0, .lit .u32 0, .lit .u32 0, .lit .u32 0, .lit .u32 0], .array 16 23⟩)]
set_option maxRecDepth 100000
theorem T_ok : T.Ok Tryd.prog := Tab.ok_of_map (by kernel_rfl)
theorem P_mixed : Tryd.prog.follows .mixedOrders = true := by kernel_rfl
def Gf (fr : Nat → Int) : Gl := [(0, .ra 1 16 (fun e => [.int .u32 (fr e.val)]))]
def bytesSV (n : Nat) (gi : Nat → Int) : SV := .ro 1 (.s n) (fun e => [.int .u8 (gi e.val)])
open Go.CrcLaw (four raw hs hs4 hs_add xor_and and15_lt half)
theorem byteA (r c : BitVec 32) : ((((r ^^^ c) >>> 4 ^^^ four ((r ^^^ c) &&& 15#32).toNat) >>> 4) ^^^ four ((((r ^^^ c) >>> 4 ^^^ four ((r ^^^ c) &&& 15#32).toNat) &&& 15#32).toNat)) = CrcLaw.step r c := by
  rw [← hs4, ← hs4, ← hs_add]; rfl
theorem more_fn {P : Program} (hP : P = Tryd.prog) {fr gi : Nat → Int} {si ri : Int} {n : Nat} {s : BitVec 32} {g : Nat → BitVec 32} (hfr : ∀ i, fr i = ((four i).toNat : Int)) (hg : ∀ i, gi i = ((g i).toNat : Int)) (hs : si = (s.toNat : Int)) (hr : ri = ((CrcLaw.more g s n).toNat : Int)) (hn : n ≤ 9223372036854775807) :
    FnTr P (Gf fr) 15 [.int .u32 si, .ro 1 (.s n) (fun e => [.int .u8 (gi e.val)])] [] 0 (Gives (.int .u32 ri) [] 0) := by
  have hT : T.Ok P := hP ▸ T_ok
  refine jjI Tryd.f15 hT ?_
  generalize hA : Ar.real = A
  generalize hK : Gives _ _ _ = K
  cbv
  refine LS.le2 hT hA 0 (fun (k : Nat) (r : Int) => [(12, .int .i64 (k : Int)), (5, .int .u32 r)]) (fun _ _ => []) (fun k r => k ≤ n ∧ r = ((raw g (~~~ s) k).toNat : Int)) (fun k _ => n - k) 0 (A.xorm .u32 si) [] rfl rfl ?_ ?_ ?_
  · cbv
    refine ⟨⟨fun e _ => ?_, fun e _ => ?_, rfl, trivial⟩, trivial⟩ <;> exact ⟨rfl, trivial⟩
  · subst hA; exact ⟨Nat.zero_le _, by rw [hs, not32]; rfl⟩
  · intro R hR k r ha
    cbv
    obtain ⟨h1, h2⟩ := ha
    obtain ⟨r', hr'⟩ : ∃ r' : Int, r' = ((raw g (~~~ s) (k + 1)).toNat : Int) := ⟨_, rfl⟩
    refine ⟨fun h => ?_, fun h => ?_⟩
    · cbv
      have hlt : k < n := by subst hA; simp only [Ar.real] at h; simpa using h
      have hcv : ∀ i, IntKind.u32.wrap (gi i) = ((g i).toNat : Int) := fun i => by rw [hg, wrap_u32_bv]
      have h15 : (15 : Int) = ((15#32).toNat : Int) := by decide
      refine ⟨?_, ?_, ?_, ?_, ?_, ?_, hR _ _ _ ⟨k + 1, r', 0, [], rfl, rfl, ?_, ?_, ?_⟩⟩ <;> clear hR
      · subst hA; simp only [Ar.real, NV.val, zo, zt]
        exact ⟨by omega, hlt⟩
      · subst hA; simp only [Ar.real, NV.val, zo, zt]
        decide
      · subst hA; simp only [Ar.real, NV.val, zo, zt, hcv, h2, xor32, h15, and32]
        exact ⟨Int.natCast_nonneg _, and15_lt _⟩
      · subst hA; simp only [Ar.real, NV.val, zo, zt]
        decide
      · subst hA; simp only [Ar.real, NV.val, zo, zt, hcv, h2, xor32, h15, and32, hfr, shr32]
        exact ⟨Int.natCast_nonneg _, and15_lt _⟩
      · subst hA; simp only [Ar.real, NV.val, zo, zt]
        constructor <;> simp [IntKind.min, IntKind.max, IntKind.bits, IntKind.signed] <;> omega
      · cbv
        refine ⟨⟨fun e _ => ⟨rfl, trivial⟩, ?_, fun e _ => ⟨rfl, trivial⟩, ?_, trivial⟩, trivial⟩
        · subst hA; simp only [Ar.real, NV.val, zo, zt, hcv, h2, xor32, h15, and32, hfr, shr32]
          rw [hr']
          congr 2
          exact byteA _ _
        · subst hA; simp only [Ar.real, NV.val, zo, zt]
          rfl
      · exact ⟨hlt, hr'⟩
      · show n - (k + 1) < n - k
        omega
    · cbv
      have hge : k = n := by subst hA; simp only [Ar.real] at h; simp at h; omega
      clear hR
      refine Fin.le hA 0 [] (.int .u32 ri) [] 0 rfl rfl rfl ?_ ?_ jjK
      · cbv
        subst hA; rw [hr, h2, hge]; exact not32 _
      · trivial
theorem refstep_fn {P : Program} {G : Gl} (hP : P = Tryd.prog) {ri ci oi : Int} {r c : BitVec 32} (hr : ri = (r.toNat : Int)) (hc : ci = (c.toNat : Int)) (ho : oi = ((CrcLaw.step r c).toNat : Int)) :
    FnTr P G 48 [.int .u32 ri, .int .u8 ci] [] 0 (Gives (.int .u32 oi) [] 0) := by
  have hT : T.Ok P := hP ▸ T_ok
  refine jjI Tryd.f48 hT ?_
  generalize hA : Ar.real = A
  generalize hK : Gives _ _ _ = K
  cbv
  refine LS.le2 hT hA 0 (fun (k : Nat) (x : Int) => [(5, .int .i64 (k : Int)), (0, .int .u32 x)]) (fun _ _ => []) (fun k x => k ≤ 8 ∧ x = ((hs k (r ^^^ c)).toNat : Int)) (fun k _ => 8 - k) 0 (A.w .xor .u32 ri (A.conv .u32 ci)) [] rfl rfl ?_ ?_ ?_
  · cbv
    exact ⟨⟨rfl, trivial⟩, trivial⟩
  · subst hA; refine ⟨by omega, ?_⟩
    rw [hr, hc]; simp only [Ar.real]; rw [wrap_u32_bv, xor32]; rfl
  · intro R hR k x ha
    cbv
    obtain ⟨h1, h2⟩ := ha
    obtain ⟨x', hx'⟩ : ∃ x' : Int, x' = ((hs (k + 1) (r ^^^ c)).toNat : Int) := ⟨_, rfl⟩
    have hstep : hs (k + 1) (r ^^^ c) = half (hs k (r ^^^ c)) := by rw [← CrcLaw.hs_half]; rfl
    refine ⟨fun h => ?_, fun h => ?_⟩
    · have hlt : k < 8 := by subst hA; simp only [Ar.real] at h; simp at h; omega
      have h2' : (2 : Int) = ((2 : Nat) : Int) := rfl
      cbv
      refine ⟨?_, ?_, fun h => ?_, fun h => ?_⟩
      · subst hA; simp only [Ar.real, NV.val, zo, zt]
        decide
      · subst hA; simp only [Ar.real, NV.val, zo, zt]
        decide
      all_goals cbv
      all_goals refine ⟨?_, hR _ _ _ ⟨k + 1, x', 0, [], rfl, rfl, ?_, ?_, ?_⟩⟩ <;> clear hR
      · subst hA; simp only [Ar.real, NV.val, zo, zt]
        constructor <;> simp [IntKind.min, IntKind.max, IntKind.bits, IntKind.signed] <;> omega
      · cbv
        refine ⟨⟨?_, ?_, trivial⟩, trivial⟩
        · subst hA
          simp only [Ar.real, h2, h2', rem_nat] at h
          have hl : (hs k (r ^^^ c)).toNat % 2 = 1 := by
            have := of_decide_eq_true h
            exact_mod_cast this
          simp only [Ar.real, NV.val, zo, zt, h2, h2', quo32, half_div]
          have h32 : (3988292384 : Int) = ((3988292384#32).toNat : Int) := by decide
          rw [h32, xor32, hx', hstep]
          have hb : (hs k (r ^^^ c)).getLsbD 0 = true := by rw [low_bit] at hl; simpa using hl
          unfold half
          rw [hb]
          rfl
        · subst hA; simp only [Ar.real, NV.val, zo, zt]
          rfl
      · exact ⟨hlt, hx'⟩
      · show 8 - (k + 1) < 8 - k
        omega
      · subst hA; simp only [Ar.real, NV.val, zo, zt]
        constructor <;> simp [IntKind.min, IntKind.max, IntKind.bits, IntKind.signed] <;> omega
      · cbv
        refine ⟨⟨?_, ?_, trivial⟩, trivial⟩
        · subst hA
          simp only [Ar.real, h2, h2', rem_nat] at h
          have hl : (hs k (r ^^^ c)).toNat % 2 ≠ 1 := by
            have := of_decide_eq_false h
            exact fun e => this (by exact_mod_cast e)
          simp only [Ar.real, NV.val, zo, zt, h2, h2', quo32, half_div]
          rw [hx', hstep]
          have hb : (hs k (r ^^^ c)).getLsbD 0 = false := by rw [low_bit] at hl; simpa using hl
          unfold half
          rw [hb]
          simp
        · subst hA; simp only [Ar.real, NV.val, zo, zt]
          rfl
      · exact ⟨hlt, hx'⟩
      · show 8 - (k + 1) < 8 - k
        omega
    · cbv
      clear hR
      have hge : k = 8 := by subst hA; simp only [Ar.real] at h; simp at h; omega
      refine Fin.le hA 0 [] (.int .u32 oi) [] 0 rfl rfl rfl ?_ ?_ jjK
      · cbv
        rw [h2, hge, ho]; rfl
      · trivial
theorem refmore_fn {P : Program} {G : Gl} (hP : P = Tryd.prog) {gi : Nat → Int} {si ri : Int} {n : Nat} {s : BitVec 32} {g : Nat → BitVec 32} (hg : ∀ i, gi i = ((g i).toNat : Int)) (hs : si = (s.toNat : Int)) (hr : ri = ((CrcLaw.more g s n).toNat : Int)) (hn : n ≤ 9223372036854775807) :
    FnTr P G 16 [.int .u32 si, .ro 1 (.s n) (fun e => [.int .u8 (gi e.val)])] [] 0 (Gives (.int .u32 ri) [] 0) := by
  have hall : (4294967295 : Int) = ((4294967295#32).toNat : Int) := by decide
  have hT : T.Ok P := hP ▸ T_ok
  refine jjI Tryd.f16 hT ?_
  generalize hA : Ar.real = A
  generalize hK : Gives _ _ _ = K
  cbv
  refine LS.le2 hT hA 0 (fun (k : Nat) (r : Int) => [(6, .int .i64 (k : Int)), (5, .int .u32 r)]) (fun _ _ => []) (fun k r => k ≤ n ∧ r = ((raw g (~~~ s) k).toNat : Int)) (fun k _ => n - k) 0 (A.w .xor .u32 si 4294967295) [] rfl rfl ?_ ?_ ?_
  · cbv
    refine ⟨⟨fun e _ => ⟨rfl, trivial⟩, rfl, trivial⟩, trivial⟩
  · subst hA
    refine ⟨Nat.zero_le _, ?_⟩
    simp only [Ar.real]
    rw [hs, hall, xor32, BitVec.xor_comm, ← CrcLaw.not_eq_xor]; rfl
  · intro R hR k r ha
    cbv
    obtain ⟨h1, h2⟩ := ha
    obtain ⟨r', hr'⟩ : ∃ r' : Int, r' = ((raw g (~~~ s) (k + 1)).toNat : Int) := ⟨_, rfl⟩
    refine ⟨fun h => ?_, fun h => ?_⟩
    · have hlt : k < n := by subst hA; simp only [Ar.real] at h; simpa using h
      cbv
      refine ⟨?_, CS.le hA (refstep_fn hP h2 (hg k) hr') [] rfl rfl rfl ?_ ?_ ?_⟩
      · subst hA; simp only [Ar.real, NV.val, zo, zt]
        exact ⟨by omega, hlt⟩
      · (try cbv) <;> (repeat' (first | exact trivial | exact rfl | apply And.intro | exact fun _ => rfl | (intro _ hle; first | refine chunk_le hA rfl hle rfl ?_ | refine cat_le hA ?_ | refine upd_le hA ?_ | (try cbv))))
        · subst hA; simp only [Ar.real, NV.val, zo, zt]
      · trivial
      · cbv
        refine ⟨?_, hR _ _ _ ⟨k + 1, r', 0, [], rfl, rfl, ?_, ?_, ?_⟩⟩ <;> clear hR
        · subst hA; simp only [Ar.real, NV.val, zo, zt]
          constructor <;> simp [IntKind.min, IntKind.max, IntKind.bits, IntKind.signed] <;> omega
        · (try cbv) <;> (repeat' (first | exact trivial | exact rfl | apply And.intro | exact fun _ => rfl | (intro _ hle; first | refine chunk_le hA rfl hle rfl ?_ | refine cat_le hA ?_ | refine upd_le hA ?_ | (try cbv))))
          · subst hA; simp only [Ar.real, NV.val, zo, zt]
            rfl
        · exact ⟨hlt, hr'⟩
        · show n - (k + 1) < n - k
          omega
    · have hge : k = n := by subst hA; simp only [Ar.real] at h; simp at h; omega
      cbv
      clear hR
      refine Fin.le hA 0 [] (.int .u32 ri) [] 0 rfl rfl rfl ?_ ?_ jjK
      · cbv
        subst hA; simp only [Ar.real, NV.val, zo, zt, h2, hge, hall, xor32]
        rw [hr, BitVec.xor_comm, ← CrcLaw.not_eq_xor]; rfl
      · trivial
theorem sum_fn {P : Program} (hP : P = Tryd.prog) {fr gi : Nat → Int} {ri : Int} {n : Nat} {g : Nat → BitVec 32} (hfr : ∀ i, fr i = ((four i).toNat : Int)) (hg : ∀ i, gi i = ((g i).toNat : Int)) (hr : ri = ((CrcLaw.more g 0#32 n).toNat : Int)) (hn : n ≤ 9223372036854775807) :
    FnTr P (Gf fr) 13 [.ro 1 (.s n) (fun e => [.int .u8 (gi e.val)])] [] 0 (Gives (.int .u32 ri) [] 0) := by
  have hT : T.Ok P := hP ▸ T_ok
  refine jjI Tryd.f13 hT ?_
  generalize hA : Ar.real = A
  generalize hK : Gives _ _ _ = K
  cbv
  refine CS.le hA (more_fn hP hfr hg (si := 0) rfl hr hn) [] rfl rfl rfl ?_ ?_ ?_
  · exact jjL
  · trivial
  · cbv
    refine Fin.le hA 0 [] (.int .u32 ri) [] 0 rfl rfl rfl ?_ ?_ jjK
    · cbv
    · trivial
theorem refsum_fn {P : Program} {G : Gl} (hP : P = Tryd.prog) {gi : Nat → Int} {ri : Int} {n : Nat} {g : Nat → BitVec 32} (hg : ∀ i, gi i = ((g i).toNat : Int)) (hr : ri = ((CrcLaw.more g 0#32 n).toNat : Int)) (hn : n ≤ 9223372036854775807) :
    FnTr P G 14 [.ro 1 (.s n) (fun e => [.int .u8 (gi e.val)])] [] 0 (Gives (.int .u32 ri) [] 0) := by
  have hT : T.Ok P := hP ▸ T_ok
  refine jjI Tryd.f14 hT ?_
  generalize hA : Ar.real = A
  generalize hK : Gives _ _ _ = K
  cbv
  refine CS.le hA (refmore_fn hP hg (si := 0) rfl hr hn) [] rfl rfl rfl ?_ ?_ ?_
  · exact jjL
  · trivial
  · cbv
    refine Fin.le hA 0 [] (.int .u32 ri) [] 0 rfl rfl rfl ?_ ?_ jjK
    · cbv
    · trivial
open Go.CrcLaw (half mulGo times)
open Go.CrcLaw (four)
theorem clone_own {P : Program} {G : Gl} (hP : P = Tryd.prog) {n : Nat} {f : Nat → Int} (hn : n ≤ 140737488355328) :
    FnTr P G 47 [.ro 1 (.s n) (fun e => [.int .u8 (f e.val)])] [] 0 (Gives (.sl 0 1 (.l 0) (.s n)) [(0, .row 5 1 (.s n) (fun e => [.int .u8 (f e.val)]))] 1) := by
  have hT : T.Ok P := hP ▸ T_ok
  refine jjI Tryd.f47 hT ?_
  generalize hA : Ar.real = A
  generalize hK : Gives _ _ _ = K
  cbv
  refine ⟨fun h0 => ?_, ?_⟩
  · cbv
    refine Fin.leG hA 0 [] [(0, .row 5 1 (.s n) (fun e => [.int .u8 (f e.val)]))] (.sl 0 1 (.l 0) (.s n)) _ 1 rfl rfl rfl ?_ ?_ ?_ jjK
    · (try cbv) <;> (repeat' (first | exact trivial | exact rfl | apply And.intro | exact fun _ => rfl | (intro _ hle; first | refine chunk_le hA rfl hle rfl ?_ | refine cat_le hA ?_ | refine upd_le hA ?_ | (try cbv))))
      exact h0
    · (try cbv) <;> (repeat' (first | exact trivial | exact rfl | apply And.intro | exact fun _ => rfl | (intro _ hle; first | refine chunk_le hA rfl hle rfl ?_ | refine cat_le hA ?_ | refine upd_le hA ?_ | (try cbv))))
      exact h0
    · exact jjL
  · refine ⟨?_, Fin.le hA 0 [(4, 0)] (.sl 0 1 (.l 0) (.s n)) _ 1 rfl rfl rfl ?_ ?_ jjK⟩
    · subst hA; simp only [Ar.real, NV.val, zo, zt]
      omega
    iterate 2 exact jjL
theorem clone_fn {P : Program} {G : Gl} (hP : P = Tryd.prog) {n : Nat} {f : Nat → Int} (hn : n ≤ 140737488355328) :
    FnTr P G 47 [.ro 1 (.s n) (fun e => [.int .u8 (f e.val)])] [] 0 (Gives (.ro 1 (.s n) (fun e => [.int .u8 (f e.val)])) [] 1) := by
  generalize hA : Ar.real = A
  refine FnTr.dat hA (clone_own hP hn) _ _ ?_
  cbv
  refine ⟨⟨?_, trivial⟩, fun e _ => ⟨rfl, trivial⟩, trivial⟩
  subst hA; simp only [Ar.real, NV.val, zo, zt]
  omega
theorem byte_sh (s : BitVec 32) (k : Nat) : IntKind.u8.wrap (Int.fdiv (s.toNat : Int) (2 ^ (Nat.min ((8 * k : Nat) : Int).toNat IntKind.u32.bits))) = ((s.toNat / 256 ^ k % 256 : Nat) : Int) := by
  rw [shr32, wrap_u8, BitVec.toNat_ushiftRight, Nat.shiftRight_eq_div_pow]
  rw [show ((8 * k : Nat) : Int).toNat = 8 * k from zt _, Nat.pow_mul]
theorem byte_md (s : BitVec 32) (k : Nat) : IntKind.u8.wrap (Int.tmod (s.toNat : Int) 256) = ((s.toNat / 256 ^ 0 % 256 : Nat) : Int) := by
  have := rem_nat s.toNat 256
  rw [show ((256 : Nat) : Int) = 256 from rfl] at this
  rw [this, wrap_u8]; simp
theorem byte_qr (s : BitVec 32) (k : Nat) : IntKind.u8.wrap (Int.tmod (wOp .quo .u32 (s.toNat : Int) ((256 ^ k : Nat) : Int)) 256) = ((s.toNat / 256 ^ k % 256 : Nat) : Int) := by
  rw [quo32]
  have := rem_nat (s.toNat / 256 ^ k) 256
  rw [show ((256 : Nat) : Int) = 256 from rfl] at this
  rw [this, wrap_u8]; simp
theorem byte_q (s : BitVec 32) (k : Nat) : IntKind.u8.wrap (wOp .quo .u32 (s.toNat : Int) ((256 ^ k : Nat) : Int)) = ((s.toNat / 256 ^ k % 256 : Nat) : Int) := by
  rw [quo32, wrap_u8]
theorem seal_pick (gi : Nat → Int) (s : BitVec 32) (n k : Nat) (hk : k < n + 4) :
    Ar.real.iteI (Ar.real.ltN k n) (gi k) (Ar.real.sel (Ar.real.subN k n) [((s.toNat / 256 ^ 0 % 256 : Nat) : Int), ((s.toNat / 256 ^ 1 % 256 : Nat) : Int), ((s.toNat / 256 ^ 2 % 256 : Nat) : Int), ((s.toNat / 256 ^ 3 % 256 : Nat) : Int)]) = CrcLaw.sealB gi s n k := by
  unfold CrcLaw.sealB
  simp only [Ar.real]
  by_cases h : k < n
  · simp [h]
  · simp only [h, decide_false, Bool.false_eq_true, if_false]
    obtain ⟨j, rfl⟩ : ∃ j, k = n + j := ⟨k - n, by omega⟩
    rw [show n + j - n = j by omega]
    have : j = 0 ∨ j = 1 ∨ j = 2 ∨ j = 3 := by omega
    rcases this with rfl | rfl | rfl | rfl <;> rfl
theorem seal_own {P : Program} (hP : P = Tryd.prog) {n : Nat} {fr gi hi : Nat → Int} {g : Nat → BitVec 32} (hfr : ∀ i, fr i = ((four i).toNat : Int)) (hg : ∀ i, gi i = ((g i).toNat : Int)) (hn : n ≤ 1000000000) {m : Nat} (hm : m = n + 4) (hh : ∀ i, i < m → hi i = CrcLaw.sealB gi (CrcLaw.more g 0#32 n) n i) :
    FnTr P (Gf fr) 18 [.ro 1 (.s n) (fun e => [.int .u8 (gi e.val)])] [] 0 (Gives (.sl 0 1 (.l 0) (.s m)) [(0, .row 5 1 (.s m) (fun e => [.int .u8 (hi e.val)]))] 1) := by
  obtain ⟨s, hs⟩ : ∃ s, s = CrcLaw.more g 0#32 n := ⟨_, rfl⟩
  obtain ⟨si, hsi⟩ : ∃ si : Int, si = (s.toNat : Int) := ⟨_, rfl⟩
  have hT : T.Ok P := hP ▸ T_ok
  refine jjI Tryd.f18 hT ?_
  generalize hA : Ar.real = A
  generalize hK : Gives _ _ _ = K
  cbv
  refine jjS hA (sum_fn (n := n) hP hfr hg (hsi.trans (by rw [hs])) (by omega)) [] ?_
  cbv
  refine jjS hA (clone_own (n := n) (f := gi) hP (by omega)) [] ?_
  cbv
  have hb0 : A.conv .u8 si = ((s.toNat / 256 ^ 0 % 256 : Nat) : Int) := by subst hA; rw [hsi]; exact (wrap_u8 s.toNat).trans (by simp)
  have hb1 : A.conv .u8 (A.shr .u32 si 8) = ((s.toNat / 256 ^ 1 % 256 : Nat) : Int) := by subst hA; rw [hsi]; exact byte_sh s 1
  have hb2 : A.conv .u8 (A.shr .u32 si 16) = ((s.toNat / 256 ^ 2 % 256 : Nat) : Int) := by subst hA; rw [hsi]; exact byte_sh s 2
  have hb3 : A.conv .u8 (A.shr .u32 si 24) = ((s.toNat / 256 ^ 3 % 256 : Nat) : Int) := by subst hA; rw [hsi]; exact byte_sh s 3
  have hall : ∀ k, k < n + 4 → A.iteI (A.ltN k n) (gi k) (A.sel (A.subN k n) [A.conv .u8 si, A.conv .u8 (A.shr .u32 si 8), A.conv .u8 (A.shr .u32 si 16), A.conv .u8 (A.shr .u32 si 24)]) = hi k := by
    intro k hk
    rw [hb0, hb1, hb2, hb3, hh k (by omega), ← hs]
    subst hA
    exact seal_pick gi s n k hk
  have hlt : A.addN n 4 = m := by subst hA; exact hm.symm
  refine ⟨?_, ?_, ?_, ?_, Fin.le hA 0 [(17, 0)] (.sl 0 1 (.l 0) (.s m)) [(0, .row 5 1 (.s m) (fun e => [.int .u8 (hi e.val)]))] 1 rfl rfl rfl ?_ ?_ jjK⟩
  · subst hA; simp only [Ar.real, NV.val, zo, zt]
    decide
  · subst hA; simp only [Ar.real, NV.val, zo, zt]
    decide
  · subst hA; simp only [Ar.real, NV.val, zo, zt]
    decide
  · subst hA; simp only [Ar.real, NV.val, zo, zt]
    omega
  · (try cbv) <;> (repeat' (first | exact trivial | exact rfl | apply And.intro | exact fun _ => rfl | (intro _ hle; first | refine chunk_le hA rfl hle rfl ?_ | refine cat_le hA ?_ | refine upd_le hA ?_ | (try cbv))))
    exact hlt
  · (try cbv) <;> (repeat' (first | exact trivial | exact rfl | apply And.intro | exact fun _ => rfl | (intro _ hle; first | refine chunk_le hA rfl hle rfl ?_ | refine cat_le hA ?_ | refine upd_le hA ?_ | (try cbv))))
    · exact hlt
    · rename_i e
      have hlt' : e.val < n + 4 := by subst hA; rw [ltNV_real] at hle; exact hle
      cases e with
      | l k => cbv; exact ⟨hall k hlt', trivial⟩
      | s k => cbv; exact ⟨hall k hlt', trivial⟩
theorem seal_fn {P : Program} (hP : P = Tryd.prog) {n : Nat} {fr gi hi : Nat → Int} {g : Nat → BitVec 32} (hfr : ∀ i, fr i = ((four i).toNat : Int)) (hg : ∀ i, gi i = ((g i).toNat : Int)) (hn : n ≤ 1000000000) {m : Nat} (hm : m = n + 4) (hh : ∀ i, i < m → hi i = CrcLaw.sealB gi (CrcLaw.more g 0#32 n) n i) :
    FnTr P (Gf fr) 18 [.ro 1 (.s n) (fun e => [.int .u8 (gi e.val)])] [] 0 (Gives (.ro 1 (.s m) (fun e => [.int .u8 (hi e.val)])) [] 1) := by
  have h := seal_own (n := n) hP hfr hg hn hm hh
  generalize hA : Ar.real = A
  refine FnTr.dat hA h _ _ ?_
  cbv
  refine ⟨⟨?_, trivial⟩, fun e _ => ⟨rfl, trivial⟩, trivial⟩
  exact jjO
theorem refseal_own {P : Program} {G : Gl} (hP : P = Tryd.prog) {n : Nat} {gi hi : Nat → Int} {g : Nat → BitVec 32} (hg : ∀ i, gi i = ((g i).toNat : Int)) (hn : n ≤ 1000000000) {m : Nat} (hm : m = n + 4) (hh : ∀ i, i < m → hi i = CrcLaw.sealB gi (CrcLaw.more g 0#32 n) n i) :
    FnTr P G 19 [.ro 1 (.s n) (fun e => [.int .u8 (gi e.val)])] [] 0 (Gives (.sl 0 1 (.l 0) (.s m)) [(0, .row 5 1 (.s m) (fun e => [.int .u8 (hi e.val)]))] 1) := by
  obtain ⟨s, hs⟩ : ∃ s, s = CrcLaw.more g 0#32 n := ⟨_, rfl⟩
  obtain ⟨si, hsi⟩ : ∃ si : Int, si = (s.toNat : Int) := ⟨_, rfl⟩
  have hT : T.Ok P := hP ▸ T_ok
  refine jjI Tryd.f19 hT ?_
  generalize hA : Ar.real = A
  generalize hK : Gives _ _ _ = K
  cbv
  refine jjS hA (refsum_fn (n := n) hP hg (hsi.trans (by rw [hs])) (by omega)) [] ?_
  cbv
  refine ⟨?_, ?_, ?_, ?_, ?_, ?_, ?_, ?_, ?_⟩
  iterate 8 exact jjO
  have hb0 : A.conv .u8 (A.rem si 256) = ((s.toNat / 256 ^ 0 % 256 : Nat) : Int) := by subst hA; rw [hsi]; exact byte_md s 0
  have hb1 : A.conv .u8 (A.rem (A.w .quo .u32 si 256) 256) = ((s.toNat / 256 ^ 1 % 256 : Nat) : Int) := by subst hA; rw [hsi]; exact byte_qr s 1
  have hb2 : A.conv .u8 (A.rem (A.w .quo .u32 si 65536) 256) = ((s.toNat / 256 ^ 2 % 256 : Nat) : Int) := by subst hA; rw [hsi]; exact byte_qr s 2
  have hb3 : A.conv .u8 (A.w .quo .u32 si 16777216) = ((s.toNat / 256 ^ 3 % 256 : Nat) : Int) := by subst hA; rw [hsi]; exact byte_q s 3
  have hall : ∀ k, k < n + 4 → A.iteI (A.ltN k n) (gi k) (A.sel (A.subN k n) [A.conv .u8 (A.rem si 256), A.conv .u8 (A.rem (A.w .quo .u32 si 256) 256), A.conv .u8 (A.rem (A.w .quo .u32 si 65536) 256), A.conv .u8 (A.w .quo .u32 si 16777216)]) = hi k := by
    intro k hk
    rw [hb0, hb1, hb2, hb3, hh k (by omega), ← hs]
    subst hA
    exact seal_pick gi s n k hk
  have hlt : A.addN n 4 = m := by subst hA; exact hm.symm
  refine Fin.le hA 0 [(23, 0)] (.sl 0 1 (.l 0) (.s m)) ([(0, .row 5 1 (.s m) (fun e => [.int .u8 (hi e.val)]))]) 1 rfl rfl rfl ?_ ?_ jjK
  · (try cbv) <;> (repeat' (first | exact trivial | exact rfl | apply And.intro | exact fun _ => rfl | (intro _ hle; first | refine chunk_le hA rfl hle rfl ?_ | refine cat_le hA ?_ | refine upd_le hA ?_ | (try cbv))))
    exact hlt
  · (try cbv) <;> (repeat' (first | exact trivial | exact rfl | apply And.intro | exact fun _ => rfl | (intro _ hle; first | refine chunk_le hA rfl hle rfl ?_ | refine cat_le hA ?_ | refine upd_le hA ?_ | (try cbv))))
    · exact hlt
    · rename_i e
      have hlt' : e.val < n + 4 := by subst hA; rw [ltNV_real] at hle; exact hle
      cases e with
      | l k => cbv; exact ⟨hall k hlt', trivial⟩
      | s k => cbv; exact ⟨hall k hlt', trivial⟩
theorem refseal_fn {P : Program} {G : Gl} (hP : P = Tryd.prog) {n : Nat} {gi hi : Nat → Int} {g : Nat → BitVec 32} (hg : ∀ i, gi i = ((g i).toNat : Int)) (hn : n ≤ 1000000000) {m : Nat} (hm : m = n + 4) (hh : ∀ i, i < m → hi i = CrcLaw.sealB gi (CrcLaw.more g 0#32 n) n i) :
    FnTr P G 19 [.ro 1 (.s n) (fun e => [.int .u8 (gi e.val)])] [] 0 (Gives (.ro 1 (.s m) (fun e => [.int .u8 (hi e.val)])) [] 1) := by
  have h := refseal_own (n := n) (G := G) hP hg hn hm hh
  generalize hA : Ar.real = A
  refine FnTr.dat hA h _ _ ?_
  cbv
  refine ⟨⟨?_, trivial⟩, fun e _ => ⟨rfl, trivial⟩, trivial⟩
  exact jjO
def OpenIs (gi : Nat → Int) (g : Nat → BitVec 32) (n m : Nat) (er : Int) : Prop :=
  (n < 4 ∧ m = 0 ∧ er = 210) ∨ (4 ≤ n ∧ (∀ i, i < n → CrcLaw.sealB gi (CrcLaw.more g 0#32 (n - 4)) (n - 4) i = gi i) ∧ m = n - 4 ∧ er = 0) ∨
    (4 ≤ n ∧ ¬ (∀ i, i < n → CrcLaw.sealB gi (CrcLaw.more g 0#32 (n - 4)) (n - 4) i = gi i) ∧ m = 0 ∧ er = 240)
theorem refopen_fn {P : Program} {G : Gl} (hP : P = Tryd.prog) {n m : Nat} {gi : Nat → Int} {er : Int} {g : Nat → BitVec 32} (hg : ∀ i, gi i = ((g i).toNat : Int)) (hg8 : ∀ i, i < n → (g i).toNat < 256) (hn : n ≤ 1000000000) (ho : OpenIs gi g n m er) :
    FnTr P G 12 [.ro 1 (.s n) (fun e => [.int .u8 (gi e.val)])] [] 0 (Gives (.tup [.ro 1 (.s m) (fun e => [.int .u8 (gi e.val)]), .int .i64 er]) [] 0) := by
  obtain ⟨q, hq⟩ : ∃ q, q = n - 4 := ⟨_, rfl⟩
  obtain ⟨hi, hh⟩ : ∃ hi : Nat → Int, ∀ i, hi i = CrcLaw.sealB gi (CrcLaw.more g 0#32 q) q i := ⟨_, fun _ => rfl⟩
  have hT : T.Ok P := hP ▸ T_ok
  refine jjI Tryd.f12 hT ?_
  generalize hA : Ar.real = A
  generalize hK : Gives _ _ _ = K
  cbv
  refine ⟨fun h => ?_, fun h => ?_⟩
  · cbv
    have hlt : n < 4 := by subst hA; simp only [Ar.real] at h; simp at h; omega
    obtain ⟨rfl, rfl⟩ : m = 0 ∧ er = 210 := by rcases ho with ⟨_, h1, h2⟩ | ⟨h0, _⟩ | ⟨h0, _⟩ <;> first | exact ⟨h1, h2⟩ | omega
    refine Fin.le hA 0 [] (.tup [.ro 1 (.s 0) (fun e => [.int .u8 (gi e.val)]), .int .i64 210]) ([]) 0 rfl rfl rfl ?_ ?_ jjK
    iterate 2 exact jjL
  · cbv
    have hge : 4 ≤ n := by subst hA; simp only [Ar.real] at h; simp at h; omega
    have hq0 : A.subN (A.nat (A.sub (A.i2 n) 4)) 0 = q := by subst hA; simp only [Ar.real]; omega
    have hq1 : A.nat (A.sub (A.i2 n) 4) = q := by subst hA; simp only [Ar.real]; omega
    have hbe : ∀ c, A.not (A.eqL (A.bytes n (byteAt fun e => [.int .u8 (hi e.val)])) (A.bytes n (byteAt fun e => [.int .u8 (gi e.val)]))) = c → (c = false ↔ ∀ i, i < n → hi i = gi i) := by
      intro c hc
      subst hA
      have := bytes_eq (n := n) (m := n) (f := hi) (g := gi) (fun i hi' => by rw [hh]; exact CrcLaw.sealB_rng (fun j hj => by rw [hg]; exact ⟨Int.natCast_nonneg _, by exact_mod_cast hg8 j (by omega)⟩) i) (fun i hi' => by rw [hg]; exact ⟨Int.natCast_nonneg _, by exact_mod_cast hg8 i hi'⟩)
      simp only [true_and] at this
      rw [← this, ← hc]
      simp only [Ar.real, Bool.not_eq_eq_eq_not, Bool.not_false]
      exact Iff.rfl
    refine DS.run hA hT (by rw [hP]; exact P_mixed) 1 rfl ?_
    cbv
    refine ⟨?_, ?_, ?_⟩
    iterate 2 exact jjO
    refine CD.pass hA (refseal_fn (n := q) (m := n) (hi := hi) hP hg (by omega) (by omega) (fun i _ => hh i)) [] [] rfl ⟨rfl, rfl, rfl, rfl, ?_, ?_⟩ rfl (.inl rfl) ?_
    · (try cbv) <;> (repeat' (first | exact trivial | exact rfl | apply And.intro | exact fun _ => rfl | (intro _ hle; first | refine chunk_le hA rfl hle rfl ?_ | refine cat_le hA ?_ | refine upd_le hA ?_ | (try cbv))))
      exact hq0
    · exact jjL
    cbv
    refine ⟨fun _ _ => rfl, fun _ _ => rfl, fun h2 => ?_, fun h2 => ?_⟩
    · have hne := hbe _ h2
      cbv
      obtain ⟨rfl, rfl⟩ : m = 0 ∧ er = 240 := by
        rcases ho with ⟨h0, _⟩ | ⟨_, h0, _⟩ | ⟨_, _, h1⟩
        · omega
        · rw [← hq] at h0
          exact absurd (hne.2 fun i hi' => by rw [hh]; exact h0 i hi') (by decide)
        · exact h1
      refine Fin.le hA 0 [] (.tup [.ro 1 (.s 0) (fun e => [.int .u8 (gi e.val)]), .int .i64 240]) ([]) 0 rfl rfl rfl ?_ ?_ jjK
      iterate 2 exact jjL
    · have hne := hbe _ h2
      cbv
      obtain ⟨rfl, rfl⟩ : m = q ∧ er = 0 := by
        rcases ho with ⟨h0, _⟩ | ⟨_, h0, h1⟩ | ⟨_, h0, _⟩
        · omega
        · rw [← hq] at h1; exact h1
        · rw [← hq] at h0
          exact absurd (fun i hi' => by rw [← hh]; exact hne.1 rfl i hi') h0
      refine ⟨?_, ?_, ?_⟩
      iterate 2 exact jjO
      refine Fin.le hA 0 [] (.tup [.ro 1 (.s m) (fun e => [.int .u8 (gi e.val)]), .int .i64 0]) ([]) 0 rfl rfl rfl ?_ ?_ jjK
      · (try cbv) <;> (repeat' (first | exact trivial | exact rfl | apply And.intro | exact fun _ => rfl | (intro _ hle; first | refine chunk_le hA rfl hle rfl ?_ | refine cat_le hA ?_ | refine upd_le hA ?_ | (try cbv))))
        exact hq0
      · exact jjL
theorem shl_or (x y : BitVec 32) (hx : x.toNat < 16777216) (hy : y.toNat < 256) : wOp .or .u32 (IntKind.u32.wrap ((x.toNat : Int) * 2 ^ (Nat.min (8 : Int).toNat IntKind.u32.bits))) (y.toNat : Int) = ((x.toNat * 256 + y.toNat : Nat) : Int) := by
  have e : IntKind.u32.wrap ((x.toNat : Int) * 2 ^ (Nat.min (8 : Int).toNat IntKind.u32.bits)) = ((x <<< 8).toNat : Int) := by
    have e1 : ((x.toNat : Int) * 2 ^ (Nat.min (8 : Int).toNat IntKind.u32.bits)) = ((x.toNat * 256 : Nat) : Int) := by
      rw [Int.natCast_mul]; rfl
    rw [e1, wrap_u32, BitVec.toNat_shiftLeft, Nat.shiftLeft_eq]
  rw [e, or32]
  have e2 : (x <<< 8 ||| y).toNat = x.toNat * 256 + y.toNat := by
    rw [BitVec.toNat_or, BitVec.toNat_shiftLeft]
    have e3 : x.toNat <<< 8 % 2 ^ 32 = x.toNat <<< 8 := by rw [Nat.shiftLeft_eq]; exact Nat.mod_eq_of_lt (by omega)
    rw [e3, ← Nat.shiftLeft_add_eq_or_of_lt (by omega), Nat.shiftLeft_eq]
  rw [e2]
theorem open_num {g : Nat → BitVec 32} {q : Nat} (h : ∀ j, j < q + 4 → (g j).toNat < 256) :
    wOp .or .u32 (Ar.real.shl .u32 (wOp .or .u32 (Ar.real.shl .u32 (wOp .or .u32 (Ar.real.shl .u32 (wOp .or .u32 0 ((g (q + 3)).toNat : Int)) 8) ((g (q + 2)).toNat : Int)) 8) ((g (q + 1)).toNat : Int)) 8) ((g (q + 0)).toNat : Int) = (((((g (q + 3)).toNat * 256 + (g (q + 2)).toNat) * 256 + (g (q + 1)).toNat) * 256 + (g q).toNat : Nat) : Int) := by
  have b0 := h q (by omega)
  have b1 := h (q + 1) (by omega)
  have b2 := h (q + 2) (by omega)
  have b3 := h (q + 3) (by omega)
  have e0 : wOp .or .u32 0 ((g (q + 3)).toNat : Int) = ((g (q + 3)).toNat : Int) := by
    have := or32 0#32 (g (q + 3))
    rw [BitVec.zero_or] at this
    exact this
  rw [e0]
  have hw : ∀ k : Nat, k < 4294967296 → ∃ x : BitVec 32, x.toNat = k := fun k hk => ⟨BitVec.ofNat 32 k, by simp; omega⟩
  simp only [Nat.add_zero]
  have e1 := shl_or (g (q + 3)) (g (q + 2)) (by omega) b2
  rw [show Ar.real.shl .u32 ((g (q + 3)).toNat : Int) 8 = IntKind.u32.wrap (((g (q + 3)).toNat : Int) * 2 ^ (Nat.min (8 : Int).toNat IntKind.u32.bits)) from rfl, e1]
  obtain ⟨x, hx⟩ := hw ((g (q + 3)).toNat * 256 + (g (q + 2)).toNat) (by omega)
  rw [← hx]
  have e2 := shl_or x (g (q + 1)) (by omega) b1
  rw [show Ar.real.shl .u32 (x.toNat : Int) 8 = IntKind.u32.wrap ((x.toNat : Int) * 2 ^ (Nat.min (8 : Int).toNat IntKind.u32.bits)) from rfl, e2]
  obtain ⟨y, hy⟩ := hw (x.toNat * 256 + (g (q + 1)).toNat) (by omega)
  rw [← hy]
  exact shl_or y (g q) (by omega) b0
theorem digits4 {a b c d s : Nat} (ha : a < 256) (hb : b < 256) (hc : c < 256) (hd : d < 256) (hs : s < 4294967296) : (((d * 256 + c) * 256 + b) * 256 + a = s) ↔ (s / 1 % 256 = a ∧ s / 256 % 256 = b ∧ s / 65536 % 256 = c ∧ s / 16777216 % 256 = d) := by omega
theorem open_test {gi : Nat → Int} {g : Nat → BitVec 32} {n q : Nat} {si : Int} {c : Bool} (hg : ∀ i, gi i = ((g i).toNat : Int)) (h8 : ∀ j, j < q + 4 → (g j).toNat < 256) (hsi : si = ((CrcLaw.more g 0#32 q).toNat : Int)) (hn : n = q + 4)
    (hc : Ar.real.ne (wOp .or .u32 (Ar.real.shl .u32 (wOp .or .u32 (Ar.real.shl .u32 (wOp .or .u32 (Ar.real.shl .u32 (wOp .or .u32 0 ((g (q + 3)).toNat : Int)) 8) ((g (q + 2)).toNat : Int)) 8) ((g (q + 1)).toNat : Int)) 8) ((g (q + 0)).toNat : Int)) si = c) :
    c = false ↔ ∀ i, i < n → CrcLaw.sealB gi (CrcLaw.more g 0#32 q) q i = gi i := by
  rw [open_num h8, hsi] at hc
  generalize CrcLaw.more g 0#32 q = s at *
  have hd := digits4 (h8 q (by omega)) (h8 (q + 1) (by omega)) (h8 (q + 2) (by omega)) (h8 (q + 3) (by omega)) s.isLt
  have e1 : c = false ↔ (((g (q + 3)).toNat * 256 + (g (q + 2)).toNat) * 256 + (g (q + 1)).toNat) * 256 + (g q).toNat = s.toNat := by
    rw [← hc]
    simp only [Ar.real, bne_eq_false_iff_eq]
    omega
  rw [e1, hd]
  unfold CrcLaw.sealB
  constructor
  · rintro ⟨k0, k1, k2, k3⟩ i hi
    by_cases h : i < q
    · rw [if_pos h]
    · rw [if_neg h, hg]
      have : i = q ∨ i = q + 1 ∨ i = q + 2 ∨ i = q + 3 := by omega
      rcases this with rfl | rfl | rfl | rfl
      · rw [Nat.sub_self]; exact congrArg Nat.cast k0
      · rw [show q + 1 - q = 1 by omega]; exact congrArg Nat.cast k1
      · rw [show q + 2 - q = 2 by omega]; exact congrArg Nat.cast k2
      · rw [show q + 3 - q = 3 by omega]; exact congrArg Nat.cast k3
  · intro h
    have k0 := h q (by omega)
    have k1 := h (q + 1) (by omega)
    have k2 := h (q + 2) (by omega)
    have k3 := h (q + 3) (by omega)
    rw [if_neg (by omega), hg] at k0 k1 k2 k3
    rw [Nat.sub_self] at k0
    rw [show q + 1 - q = 1 by omega] at k1
    rw [show q + 2 - q = 2 by omega] at k2
    rw [show q + 3 - q = 3 by omega] at k3
    exact ⟨by exact_mod_cast k0, by exact_mod_cast k1, by exact_mod_cast k2, by exact_mod_cast k3⟩
theorem open_fn {P : Program} (hP : P = Tryd.prog) {n m : Nat} {fr gi : Nat → Int} {er : Int} {g : Nat → BitVec 32} (hfr : ∀ i, fr i = ((four i).toNat : Int)) (hg : ∀ i, gi i = ((g i).toNat : Int)) (hg8 : ∀ i, i < n → (g i).toNat < 256) (hn : n ≤ 1000000000) (ho : OpenIs gi g n m er) :
    FnTr P (Gf fr) 11 [.ro 1 (.s n) (fun e => [.int .u8 (gi e.val)])] [] 0 (Gives (.tup [.ro 1 (.s m) (fun e => [.int .u8 (gi e.val)]), .int .i64 er]) [] 1) := by
  obtain ⟨q, hq⟩ : ∃ q, q = n - 4 := ⟨_, rfl⟩
  obtain ⟨si, hsi⟩ : ∃ si : Int, si = ((CrcLaw.more g 0#32 q).toNat : Int) := ⟨_, rfl⟩
  have hT : T.Ok P := hP ▸ T_ok
  refine jjI Tryd.f11 hT ?_
  generalize hA : Ar.real = A
  generalize hK : Gives _ _ _ = K
  cbv
  refine ⟨fun h => ?_, fun h => ?_⟩
  · cbv
    have hlt : n < 4 := by subst hA; simp only [Ar.real] at h; simp at h; omega
    obtain ⟨rfl, rfl⟩ : m = 0 ∧ er = 210 := by rcases ho with ⟨_, h1, h2⟩ | ⟨h0, _⟩ | ⟨h0, _⟩ <;> first | exact ⟨h1, h2⟩ | omega
    refine Fin.le hA 0 [] (.tup [.ro 1 (.s 0) (fun e => [.int .u8 (gi e.val)]), .int .i64 210]) ([]) 1 rfl rfl rfl ?_ ?_ jjK
    iterate 2 exact jjL
  · have hge : 4 ≤ n := by subst hA; simp only [Ar.real] at h; simp at h; omega
    have hq1 : A.nat (A.sub (A.i2 n) 4) = q := by subst hA; simp only [Ar.real]; omega
    have hq0 : A.subN (A.nat (A.sub (A.i2 n) 4)) 0 = q := by rw [hq1]; subst hA; rfl
    have hr : A.inR .i64 (A.sub (A.i2 n) 4) := by exact jjO
    have ha : ∀ j : Nat, j < 4 → A.inR .i64 (A.add (A.sub (A.i2 n) 4) (j : Int)) ∧ A.idx (A.add (A.sub (A.i2 n) 4) (j : Int)) n ∧ A.nat (A.add (A.sub (A.i2 n) 4) (j : Int)) = q + j := by
      intro j hj
      subst hA; simp only [Ar.real]
      exact ⟨inR64 (by omega) (by omega), ⟨by omega, by omega⟩, by omega⟩
    have hix : ∀ j : Nat, j < 4 → A.conv .u32 (gi (A.nat (A.add (A.sub (A.i2 n) 4) (j : Int)))) = ((g (q + j)).toNat : Int) := by
      intro j hj
      rw [(ha j hj).2.2, hg]
      subst hA
      exact wrap_u32_bv _
    have hne : ∀ c, A.ne (A.w .or .u32 (A.shl .u32 (A.w .or .u32 (A.shl .u32 (A.w .or .u32 (A.shl .u32 (A.w .or .u32 0 (A.conv .u32 (gi (A.nat (A.add (A.sub (A.i2 n) 4) 3))))) 8) (A.conv .u32 (gi (A.nat (A.add (A.sub (A.i2 n) 4) 2))))) 8) (A.conv .u32 (gi (A.nat (A.add (A.sub (A.i2 n) 4) 1))))) 8) (A.conv .u32 (gi (A.nat (A.add (A.sub (A.i2 n) 4) 0))))) si = c →
        (c = false ↔ ∀ i, i < n → CrcLaw.sealB gi (CrcLaw.more g 0#32 q) q i = gi i) := by
      intro c hc
      have h0 : A.conv .u32 (gi (A.nat (A.add (A.sub (A.i2 n) 4) 0))) = ((g (q + 0)).toNat : Int) := hix 0 (by omega)
      have h1 : A.conv .u32 (gi (A.nat (A.add (A.sub (A.i2 n) 4) 1))) = ((g (q + 1)).toNat : Int) := hix 1 (by omega)
      have h2 : A.conv .u32 (gi (A.nat (A.add (A.sub (A.i2 n) 4) 2))) = ((g (q + 2)).toNat : Int) := hix 2 (by omega)
      have h3 : A.conv .u32 (gi (A.nat (A.add (A.sub (A.i2 n) 4) 3))) = ((g (q + 3)).toNat : Int) := hix 3 (by omega)
      rw [h0, h1, h2, h3] at hc
      subst hA
      exact open_test hg (fun j hj => hg8 j (by omega)) hsi (by omega) hc
    cbv
    refine ⟨hr, LS.rounds hA 5 hT ?_⟩
    cbv
    refine ⟨(ha 3 (by omega)).1, (ha 3 (by omega)).2.1, ?_, (ha 2 (by omega)).1, (ha 2 (by omega)).2.1, ?_, (ha 1 (by omega)).1, (ha 1 (by omega)).2.1, ?_, (ha 0 (by omega)).1, (ha 0 (by omega)).2.1, ?_, ?_⟩
    iterate 4 exact jjO
    refine CS.le hA (sum_fn (n := q) hP hfr hg hsi (by omega)) [] rfl rfl rfl ?_ ?_ ?_
    · (try cbv) <;> (repeat' (first | exact trivial | exact rfl | apply And.intro | exact fun _ => rfl | (intro _ hle; first | refine chunk_le hA rfl hle rfl ?_ | refine cat_le hA ?_ | refine upd_le hA ?_ | (try cbv))))
      exact hq0
    · exact jjL
    cbv
    refine ⟨fun h2 => ?_, fun h2 => ?_⟩
    · have hc := hne _ h2
      cbv
      obtain ⟨rfl, rfl⟩ : m = 0 ∧ er = 240 := by
        rcases ho with ⟨h0, _⟩ | ⟨_, h0, _⟩ | ⟨_, _, h1⟩
        · omega
        · rw [← hq] at h0
          exact absurd (hc.2 h0) (by decide)
        · exact h1
      refine Fin.le hA 0 [] (.tup [.ro 1 (.s 0) (fun e => [.int .u8 (gi e.val)]), .int .i64 240]) ([]) 1 rfl rfl rfl ?_ ?_ jjK
      iterate 2 exact jjL
    · have hc := hne _ h2
      cbv
      obtain ⟨rfl, rfl⟩ : m = q ∧ er = 0 := by
        rcases ho with ⟨h0, _⟩ | ⟨_, h0, h1⟩ | ⟨_, h0, _⟩
        · omega
        · rw [← hq] at h1; exact h1
        · rw [← hq] at h0
          exact absurd (hc.1 rfl) h0
      refine ⟨jjO, ?_⟩
      refine CS.le hA (clone_fn (n := m) (f := gi) hP (by omega)) [] rfl rfl rfl ?_ ?_ ?_
      · (try cbv) <;> (repeat' (first | exact trivial | exact rfl | apply And.intro | exact fun _ => rfl | (intro _ hle; first | refine chunk_le hA rfl hle rfl ?_ | refine cat_le hA ?_ | refine upd_le hA ?_ | (try cbv))))
        exact hq0
      · exact jjL
      cbv
      refine Fin.le hA 0 [] (.tup [.ro 1 (.s m) (fun e => [.int .u8 (gi e.val)]), .int .i64 0]) ([]) 1 rfl rfl rfl ?_ ?_ jjK
      iterate 2 exact jjL
end Go.Proofs.YtnjjgipblimbfaaDoor
namespace Go.Proofs.YtnjjgipblimbfaaDoor.Dsk
open Go.Eng Go.RowKit
open Go.CrcLaw (four)
set_option maxRecDepth 100000
def zs4 : List Int := [0, 498536548, 997073096, 651767980, 1994146192, 1802195444, 1303535960, 1342533948, 3988292384, 4027552580, 3604390888, 3412177804, 2607071920, 2262029012, 2685067896, 3183342108]
def fr4 : Nat → Int := fun i => zs4.getD i 0
theorem fr4_four (i : Nat) : fr4 i = ((four i).toNat : Int) := by
  by_cases h : i < 16
  · have : ∀ i : Fin 16, fr4 i.val = ((four i.val).toNat : Int) := by decide +kernel
    exact this ⟨i, h⟩
  · have e1 : fr4 i = 0 := by
      unfold fr4
      rw [List.getD_eq_getElem?_getD, List.getElem?_eq_none (by show zs4.length ≤ i; show 16 ≤ i; omega)]; rfl
    have e2 : four i = 0#32 := by
      unfold CrcLaw.four
      split <;> first | omega | rfl
    rw [e1, e2]; rfl
variable {W : World} {v0 v1 v2 v3 v4 : Value}
theorem four_rep (h : Lib.TabIs Tryd.prog W "copse/crc.four" .u32 zs4) (hg : Tryd.prog.globalNamed "copse/crc.four" = some 0) :
    ∀ p ∈ Gf fr4, Rep W (fun b => b < W.heap.size) Vln.no p.2 (.pointer (some ⟨p.1, 0, none⟩)) := by
  intro p hp
  obtain rfl : p = (0, .ra 1 16 (fun e => [.int .u32 (fr4 e.val)])) := by simpa [Gf] using hp
  exact tab_rep (by omega) (fun i hi => h.cell hg i (by show i < 16; exact hi)) (fun _ h => h)
abbrev bysh : Shs := .cons (.int .u8) .nil
abbrev bbsh : Shs := .cons (.sl bysh) .nil
abbrev kpsh : Shs := .cons (.int .i64) (.cons (.int .i64) .nil)
abbrev opwsh : Shs := .cons (.int .i64) (.cons (.int .i64) (.cons (.sl bysh) (.cons (.sl kpsh) .nil)))
end Go.Proofs.YtnjjgipblimbfaaDoor.Dsk
namespace Go.Proofs.YtnjjgipblimbfaaDoor.Dsk
open Go.Eng
open Go.DskLaw (q64 secV)
set_option maxRecDepth 100000
set_option maxHeartbeats 4000000
abbrev Rw64 (s : Nat) (F : Nat → Nat → Int) : SV := .ro 1 (.s s) (fun e => [.ro 1 (.s 64) (fun x => [.int .u8 (F e.val x.val)])])
abbrev RD (s : Nat) (S L : Nat → Nat → Int) (W : Nat → Bool) (c : Int) : SV := .agg [Rw64 s S, Rw64 s L, .ro 1 (.s s) (fun e => [.bs (W e.val)]), .int .i64 c]
theorem refoff_fn {P : Program} {G : Gl} (hP : P = Tryd.prog) {s : Nat} {S L : Nat → Nat → Int} {W : Nat → Bool} {c : Int} {r : Bool} (hr : r = true ↔ c = 0) : FnTr P G 71 [RD s S L W c] [] 0 (Gives (.bs r) [] 1) := by
  have hT : T.Ok P := hP ▸ T_ok
  refine jjI Tryd.f71 hT ?_
  generalize hA : Ar.real = A
  generalize hK : Gives _ _ _ = K
  cbv
  refine Fin.le hA 0 [] (.bs r) ([]) 1 rfl rfl rfl ?_ ?_ jjK
  · (try cbv) <;> (repeat' (first | exact trivial | exact rfl | apply And.intro | exact fun _ => rfl | (intro _ hle; first | refine chunk_le hA rfl hle rfl ?_ | refine cat_le hA ?_ | refine upd_le hA ?_ | (try cbv))))
    subst hA
    rw [Bool.eq_iff_iff, hr]; simp [Ar.real]
  · exact jjL
theorem refread_ok {P : Program} {G : Gl} (hP : P = Tryd.prog) {s i : Nat} {S L : Nat → Nat → Int} {v : Nat → Int} {W : Nat → Bool} {c : Int} (h : c ≠ 0) (hi : i < s) (hv : v = L i) : FnTr P G 107 [RD s S L W c, .int .i64 (i : Int)] [] 0 (Gives (.tup [.ro 1 (.s 64) (fun e => [.int .u8 (v e.val)]), .lit .i64 0]) [] 2) := by
  have c1 := refoff_fn (P := P) (G := G) (s := s) (S := S) (L := L) (W := W) (c := c) (r := false) hP ⟨fun q => (by cases q), fun q => absurd q h⟩
  have hT : T.Ok P := hP ▸ T_ok
  refine jjI Tryd.f107 hT ?_
  generalize hA : Ar.real = A
  generalize hK : Gives _ _ _ = K
  cbv
  refine jjT hA (c1) (.bl false) [] ?_
  cbv
  have k1 : A.lt (Int.ofNat i) 0 = false := by subst hA; simp [Ar.real]
  have k2 : A.ge (Int.ofNat i) (A.i2 s) = false := by subst hA; simp [Ar.real]; omega
  first | refine testR k1 rfl ?_ | refine testL k1 rfl ?_
  cbv
  first | refine testR k2 rfl ?_ | refine testL k2 rfl ?_
  cbv
  refine ⟨jjO, ?_⟩
  refine Fin.le hA 0 [] (.tup [.ro 1 (.s 64) (fun e => [.int .u8 (v e.val)]), .lit .i64 0]) ([]) 2 rfl rfl rfl ?_ ?_ jjK
  · (try cbv) <;> (repeat' (first | exact trivial | exact rfl | apply And.intro | exact fun _ => rfl | (intro _ hle; first | refine chunk_le hA rfl hle rfl ?_ | refine cat_le hA ?_ | refine upd_le hA ?_ | (try cbv))))
    subst hA; rw [hv]; rfl
  · exact jjL
abbrev RD0 : SV := .agg [.nils, .nils, .nils, .lit .i64 0]
theorem push0 {A : Ar} (hA : Ar.real = A) {n d : Nat} {F : Nat → Nat → Int} {Z : NV → List SV} (hZ : ∀ x, ∃ t, Z x = [t] ∧ intOfSV t = some (.u8, 0)) (hF : ∀ i x, F i x = 0) {e N : NV} (he : ltNV A e N) (hN : N.val = A.addN n 1) :
    leL (leSV A (d + 2)) (catG A 1 (.s n) (fun e => [.ro 1 (.s 64) (fun x => [.int .u8 (F e.val x.val)])]) (fun x => chunkS A 1 [.ro 1 (.l 64) (fun e => Z (addNV A (.l 0) e))] (addNV A (.l 0) x)) e) [.ro 1 (.s 64) (fun x => [.int .u8 (F e.val x.val)])] :=
  Rws.le hA (g := F) (Rws.push hA rfl (v := fun _ => 0) (f := F) (len := 64) (kd := .u8) ⟨_, _, rfl, rfl, fun x _ => hZ _⟩ (fun k => ⟨_, rfl, RowOf.base .u8 64 (F k.val)⟩)) he (by subst hA; rw [hN]; exact Nat.le_refl _) rfl (fun x _ => by split <;> simp [hF])
theorem pushF {A : Ar} (hA : Ar.real = A) {n d : Nat} {W : Nat → Bool} (hW : ∀ i, W i = false) {e N : NV} (he : ltNV A e N) (hN : N.val = A.addN n 1) :
    leL (leSV A (d + 1)) (catG A 1 (.s n) (fun e => [.bs (W e.val)]) (fun x => chunkS A 1 [.bl false] (addNV A (.l 0) x)) e) [.bs (W e.val)] :=
  Bls.le hA (g := W) (Bls.push hA (v := false) (f := W) rfl (fun k => ⟨_, rfl, rfl⟩)) he (by subst hA; rw [hN]; exact Nat.le_refl _) (by split <;> simp [hW])
theorem refnew_own {P : Program} {G : Gl} (hP : P = Tryd.prog) {n : Int} {s : Nat} {S L : Nat → Nat → Int} {W : Nat → Bool} (hn : n = (s : Int)) (h1 : 1 ≤ s ∧ s ≤ 4096) (hS : ∀ i x, S i x = 0) (hL : ∀ i x, L i x = 0) (hW : ∀ i, W i = false) :
    FnTr P G 24 [.int .i64 n] [] 0 (Gives (.tup [.agg [.sl 0 1 (.l 0) (.s s), .sl 1 1 (.l 0) (.s s), .sl 2 1 (.l 0) (.s s), .lit .i64 (-1)], .lit .i64 0])
      [(0, .row 22 1 (.s s) (fun e => [.ro 1 (.s 64) (fun x => [.int .u8 (S e.val x.val)])])), (1, .row 22 1 (.s s) (fun e => [.ro 1 (.s 64) (fun x => [.int .u8 (L e.val x.val)])])), (2, .row 4 1 (.s s) (fun e => [.bs (W e.val)]))] 60) := by
  subst hn
  have hT : T.Ok P := hP ▸ T_ok
  refine jjI Tryd.f24 hT ?_
  generalize hA : Ar.real = A
  generalize hK : Gives _ _ _ = K
  cbv
  have k1 : A.lt (Int.ofNat s) 1 = false := by subst hA; simp [Ar.real]; omega
  have k2 : A.gt (Int.ofNat s) 4096 = false := by subst hA; simp [Ar.real]; omega
  first | refine testR k1 rfl ?_ | refine testL k1 rfl ?_
  cbv
  first | refine testR k2 rfl ?_ | refine testL k2 rfl ?_
  cbv
  refine LS.ghost 22 1 (.l 0) (fun _ => [.nils]) rfl ?_
  refine LS.ghost 22 1 (.l 0) (fun _ => [.nils]) rfl ?_
  refine LS.ghost 4 1 (.l 0) (fun _ => [.bs false]) rfl ?_
  refine LS.le hT hA 15 (fun (i : Nat) => [(5, .int .i64 (i : Int))]) (fun i => [(9, .cells 46 [.sl 12 1 (.l 0) (.s i), .sl 13 1 (.l 0) (.s i), .sl 14 1 (.l 0) (.s i), .lit .i64 (-1)]), (0, .cells 46 [.nils, .nils, .nils, .lit .i64 0]),
    (12, .row 22 1 (.s i) (fun e => [.ro 1 (.s 64) (fun x => [.int .u8 (S e.val x.val)])])), (13, .row 22 1 (.s i) (fun e => [.ro 1 (.s 64) (fun x => [.int .u8 (L e.val x.val)])])), (14, .row 4 1 (.s i) (fun e => [.bs (W e.val)]))]) (fun i => i ≤ s) (fun i => s - i) 0 [] rfl rfl ?_ ?_ ?_
  · (try cbv) <;> (repeat' (first | exact trivial | exact rfl | apply And.intro | exact fun _ => rfl | (intro _ hle; first | refine chunk_le hA rfl hle rfl ?_ | refine cat_le hA ?_ | refine upd_le hA ?_ | refine int_le ?_ | skip)))
    all_goals first | (exfalso; subst hA; exact absurd (ltNV_real.1 hle) (Nat.not_lt_zero _)) | trace_state
  · exact Nat.zero_le _
  · intro R hR i hi
    cbv
    refine ⟨fun h2 => ?_, fun h2 => ?_⟩
    · have him : i < s := by clear hR; subst hA; simp [Ar.real] at h2; omega
      cbv
      refine jjR hA hT 4 ?_
      cbv
      refine ⟨⟨?_, ?_, ?_, ?_⟩, ⟨?_, trivial⟩, ⟨?_, ?_, ?_⟩, ?_⟩
      iterate 8 exact jjO
      refine jjD ?_
      cbv
      refine jjR hA hT 4 ?_
      cbv
      refine ⟨⟨?_, ?_, ?_, ?_⟩, ⟨?_, trivial⟩, ⟨?_, ?_, ?_⟩, ?_⟩
      iterate 8 exact jjO
      refine jjD ?_
      cbv
      refine ⟨⟨?_, ?_, ?_⟩, ?_, hR _ _ ⟨i + 1, 15, [(34, 12), (62, 13), (77, 14)], rfl, rfl, ?_, him, (by show s - (i + 1) < s - i; omega)⟩⟩
      iterate 4 exact jjO
      clear hR
      (try cbv) <;> (repeat' (first | exact trivial | exact rfl | apply And.intro | exact fun _ => rfl | (intro _ hle; first | refine chunk_le hA rfl hle rfl ?_ | refine cat_le hA ?_ | refine upd_le hA ?_ | refine int_le ?_ | skip)))
      all_goals first | exact push0 hA (fun x => ⟨_, rfl, rfl⟩) hS hle rfl | exact push0 hA (fun x => ⟨_, rfl, rfl⟩) hL hle rfl | exact pushF hA hW hle rfl | exact jjO
    · have him : i = s := by clear hR; subst hA; simp [Ar.real] at h2; omega
      subst him
      clear hR
      cbv
      refine Fin.le hA 0 [(12, 0), (13, 1), (14, 2)] (.tup [.agg [.sl 0 1 (.l 0) (.s i), .sl 1 1 (.l 0) (.s i), .sl 2 1 (.l 0) (.s i), .lit .i64 (-1)], .lit .i64 0]) _ 60 rfl rfl rfl ?_ ?_ jjK
      iterate 2 exact jjL
theorem refnew_fn {P : Program} {G : Gl} (hP : P = Tryd.prog) {n : Int} {s : Nat} {S L : Nat → Nat → Int} {W : Nat → Bool} (hn : n = (s : Int)) (h1 : 1 ≤ s ∧ s ≤ 4096) (hS : ∀ i x, S i x = 0) (hL : ∀ i x, L i x = 0) (hW : ∀ i, W i = false) :
    FnTr P G 24 [.int .i64 n] [] 0 (Gives (.tup [RD s S L W (-1), .lit .i64 0]) [] 60) := by
  have h1 := refnew_own (P := P) (G := G) hP hn h1 hS hL hW
  generalize hA : Ar.real = A
  refine FnTr.dat hA h1 _ _ ?_
  (try cbv) <;> (repeat' (first | exact trivial | exact rfl | apply And.intro | exact fun _ => rfl | (intro _ hle; first | refine chunk_le hA rfl hle rfl ?_ | refine cat_le hA ?_ | refine upd_le hA ?_ | refine int_le ?_ | skip)))
  all_goals exact jjO
theorem upd_rows {A : Ar} (hA : Ar.real = A) {n p d : Nat} {F F' : Nat → Nat → Int} {v : Nat → Int} {s : SV} (hs : RowOf .u8 64 v s) (h : ∀ i x, i < n → x < 64 → F' i x = if i = p then v x else F i x) {e N : NV} (he : ltNV A e N) (hN : N.val = n) :
    leL (leSV A (d + 2)) (updF A 1 (.s p) 0 [s] (fun e => [.ro 1 (.s 64) (fun x => [.int .u8 (F e.val x.val)])]) e) [.ro 1 (.s 64) (fun x => [.int .u8 (F' e.val x.val)])] :=
  Rws.le hA (g := F') (Rws.upd hA p hs (Rws.base .u8 64 F n)) he (by omega) rfl (fun x hx => by
    have he : e.val < N.val := by subst hA; exact ltNV_real.1 he
    rw [h _ _ (by omega) hx]; split <;> rfl)
open Go.DskLaw (q64 secV isB pcs needN)
set_option maxHeartbeats 1000000
theorem Rws.cons {A : Ar} (hA : Ar.real = A) {F : NV → List SV} {kd : IntKind} {len : Nat} {f : Nat → Nat → Int} {n : Nat} {s : SV} {v : Nat → Int} (hi : intsOf [s] = none) (hs : RowOf kd len v s) (hF : ∀ k, ∃ t, F k = [t] ∧ RowOf kd len (f k.val) t) :
    Rws (catG A 1 (.l 1) (chunkS A 1 [s]) F) kd len (fun i => if i < 1 then v else f (i - 1)) (n + 1) := by
  subst hA
  intro e he
  cases e with
  | l k =>
    by_cases q : k < 1
    · obtain rfl : k = 0 := by omega
      exact ⟨s, rfl, hs⟩
    · obtain ⟨t, a1, a2⟩ := hF (.l (k - 1))
      refine ⟨t, ?_, ?_⟩
      · show (match Nat.blt k 1 with | true => _ | false => F (.l (k - 1))) = [t]
        rw [show Nat.blt k 1 = false from by rw [Bool.eq_false_iff]; intro h; exact q (by simpa using h)]
        exact a1
      · show RowOf kd len (if k < 1 then v else f (k - 1)) t
        rw [if_neg q]; exact a2
  | s k =>
    obtain ⟨t, a1, a2⟩ := hF (subNV Ar.real (.s k) (.l 1))
    rw [subNV_val] at a2
    have h2 : chunkS Ar.real 1 [s] (.s k) = [s] := by
      show (match intsOf [s] with | some (kd, ns) => [SV.int kd (Ar.real.sel k ns)] | none => [s]) = _
      rw [hi]
    refine ⟨_, rfl, ?_⟩
    rw [a1]
    show RowOf kd len (if k < 1 then v else f (k - 1)) (mergeSV Ar.real 4 (decide (k < 1)) ((chunkS Ar.real 1 [s] (.s k)).getD 0 .any) t)
    rw [h2]
    have := RowOf.merge (decide (k < 1)) hs a2
    by_cases q : k < 1
    · rw [if_pos q]
      rw [show (if decide (k < 1) = true then v else f ((NV.s k).val - (NV.l 1).val)) = v by simp [q]] at this
      exact this
    · rw [if_neg q]
      rw [show (if decide (k < 1) = true then v else f ((NV.s k).val - (NV.l 1).val)) = f (k - 1) by simp [q, NV.val]] at this
      exact this
section
variable {P : Program} {G : Gl}
theorem rpiece_own (hP : P = Tryd.prog) {n : Nat} {f v : Nat → Int} {mk : Int} (hn : n ≤ 62) (hv : ∀ x, x < 64 → v x = if x = 63 then mk else if x = 62 then (n : Int) else if x < n then f x else 0) :
    FnTr P G 109 [By n f, .int .u8 mk] [] 0 (Gives (.sl 0 1 (.l 0) (.l 64)) [(0, .row 5 1 (.l 64) (fun e => [.int .u8 (v e.val)]))] 100) := by
  obtain ⟨F, hF⟩ : ∃ F : Nat → Nat → Int, ∀ j x, F j x = if x < j then f x else 0 := ⟨_, fun _ _ => rfl⟩
  have hF0 : ∀ x, F 0 x = 0 := fun x => by rw [hF, if_neg (by omega)]
  have hFs : ∀ j x, F (j + 1) x = if x = j then f j else F j x := fun j x => by
    rw [hF, hF]
    by_cases q : x = j
    · subst q; rw [if_pos (by omega), if_pos rfl]
    · rw [if_neg q]
      by_cases q2 : x < j
      · rw [if_pos q2, if_pos (by omega)]
      · rw [if_neg q2, if_neg (by omega)]
  have hFn : ∀ x, x < 64 → v x = if x = 63 then mk else if x = 62 then (n : Int) else F n x := fun x hx => by rw [hv x hx, hF]
  clear hF hv
  have hT : T.Ok P := hP ▸ T_ok
  refine jjI Tryd.f109 hT ?_
  generalize hA : Ar.real = A
  generalize hK : Gives _ _ _ = K
  cbv
  refine ⟨jjO, ?_⟩
  refine LS.le hT hA 2 (fun (j : Nat) => [(6, .int .i64 (j : Int))]) (fun j => [(1, .row 5 1 (.l 64) (fun e => [.int .u8 (F j e.val)]))]) (fun j => j ≤ n) (fun j => n - j) 0 [] rfl rfl ?_ ?_ ?_
  · (try cbv) <;> (repeat' (first | exact trivial | exact rfl | apply And.intro | exact fun _ => rfl | (intro _ hle; first | refine chunk_le hA rfl hle rfl ?_ | refine cat_le hA ?_ | refine upd_le hA ?_ | refine int_le ?_ | skip)))
    all_goals first | exact (hF0 _).symm | exact jjO
  · exact Nat.zero_le _
  · intro R hR j hj
    cbv
    refine ⟨fun q1 => ?_, fun q1 => ?_⟩
    · have hjn : j < n := by clear hR hF0 hFs hFn; subst hA; simp [Ar.real] at q1; omega
      have hFs := hFs j
      clear hF0 hFn
      have kn : A.nat (Int.ofNat j) = j := by clear hR hFs; subst hA; rfl
      have hup : ∀ e, ltNV A e (.l 64) → leL (leSV A 4) (updF A 1 (.s (A.nat (Int.ofNat j))) 0 [.int .u8 (f (A.nat (Int.ofNat j)))] (fun e => [.int .u8 (F j e.val)]) e) [.int .u8 (F (j + 1) e.val)] := fun e he =>
        Ints.le hA (Ints.upd hA (A.nat (Int.ofNat j)) rfl (Ints.base .u8 (F j) 64)) he (Nat.le_refl _) (by rw [kn, hFs])
      cbv
      refine ⟨?_, ?_, ?_, ?_, hR _ _ ⟨j + 1, 2, [], rfl, rfl, ?_, hjn, (by show n - (j + 1) < n - j; omega)⟩⟩
      iterate 4 exact jjO
      clear hR
      (try cbv) <;> (repeat' (first | exact trivial | exact rfl | apply And.intro | exact fun _ => rfl | (intro _ hle; first | exact hup _ hle | refine chunk_le hA rfl hle rfl ?_ | refine cat_le hA ?_ | refine upd_le hA ?_ | refine int_le ?_ | skip)))
      all_goals exact jjO
    · have hjn : j = n := by clear hR hF0 hFs hFn; subst hA; simp [Ar.real] at q1; omega
      subst hjn
      clear hR hF0 hFs
      have kc : A.conv .u8 (A.i2 j) = (j : Int) := by clear hFn; subst hA; show IntKind.u8.wrap (j : Int) = _; simp only [IntKind.wrap, IntKind.bits, IntKind.signed]; simp; omega
      cbv
      have hup : ∀ e, ltNV A e (.l 64) → leL (leSV A 4) (updF A 1 (.l 63) 0 [.int .u8 mk] (updF A 1 (.l 62) 0 [.int .u8 (A.conv .u8 (A.i2 j))] (fun e => [.int .u8 (F j e.val)])) e) [.int .u8 (v e.val)] := fun e he =>
        Ints.le hA (Ints.updl hA 63 rfl (Ints.updl hA 62 rfl (Ints.base .u8 (F j) 64))) he (Nat.le_refl _) (by rw [kc, hFn _ (by subst hA; exact ltNV_real.1 he)])
      refine Fin.le hA 0 [(1, 0)] (.sl 0 1 (.l 0) (.l 64)) ([(0, .row 5 1 (.l 64) (fun e => [.int .u8 (v e.val)]))]) 100 rfl rfl rfl ?_ ?_ jjK
      · exact jjL
      · (try cbv) <;> (repeat' (first | exact trivial | exact rfl | apply And.intro | exact fun _ => rfl | (intro _ hle; first | exact hup _ hle | refine chunk_le hA rfl hle rfl ?_ | refine cat_le hA ?_ | refine upd_le hA ?_ | refine int_le ?_ | skip)))
theorem rpiece_fn (hP : P = Tryd.prog) {n : Nat} {f v : Nat → Int} {mk : Int} (hn : n ≤ 62) (hv : ∀ x, x < 64 → v x = if x = 63 then mk else if x = 62 then (n : Int) else if x < n then f x else 0) :
    FnTr P G 109 [By n f, .int .u8 mk] [] 0 (Gives (By 64 v) [] 100) := by
  have h1 := rpiece_own (P := P) (G := G) hP hn hv
  generalize hA : Ar.real = A
  refine FnTr.dat hA h1 _ _ ?_
  (try cbv) <;> (repeat' (first | exact trivial | exact rfl | apply And.intro | exact fun _ => rfl | (intro _ hle; first | refine chunk_le hA rfl hle rfl ?_ | refine cat_le hA ?_ | refine upd_le hA ?_ | (try cbv))))
  all_goals exact jjO
theorem rpieces_fn (hP : P = Tryd.prog) : ∀ (q : Nat) {n k : Nat} {f : Nat → Int} {V : Nat → Nat → Int}, n ≤ 62 * q + 62 → n ≤ 1000000 → k = needN n → (∀ j x, j < k → x < 64 → V j x = pcs n f j x) →
    FnTr P G 106 [By n f] [] 0 (Gives (Rw64 k V) [] 200) := by
  intro q
  induction q with
  | zero =>
    intro n k f V hq hn hk hV
    have hn62 : n ≤ 62 := by omega
    have hk1 : k = 1 := by rw [hk]; unfold needN; omega
    have hv : ∀ x, x < 64 → V 0 x = if x = 63 then 2 else if x = 62 then (n : Int) else if x < n then f x else 0 := fun x hx => by
      rw [hV 0 x (by omega) hx]
      unfold pcs
      by_cases q1 : x = 63
      · subst q1; rw [if_neg (by omega), if_neg (by omega), if_pos rfl, if_pos rfl, if_neg (by omega)]
      · by_cases q2 : x = 62
        · subst q2; rw [if_neg (by omega), if_pos rfl, if_neg (by omega), if_pos rfl, Nat.mul_zero, Nat.sub_zero, Nat.min_eq_left hn62]
        · rw [if_pos (by omega), if_neg q1, if_neg q2, Nat.mul_zero, Nat.zero_add]
    have c1 := rpiece_fn (P := P) (G := G) (n := n) (f := f) (v := V 0) (mk := 2) hP hn62 hv
    clear hv hV hk hq
    subst hk1
    have h0 : FnTr P G 106 [By n f] [] 0 (Gives (.sl 0 1 (.l 0) (.s 1)) [(0, .row 22 1 (.s 1) (fun e => [.ro 1 (.s 64) (fun x => [.int .u8 (V e.val x.val)])]))] 200) := by
      have hT : T.Ok P := hP ▸ T_ok
      refine jjI Tryd.f106 hT ?_
      generalize hA : Ar.real = A
      generalize hK : Gives _ _ _ = K
      cbv
      have k1 : A.le (A.i2 n) 62 = true := by subst hA; simp [Ar.real]; omega
      first | refine testR k1 rfl ?_ | refine testL k1 rfl ?_
      cbv
      refine jjS hA (c1) [] ?_
      cbv
      have hone : ∀ e, ltNV A e (.s 1) → leL (leSV A 4) (chunkS A 1 [.ro 1 (.s 64) (fun e => [.int .u8 (V 0 e.val)])] e) [.ro 1 (.s 64) (fun x => [.int .u8 (V e.val x.val)])] := fun e he => by
        have he : e.val < 1 := by subst hA; exact ltNV_real.1 he
        have he0 : e.val = 0 := by omega
        subst hA
        rw [chunk_one rfl he0, he0]
        exact ⟨⟨rfl, fun x hx => ⟨rfl, trivial⟩⟩, trivial⟩
      refine Fin.le hA 0 [(105, 0)] (.sl 0 1 (.l 0) (.s 1)) ([(0, .row 22 1 (.s 1) (fun e => [.ro 1 (.s 64) (fun x => [.int .u8 (V e.val x.val)])]))]) 200 rfl rfl rfl ?_ ?_ jjK
      · exact jjL
      · (try cbv) <;> (repeat' (first | exact trivial | exact rfl | apply And.intro | exact fun _ => rfl | (intro _ hle; first | exact hone _ hle | refine chunk_le hA rfl hle rfl ?_ | refine cat_le hA ?_ | refine upd_le hA ?_ | refine int_le ?_ | skip)))
    generalize hA : Ar.real = A
    refine FnTr.dat hA h0 _ _ ?_
    (try cbv) <;> (repeat' (first | exact trivial | exact rfl | apply And.intro | exact fun _ => rfl | (intro _ hle; first | refine chunk_le hA rfl hle rfl ?_ | refine cat_le hA ?_ | refine upd_le hA ?_ | refine int_le ?_ | skip)))
    all_goals exact jjO
  | succ q ih =>
    intro n k f V hq hn hk hV
    by_cases hn62 : n ≤ 62
    · exact ih (by omega) hn hk hV
    obtain ⟨n2, hn2⟩ : ∃ n2, n2 = n - 62 := ⟨_, rfl⟩
    obtain ⟨k2, hk2⟩ : ∃ k2, k2 = needN n2 := ⟨_, rfl⟩
    obtain ⟨f2, hf2⟩ : ∃ f2 : Nat → Int, ∀ i, f2 i = f (62 + i) := ⟨_, fun _ => rfl⟩
    obtain ⟨V2, hV2⟩ : ∃ V2 : Nat → Nat → Int, ∀ j x, V2 j x = V (j + 1) x := ⟨_, fun _ _ => rfl⟩
    have hkk : k = k2 + 1 := by rw [hk, hk2, hn2]; unfold needN; omega
    have hk2b : k2 ≤ 1000000 := by rw [hk2, hn2]; unfold needN; omega
    have hv : ∀ x, x < 64 → V 0 x = if x = 63 then 1 else if x = 62 then ((62 : Nat) : Int) else if x < 62 then f x else 0 := fun x hx => by
      rw [hV 0 x (by omega) hx]
      unfold pcs
      by_cases q1 : x = 63
      · subst q1; rw [if_neg (by omega), if_neg (by omega), if_pos rfl, if_pos rfl, if_pos (by omega)]
      · by_cases q2 : x = 62
        · subst q2; rw [if_neg (by omega), if_pos rfl, if_neg (by omega), if_pos rfl, Nat.mul_zero, Nat.sub_zero, Nat.min_eq_right (by omega)]
        · rw [if_pos (by omega), if_neg q1, if_neg q2, if_pos (by omega), Nat.mul_zero, Nat.zero_add, if_pos (by omega)]
    have c1 := rpiece_fn (P := P) (G := G) (n := 62) (f := f) (v := V 0) (mk := 1) hP (Nat.le_refl _) hv
    have c2 := ih (n := n2) (k := k2) (f := f2) (V := V2) (by omega) (by omega) hk2 (fun j x hj hx => by
      rw [hV2, hV (j + 1) x (by omega) hx]
      unfold pcs
      rw [show n - 62 * (j + 1) = n2 - 62 * j by omega]
      by_cases q1 : x < 62
      · rw [if_pos q1, if_pos q1, hf2, show 62 * (j + 1) + x = 62 + (62 * j + x) by omega]
        by_cases q2 : 62 * j + x < n2
        · rw [if_pos q2, if_pos (by omega)]
        · rw [if_neg q2, if_neg (by omega)]
      · rw [if_neg q1, if_neg q1])
    clear hv hV hk hk2 hq ih
    have h0 : FnTr P G 106 [By n f] [] 0 (Gives (.sl 0 1 (.l 0) (.s k)) [(0, .row 22 1 (.s k) (fun e => [.ro 1 (.s 64) (fun x => [.int .u8 (V e.val x.val)])]))] 200) := by
      have hT : T.Ok P := hP ▸ T_ok
      refine jjI Tryd.f106 hT ?_
      generalize hA : Ar.real = A
      generalize hK : Gives _ _ _ = K
      cbv
      have k1 : A.le (A.i2 n) 62 = false := by subst hA; simp [Ar.real]; omega
      first | refine testR k1 rfl ?_ | refine testL k1 rfl ?_
      cbv
      refine jjR hA hT 300 ?_
      cbv
      refine ⟨jjO, ?_⟩
      refine jjP hA (c1) [] ?_
      cbv
      have hf3 : ∀ e : NV, f (addNV A (.l 62) e).val = f2 e.val := fun e => by subst hA; rw [addNV_val, hf2]; rfl
      have hn3 : A.subN n 62 = n2 := by subst hA; exact hn2.symm
      refine ⟨⟨?_, ?_, ?_⟩, ?_⟩
      iterate 3 exact jjO
      refine CD.pass hA (c2) [] [] rfl ⟨rfl, rfl, rfl, rfl, ?_, ?_⟩ rfl (.inl rfl) ?_
      iterate 2 ((try cbv) <;> (repeat' (first | exact trivial | exact rfl | apply And.intro | exact fun _ => rfl | (intro _ hle; first | refine chunk_le hA rfl hle rfl ?_ | refine cat_le hA ?_ | refine upd_le hA ?_ | (try cbv)))) <;> (try exact jjO) <;> (try first | exact hf3 _ | exact hn3))
      cbv
      have hk3 : A.addN 1 k2 = k := by subst hA; show 1 + k2 = k; omega
      have hcons : ∀ e, ltNV A e (.s (A.addN 1 k2)) → leL (leSV A 4) (catG A 1 (.l 1) (chunkS A 1 [.ro 1 (.s 64) (fun e => [.int .u8 (V 0 e.val)])]) (fun e => [.ro 1 (.s 64) (fun x => [.int .u8 (V2 e.val x.val)])]) e) [.ro 1 (.s 64) (fun x => [.int .u8 (V e.val x.val)])] := fun e he =>
        Rws.le hA (f := fun i => if i < 1 then V 0 else V2 (i - 1)) (g := V) (len := 64) (n := k2 + 1) (Rws.cons hA rfl (RowOf.base .u8 64 (V 0)) (fun k => ⟨_, rfl, RowOf.base .u8 64 _⟩)) he (by show A.addN 1 k2 ≤ k2 + 1; rw [hk3]; omega) rfl (fun x hx => by
          show (if e.val < 1 then V 0 else V2 (e.val - 1)) x = V e.val x
          by_cases q : e.val < 1
          · rw [if_pos q, show e.val = 0 by omega]
          · rw [if_neg q, hV2, show e.val - 1 + 1 = e.val by omega])
      refine ⟨⟨?_, ?_⟩, ?_⟩
      iterate 2 exact jjO
      refine jjD ?_
      cbv
      refine Fin.le hA 0 [(2104, 0)] (.sl 0 1 (.l 0) (.s k)) ([(0, .row 22 1 (.s k) (fun e => [.ro 1 (.s 64) (fun x => [.int .u8 (V e.val x.val)])]))]) 200 rfl rfl rfl ?_ ?_ jjK
      · (try cbv) <;> (repeat' (first | exact trivial | exact rfl | apply And.intro | exact fun _ => rfl | (intro _ hle; first | refine chunk_le hA rfl hle rfl ?_ | refine cat_le hA ?_ | refine upd_le hA ?_ | (try cbv))))
        all_goals exact hk3
      · (try cbv) <;> (repeat' (first | exact trivial | exact rfl | apply And.intro | exact fun _ => rfl | (intro _ hle; first | exact hcons _ hle | refine chunk_le hA rfl hle rfl ?_ | refine cat_le hA ?_ | refine upd_le hA ?_ | refine int_le ?_ | skip)))
        all_goals exact hk3
    generalize hA : Ar.real = A
    refine FnTr.dat hA h0 _ _ ?_
    (try cbv) <;> (repeat' (first | exact trivial | exact rfl | apply And.intro | exact fun _ => rfl | (intro _ hle; first | refine chunk_le hA rfl hle rfl ?_ | refine cat_le hA ?_ | refine upd_le hA ?_ | refine int_le ?_ | skip)))
    all_goals exact jjO
end
set_option maxHeartbeats 4000000
abbrev RH (a b c : Nat) (s : Nat) (S L : Nat → Nat → Int) (W : Nat → Bool) : Hl :=
  [(a, .row 22 1 (.s s) (fun e => [.ro 1 (.s 64) (fun x => [.int .u8 (S e.val x.val)])])), (b, .row 22 1 (.s s) (fun e => [.ro 1 (.s 64) (fun x => [.int .u8 (L e.val x.val)])])), (c, .row 4 1 (.s s) (fun e => [.bs (W e.val)]))]
theorem copied_own {P : Program} {G : Gl} (hP : P = Tryd.prog) {s : Nat} {S L : Nat → Nat → Int} {W : Nat → Bool} {c : Int} (hs : s ≤ 4096) :
    FnTr P G 100 [RD s S L W c] [] 0 (Gives (.agg [.sl 0 1 (.l 0) (.s s), .sl 1 1 (.l 0) (.s s), .sl 2 1 (.l 0) (.s s), .int .i64 c]) (RH 0 1 2 s S L W) 40) := by
  have hT : T.Ok P := hP ▸ T_ok
  refine jjI Tryd.f100 hT ?_
  generalize hA : Ar.real = A
  generalize hK : Gives _ _ _ = K
  cbv
  refine ⟨?_, ?_, ?_, ?_⟩
  iterate 3 exact jjO
  refine Fin.le hA 0 [(11, 0), (18, 1), (25, 2)] (.agg [.sl 0 1 (.l 0) (.s s), .sl 1 1 (.l 0) (.s s), .sl 2 1 (.l 0) (.s s), .int .i64 c]) _ 40 rfl rfl rfl ?_ ?_ jjK
  iterate 2 exact jjL
theorem refwrite_off {P : Program} {G : Gl} (hP : P = Tryd.prog) {s n : Nat} {S L : Nat → Nat → Int} {f : Nat → Int} {W : Nat → Bool} {c i : Int} (h : c = 0) :
    FnTr P G 97 [RD s S L W c, .int .i64 i, By n f] [] 0 (Gives (.tup [RD s S L W c, .lit .i64 6]) [] 100) := by
  have c1 := refoff_fn (P := P) (G := G) (s := s) (S := S) (L := L) (W := W) (c := c) (r := true) hP ⟨fun _ => h, fun _ => rfl⟩
  have hT : T.Ok P := hP ▸ T_ok
  refine jjI Tryd.f97 hT ?_
  generalize hA : Ar.real = A
  generalize hK : Gives _ _ _ = K
  cbv
  refine jjT hA (c1) (.bl true) [] ?_
  cbv
  refine Fin.le hA 0 [] (.tup [RD s S L W c, .lit .i64 6]) ([]) 100 rfl rfl rfl ?_ ?_ jjK
  iterate 2 exact jjL
theorem refwrite_ok {P : Program} {G : Gl} (hP : P = Tryd.prog) {s n i : Nat} {S L L' : Nat → Nat → Int} {f : Nat → Int} {W W' : Nat → Bool} {c c' : Int} (hs : s ≤ 4096) (h : c ≠ 0) (hcr : -1 ≤ c ∧ c ≤ 9223372036854775807) (hi : i < s) (hn : n = 64)
    (hL : ∀ t x, t < s → x < 64 → L' t x = if t = i then f x else L t x) (hW : ∀ t, t < s → W' t = if t = i then true else W t) (hc : c' = if 0 < c then c - 1 else c) :
    FnTr P G 97 [RD s S L W c, .int .i64 (i : Int), By n f] [] 0 (Gives (.tup [RD s S L' W' c', .lit .i64 0]) [] 200) := by
  have c1 := refoff_fn (P := P) (G := G) (s := s) (S := S) (L := L) (W := W) (c := c) (r := false) hP ⟨fun q => (by cases q), fun q => absurd q h⟩
  have c2 := copied_own (P := P) (G := G) (S := S) (L := L) (W := W) (c := c) hP hs
  have h0 : FnTr P G 97 [RD s S L W c, .int .i64 (i : Int), By n f] [] 0 (Gives (.tup [.agg [.sl 0 1 (.l 0) (.s s), .sl 1 1 (.l 0) (.s s), .sl 2 1 (.l 0) (.s s), .int .i64 c'], .lit .i64 0]) (RH 0 1 2 s S L' W') 200) := by
    have hT : T.Ok P := hP ▸ T_ok
    refine jjI Tryd.f97 hT ?_
    generalize hA : Ar.real = A
    generalize hK : Gives _ _ _ = K
    cbv
    refine jjT hA (c1) (.bl false) [] ?_
    cbv
    have k1 : A.lt (Int.ofNat i) 0 = false := by subst hA; simp [Ar.real]
    have k2 : A.ge (Int.ofNat i) (A.i2 s) = false := by subst hA; simp [Ar.real]; omega
    have k3 : A.ne (A.i2 n) 64 = false := by subst hA; simp [Ar.real]; omega
    first | refine testR k1 rfl ?_ | refine testL k1 rfl ?_
    cbv
    first | refine testR k2 rfl ?_ | refine testL k2 rfl ?_
    cbv
    first | refine testR k3 rfl ?_ | refine testL k3 rfl ?_
    cbv
    refine jjS hA (c2) [] ?_
    cbv
    have kn : A.nat (Int.ofNat i) = i := by subst hA; rfl
    have hup : ∀ e, ltNV A e (.s s) → leL (leSV A 4) (updF A 1 (.s (A.nat (Int.ofNat i))) 0 [.ro 1 (.s n) fun e => (fun e => [.int .u8 (f e.val)]) (addNV A (.l 0) e)] (fun e => [.ro 1 (.s 64) fun x => [.int .u8 (L e.val x.val)]]) e) [.ro 1 (.s 64) (fun x => [.int .u8 (L' e.val x.val)])] := fun e he =>
      upd_rows (F := L) (F' := L') (v := f) hA ⟨.s n, _, rfl, hn, fun x _ => ⟨_, rfl, by subst hA; rfl⟩⟩ (fun t x h1 h2 => by rw [kn]; exact hL t x h1 h2) he rfl
    have hup2 : ∀ e, ltNV A e (.s s) → leL (leSV A 4) (updF A 1 (.s (A.nat (Int.ofNat i))) 0 [.bl true] (fun e => [.bs (W e.val)]) e) [.bs (W' e.val)] := fun e he =>
      Bls.le hA (g := W') (Bls.upd hA (A.nat (Int.ofNat i)) (v := true) rfl (Bls.base W s)) he (Nat.le_refl _) (by
        have he : e.val < s := by subst hA; exact ltNV_real.1 he
        rw [kn]; exact (hW _ he).symm)
    refine jjR hA hT 4 ?_
    cbv
    refine ⟨⟨?_, ?_⟩, ?_, ⟨⟨?_, trivial⟩, ?_⟩, ?_⟩
    iterate 5 exact jjO
    refine jjD ?_
    cbv
    by_cases hc0 : 0 < c
    · have k4 : A.gt c 0 = true := by subst hA; simpa [Ar.real] using hc0
      have k5 : A.sub c 1 = c' := by subst hA; rw [hc, if_pos hc0]; rfl
      have k6 : A.inR .i64 (A.sub c 1) := by subst hA; exact inR64 (by simp only [Ar.real]; omega) (by simp only [Ar.real]; omega)
      refine ⟨?_, ?_, ?_⟩
      iterate 2 exact jjO
      first | refine testR k4 rfl ?_ | refine testL k4 rfl ?_
      cbv
      refine ⟨k6, ?_⟩
      refine Fin.le hA 0 [(20, 0), (21, 1), (22, 2)] (.tup [.agg [.sl 0 1 (.l 0) (.s s), .sl 1 1 (.l 0) (.s s), .sl 2 1 (.l 0) (.s s), .int .i64 c'], .lit .i64 0]) _ 200 rfl rfl rfl ?_ ?_ jjK
      · (try cbv) <;> (repeat' (first | exact trivial | exact rfl | apply And.intro | exact fun _ => rfl | (intro _ hle; first | refine chunk_le hA rfl hle rfl ?_ | refine cat_le hA ?_ | refine upd_le hA ?_ | (try cbv))))
        exact k5
      · (try cbv) <;> (repeat' (first | exact trivial | exact rfl | apply And.intro | exact fun _ => rfl | (intro _ hle; first | exact hup _ hle | exact hup2 _ hle | refine chunk_le hA rfl hle rfl ?_ | refine cat_le hA ?_ | refine upd_le hA ?_ | refine int_le ?_ | skip)))
    · have k4 : A.gt c 0 = false := by subst hA; simpa [Ar.real] using hc0
      refine ⟨?_, ?_, ?_⟩
      iterate 2 exact jjO
      first | refine testR k4 rfl ?_ | refine testL k4 rfl ?_
      cbv
      refine Fin.le hA 0 [(20, 0), (21, 1), (22, 2)] (.tup [.agg [.sl 0 1 (.l 0) (.s s), .sl 1 1 (.l 0) (.s s), .sl 2 1 (.l 0) (.s s), .int .i64 c'], .lit .i64 0]) _ 200 rfl rfl rfl ?_ ?_ jjK
      · (try cbv) <;> (repeat' (first | exact trivial | exact rfl | apply And.intro | exact fun _ => rfl | (intro _ hle; first | refine chunk_le hA rfl hle rfl ?_ | refine cat_le hA ?_ | refine upd_le hA ?_ | (try cbv))))
        rw [hc, if_neg hc0]
      · (try cbv) <;> (repeat' (first | exact trivial | exact rfl | apply And.intro | exact fun _ => rfl | (intro _ hle; first | exact hup _ hle | exact hup2 _ hle | refine chunk_le hA rfl hle rfl ?_ | refine cat_le hA ?_ | refine upd_le hA ?_ | refine int_le ?_ | skip)))
  generalize hA : Ar.real = A
  refine FnTr.dat hA h0 _ _ ?_
  (try cbv) <;> (repeat' (first | exact trivial | exact rfl | apply And.intro | exact fun _ => rfl | (intro _ hle; first | refine chunk_le hA rfl hle rfl ?_ | refine cat_le hA ?_ | refine upd_le hA ?_ | refine int_le ?_ | skip)))
  all_goals exact jjO
theorem refstop_fn {P : Program} {G : Gl} (hP : P = Tryd.prog) {s : Nat} {S L : Nat → Nat → Int} {W : Nat → Bool} {c c' n : Int} (hc : c' = if c = 0 then c else if n < 0 then -1 else n) :
    FnTr P G 77 [RD s S L W c, .int .i64 n] [] 0 (Gives (RD s S L W c') [] 20) := by
  by_cases h0 : c = 0
  · have c1 := refoff_fn (P := P) (G := G) (s := s) (S := S) (L := L) (W := W) (c := c) (r := true) hP ⟨fun _ => h0, fun _ => rfl⟩
    have hcc : c' = c := by rw [hc, if_pos h0]
    subst hcc
    have hT : T.Ok P := hP ▸ T_ok
    refine jjI Tryd.f77 hT ?_
    generalize hA : Ar.real = A
    generalize hK : Gives _ _ _ = K
    cbv
    refine jjT hA (c1) (.bl true) [] ?_
    cbv
    refine Fin.le hA 0 [] (RD s S L W c') ([]) 20 rfl rfl rfl ?_ ?_ jjK
    iterate 2 exact jjL
  · have c1 := refoff_fn (P := P) (G := G) (s := s) (S := S) (L := L) (W := W) (c := c) (r := false) hP ⟨fun q => (by cases q), fun q => absurd q h0⟩
    rw [if_neg h0] at hc
    by_cases h1 : n < 0
    · rw [if_pos h1] at hc
      have hT : T.Ok P := hP ▸ T_ok
      refine jjI Tryd.f77 hT ?_
      generalize hA : Ar.real = A
      generalize hK : Gives _ _ _ = K
      cbv
      refine jjT hA (c1) (.bl false) [] ?_
      cbv
      have k1 : A.lt n 0 = true := by subst hA; simpa [Ar.real] using h1
      first | refine testR k1 rfl ?_ | refine testL k1 rfl ?_
      cbv
      refine Fin.le hA 0 [] (RD s S L W c') ([]) 20 rfl rfl rfl ?_ ?_ jjK
      · (try cbv) <;> (repeat' (first | exact trivial | exact rfl | apply And.intro | exact fun _ => rfl | (intro _ hle; first | refine chunk_le hA rfl hle rfl ?_ | refine cat_le hA ?_ | refine upd_le hA ?_ | (try cbv))))
        exact hc.symm
      · exact jjL
    · rw [if_neg h1] at hc
      have hT : T.Ok P := hP ▸ T_ok
      refine jjI Tryd.f77 hT ?_
      generalize hA : Ar.real = A
      generalize hK : Gives _ _ _ = K
      cbv
      refine jjT hA (c1) (.bl false) [] ?_
      cbv
      have k1 : A.lt n 0 = false := by subst hA; simpa [Ar.real] using h1
      first | refine testR k1 rfl ?_ | refine testL k1 rfl ?_
      cbv
      refine Fin.le hA 0 [] (RD s S L W c') ([]) 20 rfl rfl rfl ?_ ?_ jjK
      · (try cbv) <;> (repeat' (first | exact trivial | exact rfl | apply And.intro | exact fun _ => rfl | (intro _ hle; first | refine chunk_le hA rfl hle rfl ?_ | refine cat_le hA ?_ | refine upd_le hA ?_ | (try cbv))))
        exact hc.symm
      · exact jjL
theorem refflush_off {P : Program} {G : Gl} (hP : P = Tryd.prog) {s : Nat} {S L : Nat → Nat → Int} {W : Nat → Bool} {c : Int} (h : c = 0) :
    FnTr P G 96 [RD s S L W c] [] 0 (Gives (.tup [RD s S L W c, .lit .i64 6]) [] 100) := by
  have c1 := refoff_fn (P := P) (G := G) (s := s) (S := S) (L := L) (W := W) (c := c) (r := true) hP ⟨fun _ => h, fun _ => rfl⟩
  have hT : T.Ok P := hP ▸ T_ok
  refine jjI Tryd.f96 hT ?_
  generalize hA : Ar.real = A
  generalize hK : Gives _ _ _ = K
  cbv
  refine jjT hA (c1) (.bl true) [] ?_
  cbv
  refine Fin.le hA 0 [] (.tup [RD s S L W c, .lit .i64 6]) ([]) 100 rfl rfl rfl ?_ ?_ jjK
  iterate 2 exact jjL
theorem refflush_ok {P : Program} {G : Gl} (hP : P = Tryd.prog) {s : Nat} {S L S' L' : Nat → Nat → Int} {W W' : Nat → Bool} {c c' : Int} (hs : s ≤ 4096) (h : c ≠ 0) (hcr : -1 ≤ c ∧ c ≤ 9223372036854775807)
    (hS : ∀ t x, t < s → x < 64 → S' t x = L t x) (hL : ∀ t x, t < s → x < 64 → L' t x = L t x) (hW : ∀ t, W' t = false) (hc : c' = if 0 < c then c - 1 else c) :
    FnTr P G 96 [RD s S L W c] [] 0 (Gives (.tup [RD s S' L' W' c', .lit .i64 0]) [] 200) := by
  have c1 := refoff_fn (P := P) (G := G) (s := s) (S := S) (L := L) (W := W) (c := c) (r := false) hP ⟨fun q => (by cases q), fun q => absurd q h⟩
  have c2 := copied_own (P := P) (G := G) (S := S) (L := L) (W := W) (c := c) hP hs
  obtain ⟨Si, hSi⟩ : ∃ Si : Nat → Nat → Nat → Int, ∀ i t x, Si i t x = if t < i then L t x else S t x := ⟨_, fun _ _ _ => rfl⟩
  obtain ⟨Wi, hWi⟩ : ∃ Wi : Nat → Nat → Bool, ∀ i t, Wi i t = if t < i then false else W t := ⟨_, fun _ _ => rfl⟩
  have s0 : ∀ t x, S t x = Si 0 t x := fun t x => by rw [hSi, if_neg (by omega)]
  have w0 : ∀ t, W t = Wi 0 t := fun t => by rw [hWi, if_neg (by omega)]
  have sS : ∀ i t x, Si (i + 1) t x = if t = i then L i x else Si i t x := fun i t x => by
    rw [hSi, hSi]
    by_cases q : t = i
    · subst q; rw [if_pos (by omega), if_pos rfl]
    · rw [if_neg q]
      by_cases q2 : t < i
      · rw [if_pos q2, if_pos (by omega)]
      · rw [if_neg q2, if_neg (by omega)]
  have wS : ∀ i t, Wi (i + 1) t = if t = i then false else Wi i t := fun i t => by
    rw [hWi, hWi]
    by_cases q : t = i
    · subst q; rw [if_pos (by omega), if_pos rfl]
    · rw [if_neg q]
      by_cases q2 : t < i
      · rw [if_pos q2, if_pos (by omega)]
      · rw [if_neg q2, if_neg (by omega)]
  have sE : ∀ t x, t < s → x < 64 → Si s t x = S' t x := fun t x h1 h2 => by rw [hSi, if_pos h1, hS t x h1 h2]
  have wE : ∀ t, t < s → Wi s t = W' t := fun t h1 => by rw [hWi, if_pos h1, hW]
  clear hSi hWi
  have h0 : FnTr P G 96 [RD s S L W c] [] 0 (Gives (.tup [.agg [.sl 0 1 (.l 0) (.s s), .sl 1 1 (.l 0) (.s s), .sl 2 1 (.l 0) (.s s), .int .i64 c'], .lit .i64 0]) (RH 0 1 2 s S' L' W') 200) := by
    have hT : T.Ok P := hP ▸ T_ok
    refine jjI Tryd.f96 hT ?_
    generalize hA : Ar.real = A
    generalize hK : Gives _ _ _ = K
    cbv
    refine jjT hA (c1) (.bl false) [] ?_
    cbv
    refine jjS hA (c2) [] ?_
    cbv
    refine LS.leU hT hA 47 (fun (i : Nat) => [(5, .int .i64 (i : Int))]) [] (fun i => [(6, .row 22 1 (.s s) (fun e => [.ro 1 (.s 64) (fun x => [.int .u8 (Si i e.val x.val)])])), (8, .row 4 1 (.s s) (fun e => [.bs (Wi i e.val)]))]) (fun i => i ≤ s) (fun i => s - i) 0 [] rfl rfl ?_ ?_ ?_
    · (try cbv) <;> (repeat' (first | exact trivial | exact rfl | apply And.intro | exact fun _ => rfl | (intro _ hle; first | refine chunk_le hA rfl hle rfl ?_ | refine cat_le hA ?_ | refine upd_le hA ?_ | refine int_le ?_ | skip)))
      all_goals first | exact s0 _ _ | exact w0 _ | exact jjO
    · exact Nat.zero_le _
    · intro R hR i hi
      cbv
      refine ⟨fun q1 => ?_, fun q1 => ?_⟩
      · have him : i < s := by clear hR; subst hA; simp [Ar.real] at q1; omega
        have kn : A.nat (Int.ofNat i) = i := by clear hR; subst hA; rfl
        cbv
        have hup : ∀ e, ltNV A e (.s s) → leL (leSV A 4) (updF A 1 (.s (A.nat (Int.ofNat i))) 0 [.ro 1 (.s 64) fun x => [.int .u8 (L (A.nat (Int.ofNat i)) x.val)]] (fun e => [.ro 1 (.s 64) fun x => [.int .u8 (Si i e.val x.val)]]) e) [.ro 1 (.s 64) (fun x => [.int .u8 (Si (i + 1) e.val x.val)])] := fun e he =>
          upd_rows (F := Si i) (F' := Si (i + 1)) (v := L i) hA (by rw [kn]; exact RowOf.base .u8 64 (L i)) (fun t x h1 h2 => by rw [kn]; exact sS i t x) he rfl
        have hup2 : ∀ e, ltNV A e (.s s) → leL (leSV A 4) (updF A 1 (.s (A.nat (Int.ofNat i))) 0 [.bl false] (fun e => [.bs (Wi i e.val)]) e) [.bs (Wi (i + 1) e.val)] := fun e he =>
          Bls.le hA (g := Wi (i + 1)) (Bls.upd hA (A.nat (Int.ofNat i)) (v := false) rfl (Bls.base (Wi i) s)) he (Nat.le_refl _) (by
            rw [kn]; exact (wS _ _).symm)
        refine jjR hA hT 4 ?_
        cbv
        refine ⟨?_, ?_, ?_, ?_, ?_⟩
        iterate 4 exact jjO
        refine jjD ?_
        cbv
        refine ⟨?_, ?_, ?_, hR _ _ ⟨i + 1, 47, [], rfl, rfl, ?_, him, (by show s - (i + 1) < s - i; omega)⟩⟩
        iterate 3 exact jjO
        clear hR
        (try cbv) <;> (repeat' (first | exact trivial | exact rfl | apply And.intro | exact fun _ => rfl | (intro _ hle; first | exact hup _ hle | exact hup2 _ hle | refine chunk_le hA rfl hle rfl ?_ | refine cat_le hA ?_ | refine upd_le hA ?_ | refine int_le ?_ | skip)))
        all_goals exact jjO
      · have him : i = s := by clear hR; subst hA; simp [Ar.real] at q1; omega
        subst him
        clear hR
        cbv
        have hS2 : ∀ e, ltNV A e (.s i) → leL (leSV A 4) [.ro 1 (.s 64) (fun x => [.int .u8 (Si i e.val x.val)])] [.ro 1 (.s 64) (fun x => [.int .u8 (S' e.val x.val)])] := fun e he =>
          Rws.le hA (f := Si i) (g := S') (len := 64) (n := i) (Rws.base .u8 64 (Si i) i) he (Nat.le_refl _) rfl (fun x hx => sE _ x (by subst hA; exact ltNV_real.1 he) hx)
        have hL2 : ∀ e, ltNV A e (.s i) → leL (leSV A 4) [.ro 1 (.s 64) (fun x => [.int .u8 (L e.val x.val)])] [.ro 1 (.s 64) (fun x => [.int .u8 (L' e.val x.val)])] := fun e he =>
          Rws.le hA (f := L) (g := L') (len := 64) (n := i) (Rws.base .u8 64 L i) he (Nat.le_refl _) rfl (fun x hx => (hL _ x (by subst hA; exact ltNV_real.1 he) hx).symm)
        have hW2 : ∀ e, ltNV A e (.s i) → leL (leSV A 4) [.bs (Wi i e.val)] [.bs (W' e.val)] := fun e he =>
          Bls.le hA (f := Wi i) (g := W') (Bls.base (Wi i) i) he (Nat.le_refl _) (wE _ (by subst hA; exact ltNV_real.1 he))
        by_cases hc0 : 0 < c
        · have k4 : A.gt c 0 = true := by subst hA; simpa [Ar.real] using hc0
          have k5 : A.sub c 1 = c' := by subst hA; rw [hc, if_pos hc0]; rfl
          have k6 : A.inR .i64 (A.sub c 1) := by subst hA; exact inR64 (by simp only [Ar.real]; omega) (by simp only [Ar.real]; omega)
          first | refine testR k4 rfl ?_ | refine testL k4 rfl ?_
          cbv
          refine ⟨k6, ?_⟩
          refine Fin.le hA 0 [(6, 0), (7, 1), (8, 2)] (.tup [.agg [.sl 0 1 (.l 0) (.s i), .sl 1 1 (.l 0) (.s i), .sl 2 1 (.l 0) (.s i), .int .i64 c'], .lit .i64 0]) _ 200 rfl rfl rfl ?_ ?_ jjK
          · (try cbv) <;> (repeat' (first | exact trivial | exact rfl | apply And.intro | exact fun _ => rfl | (intro _ hle; first | refine chunk_le hA rfl hle rfl ?_ | refine cat_le hA ?_ | refine upd_le hA ?_ | (try cbv))))
            exact k5
          · (try cbv) <;> (repeat' (first | exact trivial | exact rfl | apply And.intro | exact fun _ => rfl | (intro _ hle; first | exact hS2 _ hle | exact hL2 _ hle | exact hW2 _ hle | refine chunk_le hA rfl hle rfl ?_ | refine cat_le hA ?_ | refine upd_le hA ?_ | refine int_le ?_ | skip)))
        · have k4 : A.gt c 0 = false := by subst hA; simpa [Ar.real] using hc0
          first | refine testR k4 rfl ?_ | refine testL k4 rfl ?_
          cbv
          refine Fin.le hA 0 [(6, 0), (7, 1), (8, 2)] (.tup [.agg [.sl 0 1 (.l 0) (.s i), .sl 1 1 (.l 0) (.s i), .sl 2 1 (.l 0) (.s i), .int .i64 c'], .lit .i64 0]) _ 200 rfl rfl rfl ?_ ?_ jjK
          · (try cbv) <;> (repeat' (first | exact trivial | exact rfl | apply And.intro | exact fun _ => rfl | (intro _ hle; first | refine chunk_le hA rfl hle rfl ?_ | refine cat_le hA ?_ | refine upd_le hA ?_ | (try cbv))))
            rw [hc, if_neg hc0]
          · (try cbv) <;> (repeat' (first | exact trivial | exact rfl | apply And.intro | exact fun _ => rfl | (intro _ hle; first | exact hS2 _ hle | exact hL2 _ hle | exact hW2 _ hle | refine chunk_le hA rfl hle rfl ?_ | refine cat_le hA ?_ | refine upd_le hA ?_ | refine int_le ?_ | skip)))
  generalize hA : Ar.real = A
  refine FnTr.dat hA h0 _ _ ?_
  (try cbv) <;> (repeat' (first | exact trivial | exact rfl | apply And.intro | exact fun _ => rfl | (intro _ hle; first | refine chunk_le hA rfl hle rfl ?_ | refine cat_le hA ?_ | refine upd_le hA ?_ | refine int_le ?_ | skip)))
  all_goals exact jjO
open Go.DskLaw (q64 secV needN pcs padOk isB usedP getP scanP getP_next scanP_none scanP_some usedP_none1 usedP_on usedP_none2 usedP_end usedP_none3 getP_stop getP_none getP_long getP_empty getP_on getP_end)
theorem refrun_fn {P : Program} {G : Gl} (hP : P = Tryd.prog) {s a b : Int} {r : Bool} (hr : r = true ↔ 0 ≤ a ∧ a ≤ b ∧ b ≤ s) : FnTr P G 105 [.int .i64 s, .int .i64 a, .int .i64 b] [] 0 (Gives (.bs r) [] 0) := by
  by_cases h1 : 0 ≤ a
  · by_cases h2 : a ≤ b
    · skip
      have hT : T.Ok P := hP ▸ T_ok
      refine jjI Tryd.f105 hT ?_
      generalize hA : Ar.real = A
      generalize hK : Gives _ _ _ = K
      cbv
      have k1 : A.ge a 0 = true := by subst hA; simp [Ar.real]; omega
      have k2 : A.ge b a = true := by subst hA; simp [Ar.real]; omega
      first | refine testR k1 rfl ?_ | refine testL k1 rfl ?_
      cbv
      first | refine testR k2 rfl ?_ | refine testL k2 rfl ?_
      cbv
      refine Fin.le hA 0 [] (.bs r) ([]) 0 rfl rfl rfl ?_ ?_ jjK
      · (try cbv) <;> (repeat' (first | exact trivial | exact rfl | apply And.intro | exact fun _ => rfl | (intro _ hle; first | refine chunk_le hA rfl hle rfl ?_ | refine cat_le hA ?_ | refine upd_le hA ?_ | (try cbv))))
        subst hA
        rw [Bool.eq_iff_iff, hr]; simp [Ar.real]; omega
      · exact jjL
    · skip
      have hT : T.Ok P := hP ▸ T_ok
      refine jjI Tryd.f105 hT ?_
      generalize hA : Ar.real = A
      generalize hK : Gives _ _ _ = K
      cbv
      have k1 : A.ge a 0 = true := by subst hA; simp [Ar.real]; omega
      have k2 : A.ge b a = false := by subst hA; simp [Ar.real]; omega
      first | refine testR k1 rfl ?_ | refine testL k1 rfl ?_
      cbv
      first | refine testR k2 rfl ?_ | refine testL k2 rfl ?_
      cbv
      refine Fin.le hA 0 [] (.bs r) ([]) 0 rfl rfl rfl ?_ ?_ jjK
      · (try cbv) <;> (repeat' (first | exact trivial | exact rfl | apply And.intro | exact fun _ => rfl | (intro _ hle; first | refine chunk_le hA rfl hle rfl ?_ | refine cat_le hA ?_ | refine upd_le hA ?_ | (try cbv))))
        subst hA
        rw [Bool.eq_iff_iff, hr]; simp; omega
      · exact jjL
  · skip
    have hT : T.Ok P := hP ▸ T_ok
    refine jjI Tryd.f105 hT ?_
    generalize hA : Ar.real = A
    generalize hK : Gives _ _ _ = K
    cbv
    have k1 : A.ge a 0 = false := by subst hA; simp [Ar.real]; omega
    first | refine testR k1 rfl ?_ | refine testL k1 rfl ?_
    cbv
    refine Fin.le hA 0 [] (.bs r) ([]) 0 rfl rfl rfl ?_ ?_ jjK
    · (try cbv) <;> (repeat' (first | exact trivial | exact rfl | apply And.intro | exact fun _ => rfl | (intro _ hle; first | refine chunk_le hA rfl hle rfl ?_ | refine cat_le hA ?_ | refine upd_le hA ?_ | (try cbv))))
      subst hA
      rw [Bool.eq_iff_iff, hr]; simp; omega
    · exact jjL
def UsedIs (v : Nat → Int) (a b : Int) : Prop := (usedP v = none ∧ a = 0 ∧ b = 0) ∨ ∃ m on, usedP v = some (m, on) ∧ a = ((m : Nat) : Int) ∧ b = if on then 1 else 2
theorem UsedIs.none {v : Nat → Int} {a b : Int} (h : UsedIs v a b) (hu : usedP v = none) : a = 0 ∧ b = 0 := by
  rcases h with h | ⟨m, on, h, _⟩
  · exact h.2
  · rw [hu] at h; cases h
theorem UsedIs.some {v : Nat → Int} {a b : Int} {m : Nat} {on : Bool} (h : UsedIs v a b) (hu : usedP v = some (m, on)) : a = (m : Int) ∧ b = if on then 1 else 2 := by
  rcases h with h | ⟨m', on', h, h1, h2⟩
  · rw [hu] at h; cases h.1
  · rw [hu] at h; cases h; exact ⟨h1, h2⟩
theorem refused_fn {P : Program} {G : Gl} (hP : P = Tryd.prog) {n : Nat} {v : Nat → Int} {a b : Int} (hn : n = 64) (hv : isB v) (h : UsedIs v a b) : FnTr P G 108 [By n v] [] 0 (Gives (.tup [.int .i64 a, .int .u8 b]) [] 0) := by
  have h62 := hv 62 (by omega)
  have h63 := hv 63 (by omega)
  have hw : IntKind.i64.wrap (v 62) = v 62 := by rw [IntKind.wrap_i64]; omega
  by_cases e1 : v 63 ≠ 1 ∧ v 63 ≠ 2
  · obtain ⟨rfl, rfl⟩ := h.none (by
      by_cases q : padOk v
      · exact usedP_none3 q e1.1 e1.2
      · exact usedP_none1 q)
    have hT : T.Ok P := hP ▸ T_ok
    refine jjI Tryd.f108 hT ?_
    generalize hA : Ar.real = A
    generalize hK : Gives _ _ _ = K
    cbv
    refine ⟨?_, ?_, ?_⟩
    iterate 2 exact jjO
    have k1 : A.ne (v 63) 1 = true := by subst hA; simp [Ar.real]; exact e1.1
    have k2 : A.ne (v 63) 2 = true := by subst hA; simp [Ar.real]; exact e1.2
    first | refine testR k1 rfl ?_ | refine testL k1 rfl ?_
    cbv
    first | refine testR k2 rfl ?_ | refine testL k2 rfl ?_
    cbv
    refine Fin.le hA 0 [] (.tup [.int .i64 0, .int .u8 0]) ([]) 0 rfl rfl rfl ?_ ?_ jjK
    iterate 2 exact jjL
  by_cases e2 : 62 < v 62
  · obtain ⟨rfl, rfl⟩ := h.none (usedP_none1 fun q => by have := q.1; omega)
    by_cases e3 : v 63 = 1
    · skip
      have hT : T.Ok P := hP ▸ T_ok
      refine jjI Tryd.f108 hT ?_
      generalize hA : Ar.real = A
      generalize hK : Gives _ _ _ = K
      cbv
      refine ⟨?_, ?_, ?_⟩
      iterate 2 exact jjO
      have kc : A.conv .i64 (v 62) = v 62 := by subst hA; exact hw
      have k1 : A.ne (v 63) 1 = false := by subst hA; simp [Ar.real]; exact e3
      have k3 : A.gt (A.conv .i64 (v 62)) 62 = true := by rw [kc]; subst hA; simp [Ar.real]; omega
      first | refine testR k1 rfl ?_ | refine testL k1 rfl ?_
      cbv
      first | refine testR k3 rfl ?_ | refine testL k3 rfl ?_
      cbv
      refine Fin.le hA 0 [] (.tup [.int .i64 0, .int .u8 0]) ([]) 0 rfl rfl rfl ?_ ?_ jjK
      iterate 2 exact jjL
    · have e4 : v 63 = 2 := by omega
      have hT : T.Ok P := hP ▸ T_ok
      refine jjI Tryd.f108 hT ?_
      generalize hA : Ar.real = A
      generalize hK : Gives _ _ _ = K
      cbv
      refine ⟨?_, ?_, ?_⟩
      iterate 2 exact jjO
      have kc : A.conv .i64 (v 62) = v 62 := by subst hA; exact hw
      have k1 : A.ne (v 63) 1 = true := by subst hA; simp [Ar.real]; exact e3
      have k2 : A.ne (v 63) 2 = false := by subst hA; simp [Ar.real]; exact e4
      have k3 : A.gt (A.conv .i64 (v 62)) 62 = true := by rw [kc]; subst hA; simp [Ar.real]; omega
      first | refine testR k1 rfl ?_ | refine testL k1 rfl ?_
      cbv
      first | refine testR k2 rfl ?_ | refine testL k2 rfl ?_
      cbv
      first | refine testR k3 rfl ?_ | refine testL k3 rfl ?_
      cbv
      refine Fin.le hA 0 [] (.tup [.int .i64 0, .int .u8 0]) ([]) 0 rfl rfl rfl ?_ ?_ jjK
      iterate 2 exact jjL
  by_cases e3 : v 63 = 1 ∧ v 62 < 62
  · obtain ⟨rfl, rfl⟩ := h.none (by
      by_cases q : padOk v
      · exact usedP_none2 q e3.1 (by omega)
      · exact usedP_none1 q)
    have hT : T.Ok P := hP ▸ T_ok
    refine jjI Tryd.f108 hT ?_
    generalize hA : Ar.real = A
    generalize hK : Gives _ _ _ = K
    cbv
    refine ⟨?_, ?_, ?_⟩
    iterate 2 exact jjO
    have kc : A.conv .i64 (v 62) = v 62 := by subst hA; exact hw
    have k1 : A.ne (v 63) 1 = false := by subst hA; simp [Ar.real]; exact e3.1
    have k3 : A.gt (A.conv .i64 (v 62)) 62 = false := by rw [kc]; subst hA; simp [Ar.real]; omega
    have k4 : A.eq (v 63) 1 = true := by subst hA; simp [Ar.real]; exact e3.1
    have k5 : A.lt (A.conv .i64 (v 62)) 62 = true := by rw [kc]; subst hA; simp [Ar.real]; omega
    first | refine testR k1 rfl ?_ | refine testL k1 rfl ?_
    cbv
    first | refine testR k3 rfl ?_ | refine testL k3 rfl ?_
    cbv
    first | refine testR k4 rfl ?_ | refine testL k4 rfl ?_
    cbv
    first | refine testR k5 rfl ?_ | refine testL k5 rfl ?_
    cbv
    refine Fin.le hA 0 [] (.tup [.int .i64 0, .int .u8 0]) ([]) 0 rfl rfl rfl ?_ ?_ jjK
    iterate 2 exact jjL
  obtain ⟨m, hm⟩ : ∃ m : Nat, v 62 = (m : Int) := ⟨(v 62).toNat, by omega⟩
  have hm62 : m ≤ 62 := by omega
  have hsome : (∀ x, m ≤ x → x < 62 → v x = 0) → a = (m : Int) ∧ b = v 63 := fun hz => by
    have hp : padOk v := ⟨by omega, fun x q1 q2 => hz x (by omega) q2⟩
    by_cases q : v 63 = 1
    · have := h.some (usedP_on hp q (by omega))
      rw [this.1, this.2, q]; exact ⟨by omega, rfl⟩
    · have := h.some (usedP_end hp q (by omega))
      rw [this.1, this.2, show v 63 = 2 by omega]; exact ⟨by omega, rfl⟩
  have hnone : ∀ x, m ≤ x → x < 62 → v x ≠ 0 → a = 0 ∧ b = 0 := fun x q1 q2 q3 => h.none (usedP_none1 fun q => q3 (q.2 x (by omega) q2))
  have hcase : (v 63 = 1 ∧ m = 62) ∨ (v 63 ≠ 1 ∧ v 63 = 2) := by omega
  clear h
  rcases hcase with hc | hc
  · skip
    have hT : T.Ok P := hP ▸ T_ok
    refine jjI Tryd.f108 hT ?_
    generalize hA : Ar.real = A
    generalize hK : Gives _ _ _ = K
    cbv
    refine ⟨?_, ?_, ?_⟩
    iterate 2 exact jjO
    have kc : A.conv .i64 (v 62) = (m : Int) := by subst hA; show IntKind.i64.wrap (v 62) = _; rw [hw]; exact hm
    have k1 : A.ne (v 63) 1 = false := by subst hA; simp [Ar.real]; exact hc.1
    have k3 : A.gt (A.conv .i64 (v 62)) 62 = false := by rw [kc]; subst hA; simp [Ar.real]; omega
    have k4 : A.eq (v 63) 1 = true := by subst hA; simp [Ar.real]; exact hc.1
    have k5 : A.lt (A.conv .i64 (v 62)) 62 = false := by rw [kc]; subst hA; simp [Ar.real]; omega
    first | refine testR k1 rfl ?_ | refine testL k1 rfl ?_
    cbv
    first | refine testR k3 rfl ?_ | refine testL k3 rfl ?_
    cbv
    first | refine testR k4 rfl ?_ | refine testL k4 rfl ?_
    cbv
    first | refine testR k5 rfl ?_ | refine testL k5 rfl ?_
    cbv
    refine LS.rounds hA 1 hT ?_
    cbv
    have k6 : A.lt (A.conv .i64 (v 62)) 62 = false := k5
    first | refine testR k6 rfl ?_ | refine testL k6 rfl ?_
    cbv
    obtain ⟨ha, hb⟩ := hsome (fun x q1 q2 => by omega)
    refine Fin.le hA 0 [] (.tup [.int .i64 a, .int .u8 b]) ([]) 0 rfl rfl rfl ?_ ?_ jjK
    · (try cbv) <;> (repeat' (first | exact trivial | exact rfl | apply And.intro | exact fun _ => rfl | (intro _ hle; first | refine chunk_le hA rfl hle rfl ?_ | refine cat_le hA ?_ | refine upd_le hA ?_ | (try cbv))))
      · exact kc.trans ha.symm
      · exact hb.symm
    · exact jjL
  · skip
    have hT : T.Ok P := hP ▸ T_ok
    refine jjI Tryd.f108 hT ?_
    generalize hA : Ar.real = A
    generalize hK : Gives _ _ _ = K
    cbv
    refine ⟨?_, ?_, ?_⟩
    iterate 2 exact jjO
    have kc : A.conv .i64 (v 62) = (m : Int) := by subst hA; show IntKind.i64.wrap (v 62) = _; rw [hw]; exact hm
    have k1 : A.ne (v 63) 1 = true := by subst hA; simp [Ar.real]; exact hc.1
    have k2 : A.ne (v 63) 2 = false := by subst hA; simp [Ar.real]; exact hc.2
    have k3 : A.gt (A.conv .i64 (v 62)) 62 = false := by rw [kc]; subst hA; simp [Ar.real]; omega
    have k4 : A.eq (v 63) 1 = false := by subst hA; simp [Ar.real]; exact hc.1
    first | refine testR k1 rfl ?_ | refine testL k1 rfl ?_
    cbv
    first | refine testR k2 rfl ?_ | refine testL k2 rfl ?_
    cbv
    first | refine testR k3 rfl ?_ | refine testL k3 rfl ?_
    cbv
    first | refine testR k4 rfl ?_ | refine testL k4 rfl ?_
    cbv
    refine LS.le hT hA 0 (fun (i : Nat) => [(6, .int .i64 (i : Int))]) (fun _ => []) (fun i => m ≤ i ∧ i ≤ 62 ∧ ∀ x, m ≤ x → x < i → v x = 0) (fun i => 62 - i) m [] rfl rfl ?_ ?_ ?_
    · (try cbv) <;> (repeat' (first | exact trivial | exact rfl | apply And.intro | exact fun _ => rfl | (intro _ hle; first | refine chunk_le hA rfl hle rfl ?_ | refine cat_le hA ?_ | refine upd_le hA ?_ | refine int_le ?_ | skip)))
      all_goals exact kc
    · exact ⟨Nat.le_refl _, hm62, fun x q1 q2 => by omega⟩
    · intro R hR i hi
      obtain ⟨hi1, hi2, hi3⟩ := hi
      cbv
      refine ⟨fun q1 => ?_, fun q1 => ?_⟩
      · have him : i < 62 := by clear hR; subst hA; simp [Ar.real] at q1; omega
        have hvi := hv i (by omega)
        have kn : A.nat (Int.ofNat i) = i := by clear hR; subst hA; rfl
        cbv
        refine ⟨jjO, ?_⟩
        by_cases hz : v i = 0
        · have k7 : A.ne (v (A.nat (Int.ofNat i))) 0 = false := by rw [kn, hz]; clear hR; subst hA; rfl
          first | refine testR k7 rfl ?_ | refine testL k7 rfl ?_
          cbv
          refine ⟨jjO, hR _ _ ⟨i + 1, 0, [], rfl, rfl, ?_, ⟨by omega, by omega, fun x q2 q3 => ?_⟩, (by show 62 - (i + 1) < 62 - i; omega)⟩⟩
          · clear hR
            (try cbv) <;> (repeat' (first | exact trivial | exact rfl | apply And.intro | exact fun _ => rfl | (intro _ hle; first | refine chunk_le hA rfl hle rfl ?_ | refine cat_le hA ?_ | refine upd_le hA ?_ | refine int_le ?_ | skip)))
            all_goals exact jjO
          · rcases Nat.lt_or_ge x i with e | e
            · exact hi3 x q2 e
            · rw [show x = i by omega]; exact hz
        · have k7 : A.ne (v (A.nat (Int.ofNat i))) 0 = true := by rw [kn]; clear hR; subst hA; simp [Ar.real]; exact hz
          obtain ⟨ha, hb⟩ := hnone i hi1 him hz
          clear hR
          first | refine testR k7 rfl ?_ | refine testL k7 rfl ?_
          cbv
          refine Fin.le hA 0 [] (.tup [.int .i64 a, .int .u8 b]) ([]) 0 rfl rfl rfl ?_ ?_ jjK
          · (try cbv) <;> (repeat' (first | exact trivial | exact rfl | apply And.intro | exact fun _ => rfl | (intro _ hle; first | refine chunk_le hA rfl hle rfl ?_ | refine cat_le hA ?_ | refine upd_le hA ?_ | (try cbv))))
            · exact ha.symm
            · exact hb.symm
          · exact jjL
      · have him : i = 62 := by clear hR; subst hA; simp [Ar.real] at q1; omega
        clear hR
        obtain ⟨ha, hb⟩ := hsome (fun x q2 q3 => hi3 x q2 (by omega))
        cbv
        refine Fin.le hA 0 [] (.tup [.int .i64 a, .int .u8 b]) ([]) 0 rfl rfl rfl ?_ ?_ jjK
        · (try cbv) <;> (repeat' (first | exact trivial | exact rfl | apply And.intro | exact fun _ => rfl | (intro _ hle; first | refine chunk_le hA rfl hle rfl ?_ | refine cat_le hA ?_ | refine upd_le hA ?_ | (try cbv))))
          · exact kc.trans ha.symm
          · exact hb.symm
        · exact jjL
theorem refget_own {P : Program} {G : Gl} {K : SV → Hl → Nat → Prop} (hP : P = Tryd.prog) {s first fin : Nat} {S L : Nat → Nat → Int} {f0 : Nat → Int} {W : Nat → Bool} {c : Int} {V : Nat → Nat → Int} {R0 : Option (Nat × (Nat → Int) × Nat)} (hs : s ≤ 4096)
    (h : first ≤ fin ∧ fin ≤ s) (ho : c ≠ 0) (hV : ∀ i, i < s → V i = L i ∧ isB (V i)) (hR0 : getP V first fin (fin - first) first 0 f0 = R0)
    (hK1 : ∀ n f next, R0 = some (n, f, next) → K (.tup [.sl 1 1 (.l 0) (.s n), .int .i64 (next : Int), .lit .i64 0]) [(1, .row 5 1 (.s n) (fun e => [.int .u8 (f e.val)]))] 600)
    (hK0 : R0 = none → K (.tup [.nils, .lit .i64 0, .lit .i64 4]) [] 600) :
    FnTr P G 101 [RD s S L W c, .int .i64 (first : Int), .int .i64 (fin : Int)] [] 0 K := by
  have c1 := refrun_fn (P := P) (G := G) (s := (s : Int)) (a := (first : Int)) (b := (fin : Int)) (r := true) hP ⟨fun _ => (by omega), fun _ => rfl⟩
  have c2 := refoff_fn (P := P) (G := G) (s := s) (S := S) (L := L) (W := W) (c := c) (r := false) hP ⟨fun q => (by cases q), fun q => absurd q ho⟩
  have c3 : ∀ i, i < s → FnTr P G 107 [RD s S L W c, .int .i64 (i : Int)] [] 0 (Gives (.tup [.ro 1 (.s 64) (fun e => [.int .u8 (V i e.val)]), .lit .i64 0]) [] 2) := fun i hi => refread_ok hP ho hi (hV i hi).1
  obtain ⟨m64, h64⟩ : ∃ m, m = 64 := ⟨_, rfl⟩
  have hB : ∀ i, i < s → isB (V i) := fun i hi => (hV i hi).2
  clear hV
  have hT : T.Ok P := hP ▸ T_ok
  refine jjI Tryd.f101 hT ?_
  generalize hA : Ar.real = A
  cbv
  refine jjT hA (c1) (.bl true) [] ?_
  cbv
  refine jjT hA (c2) (.bl false) [] ?_
  cbv
  clear c1 c2
  refine LS.ghost 5 1 (.l 0) (fun _ => [.int .u8 0]) rfl ?_
  refine LS.le3 hT hA 1 (fun (x : Nat) (n : Nat) (_ : Nat → Int) => [(9, .sl 1 1 (.l 0) (.s n)), (10, .int .i64 (x : Int))]) (fun _ n f => [(1, .row 5 1 (.s n) (fun e => [.int .u8 (f e.val)])), (0, .cells 46 [Rw64 s S, Rw64 s L, .ro 1 (.s s) (fun e => [.bs (W e.val)]), .int .i64 c])]) (fun x n f => first ≤ x ∧ x ≤ fin ∧ n ≤ 65536 ∧ getP V first fin (fin - x) x n f = R0) (fun x _ _ => fin - x) first 0 f0 [(15, 1)] rfl rfl ?_ ?_ ?_
  · (try cbv) <;> (repeat' (first | exact trivial | exact rfl | apply And.intro | exact fun _ => rfl | (intro _ hle; first | refine chunk_le hA rfl hle rfl ?_ | refine cat_le hA ?_ | refine upd_le hA ?_ | refine int_le ?_ | skip)))
    all_goals (exfalso; subst hA; exact absurd (ltNV_real.1 hle) (Nat.not_lt_zero _))
  · exact ⟨Nat.le_refl _, h.1, by omega, hR0⟩
  · intro R hR x n f hx
    cbv
    refine ⟨fun h1 => ?_, fun h1 => ?_⟩
    · have hxf : x < fin := by clear c3 hK1 hK0 hB hR0 hx hR; subst hA; simpa [Ar.real] using h1
      have c4 := c3 x (by omega)
      have hb := hB x (by omega)
      have hgp := hx.2.2.2
      have hn := hx.2.2.1
      clear c3 hB
      obtain ⟨f', hf'⟩ : ∃ f' : Nat → Int, f' = fun i => if i < n then f i else V x (i - n) := ⟨_, rfl⟩
      have hfe : ∀ i, f' i = if i < n then f i else V x (i - n) := fun i => by rw [hf']
      cbv
      refine jjS hA (c4) [] ?_
      cbv
      cases hu : usedP (V x) with
      | none =>
        have a1 := refused_fn (P := P) (G := G) (n := m64) (v := V x) (a := 0) (b := 0) hP h64 hb (.inl ⟨hu, rfl, rfl⟩)
        have hr0 : R0 = none := hgp.symm.trans (getP_none hxf hu)
        clear hR hK1
        refine jjT hA (a1) (.tup [.lit .i64 0, .lit .u8 0]) [] ?_
        cbv
        refine Fin.le hA 0 [] (.tup [.nils, .lit .i64 0, .lit .i64 4]) [] 600 rfl rfl rfl ?_ ?_ (hK0 hr0)
        iterate 2 exact jjL
      | some r =>
        obtain ⟨m, on⟩ := r
        obtain ⟨nm, hnm⟩ : ∃ q, q = n + m := ⟨_, rfl⟩
        have hm62 : m ≤ 62 := by
          clear hR hK1 hK0
          unfold usedP at hu
          split at hu
          · rename_i q
            have := q.1
            split at hu
            · split at hu
              · cases hu; omega
              · cases hu
            · split at hu
              · cases hu; omega
              · cases hu
          · cases hu
        cases on with
        | true =>
          have a1 := refused_fn (P := P) (G := G) (n := m64) (v := V x) (a := (m : Int)) (b := 1) hP h64 hb (.inr ⟨m, true, hu, rfl, rfl⟩)
          refine jjT hA (a1) (.tup [.int .i64 (m : Int), .lit .u8 1]) [] ?_
          cbv
          have hap : A.addN n (A.subN (A.nat (Int.ofNat m)) 0) = nm := by clear hR; subst hA; rw [hnm]; rfl
          refine ⟨?_, ⟨?_, ?_⟩, ?_⟩
          iterate 3 exact jjO
          by_cases e3 : 65536 < n + m
          · have hr0 : R0 = none := hgp.symm.trans (getP_long hxf hu e3)
            have k1 : A.gt (A.i2 (A.addN n (A.subN (A.nat (Int.ofNat m)) 0))) 65536 = true := by rw [hap]; clear hR; subst hA; simp [Ar.real]; omega
            clear hR hK1
            first | refine testR k1 rfl ?_ | refine testL k1 rfl ?_
            cbv
            refine Fin.le hA 0 [] (.tup [.nils, .lit .i64 0, .lit .i64 4]) [] 600 rfl rfl rfl ?_ ?_ (hK0 hr0)
            iterate 2 exact jjL
          · have hr1 := hgp.symm.trans (getP_on hxf hu e3)
            rw [← hf', ← hnm] at hr1
            have k1 : A.gt (A.i2 (A.addN n (A.subN (A.nat (Int.ofNat m)) 0))) 65536 = false := by rw [hap]; clear hR; subst hA; simp [Ar.real]; omega
            first | refine testR k1 rfl ?_ | refine testL k1 rfl ?_
            cbv
            refine ⟨jjO, hR _ _ _ _ ⟨x + 1, nm, f', 1, [(26, 1)], rfl, rfl, ?_, ⟨by omega, by omega, by omega, hr1.symm⟩, (by show fin - (x + 1) < fin - x; omega)⟩⟩
            clear hR
            (try cbv) <;> (repeat' (first | exact trivial | exact rfl | apply And.intro | exact fun _ => rfl | (intro _ hle; first | refine chunk_le hA rfl hle rfl ?_ | refine cat_le hA ?_ | refine upd_le hA ?_ | refine int_le ?_ | skip)))
            all_goals first | exact hfe _ | exact hap | exact jjO
        | false =>
          have a1 := refused_fn (P := P) (G := G) (n := m64) (v := V x) (a := (m : Int)) (b := 2) hP h64 hb (.inr ⟨m, false, hu, rfl, rfl⟩)
          clear hR
          refine jjT hA (a1) (.tup [.int .i64 (m : Int), .lit .u8 2]) [] ?_
          cbv
          have hap : A.addN n (A.subN (A.nat (Int.ofNat m)) 0) = nm := by subst hA; rw [hnm]; rfl
          refine ⟨?_, ⟨?_, ?_⟩, ?_⟩
          iterate 3 exact jjO
          by_cases e3 : 65536 < n + m
          · have hr0 : R0 = none := hgp.symm.trans (getP_long hxf hu e3)
            have k1 : A.gt (A.i2 (A.addN n (A.subN (A.nat (Int.ofNat m)) 0))) 65536 = true := by rw [hap]; subst hA; simp [Ar.real]; omega
            clear hK1
            first | refine testR k1 rfl ?_ | refine testL k1 rfl ?_
            cbv
            refine Fin.le hA 0 [] (.tup [.nils, .lit .i64 0, .lit .i64 4]) [] 600 rfl rfl rfl ?_ ?_ (hK0 hr0)
            iterate 2 exact jjL
          · have k1 : A.gt (A.i2 (A.addN n (A.subN (A.nat (Int.ofNat m)) 0))) 65536 = false := by rw [hap]; subst hA; simp [Ar.real]; omega
            by_cases e4 : m = 0
            · have k2 : A.eq (Int.ofNat m) 0 = true := by subst hA; simp [Ar.real]; omega
              by_cases e5 : first < x
              · have hr0 : R0 = none := hgp.symm.trans (getP_empty hxf hu e4 e5)
                have k3 : A.gt (Int.ofNat x) (Int.ofNat first) = true := by subst hA; simp [Ar.real]; omega
                first | refine testR k1 rfl ?_ | refine testL k1 rfl ?_
                cbv
                first | refine testR k2 rfl ?_ | refine testL k2 rfl ?_
                cbv
                first | refine testR k3 rfl ?_ | refine testL k3 rfl ?_
                cbv
                refine Fin.le hA 0 [] (.tup [.nils, .lit .i64 0, .lit .i64 4]) [] 600 rfl rfl rfl ?_ ?_ (hK0 hr0)
                iterate 2 exact jjL
              · have hr1 := hgp.symm.trans (getP_end hxf hu (by omega) (by omega))
                rw [← hf', ← hnm] at hr1
                have k3 : A.gt (Int.ofNat x) (Int.ofNat first) = false := by subst hA; simp [Ar.real]; omega
                first | refine testR k1 rfl ?_ | refine testL k1 rfl ?_
                cbv
                first | refine testR k2 rfl ?_ | refine testL k2 rfl ?_
                cbv
                first | refine testR k3 rfl ?_ | refine testL k3 rfl ?_
                cbv
                refine ⟨jjO, ?_⟩
                refine Fin.le hA 1 [(26, 1)] (.tup [.sl 1 1 (.l 0) (.s nm), .int .i64 ((x + 1 : Nat) : Int), .lit .i64 0]) [(1, .row 5 1 (.s nm) (fun e => [.int .u8 (f' e.val)]))] 600 rfl rfl rfl ?_ ?_ (hK1 _ _ _ hr1)
                · (try cbv) <;> (repeat' (first | exact trivial | exact rfl | apply And.intro | exact fun _ => rfl | (intro _ hle; first | refine chunk_le hA rfl hle rfl ?_ | refine cat_le hA ?_ | refine upd_le hA ?_ | refine int_le ?_ | skip)))
                  all_goals first | exact hap | exact jjO
                · (try cbv) <;> (repeat' (first | exact trivial | exact rfl | apply And.intro | exact fun _ => rfl | (intro _ hle; first | refine chunk_le hA rfl hle rfl ?_ | refine cat_le hA ?_ | refine upd_le hA ?_ | refine int_le ?_ | skip)))
                  all_goals first | exact hfe _ | exact hap | exact jjO
            · have hr1 := hgp.symm.trans (getP_end hxf hu (by omega) (by omega))
              rw [← hf', ← hnm] at hr1
              have k2 : A.eq (Int.ofNat m) 0 = false := by subst hA; simp [Ar.real]; omega
              first | refine testR k1 rfl ?_ | refine testL k1 rfl ?_
              cbv
              first | refine testR k2 rfl ?_ | refine testL k2 rfl ?_
              cbv
              refine ⟨jjO, ?_⟩
              refine Fin.le hA 1 [(26, 1)] (.tup [.sl 1 1 (.l 0) (.s nm), .int .i64 ((x + 1 : Nat) : Int), .lit .i64 0]) [(1, .row 5 1 (.s nm) (fun e => [.int .u8 (f' e.val)]))] 600 rfl rfl rfl ?_ ?_ (hK1 _ _ _ hr1)
              · (try cbv) <;> (repeat' (first | exact trivial | exact rfl | apply And.intro | exact fun _ => rfl | (intro _ hle; first | refine chunk_le hA rfl hle rfl ?_ | refine cat_le hA ?_ | refine upd_le hA ?_ | refine int_le ?_ | skip)))
                all_goals first | exact hap | exact jjO
              · (try cbv) <;> (repeat' (first | exact trivial | exact rfl | apply And.intro | exact fun _ => rfl | (intro _ hle; first | refine chunk_le hA rfl hle rfl ?_ | refine cat_le hA ?_ | refine upd_le hA ?_ | refine int_le ?_ | skip)))
                all_goals first | exact hfe _ | exact hap | exact jjO
    · have hxf : ¬ x < fin := by clear c3 hK1 hK0 hB hR0 hx hR; subst hA; simpa [Ar.real] using h1
      have hr0 : R0 = none := hx.2.2.2.symm.trans (getP_stop (by omega) _)
      clear c3 hR hK1
      cbv
      refine Fin.le hA 0 [] (.tup [.nils, .lit .i64 0, .lit .i64 4]) [] 600 rfl rfl rfl ?_ ?_ (hK0 hr0)
      iterate 2 exact jjL
theorem refget_none {P : Program} {G : Gl} (hP : P = Tryd.prog) {s first fin : Nat} {S L : Nat → Nat → Int} {f0 : Nat → Int} {W : Nat → Bool} {c : Int} {V : Nat → Nat → Int} (hs : s ≤ 4096)
    (h : first ≤ fin ∧ fin ≤ s) (ho : c ≠ 0) (hV : ∀ i, i < s → V i = L i ∧ isB (V i)) (hR0 : getP V first fin (fin - first) first 0 f0 = none) :
    FnTr P G 101 [RD s S L W c, .int .i64 (first : Int), .int .i64 (fin : Int)] [] 0 (Gives (.tup [.nils, .lit .i64 0, .lit .i64 4]) [] 600) :=
  refget_own hP hs h ho hV hR0 (fun n f next e => by cases e) (fun _ => ⟨rfl, rfl, rfl⟩)
theorem refget_fn {P : Program} {G : Gl} (hP : P = Tryd.prog) {s first fin n next : Nat} {S L : Nat → Nat → Int} {f0 f : Nat → Int} {W : Nat → Bool} {c : Int} {V : Nat → Nat → Int} (hs : s ≤ 4096)
    (h : first ≤ fin ∧ fin ≤ s) (ho : c ≠ 0) (hV : ∀ i, i < s → V i = L i ∧ isB (V i)) (hR0 : getP V first fin (fin - first) first 0 f0 = some (n, f, next)) :
    FnTr P G 101 [RD s S L W c, .int .i64 (first : Int), .int .i64 (fin : Int)] [] 0 (Gives (.tup [By n f, .int .i64 (next : Int), .lit .i64 0]) [] 600) := by
  have h1 : FnTr P G 101 [RD s S L W c, .int .i64 (first : Int), .int .i64 (fin : Int)] [] 0 (Gives (.tup [.sl 1 1 (.l 0) (.s n), .int .i64 (next : Int), .lit .i64 0]) [(1, .row 5 1 (.s n) (fun e => [.int .u8 (f e.val)]))] 600) :=
    refget_own hP hs h ho hV hR0 (fun n f next e => by cases e; exact ⟨rfl, rfl, rfl⟩) (fun e => by cases e)
  generalize hA : Ar.real = A
  refine FnTr.dat hA h1 _ _ ?_
  (try cbv) <;> (repeat' (first | exact trivial | exact rfl | apply And.intro | exact fun _ => rfl | (intro _ hle; first | refine chunk_le hA rfl hle rfl ?_ | refine cat_le hA ?_ | refine upd_le hA ?_ | refine int_le ?_ | skip)))
  all_goals exact jjO
end Go.Proofs.YtnjjgipblimbfaaDoor.Dsk
namespace Go.WalLaw
open Go.DskLaw
structure Dk where
  S : Nat → Int
  L : Int → Option (Nat → Int)
  ar : Bool
  ca : Int
def offD (d : Dk) : Prop := d.ar = true ∧ d.ca = 0
structure DkOk (s : Nat) (d : Dk) : Prop where
  hca : 0 ≤ d.ca ∧ d.ca ≤ 9223372036854775807
  key : ∀ k g, d.L k = some g → 0 ≤ k ∧ k < (s : Int)
  sb : ∀ x, x < 64 * s → 0 ≤ d.S x ∧ d.S x ≤ 255
  lb : ∀ k g, d.L k = some g → ∀ x, x < 64 → 0 ≤ g x ∧ g x ≤ 255
def decD (d : Dk) : Int := if d.ar then d.ca - 1 else d.ca
def flushD (d : Dk) : Dk := ⟨fun x => secV d.S d.L (x / 64) (x % 64), fun _ => none, d.ar, decD d⟩
def writeD (d : Dk) (i : Nat) (f : Nat → Int) : Dk := ⟨d.S, fun k => if k = (i : Int) then some f else d.L k, d.ar, decD d⟩
def putK (d : Dk) (n : Nat) : Nat := if d.ar then min (needN n) d.ca.toNat else needN n
def putD (d : Dk) (first n : Nat) (f : Nat → Int) : Dk := ⟨d.S, fun i => if (first : Int) ≤ i ∧ i < (first : Int) + putK d n then some (pcs n f (i - first).toNat) else d.L i, d.ar, if d.ar then d.ca - putK d n else d.ca⟩
noncomputable def wipeD (d : Dk) (first fin : Nat) : Option Nat × Dk :=
  let r := wipeP (fun i => secV d.S d.L i) d.ar (fin - first) first 0 d.L d.ca
  (r.1, ⟨d.S, r.2.1, d.ar, r.2.2⟩)
theorem putK_le (d : Dk) (n : Nat) : putK d n ≤ needN n := by
  unfold putK; split
  · exact Nat.min_le_left _ _
  · exact Nat.le_refl _
inductive LayIs (d : Dk) (gen fi en n : Nat) (f : Nat → Int) : Dk → Int → Int → Prop
  | put : putK d n < needN n → LayIs d gen fi en n f (putD d fi n f) 0 6
  | wipe0 : putK d n = needN n → offD (putD d fi n f) → LayIs d gen fi en n f (putD d fi n f) 0 6
  | wipe {d2 : Dk} : putK d n = needN n → ¬ offD (putD d fi n f) → wipeD (putD d fi n f) (fi + needN n) en = (none, d2) → LayIs d gen fi en n f d2 0 6
  | flush {d2 : Dk} {m : Nat} : putK d n = needN n → ¬ offD (putD d fi n f) → wipeD (putD d fi n f) (fi + needN n) en = (some m, d2) → offD d2 → LayIs d gen fi en n f d2 0 6
  | write {d2 : Dk} {m : Nat} : putK d n = needN n → ¬ offD (putD d fi n f) → wipeD (putD d fi n f) (fi + needN n) en = (some m, d2) → ¬ offD d2 → offD (flushD d2) → LayIs d gen fi en n f (flushD d2) 0 6
  | again {d2 : Dk} {m : Nat} : putK d n = needN n → ¬ offD (putD d fi n f) → wipeD (putD d fi n f) (fi + needN n) en = (some m, d2) → ¬ offD d2 → ¬ offD (flushD d2) → offD (writeD (flushD d2) (gen % 2) (headB gen)) → LayIs d gen fi en n f (writeD (flushD d2) (gen % 2) (headB gen)) 0 6
  | ok {d2 : Dk} {m : Nat} : putK d n = needN n → ¬ offD (putD d fi n f) → wipeD (putD d fi n f) (fi + needN n) en = (some m, d2) → ¬ offD d2 → ¬ offD (flushD d2) → ¬ offD (writeD (flushD d2) (gen % 2) (headB gen)) → LayIs d gen fi en n f (flushD (writeD (flushD d2) (gen % 2) (headB gen))) ((fi + needN n : Nat) : Int) 0
theorem layIs_ex (d : Dk) (gen fi en n : Nat) (f : Nat → Int) : ∃ d' at' e, LayIs d gen fi en n f d' at' e := by
  rcases Nat.lt_or_ge (putK d n) (needN n) with h | h
  · exact ⟨_, _, _, .put h⟩
  have h : putK d n = needN n := Nat.le_antisymm (putK_le d n) h
  by_cases h1 : offD (putD d fi n f)
  · exact ⟨_, _, _, .wipe0 h h1⟩
  obtain ⟨⟨on, d2⟩, hw⟩ : ∃ r, wipeD (putD d fi n f) (fi + needN n) en = r := ⟨_, rfl⟩
  cases on with
  | none => exact ⟨_, _, _, .wipe h h1 hw⟩
  | some m =>
    by_cases h2 : offD d2
    · exact ⟨_, _, _, .flush h h1 hw h2⟩
    by_cases h3 : offD (flushD d2)
    · exact ⟨_, _, _, .write h h1 hw h2 h3⟩
    by_cases h4 : offD (writeD (flushD d2) (gen % 2) (headB gen))
    · exact ⟨_, _, _, .again h h1 hw h2 h3 h4⟩
    · exact ⟨_, _, _, .ok h h1 hw h2 h3 h4⟩
section
variable {s : Nat} {d : Dk}
theorem DkOk.dec (h : DkOk s d) (ho : ¬ offD d) : 0 ≤ decD d ∧ decD d ≤ 9223372036854775807 := by
  have := h.hca
  unfold decD
  split
  · have : d.ca ≠ 0 := fun e => ho ⟨by assumption, e⟩
    omega
  · exact this
theorem DkOk.bytes (h : DkOk s d) (t : Nat) (ht : t < s) : isB (secV d.S d.L t) := by
  intro x hx
  unfold secV
  cases e : d.L (t : Int) with
  | some g => exact h.lb _ g e x hx
  | none => exact h.sb _ (by omega)
theorem DkOk.flush (h : DkOk s d) (ho : ¬ offD d) : DkOk s (flushD d) where
  hca := h.dec ho
  key := fun k g e => by cases e
  sb := fun x hx => h.bytes (x / 64) (by omega) (x % 64) (by omega)
  lb := fun k g e => by cases e
theorem DkOk.write (h : DkOk s d) (ho : ¬ offD d) {i : Nat} {f : Nat → Int} (hi : i < s) (hf : ∀ x, x < 64 → 0 ≤ f x ∧ f x ≤ 255) : DkOk s (writeD d i f) where
  hca := h.dec ho
  key := fun k g e => by
    have e : (if k = (i : Int) then some f else d.L k) = some g := e
    by_cases q : k = (i : Int)
    · omega
    · rw [if_neg q] at e; exact h.key k g e
  sb := h.sb
  lb := fun k g e => by
    have e : (if k = (i : Int) then some f else d.L k) = some g := e
    by_cases q : k = (i : Int)
    · rw [if_pos q] at e; cases e; exact hf
    · rw [if_neg q] at e; exact h.lb k g e
theorem pcs_range {n : Nat} {f : Nat → Int} (hf : ∀ i, i < n → 0 ≤ f i ∧ f i ≤ 255) (j x : Nat) : 0 ≤ pcs n f j x ∧ pcs n f j x ≤ 255 := by
  unfold pcs
  split
  · split
    · exact hf _ (by assumption)
    · omega
  · split
    · omega
    · split
      · split <;> omega
      · omega
theorem DkOk.put (h : DkOk s d) {first n : Nat} {f : Nat → Int} (hi : first + needN n ≤ s) (hf : ∀ i, i < n → 0 ≤ f i ∧ f i ≤ 255) : DkOk s (putD d first n f) where
  hca := by
    have := h.hca
    show 0 ≤ (if d.ar then d.ca - putK d n else d.ca) ∧ (if d.ar then d.ca - putK d n else d.ca) ≤ _
    unfold putK
    split
    · omega
    · exact this
  key := fun k g e => by
    have e : (if (first : Int) ≤ k ∧ k < (first : Int) + putK d n then some (pcs n f (k - first).toNat) else d.L k) = some g := e
    have := putK_le d n
    by_cases q : (first : Int) ≤ k ∧ k < (first : Int) + putK d n
    · omega
    · rw [if_neg q] at e; exact h.key k g e
  sb := h.sb
  lb := fun k g e => by
    have e : (if (first : Int) ≤ k ∧ k < (first : Int) + putK d n then some (pcs n f (k - first).toNat) else d.L k) = some g := e
    by_cases q : (first : Int) ≤ k ∧ k < (first : Int) + putK d n
    · rw [if_pos q] at e; cases e; exact fun x _ => pcs_range hf _ x
    · rw [if_neg q] at e; exact h.lb k g e
end
structure LOk (s : Nat) (L : Int → Option (Nat → Int)) : Prop where
  key : ∀ k g, L k = some g → 0 ≤ k ∧ k < (s : Int)
  lb : ∀ k g, L k = some g → ∀ x, x < 64 → 0 ≤ g x ∧ g x ≤ 255
theorem wipeP_ok {s : Nat} {V : Nat → Nat → Int} {ar : Bool} : ∀ (k x n : Nat) (L : Int → Option (Nat → Int)) (ca : Int), x + k ≤ s → LOk s L → (0 ≤ ca ∧ ca ≤ 9223372036854775807) →
    LOk s (wipeP V ar k x n L ca).2.1 ∧ (0 ≤ (wipeP V ar k x n L ca).2.2 ∧ (wipeP V ar k x n L ca).2.2 ≤ 9223372036854775807) := by
  intro k
  induction k with
  | zero => intro x n L ca _ h1 h2; exact ⟨h1, h2⟩
  | succ k ih =>
    intro x n L ca hx h1 h2
    by_cases ho : ar = true ∧ ca = 0
    · rw [wipeP_off ho]; exact ⟨h1, h2⟩
    · by_cases hb : ∀ i, i < 64 → V x i = 0
      · rw [wipeP_blank ho hb]; exact ih _ _ _ _ (by omega) h1 h2
      · rw [wipeP_full ho hb]
        refine ih _ _ _ _ (by omega) ⟨fun j g e => ?_, fun j g e => ?_⟩ ?_
        · have e : (if j = (x : Int) then some (fun _ => (0 : Int)) else L j) = some g := e
          by_cases q : j = (x : Int)
          · omega
          · rw [if_neg q] at e; exact h1.key j g e
        · have e : (if j = (x : Int) then some (fun _ => (0 : Int)) else L j) = some g := e
          by_cases q : j = (x : Int)
          · rw [if_pos q] at e; cases e; intro y _; exact ⟨Int.le_refl 0, (by decide : (0 : Int) ≤ 255)⟩
          · rw [if_neg q] at e; exact h1.lb j g e
        · split
          · have : ca ≠ 0 := fun e => ho ⟨by assumption, e⟩
            omega
          · exact h2
theorem DkOk.wipe {s : Nat} {d d2 : Dk} {first fin : Nat} {on : Option Nat} (h : DkOk s d) (hf : first ≤ fin ∧ fin ≤ s) (hw : wipeD d first fin = (on, d2)) : DkOk s d2 := by
  obtain ⟨_, e2⟩ := Prod.mk.inj hw
  subst e2
  have := wipeP_ok (s := s) (V := fun i => secV d.S d.L i) (ar := d.ar) (fin - first) first 0 d.L d.ca (by omega) ⟨h.key, h.lb⟩ h.hca
  exact ⟨this.2, this.1.key, h.sb, this.1.lb⟩
def cutF (n : Nat) (b : Nat → Int) (i : Nat) : Int := if i < n then b i else 0
def bvF (n : Nat) (b : Nat → Int) (i : Nat) : BitVec 32 := BitVec.ofInt 32 (cutF n b i)
def sealF (n : Nat) (b : Nat → Int) (i : Nat) : Int := CrcLaw.sealB (cutF n b) (CrcLaw.more (bvF n b) 0#32 n) n i
theorem cutF_range {n : Nat} {b : Nat → Int} (hb : ∀ i, i < n → 0 ≤ b i ∧ b i ≤ 255) (i : Nat) : 0 ≤ cutF n b i ∧ cutF n b i < 256 := by
  unfold cutF
  split
  · have := hb i (by assumption); omega
  · omega
theorem bvF_nat {n : Nat} {b : Nat → Int} (hb : ∀ i, i < n → 0 ≤ b i ∧ b i ≤ 255) (i : Nat) : cutF n b i = ((bvF n b i).toNat : Int) := by
  have h := cutF_range hb i
  unfold bvF
  obtain ⟨k, hk⟩ : ∃ k : Nat, cutF n b i = (k : Int) := ⟨(cutF n b i).toNat, by omega⟩
  rw [hk, BitVec.ofInt_natCast, BitVec.toNat_ofNat, Nat.mod_eq_of_lt (by omega)]
theorem bvF_lt {n : Nat} {b : Nat → Int} (hb : ∀ i, i < n → 0 ≤ b i ∧ b i ≤ 255) (i : Nat) : (bvF n b i).toNat < 256 := by
  have h := cutF_range hb i
  rw [bvF_nat hb] at h
  omega
theorem sealF_range {n : Nat} {b : Nat → Int} (hb : ∀ i, i < n → 0 ≤ b i ∧ b i ≤ 255) (i : Nat) : 0 ≤ sealF n b i ∧ sealF n b i ≤ 255 := by
  have := CrcLaw.sealB_rng (s := CrcLaw.more (bvF n b) 0#32 n) (n := n) (fun i _ => cutF_range hb i) i
  unfold sealF
  omega
structure RIs (d : Dk) (RS RL : Nat → Nat → Int) (W : Nat → Bool) (c : Int) : Prop where
  rs : ∀ t x, RS t x = d.S (64 * t + x)
  rl : ∀ t x, RL t x = secV d.S d.L t x
  w : ∀ t : Nat, W t = (d.L (t : Int)).isSome
  hc : c = if d.ar then d.ca else -1
theorem RIs.ex (d : Dk) : ∃ RS RL W c, RIs d RS RL W c := ⟨_, _, _, _, fun _ _ => rfl, fun _ _ => rfl, fun _ => rfl, rfl⟩
section
variable {s N : Nat} {d : Dk} {RS RL : Nat → Nat → Int} {W : Nat → Bool} {c : Int}
theorem RIs.sim (h : RIs d RS RL W c) (ok : DkOk s d) (hN : N = 64 * s) (hs : 1 ≤ s ∧ s ≤ 4096) : Sim s N d.S d.L d.ar d.ca RS RL W c where
  hN := hN
  hs := hs
  rs := fun t x _ => h.rs t x
  rl := fun t x _ => h.rl t x
  w := h.w
  hc := h.hc
  hca := ok.hca
  key := ok.key
  sb := fun x hx => ok.sb x (by omega)
  lb := ok.lb
theorem RIs.off (h : RIs d RS RL W c) : c = 0 ↔ offD d := by
  rw [h.hc]; unfold offD
  cases d.ar <;> simp
theorem RIs.crange (h : RIs d RS RL W c) (ok : DkOk s d) : -1 ≤ c ∧ c ≤ 9223372036854775807 := by
  rw [h.hc]; have := ok.hca
  split <;> omega
theorem put_step {first n i : Nat} {f : Nat → Int} {L L' : Int → Option (Nat → Int)} (hL : ∀ k, L k = if (first : Int) ≤ k ∧ k < (first : Int) + i then some (pcs n f (k - first).toNat) else d.L k) (hL' : ∀ k, L' k = if k = ((first + i : Nat) : Int) then some (pcs n f i) else L k) :
    ∀ k, L' k = if (first : Int) ≤ k ∧ k < (first : Int) + (i + 1 : Nat) then some (pcs n f (k - first).toNat) else d.L k := by
  intro k
  rw [hL']
  by_cases q : k = ((first + i : Nat) : Int)
  · rw [if_pos q, if_pos (by omega), show (k - (first : Int)).toNat = i by omega]
  · rw [if_neg q, hL]
    by_cases q2 : (first : Int) ≤ k ∧ k < (first : Int) + i
    · rw [if_pos q2, if_pos (by omega)]
    · rw [if_neg q2, if_neg (by omega)]
theorem putK_min (d : Dk) (n i : Nat) (ok : 0 ≤ d.ca) (hi : i ≤ needN n) (h : d.ar = true → (i : Int) ≤ d.ca) : i ≤ putK d n := by
  unfold putK
  split
  · rename_i q
    have := h q
    omega
  · exact hi
theorem putK_stop (d : Dk) (n i : Nat) (ok : 0 ≤ d.ca) (hi : i < needN n) (h : d.ar = true) (hc : d.ca = (i : Int)) : putK d n = i := by
  unfold putK
  rw [if_pos h, hc]
  omega
theorem RIs.dec (h : RIs d RS RL W c) (ok : DkOk s d) (ho : ¬ offD d) : (if d.ar then decD d else -1) = if 0 < c then c - 1 else c := by
  have h1 := h.hc
  have h2 := ok.hca
  have h3 : c ≠ 0 := fun e => ho (h.off.1 e)
  unfold decD
  cases e : d.ar with
  | true => rw [e] at h1; simp only [if_true] at h1 ⊢; rw [if_pos (by omega)]; omega
  | false => rw [e] at h1; simp at h1 ⊢; rw [h1]; rfl
theorem RIs.flush {RS' RL' : Nat → Nat → Int} {W' : Nat → Bool} {c' : Int} (h : RIs d RS RL W c) (ok : DkOk s d) (ho : ¬ offD d) (h' : RIs (flushD d) RS' RL' W' c') :
    (∀ t x, x < 64 → RS' t x = RL t x) ∧ (∀ t x, x < 64 → RL' t x = RL t x) ∧ (∀ t, W' t = false) ∧ c' = if 0 < c then c - 1 else c := by
  have e : ∀ t x, x < 64 → (flushD d).S (64 * t + x) = RL t x := fun t x hx => by
    show secV d.S d.L ((64 * t + x) / 64) ((64 * t + x) % 64) = _
    rw [h.rl, show (64 * t + x) / 64 = t by omega, show (64 * t + x) % 64 = x by omega]
  refine ⟨fun t x hx => by rw [h'.rs, e t x hx], fun t x hx => ?_, fun t => by rw [h'.w]; rfl, by rw [h'.hc]; exact h.dec ok ho⟩
  rw [h'.rl, ← e t x hx]; rfl
theorem RIs.write {RS' RL' : Nat → Nat → Int} {W' : Nat → Bool} {c' : Int} {i : Nat} {f : Nat → Int} (h : RIs d RS RL W c) (ok : DkOk s d) (ho : ¬ offD d) (h' : RIs (writeD d i f) RS' RL' W' c') :
    RS' = RS ∧ (∀ t x, RL' t x = if t = i then f x else RL t x) ∧ (∀ t, W' t = if t = i then true else W t) ∧ c' = if 0 < c then c - 1 else c := by
  refine ⟨?_, fun t x => ?_, fun t => ?_, by rw [h'.hc]; exact h.dec ok ho⟩
  · funext t x; rw [h'.rs, h.rs]; rfl
  · rw [h'.rl, h.rl]
    unfold secV
    show (match (if ((t : Nat) : Int) = (i : Int) then some f else d.L t) with | some g => g | none => fun x => d.S (64 * t + x)) x = _
    by_cases q : t = i
    · rw [if_pos (by omega), if_pos q]
    · rw [if_neg (by omega), if_neg q]
      cases d.L (t : Int) <;> rfl
  · rw [h'.w, h.w]
    show (if ((t : Nat) : Int) = (i : Int) then some f else d.L t).isSome = _
    by_cases q : t = i
    · rw [if_pos (by omega), if_pos q]; rfl
    · rw [if_neg (by omega), if_neg q]
theorem wipeD_parts {first fin : Nat} {on : Option Nat} {d2 : Dk} (h : wipeD d first fin = (on, d2)) : wipeP (fun i => secV d.S d.L i) d.ar (fin - first) first 0 d.L d.ca = (on, d2.L, d2.ca) ∧ d2.S = d.S ∧ d2.ar = d.ar := by
  unfold wipeD at h
  simp only [Prod.mk.injEq] at h
  obtain ⟨h1, h2⟩ := h
  rw [← h2, ← h1]
  exact ⟨rfl, rfl, rfl⟩
theorem RIs.sameS {RS' RL' : Nat → Nat → Int} {W' : Nat → Bool} {c' : Int} {d2 : Dk} (h : RIs d RS RL W c) (h' : RIs d2 RS' RL' W' c') (e : d2.S = d.S) : RS' = RS := by
  funext t x; rw [h'.rs, h.rs, e]
end
end Go.WalLaw
