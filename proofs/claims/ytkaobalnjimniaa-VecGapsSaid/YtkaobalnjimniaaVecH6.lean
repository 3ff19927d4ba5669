/-
  Vectors: the box, as data.
-/
import Derived.Test.YtkaobalnjimniaaVecH5
set_option linter.unusedVariables false
set_option linter.unusedSimpArgs false
namespace Go.Proofs.Ytkaobalnjimniaa.Vec
open Go.Eng
open Go.VecLaw (lowV topV dotV gapV OS openV)
set_option maxRecDepth 100000
set_option linter.unusedVariables false

theorem box_fn {P : Program} {G : Gl} (hP : P = Try.prog) {k d : Nat} {len : Nat → Nat} {g : Nat → Nat → Int} {dim er : Int} {lo hi : Nat → Int} (hk : k ≤ 1000000000) (hl : ∀ i, i < k → len i ≤ 9223372036854775807) (hb : BoxIs k len g dim d lo hi er) :
    FnTr P G 50 [LSv k len g, .int .i64 dim] [] 0 (Gives (.tup [.ro 1 (.s d) (fun e => [.int .i64 (lo e.val)]), .ro 1 (.s d) (fun e => [.int .i64 (hi e.val)]), .int .i64 er]) [] 4) := by
  rcases hb with ⟨hok, rfl, hd, hv⟩ | ⟨hno, rfl, rfl⟩
  · have h1 := box_own (P := P) (G := G) (K := Gives (.tup [.sl 0 1 (.l 0) (.s d), .sl 1 1 (.l 0) (.s d), .int .i64 0]) [(0, .row 3 1 (.s d) (fun e => [.int .i64 (lo e.val)])), (1, .row 3 1 (.s d) (fun e => [.int .i64 (hi e.val)]))] 4)
      hP hk hl (by omega : d = dim.toNat) (fun j => (hv j).1) (fun j => (hv j).2) (fun _ => ⟨rfl, rfl, rfl⟩) (fun h => absurd hok h)
    generalize hA : Ar.real = A
    refine FnTr.dat hA h1 _ _ ?_
    (try cbv) <;> (repeat' (first | exact trivial | exact rfl | apply And.intro | (intro _ hle; first | refine chunk_le hA rfl hle rfl ?_ | refine cat_le hA ?_ | refine upd_le hA ?_ | refine int_le ?_ | skip)))
    all_goals (subst hA; (try simp only [natCast_eq] at *); (simp only [Ar.real, NV.val, Int.ofNat_eq_natCast, Int.toNat_natCast]); first | done | omega | decide | exact inR64 (by omega) (by omega) | (refine ⟨?_, ?_⟩ <;> first | omega | decide | exact inR64 (by omega) (by omega)))
  · have h1 := box_own (P := P) (G := G) (K := Gives (.tup [.nils, .nils, .int .i64 80]) [] 4) (lo := fun j => lowX (fun i => g i j) k) (hi := fun j => topX (fun i => g i j) k)
      hP hk hl (rfl : dim.toNat = dim.toNat) (fun j => rfl) (fun j => rfl) (fun h => absurd h hno) (fun _ => ⟨rfl, rfl, rfl⟩)
    generalize hA : Ar.real = A
    refine FnTr.res hA h1 _ ?_
    (try cbv) <;> (repeat' (first | exact trivial | exact rfl | apply And.intro | (intro _ hle; first | refine chunk_le hA rfl hle rfl ?_ | refine cat_le hA ?_ | refine upd_le hA ?_ | (try cbv))))
end Go.Proofs.Ytkaobalnjimniaa.Vec
