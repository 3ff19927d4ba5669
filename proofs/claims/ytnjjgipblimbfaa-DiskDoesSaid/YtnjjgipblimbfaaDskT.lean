/-
  The table of the types that disks meet.
-/
import Derived.Test.YtnjjgipblimbfaaProg
import Derived.Test.YtnjjgipblimbfaaEngThree
import Derived.Test.YtnjjgipblimbfaaDskA
import Derived.KernelRfl
set_option linter.unusedVariables false
set_option linter.unusedSimpArgs false
namespace Go.Proofs.Ytnjjgipblimbfaa.Dsk
open Go.Eng
def T : Tab := [
  (3, ⟨1, 8, [.lit .i64 0], .int .i64⟩),
  (4, ⟨1, 1, [.bl false], .bool⟩),
  (5, ⟨1, 1, [.lit .u8 0], .int .u8⟩),
  (9, ⟨1, 16, [.str []], .str⟩),
  (22, ⟨1, 24, [.nils], .slice 23⟩),
  (23, ⟨1, 24, [.nils], .slice 5⟩),
  (26, ⟨1, 8, [.nilp], .ptr 76⟩),
  (27, ⟨1, 8, [.lit .i64 0], .int .i64⟩),
  (36, ⟨1, 24, [.nils], .slice 85⟩),
  (42, ⟨1, 24, [.nils], .slice 4⟩),
  (44, ⟨4, 80, [.nils, .nils, .nils, .lit .i64 0], .struct [(0, 22), (1, 22), (2, 42), (3, 3)]⟩),
  (50, ⟨5, 72, [.lit .i64 0, .lit .i64 0, .lit .i64 0, .nils, .nils], .struct [(0, 3), (1, 3), (2, 3), (3, 23), (4, 36)]⟩),
  (52, ⟨1, 24, [.nils], .slice 57⟩),
  (57, ⟨4, 64, [.lit .i64 0, .lit .i64 0, .nils, .nils], .struct [(0, 3), (1, 3), (2, 23), (3, 36)]⟩),
  (61, ⟨1, 24, [.nils], .slice 3⟩),
  (74, ⟨1, 8, [.con (.map none)], .map 3 82⟩),
  (76, ⟨4, 48, [.nils, .con (.map none), .bl false, .lit .i64 0], .struct [(0, 23), (1, 74), (2, 4), (3, 3)]⟩),
  (82, ⟨64, 64, [.lit .u8 0, .lit .u8 0, .lit .u8 0, .lit .u8 0, .lit .u8 0, .lit .u8 0, .lit .u8 0, .lit .u8 0, .lit .u8 0, .lit .u8 0, .lit .u8 0, .lit .u8 0, .lit .u8 0, .lit .u8 0, .lit .u8 0, .lit .u8 0, .lit .u8 0, .lit .u8 0, .lit .u8 0, .lit .u8 0, .lit .u8 0, .lit .u8 0, .lit .u8 0, .lit .u8 0, .lit .u8 0, .lit .u8 0, .lit .u8 0, .lit .u8 0, .lit .u8 0, .lit .u8 0, .lit .u8 0, .lit .u8 0, .lit .u8 0, .lit .u8 0, .lit .u8 0, .lit .u8 0, .lit .u8 0, .lit .u8 0, .lit .u8 0, .lit .u8 0, .lit .u8 0, .lit .u8 0, .lit .u8 0, .lit .u8 0, .lit .u8 0, .lit .u8 0, .lit .u8 0, .lit .u8 0, .lit .u8 0, .lit .u8 0, .lit .u8 0, .lit .u8 0, .lit .u8 0, .lit .u8 0, .lit .u8 0, .lit .u8 0, .lit .u8 0, .lit .u8 0, .lit .u8 0, .lit .u8 0, .lit .u8 0, .lit .u8 0, .lit .u8 0, .lit .u8 0], .array 64 5⟩),
  (85, ⟨2, 16, [.lit .i64 0, .lit .i64 0], .struct [(0, 3), (1, 3)]⟩),
  (118, ⟨1, 8, [.lit .u64 0], .int .u64⟩),
  (129, ⟨1, 4, [.lit .u32 0], .int .u32⟩),
  (131, ⟨1, 8, [.lit .u64 0], .int .u64⟩)]
set_option maxRecDepth 100000
theorem T_ok : T.Ok Try.prog := Tab.ok_of_map (by kernel_rfl)
theorem P_mixed : Try.prog.follows .mixedOrders = true := by kernel_rfl
theorem map_ty : MapTy Try.prog 74 64 := by
  refine ⟨3, 82, (Try.prog.info? 82).getD default, Try.underlying74, Try.underlying3, ?_, ?_⟩ <;> kernel_rfl
theorem arr_ty : ArrTy Try.prog 82 64 := by
  refine ⟨by decide, 5, (Try.prog.info? 5).getD default, (Try.prog.info? 82).getD default, Try.underlying82, ?_, ?_, ?_, ?_⟩ <;> kernel_rfl
theorem sl_ty : SlTy Try.prog 23 := by
  refine ⟨5, (Try.prog.info? 5).getD default, Try.underlying23, ?_, ?_⟩ <;> kernel_rfl
end Go.Proofs.Ytnjjgipblimbfaa.Dsk
