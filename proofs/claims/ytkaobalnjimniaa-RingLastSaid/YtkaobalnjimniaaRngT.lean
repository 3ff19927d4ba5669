/-
  The table of the types that rings meet.
-/
import Derived.Test.YtkaobalnjimniaaVecF6
import Derived.Test.YtkaobalnjimniaaRngB
import Derived.KernelRfl
set_option linter.unusedVariables false
set_option linter.unusedSimpArgs false
namespace Go.Proofs.Ytkaobalnjimniaa.Rng
open Go.Eng
def T : Tab := [
  (3, ⟨1, 8, [.lit .i64 0], .int .i64⟩),
  (4, ⟨1, 1, [.bl false], .bool⟩),
  (5, ⟨1, 1, [.lit .u8 0], .int .u8⟩),
  (22, ⟨1, 24, [.nils], .slice 34⟩),
  (25, ⟨1, 8, [.nilp], .ptr 84⟩),
  (26, ⟨1, 8, [.lit .i64 0], .int .i64⟩),
  (30, ⟨1, 24, [.nils], .slice 3⟩),
  (32, ⟨2, 16, [.lit .i64 0, .lit .i64 0], .struct [(0, 3), (1, 3)]⟩),
  (34, ⟨5, 56, [.lit .i64 0, .nils, .lit .i64 0, .lit .i64 0, .bl false], .struct [(0, 3), (1, 30), (2, 32), (4, 4)]⟩),
  (48, ⟨1, 24, [.nils], .slice 30⟩),
  (82, ⟨3, 40, [.nils, .lit .i64 0, .lit .i64 0], .struct [(0, 22), (1, 3), (2, 3)]⟩),
  (84, ⟨3, 40, [.nils, .lit .i64 0, .lit .i64 0], .struct [(0, 82)]⟩)]
set_option maxRecDepth 100000
theorem T_ok : T.Ok Try.prog := Tab.ok_of_map (by kernel_rfl)
theorem P_mixed : Try.prog.follows .mixedOrders = true := by kernel_rfl
end Go.Proofs.Ytkaobalnjimniaa.Rng
