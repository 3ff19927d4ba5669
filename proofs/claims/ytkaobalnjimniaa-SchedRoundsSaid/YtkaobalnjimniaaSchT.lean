/-
  The table of the types that schedules meet.
-/
import Derived.Test.YtkaobalnjimniaaProg
import Derived.Test.YtkaobalnjimniaaEngThree
import Derived.KernelRfl
set_option linter.unusedVariables false
set_option linter.unusedSimpArgs false
namespace Go.Proofs.Ytkaobalnjimniaa
open Go.Eng
def T : Tab := [
  (3, ⟨1, 8, [.lit .i64 0], .int .i64⟩),
  (4, ⟨1, 1, [.bl false], .bool⟩),
  (26, ⟨1, 8, [.lit .i64 0], .int .i64⟩),
  (30, ⟨1, 24, [.nils], .slice 3⟩),
  (54, ⟨11, 88, [.lit .i64 0, .lit .i64 0, .lit .i64 0, .lit .i64 0, .lit .i64 0, .lit .i64 0, .lit .i64 0, .lit .i64 0, .lit .i64 0, .lit .i64 0, .lit .i64 0], .struct [(0, 3), (1, 3), (2, 3), (3, 3), (4, 3), (5, 3), (6, 3), (7, 3), (8, 3), (9, 3), (10, 3)]⟩),
  (90, ⟨3, 24, [.lit .i64 0, .lit .i64 0, .lit .i64 0], .array 3 3⟩),
  (91, ⟨33, 264, [.lit .i64 0, .lit .i64 0, .lit .i64 0, .lit .i64 0, .lit .i64 0, .lit .i64 0, .lit .i64 0, .lit .i64 0, .lit .i64 0, .lit .i64 0, .lit .i64 0, .lit .i64 0, .lit .i64 0, .lit .i64 0, .lit .i64 0, .lit .i64 0, .lit .i64 0, .lit .i64 0, .lit .i64 0, .lit .i64 0, .lit .i64 0, .lit .i64 0, .lit .i64 0, .lit .i64 0, .lit .i64 0, .lit .i64 0, .lit .i64 0, .lit .i64 0, .lit .i64 0, .lit .i64 0, .lit .i64 0, .lit .i64 0, .lit .i64 0], .array 11 90⟩)]
set_option maxRecDepth 100000
theorem T_ok : T.Ok Try.prog := Tab.ok_of_map (by kernel_rfl)
theorem P_mixed : Try.prog.follows .mixedOrders = true := by kernel_rfl
end Go.Proofs.Ytkaobalnjimniaa
