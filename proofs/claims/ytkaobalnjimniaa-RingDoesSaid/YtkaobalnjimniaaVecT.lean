/-
  The table of the types that vectors meet.
-/
import Derived.Test.YtkaobalnjimniaaProg
import Derived.Test.YtkaobalnjimniaaEngThree
import Derived.KernelRfl
set_option linter.unusedVariables false
set_option linter.unusedSimpArgs false
namespace Go.Proofs.Ytkaobalnjimniaa.Vec
open Go.Eng
def T : Tab := [
  (3, ⟨1, 8, [.lit .i64 0], .int .i64⟩),
  (4, ⟨1, 1, [.bl false], .bool⟩),
  (26, ⟨1, 8, [.lit .i64 0], .int .i64⟩),
  (30, ⟨1, 24, [.nils], .slice 3⟩),
  (48, ⟨1, 24, [.nils], .slice 30⟩)]
set_option maxRecDepth 100000
theorem T_ok : T.Ok Try.prog := Tab.ok_of_map (by kernel_rfl)
theorem P_mixed : Try.prog.follows .mixedOrders = true := by kernel_rfl
end Go.Proofs.Ytkaobalnjimniaa.Vec
