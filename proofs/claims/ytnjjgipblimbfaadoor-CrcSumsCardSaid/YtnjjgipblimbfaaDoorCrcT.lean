/-
  The table of the types that the sums of bytes meet.
-/
import Derived.Test.YtnjjgipblimbfaaDoorProg
import Derived.Test.YtnjjgipblimbfaaDoorEngTwo
import Derived.Test.YtnjjgipblimbfaaDoorCrcA
import Derived.KernelRfl
set_option linter.unusedVariables false
set_option linter.unusedSimpArgs false
namespace Go.Proofs.YtnjjgipblimbfaaDoor
open Go.Eng
def T : Tab := [
  (3, ⟨1, 8, [.lit .i64 0], .int .i64⟩),
  (4, ⟨1, 1, [.bl false], .bool⟩),
  (5, ⟨1, 1, [.lit .u8 0], .int .u8⟩),
  (9, ⟨1, 16, [.str []], .str⟩),
  (22, ⟨1, 24, [.nils], .slice 5⟩),
  (23, ⟨1, 4, [.lit .u32 0], .int .u32⟩),
  (25, ⟨1, 8, [.lit .i64 0], .int .i64⟩),
  (35, ⟨1, 2, [.lit .u16 0], .int .u16⟩),
  (79, ⟨1, 8, [.lit .u64 0], .int .u64⟩),
  (80, ⟨16, 64, [.lit .u32 0, .lit .u32 0, .lit .u32 0, .lit .u32 0, .lit .u32 0, .lit .u32 0, .lit .u32 0, .lit .u32 0, .lit .u32 0, .lit .u32 0, .lit .u32 0, .lit .u32 0, .lit .u32 0, .lit .u32 0, .lit .u32 0, .lit .u32 0], .array 16 23⟩)]
set_option maxRecDepth 100000
theorem T_ok : T.Ok Tryd.prog := Tab.ok_of_map (by kernel_rfl)
theorem P_mixed : Tryd.prog.follows .mixedOrders = true := by kernel_rfl
/-- The table of four bits. -/
def Gf (fr : Nat → Int) : Gl := [(0, .ra 1 16 (fun e => [.int .u32 (fr e.val)]))]
/-- Bytes. -/
def bytesSV (n : Nat) (gi : Nat → Int) : SV := .ro 1 (.s n) (fun e => [.int .u8 (gi e.val)])
end Go.Proofs.YtnjjgipblimbfaaDoor
