/-
  DERIVED. GIVEN WITH THE SEED: THE CARDS: each row of YtnjjgipblimbfaaGreatDoorRows.lean that lists a variable, with what it lists TIED to the program's text (the seventh form; the later family's looks); each row that meets fmt, with fmt's text TOLD by the authors' own Lean function (tested against real Go, not proved from fmt's source: count such statements apart). THE CARD IS WHAT COUNTS. Prove the row's statement (the work); the ties are given (YtnjjgipblimbfaaGreatDoorTie.lean); close each card by the builder's one call (the guide's Derived/Test/ToyasCard.lean, 'card_holds'). Laid BY PROGRAM, IN A SANDBOX (cutbox-door.mjs). By AI agents, Wed Nov 11 2026. No macro, syntax, notation, axiom, sorry.
-/
import Derived.Test.YtnjjgipblimbfaaGreatDoorRows
import GoSem.ClaimSeven
namespace Go.Proofs.YtnjjgipblimbfaaGreatDoor
namespace Rows

/-- THE TIED CARD OF 'copselaw27.WalOpens'. -/
def walOpensCard : Claim7 := { stood := { row := walOpensRow, standIns := [], harness := (true, "03b788e3a0932528dcefe8ab86971c6e9791e037ddd6bce3a51c6949c1deb010"), looks := false }, kinds := [], alts := [], laidByText := true, laidKinds := [.data], laidTests := true, laidLooks := .later }
def WalOpensCardSaid : Prop := Claim7.holds Tryz.pinned (.plain (OpenSpec.ofChange walOpensSpec)) walOpensCard

/-- THE SECOND FORM's CARD OF 'copselaw27.WalOpens'. -/
def walOpensUptoCard : Claim7 := { stood := { row := walOpensUptoRow, standIns := [], harness := (true, "03b788e3a0932528dcefe8ab86971c6e9791e037ddd6bce3a51c6949c1deb010"), looks := false }, kinds := [], alts := [], laidByText := true, laidKinds := [.data], laidTests := true, laidLooks := .later }
def WalOpensUptoCardSaid : Prop := Claim7.holds Tryz.pinned (.plain (OpenSpec.upto walOpensSpec)) walOpensUptoCard
end Rows
end Go.Proofs.YtnjjgipblimbfaaGreatDoor
