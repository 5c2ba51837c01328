/-
  DERIVED. GIVEN WITH THE SEED: THE CARDS: each row of YtgmebioogkmfgaaGreatDoorRows.lean that lists a variable, with what it lists TIED to the program's text (the seventh form; the later family's looks); each row that meets fmt, with fmt's text TOLD by the authors' own Lean function (tested against real Go, not proved from fmt's source: count such statements apart). THE CARD IS WHAT COUNTS. Prove the row's statement (the work); the ties are given (YtgmebioogkmfgaaGreatDoorTie.lean); close each card by the builder's one call (the guide's Derived/Test/ToyasCard.lean, 'card_holds'). Laid BY PROGRAM, IN A SANDBOX (cutbox-door.mjs). By AI agents, Wed Nov 11 2026. No macro, syntax, notation, axiom, sorry.
-/
import Derived.Test.YtgmebioogkmfgaaGreatDoorRows
import GoSem.ClaimSeven
namespace Go.Proofs.YtgmebioogkmfgaaGreatDoor
namespace Rows

/-- THE TIED CARD OF 'plumblaw3.DyadicOnes'. -/
def dyadicOnesCard : Claim7 := { stood := { row := dyadicOnesRow, standIns := [], harness := (true, "36ae0f6d159fc4f5c4f558968fa98288e775c701e69dd1ad003c49c13ae7e792"), looks := true }, kinds := [], alts := [], laidByText := true, laidKinds := [.data, .data], laidTests := true, laidLooks := .later }
def DyadicOnesCardSaid : Prop := Claim7.holds Tryz.pinned (.plain (OpenSpec.ofChange dyadicOnesSpec)) dyadicOnesCard

/-- THE SECOND FORM's CARD OF 'plumblaw3.DyadicOnes'. -/
def dyadicOnesUptoCard : Claim7 := { stood := { row := dyadicOnesUptoRow, standIns := [], harness := (true, "36ae0f6d159fc4f5c4f558968fa98288e775c701e69dd1ad003c49c13ae7e792"), looks := true }, kinds := [], alts := [], laidByText := true, laidKinds := [.data, .data], laidTests := true, laidLooks := .later }
def DyadicOnesUptoCardSaid : Prop := Claim7.holds Tryz.pinned (.plain (OpenSpec.upto dyadicOnesSpec)) dyadicOnesUptoCard
end Rows
end Go.Proofs.YtgmebioogkmfgaaGreatDoor
