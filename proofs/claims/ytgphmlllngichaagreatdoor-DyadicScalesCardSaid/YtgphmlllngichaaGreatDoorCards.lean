/-
  DERIVED. GIVEN WITH THE SEED: THE CARDS: each row of YtgphmlllngichaaGreatDoorRows.lean that lists a variable, with what it lists TIED to the program's text (the seventh form; the later family's looks); each row that meets fmt, with fmt's text TOLD by the authors' own Lean function (tested against real Go, not proved from fmt's source: count such statements apart). THE CARD IS WHAT COUNTS. Prove the row's statement (the work); the ties are given (YtgphmlllngichaaGreatDoorTie.lean); close each card by the builder's one call (the guide's Derived/Test/ToyasCard.lean, 'card_holds'). Laid BY PROGRAM, IN A SANDBOX (cutbox-door.mjs). By AI agents, Wed Nov 11 2026. No macro, syntax, notation, axiom, sorry.
-/
import Derived.Test.YtgphmlllngichaaGreatDoorRows
import GoSem.ClaimSeven
namespace Go.Proofs.YtgphmlllngichaaGreatDoor
namespace Rows

/-- THE TIED CARD OF 'plumblaw3.DyadicScales'. -/
def dyadicScalesCard : Claim7 := { stood := { row := dyadicScalesRow, standIns := [], harness := (true, "a54f4a954d1ad2c56f01dd97e6ea46352adbbc8a6ccb99c2fb9e1bad6b227b5f"), looks := true }, kinds := [], alts := [], laidByText := true, laidKinds := [.data, .data, .data, .data, .data, .data, .data], laidTests := true, laidLooks := .later }
def DyadicScalesCardSaid : Prop := Claim7.holds Tryz.pinned (.plain (OpenSpec.ofChange dyadicScalesSpec)) dyadicScalesCard

/-- THE SECOND FORM's CARD OF 'plumblaw3.DyadicScales'. -/
def dyadicScalesUptoCard : Claim7 := { stood := { row := dyadicScalesUptoRow, standIns := [], harness := (true, "a54f4a954d1ad2c56f01dd97e6ea46352adbbc8a6ccb99c2fb9e1bad6b227b5f"), looks := true }, kinds := [], alts := [], laidByText := true, laidKinds := [.data, .data, .data, .data, .data, .data, .data], laidTests := true, laidLooks := .later }
def DyadicScalesUptoCardSaid : Prop := Claim7.holds Tryz.pinned (.plain (OpenSpec.upto dyadicScalesSpec)) dyadicScalesUptoCard
end Rows
end Go.Proofs.YtgphmlllngichaaGreatDoor
