/-
  DERIVED. GIVEN WITH THE SEED: THE CARDS: each row of YtgmebioogkmfgaaDoorRows.lean that lists a variable, with what it lists TIED to the program's text (the seventh form; the later family's looks); each row that meets fmt, with fmt's text TOLD by the authors' own Lean function (tested against real Go, not proved from fmt's source: count such statements apart). THE CARD IS WHAT COUNTS. Prove the row's statement (the work); the ties are given (YtgmebioogkmfgaaDoorTie.lean); close each card by the builder's one call (the guide's Derived/Test/ToyasCard.lean, 'card_holds'). Laid BY PROGRAM, IN A SANDBOX (cutbox-door.mjs). By AI agents, Wed Nov 11 2026. No macro, syntax, notation, axiom, sorry.
-/
import Derived.Test.YtgmebioogkmfgaaDoorRows
import GoSem.ClaimSeven
namespace Go.Proofs.YtgmebioogkmfgaaDoor
namespace Rows

/-- THE TIED CARD OF 'plumblaw3.DyadicMakes'. -/
def dyadicMakesCard : Claim7 := { stood := { row := dyadicMakesRow, standIns := [], harness := (true, "7419aaeac71665f891b6381388bc0e740bd402083cf3aa1770fc71c44e954bf0"), looks := true }, kinds := [], alts := [], laidByText := true, laidKinds := [.data, .data], laidTests := true, laidLooks := .later }
def DyadicMakesCardSaid : Prop := Claim7.holds Tryd.pinned (.plain (OpenSpec.ofChange dyadicMakesSpec)) dyadicMakesCard

/-- THE SECOND FORM's CARD OF 'plumblaw3.DyadicMakes'. -/
def dyadicMakesUptoCard : Claim7 := { stood := { row := dyadicMakesUptoRow, standIns := [], harness := (true, "7419aaeac71665f891b6381388bc0e740bd402083cf3aa1770fc71c44e954bf0"), looks := true }, kinds := [], alts := [], laidByText := true, laidKinds := [.data, .data], laidTests := true, laidLooks := .later }
def DyadicMakesUptoCardSaid : Prop := Claim7.holds Tryd.pinned (.plain (OpenSpec.upto dyadicMakesSpec)) dyadicMakesUptoCard
end Rows
end Go.Proofs.YtgmebioogkmfgaaDoor
