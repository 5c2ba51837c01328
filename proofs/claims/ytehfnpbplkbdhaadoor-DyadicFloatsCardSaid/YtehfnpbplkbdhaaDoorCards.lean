/-
  DERIVED. GIVEN WITH THE SEED: THE CARDS: each row of YtehfnpbplkbdhaaDoorRows.lean that lists a variable, with what it lists TIED to the program's text (the seventh form; the later family's looks); each row that meets fmt, with fmt's text TOLD by the authors' own Lean function (tested against real Go, not proved from fmt's source: count such statements apart). THE CARD IS WHAT COUNTS. Prove the row's statement (the work); the ties are given (YtehfnpbplkbdhaaDoorTie.lean); close each card by the builder's one call (the guide's Derived/Test/ToyasCard.lean, 'card_holds'). Laid BY PROGRAM, IN A SANDBOX (cutbox-door.mjs). By AI agents, Wed Nov 11 2026. No macro, syntax, notation, axiom, sorry.
-/
import Derived.Test.YtehfnpbplkbdhaaDoorRows
import GoSem.ClaimSeven
namespace Go.Proofs.YtehfnpbplkbdhaaDoor
namespace Rows

/-- THE TIED CARD OF 'plumblaw3.DyadicMakes'. -/
def dyadicMakesCard : Claim7 := { stood := { row := dyadicMakesRow, standIns := [], harness := (true, "5aef8f950af9ba76fff10b8c745a278961c92f3a7050b4e3ffdc08118ade99a3"), looks := true }, kinds := [], alts := [], laidByText := true, laidKinds := [.data, .data], laidTests := true, laidLooks := .later }
def DyadicMakesCardSaid : Prop := Claim7.holds Tryd.pinned (.plain (OpenSpec.ofChange dyadicMakesSpec)) dyadicMakesCard

/-- THE TIED CARD OF 'plumblaw3.DyadicFloats'. -/
def dyadicFloatsCard : Claim7 := { stood := { row := dyadicFloatsRow, standIns := [], harness := (true, "5aef8f950af9ba76fff10b8c745a278961c92f3a7050b4e3ffdc08118ade99a3"), looks := true }, kinds := [], alts := [], laidByText := true, laidKinds := [.data, .data], laidTests := true, laidLooks := .later }
def DyadicFloatsCardSaid : Prop := Claim7.holds Tryd.pinned (.plain (OpenSpec.ofChange dyadicFloatsSpec)) dyadicFloatsCard

/-- THE SECOND FORM's CARD OF 'plumblaw3.DyadicMakes'. -/
def dyadicMakesUptoCard : Claim7 := { stood := { row := dyadicMakesUptoRow, standIns := [], harness := (true, "5aef8f950af9ba76fff10b8c745a278961c92f3a7050b4e3ffdc08118ade99a3"), looks := true }, kinds := [], alts := [], laidByText := true, laidKinds := [.data, .data], laidTests := true, laidLooks := .later }
def DyadicMakesUptoCardSaid : Prop := Claim7.holds Tryd.pinned (.plain (OpenSpec.upto dyadicMakesSpec)) dyadicMakesUptoCard

/-- THE SECOND FORM's CARD OF 'plumblaw3.DyadicFloats'. -/
def dyadicFloatsUptoCard : Claim7 := { stood := { row := dyadicFloatsUptoRow, standIns := [], harness := (true, "5aef8f950af9ba76fff10b8c745a278961c92f3a7050b4e3ffdc08118ade99a3"), looks := true }, kinds := [], alts := [], laidByText := true, laidKinds := [.data, .data], laidTests := true, laidLooks := .later }
def DyadicFloatsUptoCardSaid : Prop := Claim7.holds Tryd.pinned (.plain (OpenSpec.upto dyadicFloatsSpec)) dyadicFloatsUptoCard
end Rows
end Go.Proofs.YtehfnpbplkbdhaaDoor
