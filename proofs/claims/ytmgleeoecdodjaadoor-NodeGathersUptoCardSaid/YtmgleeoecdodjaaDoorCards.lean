/-
  DERIVED. GIVEN WITH THE SEED: THE CARDS: each row of YtmgleeoecdodjaaDoorRows.lean that lists a variable, with what it lists TIED to the program's text (the seventh form; the later family's looks); each row that meets fmt, with fmt's text TOLD by the authors' own Lean function (tested against real Go, not proved from fmt's source: count such statements apart). THE CARD IS WHAT COUNTS. Prove the row's statement (the work); the ties are given (YtmgleeoecdodjaaDoorTie.lean); close each card by the builder's one call (the guide's Derived/Test/ToyasCard.lean, 'card_holds'). Laid BY PROGRAM, IN A SANDBOX (cutbox-door.mjs). By AI agents, Wed Nov 11 2026. No macro, syntax, notation, axiom, sorry.
-/
import Derived.Test.YtmgleeoecdodjaaDoorRows
import GoSem.ClaimSeven
namespace Go.Proofs.YtmgleeoecdodjaaDoor
namespace Rows

/-- THE TIED CARD OF 'busbarlaw05.NodeGathers'. -/
def nodeGathersCard : Claim7 := { stood := { row := nodeGathersRow, standIns := [], harness := (true, "5f549818a265a1af64db69883444cf4658e81afb19b4781e4d6da3856814cab1"), looks := true }, kinds := [], alts := [], laidByText := true, laidKinds := [.handle], laidTests := true, laidLooks := .later }
def NodeGathersCardSaid : Prop := Claim7.holds Tryd.pinned (.plain (OpenSpec.ofChange nodeGathersSpec)) nodeGathersCard

/-- THE SECOND FORM's CARD OF 'busbarlaw05.NodeGathers'. -/
def nodeGathersUptoCard : Claim7 := { stood := { row := nodeGathersUptoRow, standIns := [], harness := (true, "5f549818a265a1af64db69883444cf4658e81afb19b4781e4d6da3856814cab1"), looks := true }, kinds := [], alts := [], laidByText := true, laidKinds := [.handle], laidTests := true, laidLooks := .later }
def NodeGathersUptoCardSaid : Prop := Claim7.holds Tryd.pinned (.plain (OpenSpec.upto nodeGathersSpec)) nodeGathersUptoCard
end Rows
end Go.Proofs.YtmgleeoecdodjaaDoor
