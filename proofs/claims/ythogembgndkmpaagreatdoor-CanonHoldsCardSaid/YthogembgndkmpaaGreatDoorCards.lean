/-
  DERIVED. GIVEN WITH THE SEED: THE CARDS: each row of YthogembgndkmpaaGreatDoorRows.lean that lists a variable, with what it lists TIED to the program's text (the seventh form; the later family's looks); each row that meets fmt, with fmt's text TOLD by the authors' own Lean function (tested against real Go, not proved from fmt's source: count such statements apart). THE CARD IS WHAT COUNTS. Prove the row's statement (the work); the ties are given (YthogembgndkmpaaGreatDoorTie.lean); close each card by the builder's one call (the guide's Derived/Test/ToyasCard.lean, 'card_holds'). Laid BY PROGRAM, IN A SANDBOX (cutbox-door.mjs). By AI agents, Wed Nov 11 2026. No macro, syntax, notation, axiom, sorry.
-/
import Derived.Test.YthogembgndkmpaaGreatDoorRows
import GoSem.ClaimSeven
namespace Go.Proofs.YthogembgndkmpaaGreatDoor
namespace Rows

/-- THE TIED CARD OF 'signetlaw19.CanonHolds'. -/
def canonHoldsCard : Claim7 := { stood := { row := canonHoldsRow, standIns := [], harness := (true, "c59fedc2fef49dfdd821906aa818b13aed021fc9951f9825a892a7d83a72b7d1"), looks := true }, kinds := [], alts := [], laidByText := true, laidKinds := [.data], laidTests := true, laidLooks := .later }
def CanonHoldsCardSaid : Prop := Claim7.holds Tryz.pinned (.plain (OpenSpec.ofChange canonHoldsSpec)) canonHoldsCard

/-- THE SECOND FORM's CARD OF 'signetlaw19.CanonHolds'. -/
def canonHoldsUptoCard : Claim7 := { stood := { row := canonHoldsUptoRow, standIns := [], harness := (true, "c59fedc2fef49dfdd821906aa818b13aed021fc9951f9825a892a7d83a72b7d1"), looks := true }, kinds := [], alts := [], laidByText := true, laidKinds := [.data], laidTests := true, laidLooks := .later }
def CanonHoldsUptoCardSaid : Prop := Claim7.holds Tryz.pinned (.plain (OpenSpec.upto canonHoldsSpec)) canonHoldsUptoCard
end Rows
end Go.Proofs.YthogembgndkmpaaGreatDoor
