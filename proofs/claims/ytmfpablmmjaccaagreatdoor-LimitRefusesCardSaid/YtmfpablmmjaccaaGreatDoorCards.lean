/-
  DERIVED. GIVEN WITH THE SEED: THE CARDS: each row of YtmfpablmmjaccaaGreatDoorRows.lean that lists a variable, with what it lists TIED to the program's text (the seventh form; the later family's looks); each row that meets fmt, with fmt's text TOLD by the authors' own Lean function (tested against real Go, not proved from fmt's source: count such statements apart). THE CARD IS WHAT COUNTS. Prove the row's statement (the work); the ties are given (YtmfpablmmjaccaaGreatDoorTie.lean); close each card by the builder's one call (the guide's Derived/Test/ToyasCard.lean, 'card_holds'). Laid BY PROGRAM, IN A SANDBOX (cutbox-door.mjs). By AI agents, Wed Nov 11 2026. No macro, syntax, notation, axiom, sorry.
-/
import Derived.Test.YtmfpablmmjaccaaGreatDoorRows
import GoSem.ClaimSeven
namespace Go.Proofs.YtmfpablmmjaccaaGreatDoor
namespace Rows

/-- THE TIED CARD OF 'burnbaglaw39.LimitRefuses'. -/
def limitRefusesCard : Claim7 := { stood := { row := limitRefusesRow, standIns := [], harness := (true, "220127f090f889324271743e3b87b09f61cec5f6c951ef672920e6f83dd9648a"), looks := true }, kinds := [], alts := [], laidByText := true, laidKinds := [.handle], laidTests := true, laidLooks := .later }
def LimitRefusesCardSaid : Prop := Claim7.holds Tryz.pinned (.plain (OpenSpec.ofChange limitRefusesSpec)) limitRefusesCard

/-- THE SECOND FORM's CARD OF 'burnbaglaw39.LimitRefuses'. -/
def limitRefusesUptoCard : Claim7 := { stood := { row := limitRefusesUptoRow, standIns := [], harness := (true, "220127f090f889324271743e3b87b09f61cec5f6c951ef672920e6f83dd9648a"), looks := true }, kinds := [], alts := [], laidByText := true, laidKinds := [.handle], laidTests := true, laidLooks := .later }
def LimitRefusesUptoCardSaid : Prop := Claim7.holds Tryz.pinned (.plain (OpenSpec.upto limitRefusesSpec)) limitRefusesUptoCard
end Rows
end Go.Proofs.YtmfpablmmjaccaaGreatDoor
