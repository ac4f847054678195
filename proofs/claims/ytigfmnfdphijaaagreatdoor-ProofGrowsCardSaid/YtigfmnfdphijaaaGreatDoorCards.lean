/-
  DERIVED. GIVEN WITH THE SEED: THE CARDS: each row of YtigfmnfdphijaaaGreatDoorRows.lean that lists a variable, with what it lists TIED to the program's text (the seventh form; the later family's looks); each row that meets fmt, with fmt's text TOLD by the authors' own Lean function (tested against real Go, not proved from fmt's source: count such statements apart). THE CARD IS WHAT COUNTS. Prove the row's statement (the work); the ties are given (YtigfmnfdphijaaaGreatDoorTie.lean); close each card by the builder's one call (the guide's Derived/Test/ToyasCard.lean, 'card_holds'). Laid BY PROGRAM, IN A SANDBOX (cutbox-door.mjs). By AI agents, Wed Nov 11 2026. No macro, syntax, notation, axiom, sorry.
-/
import Derived.Test.YtigfmnfdphijaaaGreatDoorRows
import GoSem.ClaimSeven
namespace Go.Proofs.YtigfmnfdphijaaaGreatDoor
namespace Rows

/-- THE TIED CARD OF 'burnbaglaw16.ProofMay'. -/
def proofMayCard : Claim7 := { stood := { row := proofMayRow, standIns := [], harness := (true, "0180c21aa9071fd98b139cee92978ecd7b81c34b098be6cfdced3b628cc9365c"), looks := true }, kinds := [], alts := [], laidByText := true, laidKinds := [.handle], laidTests := true, laidLooks := .later }
def ProofMayCardSaid : Prop := Claim7.holds Tryz.pinned (.plain (OpenSpec.ofChange proofMaySpec)) proofMayCard

/-- THE TIED CARD OF 'burnbaglaw16.ProofGrows'. -/
def proofGrowsCard : Claim7 := { stood := { row := proofGrowsRow, standIns := [], harness := (true, "0180c21aa9071fd98b139cee92978ecd7b81c34b098be6cfdced3b628cc9365c"), looks := true }, kinds := [], alts := [], laidByText := true, laidKinds := [.handle], laidTests := true, laidLooks := .later }
def ProofGrowsCardSaid : Prop := Claim7.holds Tryz.pinned (.plain (OpenSpec.ofChange proofGrowsSpec)) proofGrowsCard

/-- THE SECOND FORM's CARD OF 'burnbaglaw16.ProofMay'. -/
def proofMayUptoCard : Claim7 := { stood := { row := proofMayUptoRow, standIns := [], harness := (true, "0180c21aa9071fd98b139cee92978ecd7b81c34b098be6cfdced3b628cc9365c"), looks := true }, kinds := [], alts := [], laidByText := true, laidKinds := [.handle], laidTests := true, laidLooks := .later }
def ProofMayUptoCardSaid : Prop := Claim7.holds Tryz.pinned (.plain (OpenSpec.upto proofMaySpec)) proofMayUptoCard

/-- THE SECOND FORM's CARD OF 'burnbaglaw16.ProofGrows'. -/
def proofGrowsUptoCard : Claim7 := { stood := { row := proofGrowsUptoRow, standIns := [], harness := (true, "0180c21aa9071fd98b139cee92978ecd7b81c34b098be6cfdced3b628cc9365c"), looks := true }, kinds := [], alts := [], laidByText := true, laidKinds := [.handle], laidTests := true, laidLooks := .later }
def ProofGrowsUptoCardSaid : Prop := Claim7.holds Tryz.pinned (.plain (OpenSpec.upto proofGrowsSpec)) proofGrowsUptoCard
end Rows
end Go.Proofs.YtigfmnfdphijaaaGreatDoor
