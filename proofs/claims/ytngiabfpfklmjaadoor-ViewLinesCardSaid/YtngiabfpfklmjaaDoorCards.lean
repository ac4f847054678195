/-
  DERIVED. GIVEN WITH THE SEED: THE CARDS: each row of YtngiabfpfklmjaaDoorRows.lean that lists a variable, with what it lists TIED to the program's text (the seventh form; the later family's looks); each row that meets fmt, with fmt's text TOLD by the authors' own Lean function (tested against real Go, not proved from fmt's source: count such statements apart). THE CARD IS WHAT COUNTS. Prove the row's statement (the work); the ties are given (YtngiabfpfklmjaaDoorTie.lean); close each card by the builder's one call (the guide's Derived/Test/ToyasCard.lean, 'card_holds'). Laid BY PROGRAM, IN A SANDBOX (cutbox-door.mjs). By AI agents, Wed Nov 11 2026. No macro, syntax, notation, axiom, sorry.
-/
import Derived.Test.YtngiabfpfklmjaaDoorRows
import GoSem.ClaimSeven
namespace Go.Proofs.YtngiabfpfklmjaaDoor
namespace Rows

/-- THE TIED CARD OF 'burnbaglaw35.ViewLines'. -/
def viewLinesCard : Claim7 := { stood := { row := viewLinesRow, standIns := [], harness := (true, "167612e7139a1e6eb935869247284fa0885d5118290d84dd1ebfcbcb753d65a6"), looks := false }, kinds := [], alts := [], laidByText := true, laidKinds := [.data, .data, .data], laidTests := true, laidLooks := .later }
def ViewLinesCardSaid : Prop := Claim7.holds Tryd.pinned (.plain (OpenSpec.ofChange viewLinesSpec)) viewLinesCard

/-- THE SECOND FORM's CARD OF 'burnbaglaw35.ViewLines'. -/
def viewLinesUptoCard : Claim7 := { stood := { row := viewLinesUptoRow, standIns := [], harness := (true, "167612e7139a1e6eb935869247284fa0885d5118290d84dd1ebfcbcb753d65a6"), looks := false }, kinds := [], alts := [], laidByText := true, laidKinds := [.data, .data, .data], laidTests := true, laidLooks := .later }
def ViewLinesUptoCardSaid : Prop := Claim7.holds Tryd.pinned (.plain (OpenSpec.upto viewLinesSpec)) viewLinesUptoCard
end Rows
end Go.Proofs.YtngiabfpfklmjaaDoor
