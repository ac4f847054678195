/-
  DERIVED. GIVEN WITH THE SEED: THE CARDS: each row of YtenpijejdibjpaaDoorRows.lean that lists a variable, with what it lists TIED to the program's text (the seventh form; the later family's looks); each row that meets fmt, with fmt's text TOLD by the authors' own Lean function (tested against real Go, not proved from fmt's source: count such statements apart). THE CARD IS WHAT COUNTS. Prove the row's statement (the work); the ties are given (YtenpijejdibjpaaDoorTie.lean); close each card by the builder's one call (the guide's Derived/Test/ToyasCard.lean, 'card_holds'). Laid BY PROGRAM, IN A SANDBOX (cutbox-door.mjs). By AI agents, Wed Nov 11 2026. No macro, syntax, notation, axiom, sorry.
-/
import Derived.Test.YtenpijejdibjpaaDoorRows
import GoSem.ClaimSeven
namespace Go.Proofs.YtenpijejdibjpaaDoor
namespace Rows

/-- THE TIED CARD OF 'burnbaglaw43.TraceNames'. -/
def traceNamesCard : Claim7 := { stood := { row := traceNamesRow, standIns := [], harness := (true, "01c42c0f9cb074cfad45ef6c596bad04de547b94a60180eee13ff83a5128789c"), looks := false }, kinds := [], alts := [], laidByText := true, laidKinds := [.data, .data, .data], laidTests := true, laidLooks := .later }
def TraceNamesCardSaid : Prop := Claim7.holds Tryd.pinned (.plain (OpenSpec.ofChange traceNamesSpec)) traceNamesCard

/-- THE TIED CARD OF 'burnbaglaw43.TraceBetween'. -/
def traceBetweenCard : Claim7 := { stood := { row := traceBetweenRow, standIns := [], harness := (true, "01c42c0f9cb074cfad45ef6c596bad04de547b94a60180eee13ff83a5128789c"), looks := false }, kinds := [], alts := [], laidByText := true, laidKinds := [.data, .data, .data], laidTests := true, laidLooks := .later }
def TraceBetweenCardSaid : Prop := Claim7.holds Tryd.pinned (.plain (OpenSpec.ofChange traceBetweenSpec)) traceBetweenCard

/-- THE SECOND FORM's CARD OF 'burnbaglaw43.TraceNames'. -/
def traceNamesUptoCard : Claim7 := { stood := { row := traceNamesUptoRow, standIns := [], harness := (true, "01c42c0f9cb074cfad45ef6c596bad04de547b94a60180eee13ff83a5128789c"), looks := false }, kinds := [], alts := [], laidByText := true, laidKinds := [.data, .data, .data], laidTests := true, laidLooks := .later }
def TraceNamesUptoCardSaid : Prop := Claim7.holds Tryd.pinned (.plain (OpenSpec.upto traceNamesSpec)) traceNamesUptoCard

/-- THE SECOND FORM's CARD OF 'burnbaglaw43.TraceBetween'. -/
def traceBetweenUptoCard : Claim7 := { stood := { row := traceBetweenUptoRow, standIns := [], harness := (true, "01c42c0f9cb074cfad45ef6c596bad04de547b94a60180eee13ff83a5128789c"), looks := false }, kinds := [], alts := [], laidByText := true, laidKinds := [.data, .data, .data], laidTests := true, laidLooks := .later }
def TraceBetweenUptoCardSaid : Prop := Claim7.holds Tryd.pinned (.plain (OpenSpec.upto traceBetweenSpec)) traceBetweenUptoCard
end Rows
end Go.Proofs.YtenpijejdibjpaaDoor
