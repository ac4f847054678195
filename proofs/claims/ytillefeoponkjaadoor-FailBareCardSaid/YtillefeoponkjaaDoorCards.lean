/-
  DERIVED. GIVEN WITH THE SEED: THE CARDS: each row of YtillefeoponkjaaDoorRows.lean that lists a variable, with what it lists TIED to the program's text (the seventh form; the later family's looks); each row that meets fmt, with fmt's text TOLD by the authors' own Lean function (tested against real Go, not proved from fmt's source: count such statements apart). THE CARD IS WHAT COUNTS. Prove the row's statement (the work); the ties are given (YtillefeoponkjaaDoorTie.lean); close each card by the builder's one call (the guide's Derived/Test/ToyasCard.lean, 'card_holds'). Laid BY PROGRAM, IN A SANDBOX (cutbox-door.mjs). By AI agents, Wed Nov 11 2026. No macro, syntax, notation, axiom, sorry.
-/
import Derived.Test.YtillefeoponkjaaDoorRows
import GoSem.ClaimSeven
namespace Go.Proofs.YtillefeoponkjaaDoor
namespace Rows

/-- THE TIED CARD OF 'burnbaglaw08.FailTells'. -/
def failTellsCard : Claim7 := { stood := { row := failTellsRow, standIns := [], harness := (true, "77af4ae58b67efc03f01e6b730d96b6acf2d52d5768f588468b297c0d952f61f"), looks := true }, kinds := [], alts := [], laidByText := true, laidKinds := [.handle], laidTests := true, laidLooks := .later }
def FailTellsCardSaid : Prop := Claim7.holds Tryd.pinned (.plain (OpenSpec.ofChange failTellsSpec)) failTellsCard

/-- THE TIED CARD OF 'burnbaglaw08.FailBare'. -/
def failBareCard : Claim7 := { stood := { row := failBareRow, standIns := [], harness := (true, "77af4ae58b67efc03f01e6b730d96b6acf2d52d5768f588468b297c0d952f61f"), looks := true }, kinds := [], alts := [], laidByText := true, laidKinds := [.data, .data, .data, .handle], laidTests := true, laidLooks := .later }
def FailBareCardSaid : Prop := Claim7.holds Tryd.pinned (.plain (OpenSpec.ofChange failBareSpec)) failBareCard

/-- THE TIED CARD OF 'burnbaglaw08.FailKeeps'. -/
def failKeepsCard : Claim7 := { stood := { row := failKeepsRow, standIns := [], harness := (true, "77af4ae58b67efc03f01e6b730d96b6acf2d52d5768f588468b297c0d952f61f"), looks := true }, kinds := [], alts := [], laidByText := true, laidKinds := [.handle], laidTests := true, laidLooks := .later }
def FailKeepsCardSaid : Prop := Claim7.holds Tryd.pinned (.plain (OpenSpec.ofChange failKeepsSpec)) failKeepsCard

/-- THE SECOND FORM's CARD OF 'burnbaglaw08.FailTells'. -/
def failTellsUptoCard : Claim7 := { stood := { row := failTellsUptoRow, standIns := [], harness := (true, "77af4ae58b67efc03f01e6b730d96b6acf2d52d5768f588468b297c0d952f61f"), looks := true }, kinds := [], alts := [], laidByText := true, laidKinds := [.handle], laidTests := true, laidLooks := .later }
def FailTellsUptoCardSaid : Prop := Claim7.holds Tryd.pinned (.plain (OpenSpec.upto failTellsSpec)) failTellsUptoCard

/-- THE SECOND FORM's CARD OF 'burnbaglaw08.FailBare'. -/
def failBareUptoCard : Claim7 := { stood := { row := failBareUptoRow, standIns := [], harness := (true, "77af4ae58b67efc03f01e6b730d96b6acf2d52d5768f588468b297c0d952f61f"), looks := true }, kinds := [], alts := [], laidByText := true, laidKinds := [.data, .data, .data, .handle], laidTests := true, laidLooks := .later }
def FailBareUptoCardSaid : Prop := Claim7.holds Tryd.pinned (.plain (OpenSpec.upto failBareSpec)) failBareUptoCard

/-- THE SECOND FORM's CARD OF 'burnbaglaw08.FailKeeps'. -/
def failKeepsUptoCard : Claim7 := { stood := { row := failKeepsUptoRow, standIns := [], harness := (true, "77af4ae58b67efc03f01e6b730d96b6acf2d52d5768f588468b297c0d952f61f"), looks := true }, kinds := [], alts := [], laidByText := true, laidKinds := [.handle], laidTests := true, laidLooks := .later }
def FailKeepsUptoCardSaid : Prop := Claim7.holds Tryd.pinned (.plain (OpenSpec.upto failKeepsSpec)) failKeepsUptoCard
end Rows
end Go.Proofs.YtillefeoponkjaaDoor
