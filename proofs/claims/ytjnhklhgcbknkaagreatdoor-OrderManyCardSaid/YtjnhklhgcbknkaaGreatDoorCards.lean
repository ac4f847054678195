/-
  DERIVED. GIVEN WITH THE SEED: THE CARDS: each row of YtjnhklhgcbknkaaGreatDoorRows.lean that lists a variable, with what it lists TIED to the program's text (the seventh form; the later family's looks); each row that meets fmt, with fmt's text TOLD by the authors' own Lean function (tested against real Go, not proved from fmt's source: count such statements apart). THE CARD IS WHAT COUNTS. Prove the row's statement (the work); the ties are given (YtjnhklhgcbknkaaGreatDoorTie.lean); close each card by the builder's one call (the guide's Derived/Test/ToyasCard.lean, 'card_holds'). Laid BY PROGRAM, IN A SANDBOX (cutbox-door.mjs). By AI agents, Wed Nov 11 2026. No macro, syntax, notation, axiom, sorry.
-/
import Derived.Test.YtjnhklhgcbknkaaGreatDoorRows
import GoSem.ClaimSeven
namespace Go.Proofs.YtjnhklhgcbknkaaGreatDoor
namespace Rows

/-- THE TIED CARD OF 'burnbaglaw17.OrderMany'. -/
def orderManyCard : Claim7 := { stood := { row := orderManyRow, standIns := [], harness := (true, "10c35d31b92699306ce7104f0739a5713b7c7a94e016a6cf7f668c461101a5d4"), looks := true }, kinds := [], alts := [], laidByText := true, laidKinds := [.data, .data, .data, .handle], laidTests := true, laidLooks := .later }
def OrderManyCardSaid : Prop := Claim7.holds Tryz.pinned (.plain (OpenSpec.ofChange orderManySpec)) orderManyCard

/-- THE SECOND FORM's CARD OF 'burnbaglaw17.OrderMany'. -/
def orderManyUptoCard : Claim7 := { stood := { row := orderManyUptoRow, standIns := [], harness := (true, "10c35d31b92699306ce7104f0739a5713b7c7a94e016a6cf7f668c461101a5d4"), looks := true }, kinds := [], alts := [], laidByText := true, laidKinds := [.data, .data, .data, .handle], laidTests := true, laidLooks := .later }
def OrderManyUptoCardSaid : Prop := Claim7.holds Tryz.pinned (.plain (OpenSpec.upto orderManySpec)) orderManyUptoCard
end Rows
end Go.Proofs.YtjnhklhgcbknkaaGreatDoor
