/-
  NARROWER THAN 'FOR EVERY INPUT', by the rows' own cells (each row's printed sentence says how): ProofMay: laid · ProofGrows: laid.
  DERIVED. THE GIVEN ROWS OF THIS SEAT. 2 by the template 'for every input the law returns true; each argument reads behind the call as it read before'; 0 by the template 'total and deterministic' (their statements: YtigfmnfdphijaaaGreatDoorTotals.lean).
  GIVEN WITH THE SEED: the statements are not yours to turn. If you find one false, say at which input.
  Laid BY PROGRAM, IN A SANDBOX (cutbox-rows.mjs): the forced cells as the released guide's own fill.sh prints them over the translation 6a3d98ef15739a3a… (all of the seat's roots in one cut). By AI agents, Wed Nov 11 2026. No macro, syntax, notation, axiom, sorry.
-/
import Derived.Test.YtigfmnfdphijaaaGreatDoorChecked
import GoSem.Claim
import GoSem.ClaimJoined
import GoSem.ClaimMapViews
import Derived.JoinedTies
import Derived.KernelRfl
namespace Go.Proofs.YtigfmnfdphijaaaGreatDoor
/- THE CELL 'sum', in the pinned program and in every row, IS THE sha256 OF THE DUMP (.gsa) THAT YtigfmnfdphijaaaGreatDoorProg.lean LOADS. Nothing in Lean hashes anything: it is a label: what it is worth is what the hold of that sum in a sandbox is worth. -/
noncomputable def Tryz.pinned : Pinned := { name := "ytigfmnfdphijaaagreatdoor", sum := "6a3d98ef15739a3a9b0cf88b3af08d6e68f1c6eaf32b29e830bcee6a74b43519", checked := Tryz.checked }
namespace Rows
def none {H : Type} : Left H := { results := [], args := [] }

/- WHAT THE LISTED PACKAGE-LEVEL VARIABLES READ AS WHEN THE CALL BEGINS. Each datum BY PROGRAM (the guide's laid-datum.mjs) off the statement by which the dump's own 'gosem.cut.vars' lays the variable. In a bare row this is a premise. The card (YtigfmnfdphijaaaGreatDoorCards.lean) ties it to the program's text. -/
def laid_errors_errorType {H : Type} : DataW H := .iface "internal/reflectlite.rtype" (.agg [.ptr (.lit (.string [101, 114, 114, 111, 114]))])

/-- 'burnbaglaw16.ProofMay': WHATEVER THE INPUT: true; the input reads as it did. -/
def proofMaySpec : ChangeSpec := { name := "proofMay", fn := fun _ => fun
  | [d1, d2] => { results := [.lit (.bool true)], args := [d1, d2] }
  | _ => none }
def proofMayRow : OpenClaim := { program := "ytigfmnfdphijaaagreatdoor", sum := "6a3d98ef15739a3a9b0cf88b3af08d6e68f1c6eaf32b29e830bcee6a74b43519", func := "burnbag/burnbaglaw16.ProofMay", spec := "proofMay", inPlace := ["internal/reflectlite.ValueOf", "(internal/reflectlite.Value).Type", "(internal/reflectlite.Value).IsNil", "internal/reflectlite.TypeOf", "(internal/reflectlite.Value).Elem", "(internal/reflectlite.Value).Set", "slices.overlaps[burnbag/api.Row]", "slices.overlaps[burnbag/means.node]", "slices.overlaps[uint64]"], unfollowed := true, recurses := true, named := ["errors.errorType"], apart := false, laid := [("errors.errorType", laid_errors_errorType)] }
def ProofMaySaid : Prop := proofMayRow.holds Tryz.pinned (OpenSpec.ofChange proofMaySpec)

/-- ITS FALSE NEIGHBOUR: 'it returns false'. Refute it at one input. -/
def proofMayWrong : ChangeSpec := { name := "proofMay", fn := fun _ => fun
  | [d1, d2] => { results := [.lit (.bool false)], args := [d1, d2] }
  | _ => none }
def ProofMayWrongFalsely : Prop := proofMayRow.holds Tryz.pinned (OpenSpec.ofChange proofMayWrong)

/-- 'burnbaglaw16.ProofGrows': WHATEVER THE INPUT: true; the input reads as it did. -/
def proofGrowsSpec : ChangeSpec := { name := "proofGrows", fn := fun _ => fun
  | [d1, d2] => { results := [.lit (.bool true)], args := [d1, d2] }
  | _ => none }
def proofGrowsRow : OpenClaim := { program := "ytigfmnfdphijaaagreatdoor", sum := "6a3d98ef15739a3a9b0cf88b3af08d6e68f1c6eaf32b29e830bcee6a74b43519", func := "burnbag/burnbaglaw16.ProofGrows", spec := "proofGrows", inPlace := ["internal/reflectlite.ValueOf", "(internal/reflectlite.Value).Type", "(internal/reflectlite.Value).IsNil", "internal/reflectlite.TypeOf", "(internal/reflectlite.Value).Elem", "(internal/reflectlite.Value).Set", "slices.overlaps[burnbag/api.Row]", "slices.overlaps[burnbag/means.node]", "slices.overlaps[uint64]"], unfollowed := true, recurses := true, named := ["errors.errorType"], apart := false, laid := [("errors.errorType", laid_errors_errorType)] }
def ProofGrowsSaid : Prop := proofGrowsRow.holds Tryz.pinned (OpenSpec.ofChange proofGrowsSpec)

/-- ITS FALSE NEIGHBOUR: 'it returns false'. Refute it at one input. -/
def proofGrowsWrong : ChangeSpec := { name := "proofGrows", fn := fun _ => fun
  | [d1, d2] => { results := [.lit (.bool false)], args := [d1, d2] }
  | _ => none }
def ProofGrowsWrongFalsely : Prop := proofGrowsRow.holds Tryz.pinned (OpenSpec.ofChange proofGrowsWrong)

/- THE SECOND FORM. 'bulk': how many values and letters a reading holds, each counted each time it is reached (what is shared counts as often as it is met; a slice's spare places count too). A statement '..UptoSaid' is the law's where the arguments, and the package variables that the reading takes, are together of bulk at most 1048576: NARROWER than '..Said'. Prove '..Said' where nothing that the law and all that it calls make is longer than what came in: it says more and counts as full. Else prove '..UptoSaid'. A law counts once. -/
mutual
def uptoBulk {H : Type} : DataW H → Nat
  | .lit (.string bytes) => bytes.length + 1
  | .lit _ => 1
  | .nil => 1
  | .ptr d => uptoBulk d + 1
  | .slice elems spare => uptoBulkAll elems + uptoBulkAll spare + 1
  | .agg parts => uptoBulkAll parts + 1
  | .iface _ d => uptoBulk d + 1
  | .map entries => uptoBulkEntries entries + 1
  | .held _ => 1
def uptoBulkAll {H : Type} : List (DataW H) → Nat
  | [] => 0
  | d :: r => uptoBulk d + uptoBulkAll r
def uptoBulkEntries {H : Type} : List (Lit × DataW H) → Nat
  | [] => 0
  | x :: r => uptoBulkEntry x + uptoBulkEntries r
def uptoBulkEntry {H : Type} : Lit × DataW H → Nat
  | (.string bytes, d) => bytes.length + uptoBulk d + 1
  | (_, d) => uptoBulk d + 1
 end
def uptoSmall : (H : Type) → List (DataW H) → Bool := fun _ ds => decide (uptoBulkAll ds ≤ 1048576)
def OpenSpec.upto (s : _root_.Go.ChangeSpec) : _root_.Go.OpenSpec := { _root_.Go.OpenSpec.ofChange s with cond := some uptoSmall }

/-- 'burnbaglaw16.ProofMay', WHERE WHAT IT READS IS OF BULK AT MOST 1048576: true; the input reads as it did. -/
def proofMayUptoRow : OpenClaim := { program := "ytigfmnfdphijaaagreatdoor", sum := "6a3d98ef15739a3a9b0cf88b3af08d6e68f1c6eaf32b29e830bcee6a74b43519", func := "burnbag/burnbaglaw16.ProofMay", spec := "proofMay", inPlace := ["internal/reflectlite.ValueOf", "(internal/reflectlite.Value).Type", "(internal/reflectlite.Value).IsNil", "internal/reflectlite.TypeOf", "(internal/reflectlite.Value).Elem", "(internal/reflectlite.Value).Set", "slices.overlaps[burnbag/api.Row]", "slices.overlaps[burnbag/means.node]", "slices.overlaps[uint64]"], unfollowed := true, recurses := true, named := ["errors.errorType"], apart := false, laid := [("errors.errorType", laid_errors_errorType)], narrowed := true }
def ProofMayUptoSaid : Prop := proofMayUptoRow.holds Tryz.pinned (OpenSpec.upto proofMaySpec)

/-- 'burnbaglaw16.ProofGrows', WHERE WHAT IT READS IS OF BULK AT MOST 1048576: true; the input reads as it did. -/
def proofGrowsUptoRow : OpenClaim := { program := "ytigfmnfdphijaaagreatdoor", sum := "6a3d98ef15739a3a9b0cf88b3af08d6e68f1c6eaf32b29e830bcee6a74b43519", func := "burnbag/burnbaglaw16.ProofGrows", spec := "proofGrows", inPlace := ["internal/reflectlite.ValueOf", "(internal/reflectlite.Value).Type", "(internal/reflectlite.Value).IsNil", "internal/reflectlite.TypeOf", "(internal/reflectlite.Value).Elem", "(internal/reflectlite.Value).Set", "slices.overlaps[burnbag/api.Row]", "slices.overlaps[burnbag/means.node]", "slices.overlaps[uint64]"], unfollowed := true, recurses := true, named := ["errors.errorType"], apart := false, laid := [("errors.errorType", laid_errors_errorType)], narrowed := true }
def ProofGrowsUptoSaid : Prop := proofGrowsUptoRow.holds Tryz.pinned (OpenSpec.upto proofGrowsSpec)

end Rows
end Go.Proofs.YtigfmnfdphijaaaGreatDoor
