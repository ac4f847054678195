/-
  No cell of these rows narrows 'for every input' (looked for: loops, veiled, ifaces, maps, wideKeys, modest, calm, conditions, laid).
  DERIVED. THE GIVEN ROWS OF THIS SEAT. 6 by the template 'for every input the law returns true; each argument reads behind the call as it read before'; 0 by the template 'total and deterministic' (their statements: YtjeeldacnllipaaGreatTotals.lean).
  GIVEN WITH THE SEED: the statements are not yours to turn. If you find one false, say at which input.
  Laid BY PROGRAM, IN A SANDBOX (cutbox-rows.mjs): the forced cells as the released guide's own fill.sh prints them over the translation ab0993f827b4c704… (all of the seat's roots in one cut). By AI agents, Wed Nov 11 2026. No macro, syntax, notation, axiom, sorry.
-/
import Derived.Test.YtjeeldacnllipaaGreatChecked
import GoSem.Claim
import GoSem.ClaimJoined
import GoSem.ClaimMapViews
import Derived.JoinedTies
import Derived.KernelRfl
namespace Go.Proofs.YtjeeldacnllipaaGreat
/- THE CELL 'sum', in the pinned program and in every row, IS THE sha256 OF THE DUMP (.gsa) THAT YtjeeldacnllipaaGreatProg.lean LOADS. Nothing in Lean hashes anything: it is a label: what it is worth is what the hold of that sum in a sandbox is worth. -/
noncomputable def Tryz.pinned : Pinned := { name := "ytjeeldacnllipaagreat", sum := "ab0993f827b4c7042e77f384ccdcb8bc3b111471427eb811dcdaa9bc9e311c74", checked := Tryz.checked }
namespace Rows
def none {H : Type} : Left H := { results := [], args := [] }

/-- 'burnbaglaw24.LimboAlone': WHATEVER THE INPUT: true; the input reads as it did. -/
def limboAloneSpec : ChangeSpec := { name := "limboAlone", fn := fun _ => fun
  | [d1, d2] => { results := [.lit (.bool true)], args := [d1, d2] }
  | _ => none }
def limboAloneRow : OpenClaim := { program := "ytjeeldacnllipaagreat", sum := "ab0993f827b4c7042e77f384ccdcb8bc3b111471427eb811dcdaa9bc9e311c74", func := "burnbag/burnbaglaw24.LimboAlone", spec := "limboAlone", unfollowed := true, recurses := true, plainKeys := false, apart := false }
def LimboAloneSaid : Prop := limboAloneRow.holds Tryz.pinned (OpenSpec.ofChange limboAloneSpec)

/-- ITS FALSE NEIGHBOUR: 'it returns false'. Refute it at one input. -/
def limboAloneWrong : ChangeSpec := { name := "limboAlone", fn := fun _ => fun
  | [d1, d2] => { results := [.lit (.bool false)], args := [d1, d2] }
  | _ => none }
def LimboAloneWrongFalsely : Prop := limboAloneRow.holds Tryz.pinned (OpenSpec.ofChange limboAloneWrong)

/-- 'burnbaglaw24.LimboCrowd': WHATEVER THE INPUT: true; the input reads as it did. -/
def limboCrowdSpec : ChangeSpec := { name := "limboCrowd", fn := fun _ => fun
  | [d1, d2] => { results := [.lit (.bool true)], args := [d1, d2] }
  | _ => none }
def limboCrowdRow : OpenClaim := { program := "ytjeeldacnllipaagreat", sum := "ab0993f827b4c7042e77f384ccdcb8bc3b111471427eb811dcdaa9bc9e311c74", func := "burnbag/burnbaglaw24.LimboCrowd", spec := "limboCrowd", unfollowed := true, recurses := true, plainKeys := false, apart := false }
def LimboCrowdSaid : Prop := limboCrowdRow.holds Tryz.pinned (OpenSpec.ofChange limboCrowdSpec)

/-- ITS FALSE NEIGHBOUR: 'it returns false'. Refute it at one input. -/
def limboCrowdWrong : ChangeSpec := { name := "limboCrowd", fn := fun _ => fun
  | [d1, d2] => { results := [.lit (.bool false)], args := [d1, d2] }
  | _ => none }
def LimboCrowdWrongFalsely : Prop := limboCrowdRow.holds Tryz.pinned (OpenSpec.ofChange limboCrowdWrong)

/-- 'burnbaglaw24.LimboEmpties': WHATEVER THE INPUT: true; the input reads as it did. -/
def limboEmptiesSpec : ChangeSpec := { name := "limboEmpties", fn := fun _ => fun
  | [d1, d2, d3] => { results := [.lit (.bool true)], args := [d1, d2, d3] }
  | _ => none }
def limboEmptiesRow : OpenClaim := { program := "ytjeeldacnllipaagreat", sum := "ab0993f827b4c7042e77f384ccdcb8bc3b111471427eb811dcdaa9bc9e311c74", func := "burnbag/burnbaglaw24.LimboEmpties", spec := "limboEmpties", unfollowed := true, recurses := true, plainKeys := false, apart := false }
def LimboEmptiesSaid : Prop := limboEmptiesRow.holds Tryz.pinned (OpenSpec.ofChange limboEmptiesSpec)

/-- ITS FALSE NEIGHBOUR: 'it returns false'. Refute it at one input. -/
def limboEmptiesWrong : ChangeSpec := { name := "limboEmpties", fn := fun _ => fun
  | [d1, d2, d3] => { results := [.lit (.bool false)], args := [d1, d2, d3] }
  | _ => none }
def LimboEmptiesWrongFalsely : Prop := limboEmptiesRow.holds Tryz.pinned (OpenSpec.ofChange limboEmptiesWrong)

/-- 'burnbaglaw25.MintAlone': WHATEVER THE INPUT: true; the input reads as it did. -/
def mintAloneSpec : ChangeSpec := { name := "mintAlone", fn := fun _ => fun
  | [d1, d2] => { results := [.lit (.bool true)], args := [d1, d2] }
  | _ => none }
def mintAloneRow : OpenClaim := { program := "ytjeeldacnllipaagreat", sum := "ab0993f827b4c7042e77f384ccdcb8bc3b111471427eb811dcdaa9bc9e311c74", func := "burnbag/burnbaglaw25.MintAlone", spec := "mintAlone", unfollowed := true, recurses := true, plainKeys := false, apart := false }
def MintAloneSaid : Prop := mintAloneRow.holds Tryz.pinned (OpenSpec.ofChange mintAloneSpec)

/-- ITS FALSE NEIGHBOUR: 'it returns false'. Refute it at one input. -/
def mintAloneWrong : ChangeSpec := { name := "mintAlone", fn := fun _ => fun
  | [d1, d2] => { results := [.lit (.bool false)], args := [d1, d2] }
  | _ => none }
def MintAloneWrongFalsely : Prop := mintAloneRow.holds Tryz.pinned (OpenSpec.ofChange mintAloneWrong)

/-- 'burnbaglaw25.MintCrowd': WHATEVER THE INPUT: true; the input reads as it did. -/
def mintCrowdSpec : ChangeSpec := { name := "mintCrowd", fn := fun _ => fun
  | [d1, d2] => { results := [.lit (.bool true)], args := [d1, d2] }
  | _ => none }
def mintCrowdRow : OpenClaim := { program := "ytjeeldacnllipaagreat", sum := "ab0993f827b4c7042e77f384ccdcb8bc3b111471427eb811dcdaa9bc9e311c74", func := "burnbag/burnbaglaw25.MintCrowd", spec := "mintCrowd", unfollowed := true, recurses := true, plainKeys := false, apart := false }
def MintCrowdSaid : Prop := mintCrowdRow.holds Tryz.pinned (OpenSpec.ofChange mintCrowdSpec)

/-- ITS FALSE NEIGHBOUR: 'it returns false'. Refute it at one input. -/
def mintCrowdWrong : ChangeSpec := { name := "mintCrowd", fn := fun _ => fun
  | [d1, d2] => { results := [.lit (.bool false)], args := [d1, d2] }
  | _ => none }
def MintCrowdWrongFalsely : Prop := mintCrowdRow.holds Tryz.pinned (OpenSpec.ofChange mintCrowdWrong)

/-- 'burnbaglaw25.MintFull': WHATEVER THE INPUT: true; the input reads as it did. -/
def mintFullSpec : ChangeSpec := { name := "mintFull", fn := fun _ => fun
  | [d1, d2] => { results := [.lit (.bool true)], args := [d1, d2] }
  | _ => none }
def mintFullRow : OpenClaim := { program := "ytjeeldacnllipaagreat", sum := "ab0993f827b4c7042e77f384ccdcb8bc3b111471427eb811dcdaa9bc9e311c74", func := "burnbag/burnbaglaw25.MintFull", spec := "mintFull", unfollowed := true, recurses := true, plainKeys := false, apart := false }
def MintFullSaid : Prop := mintFullRow.holds Tryz.pinned (OpenSpec.ofChange mintFullSpec)

/-- ITS FALSE NEIGHBOUR: 'it returns false'. Refute it at one input. -/
def mintFullWrong : ChangeSpec := { name := "mintFull", fn := fun _ => fun
  | [d1, d2] => { results := [.lit (.bool false)], args := [d1, d2] }
  | _ => none }
def MintFullWrongFalsely : Prop := mintFullRow.holds Tryz.pinned (OpenSpec.ofChange mintFullWrong)

/- THE SECOND FORM. 'bulk': how many values and letters a reading holds, each counted each time it is reached (what is shared counts as often as it is met; a slice's spare places count too). A statement '..UptoSaid' is the law's where the arguments, and the package variables that the reading takes, are together of bulk at most 1048576: NARROWER than '..Said'. Prove '..Said' where nothing that the law and all that it calls make is longer than what came in: it says more and counts as full. Else prove '..UptoSaid'. A law counts once. -/
mutual
def uptoBulk {H : Type} : DataW H → Nat
  | .lit (.string bytes) => bytes.length + 1
  | .lit _ => 1
  | .nil => 1
  | .ptr d => uptoBulk d + 1
  | .slice elems spare => uptoBulkAll elems + uptoBulkAll spare + 1
  | .agg parts => uptoBulkAll parts + 1
  | .iface _ d => uptoBulk d + 1
  | .map entries => uptoBulkEntries entries + 1
  | .held _ => 1
def uptoBulkAll {H : Type} : List (DataW H) → Nat
  | [] => 0
  | d :: r => uptoBulk d + uptoBulkAll r
def uptoBulkEntries {H : Type} : List (Lit × DataW H) → Nat
  | [] => 0
  | x :: r => uptoBulkEntry x + uptoBulkEntries r
def uptoBulkEntry {H : Type} : Lit × DataW H → Nat
  | (.string bytes, d) => bytes.length + uptoBulk d + 1
  | (_, d) => uptoBulk d + 1
 end
def uptoSmall : (H : Type) → List (DataW H) → Bool := fun _ ds => decide (uptoBulkAll ds ≤ 1048576)
def OpenSpec.upto (s : _root_.Go.ChangeSpec) : _root_.Go.OpenSpec := { _root_.Go.OpenSpec.ofChange s with cond := some uptoSmall }

/-- 'burnbaglaw24.LimboAlone', WHERE WHAT IT READS IS OF BULK AT MOST 1048576: true; the input reads as it did. -/
def limboAloneUptoRow : OpenClaim := { program := "ytjeeldacnllipaagreat", sum := "ab0993f827b4c7042e77f384ccdcb8bc3b111471427eb811dcdaa9bc9e311c74", func := "burnbag/burnbaglaw24.LimboAlone", spec := "limboAlone", unfollowed := true, recurses := true, plainKeys := false, apart := false, narrowed := true }
def LimboAloneUptoSaid : Prop := limboAloneUptoRow.holds Tryz.pinned (OpenSpec.upto limboAloneSpec)

/-- 'burnbaglaw24.LimboCrowd', WHERE WHAT IT READS IS OF BULK AT MOST 1048576: true; the input reads as it did. -/
def limboCrowdUptoRow : OpenClaim := { program := "ytjeeldacnllipaagreat", sum := "ab0993f827b4c7042e77f384ccdcb8bc3b111471427eb811dcdaa9bc9e311c74", func := "burnbag/burnbaglaw24.LimboCrowd", spec := "limboCrowd", unfollowed := true, recurses := true, plainKeys := false, apart := false, narrowed := true }
def LimboCrowdUptoSaid : Prop := limboCrowdUptoRow.holds Tryz.pinned (OpenSpec.upto limboCrowdSpec)

/-- 'burnbaglaw24.LimboEmpties', WHERE WHAT IT READS IS OF BULK AT MOST 1048576: true; the input reads as it did. -/
def limboEmptiesUptoRow : OpenClaim := { program := "ytjeeldacnllipaagreat", sum := "ab0993f827b4c7042e77f384ccdcb8bc3b111471427eb811dcdaa9bc9e311c74", func := "burnbag/burnbaglaw24.LimboEmpties", spec := "limboEmpties", unfollowed := true, recurses := true, plainKeys := false, apart := false, narrowed := true }
def LimboEmptiesUptoSaid : Prop := limboEmptiesUptoRow.holds Tryz.pinned (OpenSpec.upto limboEmptiesSpec)

/-- 'burnbaglaw25.MintAlone', WHERE WHAT IT READS IS OF BULK AT MOST 1048576: true; the input reads as it did. -/
def mintAloneUptoRow : OpenClaim := { program := "ytjeeldacnllipaagreat", sum := "ab0993f827b4c7042e77f384ccdcb8bc3b111471427eb811dcdaa9bc9e311c74", func := "burnbag/burnbaglaw25.MintAlone", spec := "mintAlone", unfollowed := true, recurses := true, plainKeys := false, apart := false, narrowed := true }
def MintAloneUptoSaid : Prop := mintAloneUptoRow.holds Tryz.pinned (OpenSpec.upto mintAloneSpec)

/-- 'burnbaglaw25.MintCrowd', WHERE WHAT IT READS IS OF BULK AT MOST 1048576: true; the input reads as it did. -/
def mintCrowdUptoRow : OpenClaim := { program := "ytjeeldacnllipaagreat", sum := "ab0993f827b4c7042e77f384ccdcb8bc3b111471427eb811dcdaa9bc9e311c74", func := "burnbag/burnbaglaw25.MintCrowd", spec := "mintCrowd", unfollowed := true, recurses := true, plainKeys := false, apart := false, narrowed := true }
def MintCrowdUptoSaid : Prop := mintCrowdUptoRow.holds Tryz.pinned (OpenSpec.upto mintCrowdSpec)

/-- 'burnbaglaw25.MintFull', WHERE WHAT IT READS IS OF BULK AT MOST 1048576: true; the input reads as it did. -/
def mintFullUptoRow : OpenClaim := { program := "ytjeeldacnllipaagreat", sum := "ab0993f827b4c7042e77f384ccdcb8bc3b111471427eb811dcdaa9bc9e311c74", func := "burnbag/burnbaglaw25.MintFull", spec := "mintFull", unfollowed := true, recurses := true, plainKeys := false, apart := false, narrowed := true }
def MintFullUptoSaid : Prop := mintFullUptoRow.holds Tryz.pinned (OpenSpec.upto mintFullSpec)

end Rows
end Go.Proofs.YtjeeldacnllipaaGreat
